/- The types of a program, held against the evaluator's table by computing. -/
import Derived.Test.YtalgocopemmelaaGreatDoorVxFn
import Derived.Laws.StructEq
namespace Go.Vx
set_option linter.unusedSimpArgs false
set_option linter.unusedVariables false
open Go Go.RowKit

def zeroB : List Sc → List Value → Bool
  | [], [] => true
  | .num k n :: r, .int k' n' :: t => match sameK k k', decide (n = n') with
    | true, true => zeroB r t
    | _, _ => false
  | .lit b :: r, .bool b' :: t => match b, b' with
    | true, true => zeroB r t
    | false, false => zeroB r t
    | _, _ => false
  | .str s :: r, .string s' :: t => match s.data.toList, s'.data.toList with
    | [], [] => zeroB r t
    | _, _ => false
  | .nil :: r, .slice none 0 0 :: t => zeroB r t
  | _, _ => false

theorem zeroB_ok {ids : Nat → Bool} {γ : Nat → Gh} : ∀ {cs : List Sc} {vs : List Value}, zeroB cs vs = true → denL ids γ cs vs := by
  intro cs
  induction cs with
  | nil => intro vs h; cases vs with
    | nil => trivial
    | cons => simp [zeroB] at h
  | cons s r ih =>
    intro vs h
    unfold zeroB at h
    split at h
    · rename_i e; cases e
    · rename_i e1
      cases e1
      split at h
      · rename_i h1 h2
        exact ⟨by rw [sameK_eq h1, of_decide_eq_true h2]; rfl, ih h⟩
      · cases h
    · rename_i e1
      cases e1
      split at h
      · exact ⟨rfl, ih h⟩
      · exact ⟨rfl, ih h⟩
      · cases h
    · rename_i s1 _ s2 _ e1
      cases e1
      split at h
      · rename_i h1 h2
        refine ⟨?_, ih h⟩
        show _ = Value.string _
        congr 1
        obtain ⟨⟨a⟩⟩ := s1
        obtain ⟨⟨b⟩⟩ := s2
        simp at h1 h2
        rw [h1, h2]
      · cases h
    · rename_i e1
      cases e1
      exact ⟨rfl, ih h⟩
    · cases h

def listB : List Nat → List Nat → Bool
  | [], [] => true
  | a :: r, b :: t => match Nat.beq a b with
    | true => listB r t
    | false => false
  | _, _ => false

def offsB (P : Program) (size : Nat) : List (Nat × Nat) → List Field → Bool
  | [], [] => true
  | (o, sz) :: r, fd :: fs => match P.info? fd.type with
    | some j => Nat.beq fd.offset o && Nat.beq j.size sz && Nat.ble 1 sz && Nat.ble (o + sz) size && offsB P size r fs
    | none => false
  | _, _ => false

theorem offsB_ok {P : Program} {size : Nat} : ∀ {l : List (Nat × Nat)} {fs : List Field}, offsB P size l fs = true → fs.length = l.length ∧ ∀ (f o sz : Nat), l[f]? = some (o, sz) → ∃ (fd : Field) (j : TypeInfo), fs[f]? = some fd ∧ fd.offset = o ∧ P.info? fd.type = some j ∧ j.size = sz ∧ 0 < sz ∧ o + sz ≤ size
  | [], [], _ => ⟨rfl, fun f o sz h => by simp at h⟩
  | (o, sz) :: r, fd :: fs, h => by
    simp only [offsB] at h
    split at h
    · rename_i j hj
      simp only [Bool.and_eq_true] at h
      obtain ⟨⟨⟨⟨h1, h2⟩, h3⟩, h4⟩, h5⟩ := h
      obtain ⟨q1, q2⟩ := offsB_ok h5
      refine ⟨by simp [q1], fun f o' sz' hf => ?_⟩
      cases f with
      | zero =>
        simp at hf
        obtain ⟨rfl, rfl⟩ := hf
        exact ⟨fd, j, by simp, Nat.eq_of_beq_eq_true h1, hj, Nat.eq_of_beq_eq_true h2, Nat.le_of_ble_eq_true h3, Nat.le_of_ble_eq_true h4⟩
      | succ f =>
        simp only [List.getElem?_cons_succ] at hf ⊢
        exact q2 f o' sz' hf
    · cases h
  | [], _ :: _, h => by simp [offsB] at h
  | _ :: _, [], h => by simp [offsB] at h

def isInt (P : Program) (t : Nat) : Bool := match P.underlying t with
  | some (.int _) => match P.info? t with | some i => Nat.beq i.size 1 | none => false
  | _ => false

/-- A struct of two numbers, whose equality is that of its fields. -/
def ratB (P : Program) (t : Nat) : Bool := match P.underlying t with
  | some (.struct fs) => match fs.toList with
    | [f, g] => Nat.beq f.offset 0 && Nat.beq g.offset 1 && isInt P f.type && isInt P g.type && (f.name != "_") && (g.name != "_") && !P.eqGuardType P.depth t && !P.stoodInHeld t
    | _ => false
  | _ => false

def size2 (P : Program) (t : Nat) : Bool := match P.info? t with | some i => Nat.beq i.size 2 | none => false
/-- A struct of two such structs. -/
def ptB (P : Program) (t : Nat) : Bool := match P.underlying t with
  | some (.struct fs) => match fs.toList with
    | [f, g] => Nat.beq f.offset 0 && Nat.beq g.offset 2 && ratB P f.type && ratB P g.type && size2 P f.type && size2 P g.type && (f.name != "_") && (g.name != "_") && !P.eqGuardType P.depth t && !P.stoodInHeld t
    | _ => false
  | _ => false

def kindB (P : Program) (t : Nat) : Option VK → Bool
  | some .bool => match P.underlying t with | some .bool => true | _ => false
  | some .str => match P.underlying t with | some .string => true | _ => false
  | some (.num .u8) => match P.underlying t with | some (.int .u8) => true | _ => false
  | some .rat => ratB P t
  | some .iv => ptB P t
  | some .pt => ptB P t
  | _ => true

def tyB (P : Program) (T : Nat → Option Ty) (t : Nat) (ty : Ty) : Bool :=
  (match P.info? t with
    | some i => Nat.beq i.size ty.size && Nat.beq i.bytes ty.bytes && (match i.zero with | some z => zeroB ty.zero z.cells.toList | none => false)
    | none => false) && Nat.beq ty.zero.length ty.size &&
  (match P.underlying t with
    | some d => (aggD d == ty.agg) && (match ty.offs with | [] => true | _ => match d with | .struct fs => offsB P ty.size ty.offs fs.toList | _ => false) &&
      (match ty.elem with | none => true | some (e, k) => match d with | .slice e' => Nat.beq e' e && (match T e with | some te => Nat.beq te.size k.size | none => false) | _ => false)
    | none => false) && (ty.agg || Nat.beq ty.size 1) && kindB P t ty.kind

theorem rat_eq {P : Program} {t : Nat} (h : ratB P t = true) (op : BinOp) (x y : Rt) (w : World) (ox oy : Operand) (hop : op = .eql ∨ op = .neq) :
    (do eqGuard op t ox oy (valOf .rat x) (valOf .rat y); binOp op t (valOf .rat x) (valOf .rat y) : Sem Value).run P w = .ok (.bool (if op = .eql then eqRt x y else !eqRt x y)) w := by
  unfold ratB at h
  split at h
  · rename_i fs hu
    split at h
    · rename_i f g hfs
      simp only [Bool.and_eq_true] at h
      obtain ⟨⟨⟨⟨⟨⟨⟨h1, h2⟩, h3⟩, h4⟩, h5⟩, h6⟩, h7⟩, h8⟩ := h
      obtain ⟨a, b⟩ := x
      obtain ⟨c, d⟩ := y
      have hfo : P.fieldsOf t = fs := by simp [Program.fieldsOf, hu]
      have h7 : P.eqGuardType P.depth t = false := by simpa using h7
      have h8 : P.stoodInHeld t = false := by simpa using h8
      have e1 := Nat.eq_of_beq_eq_true h1
      have e2 := Nat.eq_of_beq_eq_true h2
      have pt : ∀ (ff : Field) (u : Int) (i : Nat) (xs : Array Value) (w : World), isInt P ff.type = true → xs[i]? = some (.int .i64 u) → (part ff.type xs i).run P w = .ok (.int .i64 u) w := by
        intro ff u i xs w hi hx
        unfold isInt at hi
        split at hi
        · rename_i k hk
          unfold part
          rw [Sem.run_bind, run_isAgg hk (b := false) rfl]
          simp only [Result.andThen_ok, Bool.false_eq_true, if_false, hx, Sem.run_pure]
        · cases hi
      have eqi : ∀ (ff : Field) (u v : Int) (dd : Nat) (w : World), isInt P ff.type = true → (Op.equalIn (dd + 1) ff.type (.int .i64 u) (.int .i64 v)).run P w = .ok (u == v) w := by
        intro ff u v dd w hi
        unfold isInt at hi
        split at hi
        · rename_i k hk
          exact run_equalIn_int w dd ff.type .i64 k u v hk
        · cases hi
      have key : (Op.equalIn 10000 t (.agg #[.int .i64 a, .int .i64 b]) (.agg #[.int .i64 c, .int .i64 d])).run P w = .ok (eqRt ⟨a, b⟩ ⟨c, d⟩) w := by
        rw [run_equalIn_struct w 9999 t _ _ (by rw [hfo]; exact hu) h8, hfo, hfs]
        have n1 : f.name ≠ "_" := by simpa using h5
        have n2 : g.name ≠ "_" := by simpa using h6
        simp only [Op.eqFields]
        rw [if_pos n1, if_pos n2]
        simp only [Sem.run_bind, e1, e2, pt f a 0 #[.int .i64 a, .int .i64 b] w h3 rfl, pt f c 0 #[.int .i64 c, .int .i64 d] w h3 rfl, Result.andThen_ok]
        rw [show (9999 : Nat) = 9998 + 1 from rfl, eqi f a c 9998 w h3]
        simp only [Result.andThen_ok]
        by_cases hac : a = c
        · subst hac
          simp only [beq_self_eq_true, Bool.not_true, Bool.false_eq_true, if_false, Sem.run_bind, pt g b 1 #[.int .i64 a, .int .i64 b] w h4 rfl, pt g d 1 #[.int .i64 a, .int .i64 d] w h4 rfl, Result.andThen_ok, eqi g b d 9998 w h4]
          by_cases hbd : b = d
          · subst hbd
            simp [eqRt]
          · simp [eqRt, hbd]
        · have : (a == c) = false := by simp [hac]
          simp [eqRt, hac]
      have vo : ∀ (a b : Int), valOf .rat ⟨a, b⟩ = .agg #[.int .i64 a, .int .i64 b] := fun _ _ => rfl
      rw [vo, vo, Sem.run_bind, run_eqGuard_agg w op t ox oy _ _ h7]
      simp only [Result.andThen_ok]
      rcases hop with rfl | rfl
      · rw [run_eql_struct, key]; rfl
      · rw [run_neq_struct, key]; rfl
    · cases h
  · cases h

theorem rat_in {P : Program} {t : Nat} (h : ratB P t = true) (D : Nat) (x y : Rt) (w : World) :
    (Op.equalIn (D + 2) t (valOf .rat x) (valOf .rat y)).run P w = .ok (eqRt x y) w := by
  unfold ratB at h
  split at h
  · rename_i fs hu
    split at h
    · rename_i f g hfs
      simp only [Bool.and_eq_true] at h
      obtain ⟨⟨⟨⟨⟨⟨⟨h1, h2⟩, h3⟩, h4⟩, h5⟩, h6⟩, h7⟩, h8⟩ := h
      obtain ⟨a, b⟩ := x
      obtain ⟨c, d⟩ := y
      have hfo : P.fieldsOf t = fs := by simp [Program.fieldsOf, hu]
      have h7 : P.eqGuardType P.depth t = false := by simpa using h7
      have h8 : P.stoodInHeld t = false := by simpa using h8
      have e1 := Nat.eq_of_beq_eq_true h1
      have e2 := Nat.eq_of_beq_eq_true h2
      have pt : ∀ (ff : Field) (u : Int) (i : Nat) (xs : Array Value) (w : World), isInt P ff.type = true → xs[i]? = some (.int .i64 u) → (part ff.type xs i).run P w = .ok (.int .i64 u) w := by
        intro ff u i xs w hi hx
        unfold isInt at hi
        split at hi
        · rename_i k hk
          unfold part
          rw [Sem.run_bind, run_isAgg hk (b := false) rfl]
          simp only [Result.andThen_ok, Bool.false_eq_true, if_false, hx, Sem.run_pure]
        · cases hi
      have eqi : ∀ (ff : Field) (u v : Int) (dd : Nat) (w : World), isInt P ff.type = true → (Op.equalIn (dd + 1) ff.type (.int .i64 u) (.int .i64 v)).run P w = .ok (u == v) w := by
        intro ff u v dd w hi
        unfold isInt at hi
        split at hi
        · rename_i k hk
          exact run_equalIn_int w dd ff.type .i64 k u v hk
        · cases hi
      have key : (Op.equalIn (D + 2) t (.agg #[.int .i64 a, .int .i64 b]) (.agg #[.int .i64 c, .int .i64 d])).run P w = .ok (eqRt ⟨a, b⟩ ⟨c, d⟩) w := by
        rw [run_equalIn_struct w (D + 1) t _ _ (by rw [hfo]; exact hu) h8, hfo, hfs]
        have n1 : f.name ≠ "_" := by simpa using h5
        have n2 : g.name ≠ "_" := by simpa using h6
        simp only [Op.eqFields]
        rw [if_pos n1, if_pos n2]
        simp only [Sem.run_bind, e1, e2, pt f a 0 #[.int .i64 a, .int .i64 b] w h3 rfl, pt f c 0 #[.int .i64 c, .int .i64 d] w h3 rfl, Result.andThen_ok]
        rw [eqi f a c D w h3]
        simp only [Result.andThen_ok]
        by_cases hac : a = c
        · subst hac
          simp only [beq_self_eq_true, Bool.not_true, Bool.false_eq_true, if_false, Sem.run_bind, pt g b 1 #[.int .i64 a, .int .i64 b] w h4 rfl, pt g d 1 #[.int .i64 a, .int .i64 d] w h4 rfl, Result.andThen_ok, eqi g b d D w h4]
          by_cases hbd : b = d
          · subst hbd
            simp [eqRt]
          · simp [eqRt, hbd]
        · have : (a == c) = false := by simp [hac]
          simp [eqRt, hac]
      exact key
    · cases h
  · cases h
theorem pt_in {P : Program} {t : Nat} (h : ptB P t = true) (op : BinOp) (a b : Rt) (c d : Rt) (w : World) (ox oy : Operand) (hop : op = .eql ∨ op = .neq) (u v : Value)
    (hu' : u = .agg #[.int .i64 a.num, .int .i64 a.den, .int .i64 b.num, .int .i64 b.den]) (hv' : v = .agg #[.int .i64 c.num, .int .i64 c.den, .int .i64 d.num, .int .i64 d.den]) :
    (do eqGuard op t ox oy u v; binOp op t u v : Sem Value).run P w = .ok (.bool (if op = .eql then (eqRt a c && eqRt b d) else !(eqRt a c && eqRt b d))) w := by
  subst hu' hv'
  unfold ptB at h
  split at h
  · rename_i fs hu
    split at h
    · rename_i f g hfs
      simp only [Bool.and_eq_true] at h
      obtain ⟨⟨⟨⟨⟨⟨⟨⟨⟨h1, h2⟩, h3⟩, h4⟩, s3⟩, s4⟩, h5⟩, h6⟩, h7⟩, h8⟩ := h
      obtain ⟨a, a'⟩ := a
      obtain ⟨b, b'⟩ := b
      obtain ⟨c, c'⟩ := c
      obtain ⟨d, d'⟩ := d
      have hfo : P.fieldsOf t = fs := by simp [Program.fieldsOf, hu]
      have h7 : P.eqGuardType P.depth t = false := by simpa using h7
      have h8 : P.stoodInHeld t = false := by simpa using h8
      have e1 := Nat.eq_of_beq_eq_true h1
      have e2 := Nat.eq_of_beq_eq_true h2
      have pt : ∀ (ff : Field) (o : Nat) (xs : Array Value) (w : World), ratB P ff.type = true → size2 P ff.type = true → (part ff.type xs o).run P w = .ok (.agg (xs.extract o (o + 2))) w := by
        intro ff o xs w hi hs
        unfold ratB at hi
        split at hi
        · rename_i fs2 hk
          unfold size2 at hs
          split at hs
          · rename_i j hj
            have hs := Nat.eq_of_beq_eq_true hs
            unfold part
            rw [Sem.run_bind, run_isAgg hk (b := true) rfl]
            simp only [Result.andThen_ok, if_true, Sem.run_bind]
            rw [show (sizeOf ff.type).run P w = .ok 2 w by simp [sizeOf, typeInfo, hj, hs]]
            simp
          · cases hs
        · cases hi
      have key : (Op.equalIn 10000 t (.agg #[.int .i64 a, .int .i64 a', .int .i64 b, .int .i64 b']) (.agg #[.int .i64 c, .int .i64 c', .int .i64 d, .int .i64 d'])).run P w = .ok (eqRt ⟨a, a'⟩ ⟨c, c'⟩ && eqRt ⟨b, b'⟩ ⟨d, d'⟩) w := by
        rw [run_equalIn_struct w 9999 t _ _ (by rw [hfo]; exact hu) h8, hfo, hfs]
        have n1 : f.name ≠ "_" := by simpa using h5
        have n2 : g.name ≠ "_" := by simpa using h6
        have k1 := rat_in h3 9997 ⟨a, a'⟩ ⟨c, c'⟩ w
        have k2 := rat_in h4 9997 ⟨b, b'⟩ ⟨d, d'⟩ w
        have vo : ∀ (a b : Int), valOf .rat ⟨a, b⟩ = .agg #[.int .i64 a, .int .i64 b] := fun _ _ => rfl
        rw [vo, vo] at k1 k2
        simp only [Op.eqFields]
        rw [if_pos n1, if_pos n2]
        simp only [Sem.run_bind, e1, e2, pt f 0 _ w h3 s3, Result.andThen_ok]
        rw [show (#[Value.int .i64 a, .int .i64 a', .int .i64 b, .int .i64 b'] : Array Value).extract 0 (0 + 2) = #[.int .i64 a, .int .i64 a'] from rfl, show (#[Value.int .i64 c, .int .i64 c', .int .i64 d, .int .i64 d'] : Array Value).extract 0 (0 + 2) = #[.int .i64 c, .int .i64 c'] from rfl]
        rw [show (9999 : Nat) = 9997 + 2 from rfl, k1]
        simp only [Result.andThen_ok]
        cases hq : eqRt ⟨a, a'⟩ ⟨c, c'⟩
        · simp
        · simp only [Bool.not_true, Bool.false_eq_true, if_false, Sem.run_bind, pt g 2 _ w h4 s4, Result.andThen_ok]
          rw [show (#[Value.int .i64 a, .int .i64 a', .int .i64 b, .int .i64 b'] : Array Value).extract 2 (2 + 2) = #[.int .i64 b, .int .i64 b'] from rfl, show (#[Value.int .i64 c, .int .i64 c', .int .i64 d, .int .i64 d'] : Array Value).extract 2 (2 + 2) = #[.int .i64 d, .int .i64 d'] from rfl]
          rw [k2]
          cases hr : eqRt ⟨b, b'⟩ ⟨d, d'⟩ <;> simp
      rw [Sem.run_bind, run_eqGuard_agg w op t ox oy _ _ h7]
      simp only [Result.andThen_ok]
      rcases hop with rfl | rfl
      · rw [run_eql_struct, key]; rfl
      · rw [run_neq_struct, key]; rfl
    · cases h
  · cases h
theorem pt_eq {P : Program} {t : Nat} (h : ptB P t = true) (op : BinOp) (x y : Pt) (w : World) (ox oy : Operand) (hop : op = .eql ∨ op = .neq) :
    (do eqGuard op t ox oy (valOf .pt x) (valOf .pt y); binOp op t (valOf .pt x) (valOf .pt y) : Sem Value).run P w = .ok (.bool (if op = .eql then eqPt x y else !eqPt x y)) w := by
  obtain ⟨⟨a, a'⟩, ⟨b, b'⟩⟩ := x
  obtain ⟨⟨c, c'⟩, ⟨d, d'⟩⟩ := y
  have : (eqRt ⟨a, a'⟩ ⟨c, c'⟩ && eqRt ⟨b, b'⟩ ⟨d, d'⟩) = eqPt ⟨⟨a, a'⟩, ⟨b, b'⟩⟩ ⟨⟨c, c'⟩, ⟨d, d'⟩⟩ := by
    rw [Bool.eq_iff_iff]; simp [eqRt, eqPt]
  have hq := pt_in h op ⟨a, a'⟩ ⟨b, b'⟩ ⟨c, c'⟩ ⟨d, d'⟩ w ox oy hop (valOf .pt ⟨⟨a, a'⟩, ⟨b, b'⟩⟩) (valOf .pt ⟨⟨c, c'⟩, ⟨d, d'⟩⟩) rfl rfl
  rw [this] at hq
  exact hq
theorem iv_eq {P : Program} {t : Nat} (h : ptB P t = true) (op : BinOp) (x y : Iv) (w : World) (ox oy : Operand) (hop : op = .eql ∨ op = .neq) :
    (do eqGuard op t ox oy (valOf .iv x) (valOf .iv y); binOp op t (valOf .iv x) (valOf .iv y) : Sem Value).run P w = .ok (.bool (if op = .eql then eqIv x y else !eqIv x y)) w := by
  obtain ⟨⟨a, a'⟩, ⟨b, b'⟩⟩ := x
  obtain ⟨⟨c, c'⟩, ⟨d, d'⟩⟩ := y
  have : (eqRt ⟨a, a'⟩ ⟨c, c'⟩ && eqRt ⟨b, b'⟩ ⟨d, d'⟩) = eqIv ⟨⟨a, a'⟩, ⟨b, b'⟩⟩ ⟨⟨c, c'⟩, ⟨d, d'⟩⟩ := by
    rw [Bool.eq_iff_iff]; simp [eqRt, eqIv]
  have hq := pt_in h op ⟨a, a'⟩ ⟨b, b'⟩ ⟨c, c'⟩ ⟨d, d'⟩ w ox oy hop (valOf .iv ⟨⟨a, a'⟩, ⟨b, b'⟩⟩) (valOf .iv ⟨⟨c, c'⟩, ⟨d, d'⟩⟩) rfl rfl
  rw [this] at hq
  exact hq

theorem tyB_ok {P : Program} {T : Nat → Option Ty} {t : Nat} {ty : Ty} (h : tyB P T t ty = true) : TyOk P T t ty := by
  unfold tyB at h
  simp only [Bool.and_eq_true] at h
  obtain ⟨⟨⟨⟨h1, h2⟩, h3⟩, h4⟩, h5⟩ := h
  have h2 := Nat.eq_of_beq_eq_true h2
  split at h3
  · rename_i d hu
    simp only [Bool.and_eq_true] at h3
    obtain ⟨⟨h31, h32⟩, h33⟩ := h3
    refine ⟨?_, ⟨d, hu, by simpa using h31⟩, ?_, ?_, ?_, ?_, ?_, ?_, ?_, ?_, ?_⟩
    · split at h1
      · rename_i i hi
        simp only [Bool.and_eq_true] at h1
        obtain ⟨⟨h11, h12⟩, h13⟩ := h1
        split at h13
        · rename_i z hz
          exact ⟨i, z, hi, Nat.eq_of_beq_eq_true h11, Nat.eq_of_beq_eq_true h12, hz, zeroB_ok h13, h2⟩
        · cases h13
      · cases h1
    · intro ha
      rw [ha] at h4
      simpa using h4
    · intro ho
      split at h32
      · rename_i he; exact (ho he).elim
      · split at h32
        · rename_i fs
          obtain ⟨q1, q2⟩ := offsB_ok h32
          refine ⟨fs, hu, by simpa using q1, fun f o sz hf => ?_⟩
          obtain ⟨fd, j, r1, r2⟩ := q2 f o sz hf
          exact ⟨fd, j, by rw [← Array.getElem?_toList]; exact r1, r2⟩
        · cases h32
    · intro e k he
      rw [he] at h33
      simp only at h33
      split at h33
      · rename_i e'
        simp only [Bool.and_eq_true] at h33
        obtain ⟨q1, q2⟩ := h33
        have q1 := Nat.eq_of_beq_eq_true q1
        subst q1
        refine ⟨hu, ?_⟩
        split at q2
        · rename_i te hte
          exact ⟨te, hte, Nat.eq_of_beq_eq_true q2⟩
        · cases q2
      · cases h33
    · intro hk
      rw [hk] at h5
      simp only [kindB] at h5
      split at h5
      · rename_i hb; exact hb
      · cases h5
    · intro hk
      rw [hk] at h5
      simp only [kindB] at h5
      split at h5
      · rename_i hb; exact hb
      · cases h5
    · intro hk
      rw [hk] at h5
      simp only [kindB] at h5
      split at h5
      · rename_i hb; exact hb
      · cases h5
    · intro hk op x y w ox oy hop
      rw [hk] at h5
      exact rat_eq h5 op x y w ox oy hop
    · intro hk op x y w ox oy hop
      rw [hk] at h5
      exact iv_eq h5 op x y w ox oy hop
    · intro hk op x y w ox oy hop
      rw [hk] at h5
      exact pt_eq h5 op x y w ox oy hop
  · cases h3

def lookT (t : Nat) : List (Nat × Ty) → Option Ty
  | [] => none
  | (i, ty) :: r => match Nat.beq t i with
    | true => some ty
    | false => lookT t r

def tabT (l : List (Nat × Ty)) (t : Nat) : Option Ty := lookT t l

def tabB (P : Program) (T : Nat → Option Ty) : List (Nat × Ty) → Bool
  | [] => true
  | (i, ty) :: r => tyB P T i ty && tabB P T r

theorem tabB_ok {P : Program} {T : Nat → Option Ty} : ∀ {l : List (Nat × Ty)}, tabB P T l = true → ∀ t ty, lookT t l = some ty → TyOk P T t ty
  | [], _, _, _, h => by cases h
  | (i, ty') :: r, hb, t, ty, h => by
    simp only [tabB, Bool.and_eq_true] at hb
    unfold lookT at h
    split at h
    · rename_i e
      have := Nat.eq_of_beq_eq_true e
      subst this
      cases h
      exact tyB_ok hb.1
    · exact tabB_ok hb.2 t ty h

def fnB (P : Program) (f : Nat) : Bool := match P.funcs[f]? with
  | some fn => !(fn.name == "runtime.NumGoroutine") && !fn.body.isNone
  | none => false

theorem fnB_ok {P : Program} {f : Nat} (h : fnB P f = true) : FnOk P f := by
  unfold fnB at h
  split at h
  · rename_i fn hf
    simp only [Bool.and_eq_true] at h
    exact ⟨fn, hf, by simpa using h.1, by simpa using h.2⟩
  · cases h

/-- What is known of the functions that a function calls. -/
structure Known (P : Program) (Γ : List Sig) : Prop where
  sig : ∀ s ∈ Γ, GSpec P s ∧ FnOk P s.f

theorem Known.nil {P : Program} : Known P [] := ⟨fun _ h => by cases h⟩
theorem Known.cons {P : Program} {s : Sig} {Γ : List Sig} (h : GSpec P s) (hf : fnB P s.f = true) (r : Known P Γ) : Known P (s :: Γ) :=
  ⟨fun t ht => by
    rcases List.mem_cons.1 ht with rfl | ht
    · exact ⟨h, fnB_ok hf⟩
    · exact r.sig t ht⟩

/-- .. where one sum may wrap. -/
theorem fn_knownW (wd : Option Nat) {P : Program} {l : List (Nat × Ty)} (ht : tabB P (tabT l) l = true) (hm : P.follows .mixedOrders = true) {Γ : List Sig} (hΓ : Known P Γ) {s : Sig} {fn : Func} (hks : s.ks.length ≤ 50000) (hf : P.funcs[s.f]? = some fn)
    (hv : ∀ x, lenOk s.ks x → andL (s.eff x).pre → vcFnW wd (tabT l) Γ fn s x) : GSpec P s :=
  fn_ok (wd := wd) (T := tabT l) (Γ := Γ) (fun t ty h => tabB_ok ht t ty h) (fun s hs => hΓ.sig s hs) hm hks hf hv

/-- **A function, by what it calls.** -/
theorem fn_known {P : Program} {l : List (Nat × Ty)} (ht : tabB P (tabT l) l = true) (hm : P.follows .mixedOrders = true) {Γ : List Sig} (hΓ : Known P Γ) {s : Sig} {fn : Func} (hks : s.ks.length ≤ 50000) (hf : P.funcs[s.f]? = some fn)
    (hv : ∀ x, lenOk s.ks x → andL (s.eff x).pre → vcFn (tabT l) Γ fn s x) : GSpec P s :=
  fn_ok (wd := none) (T := tabT l) (Γ := Γ) (fun t ty h => tabB_ok ht t ty h) (fun s hs => hΓ.sig s hs) hm hks hf hv

theorem andAll_cons {p : Prop} {r : List Prop} {q : Prop} (h : Lf p) (h2 : andAll r q) : andAll (p :: r) q := ⟨h, h2⟩
theorem andAll_nil {q : Prop} (h : q) : andAll [] q := h

/-- The same contract in other words. -/
theorem GSpec.imp {P : Program} {f : Nat} {ks : List AK} {rs : List RK} {eff eff' : AKs ks → Eff ks rs} (h : GSpec P ⟨f, ks, rs, eff⟩) (hi : ∀ x, andL (eff' x).pre → andL (eff x).pre ∧ (eff x).res = (eff' x).res ∧ (eff x).out = (eff' x).out) : GSpec P ⟨f, ks, rs, eff'⟩ := by
  intro x vs w rb cb ob ha hr hn hb hp
  obtain ⟨h1, h2, h3⟩ := hi x hp
  have := h x vs w rb cb ob ha hr hn hb h1
  dsimp only at this ⊢
  rw [h2, h3] at this
  exact this
end Go.Vx
