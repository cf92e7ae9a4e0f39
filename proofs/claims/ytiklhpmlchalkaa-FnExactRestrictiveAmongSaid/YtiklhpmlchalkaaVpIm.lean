/- Intervals and their images in plain arithmetic. -/
import Derived.Test.YtiklhpmlchalkaaVpMap
import Derived.Test.YtiklhpmlchalkaaVpStair
namespace Go.Vx
open Go
set_option maxRecDepth 100000
set_option linter.unusedSimpArgs false
set_option linter.unusedVariables false

@[irreducible] def lsR (a b : Rt) : Rt := if a.num * b.den < b.num * a.den then a else b
theorem grR_or (a b : Rt) : grR a b = a ∨ grR a b = b := by unfold grR; split <;> simp
theorem lsR_or (a b : Rt) : lsR a b = a ∨ lsR a b = b := by unfold lsR; split <;> simp
theorem grR_good {a b : Rt} (ha : goodRt a = true) (hb : goodRt b = true) : goodRt (grR a b) = true := by
  rcases grR_or a b with h | h <;> rw [h] <;> assumption
theorem lsR_good {a b : Rt} (ha : goodRt a = true) (hb : goodRt b = true) : goodRt (lsR a b) = true := by
  rcases lsR_or a b with h | h <;> rw [h] <;> assumption
theorem grR_unit {a b : Rt} (ha : unitRt a = true) (hb : unitRt b = true) : unitRt (grR a b) = true := by
  rcases grR_or a b with h | h <;> rw [h] <;> assumption
theorem lsR_unit {a b : Rt} (ha : unitRt a = true) (hb : unitRt b = true) : unitRt (lsR a b) = true := by
  rcases lsR_or a b with h | h <;> rw [h] <;> assumption
theorem grR_t {a b : Rt} (h : ltR a b) : grR a b = b := by unfold grR; rw [if_pos h]
theorem grR_f {a b : Rt} (h : ¬ ltR a b) : grR a b = a := by unfold grR; rw [if_neg h]
theorem lsR_t {a b : Rt} (h : ltR a b) : lsR a b = a := by unfold lsR; rw [if_pos h]
theorem lsR_f {a b : Rt} (h : ¬ ltR a b) : lsR a b = b := by unfold lsR; rw [if_neg h]
/-- the reference takes the new one only if it is less -/
theorem lsR_alt {a b : Rt} (ha : goodRt a = true) (hb : goodRt b = true) (h : ¬ ltR b a) : lsR a b = a := by
  rcases Int.lt_trichotomy (a.num * b.den) (b.num * a.den) with h1 | h1 | h1
  · exact lsR_t h1
  · rw [good_eq ha hb h1]; rcases lsR_or b b with h | h <;> exact h
  · exact (h h1).elim
theorem lsR_alt2 {a b : Rt} (h : ltR b a) : lsR a b = b := lsR_f (fun h2 => by have h1 : b.num * a.den < a.num * b.den := h; have h3 : a.num * b.den < b.num * a.den := h2; omega)
theorem lt_of_ne {a b : Rt} (ha : goodRt a = true) (hb : goodRt b = true) (h : ¬ ltR b a) (hn : a ≠ b) : ltR a b := by
  rcases Int.lt_trichotomy (a.num * b.den) (b.num * a.den) with h1 | h1 | h1
  · exact h1
  · exact (hn (good_eq ha hb h1)).elim
  · exact (h h1).elim

def imF (s : Rt × Rt) (y : Rt) : Rt × Rt := (lsR s.1 y, grR s.2 y)
def inB' (a b : Rt) (p : Pt) : Bool := lessRt a p.x && lessRt p.x b
def inY (a b : Rt) (l : List Pt) : List Rt := (l.filter (inB' a b)).map Pt.y
noncomputable def imS (f : List Pt) (a b : Rt) : Rt × Rt := imF (vO f a, vO f a) (vO f b)
noncomputable def imI (f : List Pt) (a b : Rt) (i : Nat) : Rt × Rt := (inY a b (f.take i)).foldl imF (imS f a b)
noncomputable def imO (f : List Pt) (a b : Rt) : Rt × Rt := imI f a b f.length
theorem inY_succ {f : List Pt} {a b : Rt} {i : Nat} (h : i < f.length) : inY a b (f.take (i + 1)) = inY a b (f.take i) ++ (if inB' a b (getA zP f i) = true then [(getA zP f i).y] else []) := by
  unfold inY
  rw [List.take_add_one, List.getElem?_eq_getElem h, List.filter_append, List.map_append, ← getA_lt zP f i h]
  congr 1
  split
  · rename_i h1; simp [h1]
  · rename_i h1; simp [h1]
theorem imI_t {f : List Pt} {a b : Rt} {i : Nat} (h : i < f.length) (h1 : inB' a b (getA zP f i) = true) : imI f a b (i + 1) = imF (imI f a b i) (getA zP f i).y := by
  unfold imI; rw [inY_succ h, if_pos h1, List.foldl_append]; rfl
theorem imI_f {f : List Pt} {a b : Rt} {i : Nat} (h : i < f.length) (h1 : ¬ inB' a b (getA zP f i) = true) : imI f a b (i + 1) = imI f a b i := by
  unfold imI; rw [inY_succ h, if_neg h1, List.append_nil]
/-- two fractions from 0 to 1, the first one not the greater -/
def Rg (s : Rt × Rt) : Prop := unitRt s.1 = true ∧ unitRt s.2 = true ∧ ¬ ltR s.2 s.1
theorem imF_rg {s : Rt × Rt} {y : Rt} (h : Rg s) (hy : unitRt y = true) : Rg (imF s y) := by
  obtain ⟨h1, h2, h3⟩ := h
  refine ⟨lsR_unit h1 hy, grR_unit h2 hy, ?_⟩
  unfold imF
  dsimp only
  have q1 := q_lt (unit_good h1) (unit_good hy)
  have q2 := q_lt (unit_good h2) (unit_good hy)
  have q3 := q_lt (unit_good h2) (unit_good h1)
  have q4 := q_lt (unit_good (lsR_unit h1 hy)) (unit_good (grR_unit h2 hy))
  have q5 := q_lt (unit_good (grR_unit h2 hy)) (unit_good (lsR_unit h1 hy))
  intro h5
  have h5 := q5.1 h5
  have h3 : ¬ qR s.2 < qR s.1 := fun h => h3 (q3.2 h)
  by_cases c1 : ltR s.1 y
  · rw [lsR_t c1] at h5
    by_cases c2 : ltR s.2 y
    · rw [grR_t c2] at h5; have := q1.1 c1; grind
    · rw [grR_f c2] at h5; exact h3 h5
  · rw [lsR_f c1] at h5
    by_cases c2 : ltR s.2 y
    · rw [grR_t c2] at h5; grind
    · rw [grR_f c2] at h5
      have c1' : ¬ qR s.1 < qR y := fun h => c1 (q1.2 h)
      grind
theorem rg_refl {y : Rt} (h : unitRt y = true) : Rg (y, y) := ⟨h, h, fun h2 => by have : y.num * y.den < y.num * y.den := h2; omega⟩
theorem imS_rg {f : List Pt} {a b : Rt} (h : mapOk f = true) (ha : unitRt a = true) (hb : unitRt b = true) : Rg (imS f a b) := imF_rg (rg_refl (vO_unit h ha)) (vO_unit h hb)
theorem imI_rg {f : List Pt} {a b : Rt} (h : mapOk f = true) (ha : unitRt a = true) (hb : unitRt b = true) : ∀ (i : Nat), i ≤ f.length → Rg (imI f a b i)
  | 0, _ => imS_rg h ha hb
  | i + 1, hi => by
    by_cases c : inB' a b (getA zP f i) = true
    · rw [imI_t (by omega) c]
      exact imF_rg (imI_rg h ha hb i (by omega)) (coord_unit (ptOk_iff.1 (map_pt h (by omega))).2)
    · rw [imI_f (by omega) c]; exact imI_rg h ha hb i (by omega)
theorem imO_rg {f : List Pt} {a b : Rt} (h : mapOk f = true) (ha : unitRt a = true) (hb : unitRt b = true) : Rg (imO f a b) := imI_rg h ha hb _ (Nat.le_refl _)
noncomputable def imB (f : List Pt) (a b : Rt) : Bool := (vR f a).2 && (vR f b).2
noncomputable def imR (f : List Pt) (a b : Rt) : Rt × Rt := match imB f a b with
  | true => imO f a b
  | false => (⟨0, 0⟩, ⟨0, 0⟩)
theorem imR_t {f : List Pt} {a b : Rt} (h1 : (vR f a).2 = true) (h2 : (vR f b).2 = true) : imR f a b = imO f a b := by unfold imR imB; rw [h1, h2]; rfl
theorem imR_f {f : List Pt} {a b : Rt} (h : imB f a b = false) : imR f a b = (⟨0, 0⟩, ⟨0, 0⟩) := by unfold imR; rw [h]

noncomputable def ivOk (i : Iv) : Bool := unitRt i.a && (unitRt i.b && lessRt i.a i.b)
theorem ivOk_iff {i : Iv} : ivOk i = true ↔ (unitRt i.a = true ∧ unitRt i.b = true ∧ ltR i.a i.b) := by
  unfold ivOk lessRt; simp

/-- images step by step; the last part is 0, 1 if a value is too large, 2 if an image is a single fraction -/
noncomputable def imgs (f : List Pt) (i : Iv) : Nat → List Iv × Iv × Nat
  | 0 => ([i], i, 0)
  | k + 1 => match (imgs f i k).2.2 with
    | 0 => match imB f (imgs f i k).2.1.a (imgs f i k).2.1.b with
      | false => ([], (imgs f i k).2.1, 1)
      | true => match decide ((imO f (imgs f i k).2.1.a (imgs f i k).2.1.b).1 = (imO f (imgs f i k).2.1.a (imgs f i k).2.1.b).2) with
        | true => ([], (imgs f i k).2.1, 2)
        | false => ((imgs f i k).1 ++ [⟨(imO f (imgs f i k).2.1.a (imgs f i k).2.1.b).1, (imO f (imgs f i k).2.1.a (imgs f i k).2.1.b).2⟩], ⟨(imO f (imgs f i k).2.1.a (imgs f i k).2.1.b).1, (imO f (imgs f i k).2.1.a (imgs f i k).2.1.b).2⟩, 0)
    | _ + 1 => imgs f i k
theorem imgs_1 {f : List Pt} {i : Iv} {k : Nat} (h : (imgs f i k).2.2 = 0) (h1 : imB f (imgs f i k).2.1.a (imgs f i k).2.1.b = false) : imgs f i (k + 1) = ([], (imgs f i k).2.1, 1) := by
  rw [imgs, h, h1]
theorem imgs_2 {f : List Pt} {i : Iv} {k : Nat} (h : (imgs f i k).2.2 = 0) (h1 : imB f (imgs f i k).2.1.a (imgs f i k).2.1.b = true) (h2 : (imO f (imgs f i k).2.1.a (imgs f i k).2.1.b).1 = (imO f (imgs f i k).2.1.a (imgs f i k).2.1.b).2) : imgs f i (k + 1) = ([], (imgs f i k).2.1, 2) := by
  rw [imgs, h, h1, decide_eq_true h2]
theorem imgs_0 {f : List Pt} {i : Iv} {k : Nat} (h : (imgs f i k).2.2 = 0) (h1 : imB f (imgs f i k).2.1.a (imgs f i k).2.1.b = true) (h2 : ¬ (imO f (imgs f i k).2.1.a (imgs f i k).2.1.b).1 = (imO f (imgs f i k).2.1.a (imgs f i k).2.1.b).2) : imgs f i (k + 1) = ((imgs f i k).1 ++ [⟨(imO f (imgs f i k).2.1.a (imgs f i k).2.1.b).1, (imO f (imgs f i k).2.1.a (imgs f i k).2.1.b).2⟩], ⟨(imO f (imgs f i k).2.1.a (imgs f i k).2.1.b).1, (imO f (imgs f i k).2.1.a (imgs f i k).2.1.b).2⟩, 0) := by
  rw [imgs, h, h1, decide_eq_false h2]
theorem imgs_stay {f : List Pt} {i : Iv} {k : Nat} (h : (imgs f i k).2.2 ≠ 0) : ∀ {n : Nat}, k ≤ n → imgs f i n = imgs f i k
  | n, hn => by
    induction n with
    | zero => rw [show k = 0 by omega]
    | succ n ih =>
      rcases Nat.lt_or_eq_of_le hn with h1 | h1
      · have e := ih (by omega)
        rw [imgs]
        split
        · rename_i h2; rw [e] at h2; exact (h h2).elim
        · exact e
      · rw [h1]
/-- what holds as long as nothing has gone wrong -/
theorem imgs_inv {f : List Pt} {i : Iv} (h : mapOk f = true) (hi : ivOk i = true) : ∀ (k : Nat), ((imgs f i k).2.2 = 0 → (imgs f i k).1.length = k + 1 ∧ ivOk (imgs f i k).2.1 = true ∧ (∀ j ∈ (imgs f i k).1, ivOk j = true) ∧ getA (VK.dflt .iv) (imgs f i k).1 0 = i) ∧ ((imgs f i k).2.2 ≠ 0 → (imgs f i k).1 = [])
  | 0 => ⟨fun _ => ⟨rfl, hi, fun j hj => by have : j = i := by simpa [imgs] using hj
                                            rw [this]; exact hi, rfl⟩, fun h => (h rfl).elim⟩
  | k + 1 => by
    obtain ⟨i1, i2⟩ := imgs_inv h hi k
    by_cases c0 : (imgs f i k).2.2 = 0
    · obtain ⟨j1, j2, j3, j4⟩ := i1 c0
      cases c1 : imB f (imgs f i k).2.1.a (imgs f i k).2.1.b with
      | false => rw [imgs_1 c0 c1]; exact ⟨(fun h => by cases h), fun _ => rfl⟩
      | true =>
        by_cases c2 : (imO f (imgs f i k).2.1.a (imgs f i k).2.1.b).1 = (imO f (imgs f i k).2.1.a (imgs f i k).2.1.b).2
        · rw [imgs_2 c0 c1 c2]; exact ⟨(fun h => by cases h), fun _ => rfl⟩
        · rw [imgs_0 c0 c1 c2]
          have hv := ivOk_iff.1 j2
          obtain ⟨r1, r2, r3⟩ := imO_rg h hv.1 hv.2.1
          have hn : ivOk ⟨(imO f (imgs f i k).2.1.a (imgs f i k).2.1.b).1, (imO f (imgs f i k).2.1.a (imgs f i k).2.1.b).2⟩ = true := ivOk_iff.2 ⟨r1, r2, lt_of_ne (unit_good r1) (unit_good r2) r3 c2⟩
          refine ⟨fun _ => ⟨by simp [j1], hn, fun j hj => ?_, ?_⟩, fun h => (h rfl).elim⟩
          · rcases List.mem_append.1 hj with hj | hj
            · exact j3 j hj
            · rw [List.mem_singleton.1 hj]; exact hn
          · dsimp only
            rw [getA_lt _ _ _ (by simp), List.getElem_append_left (by omega), ← getA_lt (VK.dflt .iv) _ _ (by omega)]
            exact j4
    · rw [imgs_stay c0 (Nat.le_succ k)]
      exact ⟨fun h0 => (c0 h0).elim, i2⟩
def liesR (i k : Iv) : Bool := !lessRt i.a k.a && !lessRt k.b i.b
def meetR (i k : Iv) : Bool := lessRt (grR i.a k.a) (lsR i.b k.b)
def sepR (i k : Iv) : Bool := !lessRt k.a i.b || !lessRt i.a k.b
theorem meet_sep {i k : Iv} (hi : ivOk i = true) (hk : ivOk k = true) : meetR i k = !sepR i k := by
  obtain ⟨a1, a2, a3⟩ := ivOk_iff.1 hi
  obtain ⟨b1, b2, b3⟩ := ivOk_iff.1 hk
  have g1 := unit_good a1
  have g2 := unit_good a2
  have g3 := unit_good b1
  have g4 := unit_good b2
  have l1 := (q_lt g1 g2).1 a3
  have l2 := (q_lt g3 g4).1 b3
  have e : ∀ {a b : Rt}, goodRt a = true → goodRt b = true → lessRt a b = decide (qR a < qR b) := fun ha hb => by
    unfold lessRt; exact decide_eq_decide.2 (q_lt ha hb)
  unfold meetR sepR
  rw [e (grR_good g1 g3) (lsR_good g2 g4), e g3 g2, e g1 g4]
  by_cases c1 : ltR i.a k.a
  · have := (q_lt g1 g3).1 c1
    rw [grR_t c1]
    by_cases c2 : ltR i.b k.b
    · have := (q_lt g2 g4).1 c2
      rw [lsR_t c2]
      by_cases c3 : qR k.a < qR i.b
      · have : qR i.a < qR k.b := by grind
        simp [c3, this]
      · simp [c3]
    · have c2 : ¬ qR i.b < qR k.b := fun h => c2 ((q_lt g2 g4).2 h)
      rw [lsR_f (fun h => c2 ((q_lt g2 g4).1 h))]
      have h1 : qR k.a < qR k.b := l2
      have h2 : qR k.a < qR i.b := by grind
      have h3 : qR i.a < qR k.b := by grind
      simp [h1, h2, h3]
  · have c1' : ¬ qR i.a < qR k.a := fun h => c1 ((q_lt g1 g3).2 h)
    rw [grR_f c1]
    by_cases c2 : ltR i.b k.b
    · have := (q_lt g2 g4).1 c2
      rw [lsR_t c2]
      have h2 : qR k.a < qR i.b := by grind
      have h3 : qR i.a < qR k.b := by grind
      simp [l1, h2, h3]
    · have c2' : ¬ qR i.b < qR k.b := fun h => c2 ((q_lt g2 g4).2 h)
      rw [lsR_f c2]
      by_cases c3 : qR i.a < qR k.b
      · have : qR k.a < qR i.b := by grind
        simp [c3, this]
      · simp [c3]
end Go.Vx
