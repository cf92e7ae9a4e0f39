/- The layings of the library's functions at fractions, in plain words (printed by lay.py). -/
import Derived.Test.YtjiafbjoijffjaaGreatPk16
import Derived.Test.YtjiafbjoijffjaaGreatPk19
import Derived.Test.YtjiafbjoijffjaaGreatPk13
import Derived.Test.YtjiafbjoijffjaaGreatPk17
import Derived.Shelf.SlSortCmp.WholeK
import Derived.Test.YtjiafbjoijffjaaGreatChecked
namespace Go.Vx
open Go
set_option maxRecDepth 100000
set_option linter.unusedSimpArgs false
set_option linter.unusedVariables false

theorem iv_q {i : Iv} (hi : ivOk i = true) : goodRt i.a = true ∧ goodRt i.b = true ∧ qR i.a < qR i.b ∧ 0 ≤ qR i.a ∧ qR i.b ≤ 1 := by
  obtain ⟨h1, h2, h3⟩ := ivOk_iff.1 hi
  have g1 := unit_good h1
  have g2 := unit_good h2
  exact ⟨g1, g2, (q_lt g1 g2).1 h3, ((q_unit g1).1 h1).1, ((q_unit g2).1 h2).2⟩
/-- scaled out of an interval -/
noncomputable def sc (i : Iv) (t : Rat) : Rat := (t - qR i.a) / (qR i.b - qR i.a)
theorem sc_mul {i : Iv} (hi : ivOk i = true) (t : Rat) : sc i t * (qR i.b - qR i.a) = t - qR i.a := by
  have h := (iv_q hi).2.2.1
  have hw : qR i.b - qR i.a ≠ 0 := by grind
  unfold sc
  generalize qR i.b - qR i.a = w at *
  generalize t - qR i.a = u
  grind
theorem sc_uniq {i : Iv} (hi : ivOk i = true) {t u : Rat} (h : u * (qR i.b - qR i.a) = t - qR i.a) : u = sc i t :=
  r_cancel (c := qR i.b - qR i.a) (by have := (iv_q hi).2.2.1; grind) (by rw [h, sc_mul hi])
theorem sc_unit {i : Iv} (hi : ivOk i = true) {t : Rat} (h1 : qR i.a ≤ t) (h2 : t ≤ qR i.b) : 0 ≤ sc i t ∧ sc i t ≤ 1 := by
  have h := (iv_q hi).2.2.1
  have e := sc_mul hi t
  have q1 : 0 ≤ sc i t := r_prod (c := qR i.b - qR i.a) (by grind) (by grind)
  have q2 : 0 ≤ 1 - sc i t := r_prod (c := qR i.b - qR i.a) (by grind) (by grind)
  grind
theorem sc_lt {i : Iv} (hi : ivOk i = true) {t u : Rat} (h1 : t < u) : sc i t < sc i u := by
  have h := (iv_q hi).2.2.1
  have e1 := sc_mul hi t
  have e2 := sc_mul hi u
  by_cases hc : sc i u ≤ sc i t
  · have := Rat.mul_nonneg (show 0 ≤ sc i t - sc i u by grind) (show 0 ≤ qR i.b - qR i.a by grind)
    grind
  · grind
theorem aff_sc {i : Iv} (hi : ivOk i = true) {F : Rat → Rat} {a b : Rat} (h : Aff F a b) : Aff (fun t => sc i (F t)) a b := fun t h1 h2 => by
  have e := h t h1 h2
  have hw := (iv_q hi).2.2.1
  show (sc i (F t) - sc i (F a)) * (b - a) = (sc i (F b) - sc i (F a)) * (t - a)
  have e1 := sc_mul hi (F t)
  have e2 := sc_mul hi (F a)
  have e3 := sc_mul hi (F b)
  refine r_cancel (c := qR i.b - qR i.a) (by grind) ?_
  generalize sc i (F t) = x at *
  generalize sc i (F a) = y at *
  generalize sc i (F b) = z at *
  generalize hW : qR i.b - qR i.a = w at *
  have k1 : (x - y) * w = F t - F a := by grind
  have k2 : (z - y) * w = F b - F a := by grind
  have : (x - y) * (b - a) * w = ((x - y) * w) * (b - a) := by grind
  rw [this, k1, e, ← k2]
  grind
theorem scOut_q {i : Iv} {x : Rt} (hi : ivOk i = true) (hx : goodRt x = true) (h : (scOut i x).2 = true) : goodRt (scOut i x).1 = true ∧ qR (scOut i x).1 = sc i (qR x) := by
  obtain ⟨g1, g2, h3, _, _⟩ := iv_q hi
  cases h1 : (subRt x i.a).2 with
  | false => rw [scOut_1 h1] at h; cases h
  | true =>
    cases h2 : (subRt i.b i.a).2 with
    | false => rw [scOut_2 h2] at h; cases h
    | true =>
      rw [scOut_3 h1 h2] at h ⊢
      have k1 : goodRt (subRt x i.a).1 = true := lowRt_good1 h1
      have k2 : goodRt (subRt i.b i.a).1 = true := lowRt_good1 h2
      have hp := sub_num_pos g2 g1 h2 ((q_lt g1 g2).2 h3)
      have e := q_div k1 k2 (by omega) h
      refine ⟨lowRt_good1 h, sc_uniq hi ?_⟩
      rw [q_sub hx g1 h1, q_sub g2 g1 h2] at e
      exact e

/-! ### the places of a return map -/
def rmI (g : List Pt) (i : Iv) (k : Nat) : List Rt := bif inB' i.a i.b (getA zP g k) then [(getA zP g k).x] else []
@[irreducible] def rmRaw (g : List Pt) (i : Iv) (n : Nat) : List Rt := [i.a, i.b] ++ (List.range n).flatMap (rmI g i)
theorem rmRaw_zero (g : List Pt) (i : Iv) : rmRaw g i 0 = [i.a, i.b] := by unfold rmRaw; simp
theorem rmRaw_succ (g : List Pt) (i : Iv) (n : Nat) : rmRaw g i (n + 1) = rmRaw g i n ++ rmI g i n := by unfold rmRaw; rw [List.range_succ, List.flatMap_append, List.append_assoc]; simp
theorem rmRaw_t {g : List Pt} {i : Iv} {n : Nat} (h1 : lessRt i.a (getA zP g n).x = true) (h2 : lessRt (getA zP g n).x i.b = true) : rmRaw g i n ++ [(getA zP g n).x] = rmRaw g i (n + 1) := by
  rw [rmRaw_succ]; unfold rmI inB'; rw [h1, h2]; rfl
theorem rmRaw_f1 {g : List Pt} {i : Iv} {n : Nat} (h1 : lessRt i.a (getA zP g n).x = false) : rmRaw g i n = rmRaw g i (n + 1) := by
  rw [rmRaw_succ]; unfold rmI inB'; rw [h1]; simp
theorem rmRaw_f2 {g : List Pt} {i : Iv} {n : Nat} (h1 : lessRt (getA zP g n).x i.b = false) : rmRaw g i n = rmRaw g i (n + 1) := by
  rw [rmRaw_succ]; unfold rmI inB'; rw [h1]; simp
theorem rmRaw_len (g : List Pt) (i : Iv) : ∀ n, (rmRaw g i n).length ≤ 2 + n
  | 0 => by rw [rmRaw_zero]; simp
  | n + 1 => by
    have := rmRaw_len g i n
    have h : (rmI g i n).length ≤ 1 := by unfold rmI; cases inB' i.a i.b (getA zP g n) <;> simp
    rw [rmRaw_succ, List.length_append]; omega
theorem rmRaw_mem {g : List Pt} {i : Iv} {n : Nat} {x : Rt} : x ∈ rmRaw g i n ↔ (x = i.a ∨ x = i.b) ∨ ∃ k, k < n ∧ inB' i.a i.b (getA zP g k) = true ∧ x = (getA zP g k).x := by
  unfold rmRaw rmI
  simp only [List.mem_append, List.mem_cons, List.not_mem_nil, or_false, List.mem_flatMap, List.mem_range, mem_bif]
theorem rmRaw_gd {g : List Pt} {i : Iv} (hg : mapOk g = true) (hi : ivOk i = true) {n : Nat} (hn : n ≤ g.length) : Gd (rmRaw g i n) := fun x hx => by
  obtain ⟨g1, g2, _⟩ := iv_q hi
  rcases rmRaw_mem.1 hx with (rfl | rfl) | ⟨k, hk, _, rfl⟩
  · exact g1
  · exact g2
  · exact pt_gd hg (by omega)
@[irreducible] def rmO (g : List Pt) (i : Iv) : List Rt := putsL [] (rmRaw g i g.length)
theorem rmO_len {g : List Pt} (i : Iv) (hg : mapOk g = true) : (rmO g i).length ≤ 14 := by
  unfold rmO
  have l1 := (mapOk_iff.1 hg).1
  have h1 := putsL_len (rmRaw g i g.length) []
  have h2 := rmRaw_len g i g.length
  simp only [List.length_nil] at h1
  omega
theorem rmO_ss {g : List Pt} {i : Iv} (hg : mapOk g = true) (hi : ivOk i = true) : SS (rmO g i) := by unfold rmO; exact putsL_ss Gd.nil (rmRaw_gd hg hi (Nat.le_refl _)) SS.nil
theorem rmO_mem {g : List Pt} {i : Iv} {x : Rt} : x ∈ rmO g i ↔ (x = i.a ∨ x = i.b) ∨ ∃ k, k < g.length ∧ inB' i.a i.b (getA zP g k) = true ∧ x = (getA zP g k).x := by
  unfold rmO
  rw [putsL_mem, rmRaw_mem]
  constructor
  · rintro (h | h)
    · cases h
    · exact h
  · exact .inr
theorem rmO_bd {g : List Pt} {i : Iv} (hg : mapOk g = true) (hi : ivOk i = true) {x : Rt} (hx : x ∈ rmO g i) : unitRt x = true ∧ qR i.a ≤ qR x ∧ qR x ≤ qR i.b := by
  obtain ⟨g1, g2, h3, h4, h5⟩ := iv_q hi
  obtain ⟨u1, u2, _⟩ := ivOk_iff.1 hi
  rcases rmO_mem.1 hx with (rfl | rfl) | ⟨k, hk, hin, rfl⟩
  · exact ⟨u1, Rat.le_refl, Rat.le_of_lt h3⟩
  · exact ⟨u2, Rat.le_of_lt h3, Rat.le_refl⟩
  · unfold inB' lessRt at hin
    rw [Bool.and_eq_true, decide_eq_true_eq, decide_eq_true_eq] at hin
    have gx := pt_gd hg hk
    exact ⟨coord_unit (ptOk_iff.1 (map_pt hg hk)).1, Rat.le_of_lt ((q_lt g1 gx).1 hin.1), Rat.le_of_lt ((q_lt gx g2).1 hin.2)⟩
noncomputable abbrev rmN (g : List Pt) (i : Iv) : Nat := (rmO g i).length
theorem rm_two {g : List Pt} {i : Iv} (hi : ivOk i = true) : 2 ≤ rmN g i := by
  have h0 : i.a ∈ rmO g i := rmO_mem.2 (.inl (.inl rfl))
  have h1 : i.b ∈ rmO g i := rmO_mem.2 (.inl (.inr rfl))
  have h3 := (iv_q hi).2.2.1
  revert h0 h1
  show _ → _ → 2 ≤ (rmO g i).length
  generalize rmO g i = l
  intro h0 h1
  match l, h0, h1 with
  | [], h0, _ => cases h0
  | [x], h0, h1 =>
    rw [List.mem_singleton] at h0 h1
    rw [h0, h1] at h3
    grind
  | _ :: _ :: r, _, _ => simp
/-- between two places the map is a line -/
theorem rm_line {g : List Pt} {i : Iv} (hg : mapOk g = true) (hi : ivOk i = true) {k : Nat} (hk : k + 1 < rmN g i) : Aff (pv g) (qZ (rmO g i) k) (qZ (rmO g i) (k + 1)) := by
  have hs := rmO_ss hg hi
  have hz := ss_lt hs (Nat.lt_succ_self k) hk
  have m1 : getA zR (rmO g i) k ∈ rmO g i := getA_mem _ (Nat.lt_of_succ_lt hk)
  have m2 : getA zR (rmO g i) (k + 1) ∈ rmO g i := getA_mem _ hk
  obtain ⟨v1, a1, a2⟩ := rmO_bd hg hi m1
  obtain ⟨v2, b1, b2⟩ := rmO_bd hg hi m2
  have w1 := (q_unit (unit_good v1)).1 v1
  have w2 := (q_unit (unit_good v2)).1 v2
  obtain ⟨g1, g2, _⟩ := iv_q hi
  obtain ⟨j, hj, j1, j2⟩ := no_knot (map_2 hg) (a := qZ (rmO g i) k) (b := qZ (rmO g i) (k + 1)) (by rw [map_0 hg]; exact w1.1) hz (by rw [map_1 hg]; exact w2.2) (fun m hm hlt => by
    refine ss_none hs hk (x := (getA zP g m).x) (rmO_mem.2 (.inr ⟨m, hm, ?_, rfl⟩)) hlt
    have gx := pt_gd hg hm
    unfold inB' lessRt
    rw [Bool.and_eq_true, decide_eq_true_eq, decide_eq_true_eq]
    exact ⟨(q_lt g1 gx).2 (by have := hlt.1; show _ < qX g m; grind), (q_lt gx g2).2 (by have := hlt.2; show qX g m < _; grind)⟩)
  exact aff_piece (map_inc hg) hj j1 (Rat.le_of_lt hz) j2
/-! ### its points -/
@[irreducible] noncomputable def rmL (g : List Pt) (i : Iv) (n : Nat) : List Pt := (List.range n).map fun k => ⟨scO i (getA zR (rmO g i) k), scO i (vO g (getA zR (rmO g i) k))⟩
theorem rmL_zero (g : List Pt) (i : Iv) : rmL g i 0 = [] := by unfold rmL; rfl
theorem rmL_succ (g : List Pt) (i : Iv) (n : Nat) : rmL g i (n + 1) = rmL g i n ++ [⟨scO i (getA zR (rmO g i) n), scO i (vO g (getA zR (rmO g i) n))⟩] := by unfold rmL; rw [List.range_succ, List.map_append]; rfl
theorem rmL_len (g : List Pt) (i : Iv) (n : Nat) : (rmL g i n).length = n := by unfold rmL; simp
theorem rmL_get {g : List Pt} {i : Iv} {n k : Nat} (hk : k < n) : getA zP (rmL g i n) k = ⟨scO i (getA zR (rmO g i) k), scO i (vO g (getA zR (rmO g i) k))⟩ := by
  unfold rmL
  rw [getA_eq]; simp [List.getD, hk]
@[irreducible] noncomputable def rmG (g : List Pt) (i : Iv) (n : Nat) : Bool := (List.range n).all fun k => (scOut i (getA zR (rmO g i) k)).2 && ((vR g (getA zR (rmO g i) k)).2 && (scOut i (vO g (getA zR (rmO g i) k))).2)
theorem rmG_zero (g : List Pt) (i : Iv) : rmG g i 0 = true := by unfold rmG; rfl
theorem rmG_succ (g : List Pt) (i : Iv) (n : Nat) : rmG g i (n + 1) = (rmG g i n && ((scOut i (getA zR (rmO g i) n)).2 && ((vR g (getA zR (rmO g i) n)).2 && (scOut i (vO g (getA zR (rmO g i) n))).2))) := by unfold rmG; rw [List.range_succ, List.all_append]; simp
theorem rm_flag {g : List Pt} {i : Iv} {n : Nat} : (((!rmG g i n || !(scOut i (getA zR (rmO g i) n)).2) || !(vR g (getA zR (rmO g i) n)).2) || !(scOut i (vO g (getA zR (rmO g i) n))).2) = !rmG g i (n + 1) := by
  rw [rmG_succ]
  generalize rmG g i n = a
  generalize (scOut i (getA zR (rmO g i) n)).2 = b
  generalize (vR g (getA zR (rmO g i) n)).2 = c
  generalize (scOut i (vO g (getA zR (rmO g i) n))).2 = d
  cases a <;> cases b <;> cases c <;> cases d <;> rfl
theorem rmG_at {g : List Pt} {i : Iv} : ∀ {n : Nat}, rmG g i n = true → ∀ k, k < n → (scOut i (getA zR (rmO g i) k)).2 = true ∧ (vR g (getA zR (rmO g i) k)).2 = true ∧ (scOut i (vO g (getA zR (rmO g i) k))).2 = true
  | 0, _, k, hk => by omega
  | n + 1, hG, k, hk => by
    rw [rmG_succ, Bool.and_eq_true, Bool.and_eq_true, Bool.and_eq_true] at hG
    by_cases e : k = n
    · rw [e]; exact hG.2
    · exact rmG_at hG.1 k (by omega)
theorem rmG_f {g : List Pt} {i : Iv} {k n : Nat} (hk : k < n) (hb : ¬ ((scOut i (getA zR (rmO g i) k)).2 = true ∧ (vR g (getA zR (rmO g i) k)).2 = true ∧ (scOut i (vR g (getA zR (rmO g i) k)).1).2 = true)) : rmG g i n = false := by
  cases h : rmG g i n
  · rfl
  · obtain ⟨a, b, c⟩ := rmG_at h k hk
    rw [vO_t b] at c
    exact (hb ⟨a, b, c⟩).elim
noncomputable def rmR (g : List Pt) (i : Iv) : List Pt × Bool := fnR (!rmG g i (rmN g i)) (rmL g i (rmN g i))
/-- an interval that the map brings back -/
def Back (g : List Pt) (i : Iv) : Prop := ∀ t, qR i.a ≤ t → t ≤ qR i.b → qR i.a ≤ pv g t ∧ pv g t ≤ qR i.b
theorem rm_val {g : List Pt} {i : Iv} (hg : mapOk g = true) (hi : ivOk i = true) (hG : rmG g i (rmN g i) = true) {k : Nat} (hk : k < rmN g i) :
    goodRt (getA zP (rmL g i (rmN g i)) k).x = true ∧ goodRt (getA zP (rmL g i (rmN g i)) k).y = true ∧ qX (rmL g i (rmN g i)) k = sc i (qZ (rmO g i) k) ∧ qY (rmL g i (rmN g i)) k = sc i (pv g (qZ (rmO g i) k)) := by
  obtain ⟨o1, o2, o3⟩ := rmG_at hG k hk
  obtain ⟨u, _, _⟩ := rmO_bd hg hi (getA_mem zR (l := rmO g i) hk)
  unfold qX qY
  rw [rmL_get hk]
  dsimp only
  rw [scO_t o1, scO_t o3]
  rw [vO_t o2] at o3 ⊢
  obtain ⟨a1, a2⟩ := scOut_q hi (unit_good u) o1
  obtain ⟨b1, b2⟩ := scOut_q hi (vR_good hg u o2) o3
  exact ⟨a1, b1, a2, by rw [b2, vR_q hg u o2]⟩
theorem rm_units {g : List Pt} {i : Iv} (hg : mapOk g = true) (hi : ivOk i = true) (hB : Back g i) (hG : rmG g i (rmN g i) = true) : ∀ p ∈ rmL g i (rmN g i), unitRt p.x = true ∧ unitRt p.y = true := by
  intro p hp
  obtain ⟨k, hk, rfl⟩ := List.getElem_of_mem hp
  have hk2 := hk
  rw [rmL_len] at hk2
  obtain ⟨a1, a2, a3, a4⟩ := rm_val hg hi hG hk2
  obtain ⟨u, b1, b2⟩ := rmO_bd hg hi (getA_mem zR (l := rmO g i) hk2)
  rw [← getA_lt zP _ _ hk]
  obtain ⟨c1, c2⟩ := hB _ b1 b2
  exact ⟨(q_unit a1).2 (by have := sc_unit hi b1 b2; rw [← a3] at this; exact this), (q_unit a2).2 (by have := sc_unit hi c1 c2; rw [← a4] at this; exact this)⟩
theorem rm_rs {g : List Pt} {i : Iv} (hg : mapOk g = true) (hi : ivOk i = true) (hB : Back g i) (hG : rmG g i (rmN g i) = true) (ha : (rmL g i (rmN g i)).any bigP = false) : rsOk (rmL g i (rmN g i)) := by
  refine rsOk_iff.2 ⟨units_ok (rm_units hg hi hB hG) ha, fun k hk => ?_⟩
  rw [rmL_len] at hk
  obtain ⟨a1, _, a3, _⟩ := rm_val hg hi hG (Nat.lt_of_succ_lt hk)
  obtain ⟨b1, _, b3, _⟩ := rm_val hg hi hG hk
  refine (q_lt a1 b1).2 ?_
  show qX _ _ < qX _ _
  rw [a3, b3]
  exact sc_lt hi (ss_lt (rmO_ss hg hi) (Nat.lt_succ_self k) hk)
/-- **The return map's values.** -/
theorem rm_pv {g : List Pt} {i : Iv} (hg : mapOk g = true) (hi : ivOk i = true) (hB : Back g i) (h : (rmR g i).2 = true) : mapOk (rmR g i).1 = true ∧ ∀ t, qR i.a ≤ t → t ≤ qR i.b → pv (rmR g i).1 (sc i t) = sc i (pv g t) := by
  obtain ⟨h1, h2, h3, h4⟩ := fn_t (c := !rmG g i (rmN g i)) (l := rmL g i (rmN g i)) h
  have hG : rmG g i (rmN g i) = true := by simpa using h1
  unfold rmR
  rw [h4]
  refine ⟨h3, fun t t0 t1 => ?_⟩
  have hr := rm_rs hg hi hB hG h2
  have hl : 2 ≤ (rmL g i (rmN g i)).length := by rw [rmL_len]; exact rm_two hi
  have hs := rmO_ss hg hi
  obtain ⟨k, hk, k1, k2⟩ := ss_loc hs (rmO_mem.2 (.inl (.inl rfl))) (rmO_mem.2 (.inl (.inr rfl))) (iv_q hi).2.2.1 t0 t1
  have hz := ss_lt hs (Nat.lt_succ_self k) hk
  obtain ⟨_, _, a3, a4⟩ := rm_val hg hi hG (Nat.lt_of_succ_lt hk)
  obtain ⟨_, _, b3, b4⟩ := rm_val hg hi hG hk
  have key := interp (rs_inc hr) (z := qZ (rmO g i)) (φ := fun t => sc i t) (ψ := fun t => sc i (pv g t)) (by rw [rmL_len]; exact hk) hz a3 b3 a4 b4 (aff_sc hi (Aff.id _ _)) (aff_sc hi (rm_line hg hi hk)) k1 k2
  obtain ⟨j, j1, j2, j3, j4⟩ := key
  have le0 : qX (rmL g i (rmN g i)) 0 ≤ sc i t := by
    have := Inc.le (rs_inc hr) 0 j (by omega)
    rw [Nat.zero_add] at this
    exact Rat.le_trans this j2
  have le1 : sc i t ≤ qX (rmL g i (rmN g i)) ((rmL g i (rmN g i)).length - 1) := by
    have := Inc.le (rs_inc hr) (j + 1) ((rmL g i (rmN g i)).length - 1 - (j + 1)) (by omega)
    rw [show j + 1 + ((rmL g i (rmN g i)).length - 1 - (j + 1)) = (rmL g i (rmN g i)).length - 1 by omega] at this
    exact Rat.le_trans j3 this
  rw [sm_pv hr hl h3 le0 le1]
  exact pv_eq (rs_inc hr) ⟨j, j1, j2, j3, j4⟩
/-- an interval that returns is brought back by the power -/
theorem back_of {f : List Pt} {i : Iv} {n : Int} (hr : raRes f i n = (true, true)) (hp : (pwR f n.toNat).2 = true) : Back (pwR f n.toNat).1 i := by
  cases hi : (imsRes f i n).2 with
  | false => rw [ra_f hi] at hr; cases hr
  | true =>
    obtain ⟨h1, h2, h3, h4, h5, h6, h7, h8, h9⟩ := ims_ok hi
    rw [ra_t hi, h6] at hr
    dsimp only at hr
    rw [imgs_last h1 h2 _ h5] at hr
    have hl : liesR (imgs f i n.toNat).2.1 i = true := congrArg Prod.fst hr
    obtain ⟨g1, g2, w3, w4, w5⟩ := iv_q h2
    obtain ⟨k1, k2, _⟩ := iv_q (((imgs_inv h1 h2 _).1 h5).2.1)
    unfold liesR lessRt at hl
    rw [Bool.and_eq_true, Bool.not_eq_true', Bool.not_eq_true', decide_eq_false_iff_not, decide_eq_false_iff_not] at hl
    intro t t1 t2
    rw [(pw_pv h1 hp).2 t (by grind) (by grind)]
    obtain ⟨b1, b2⟩ := imgs_in h1 h2 t1 t2 n.toNat h5
    have c1 : qR i.a ≤ qR (imgs f i n.toNat).2.1.a := Rat.not_lt.1 fun hh => hl.1 ((q_lt k1 g1).2 hh)
    have c2 : qR (imgs f i n.toNat).2.1.b ≤ qR i.b := Rat.not_lt.1 fun hh => hl.2 ((q_lt g2 k2).2 hh)
    exact ⟨Rat.le_trans c1 b1, Rat.le_trans b2 c2⟩

/-! ### the results -/
noncomputable def pmRes (f : List Pt) (n : Int) : List Pt × Bool := match mapOk f && inB n 0 6 with
  | true => pwR f n.toNat
  | false => ([], false)
theorem pm_t {f : List Pt} {n : Int} (h1 : mapOk f = true) (h2 : inB n 0 6 = true) : pmRes f n = pwR f n.toNat := by unfold pmRes; rw [h1, h2]; rfl
theorem pm_f1 {f : List Pt} {n : Int} (h1 : mapOk f = false) : pmRes f n = ([], false) := by unfold pmRes; rw [h1]; rfl
theorem pm_f2 {f : List Pt} {n : Int} (h2 : inB n 0 6 = false) : pmRes f n = ([], false) := by unfold pmRes; rw [h2, Bool.and_false]
theorem pw_bad {f : List Pt} {n : Nat} (h : (pwR f n).2 = false) : pwR f n = ([], false) := by
  cases n with
  | zero => rw [pwR_zero] at h; cases h
  | succ n =>
    cases hn : (pwR f n).2 with
    | false => exact pwR_f hn
    | true =>
      rw [pwR_t hn] at h ⊢
      unfold cpR at h ⊢
      exact fn_bad h
theorem pw_stay {f : List Pt} {k : Nat} (h : (pwR f k).2 = false) : ∀ {n : Nat}, k ≤ n → pwR f n = ([], false)
  | n, hn => by
    induction n with
    | zero => rw [show k = 0 by omega, pwR_zero] at h; cases h
    | succ n ih =>
      rcases Nat.lt_or_eq_of_le hn with h1 | h1
      · have e := ih (by omega)
        exact pwR_f (by rw [e])
      · subst h1; exact pw_bad h
theorem pm_bad {f : List Pt} {n : Int} (h : (pmRes f n).2 = false) : pmRes f n = ([], false) := by
  unfold pmRes at h ⊢
  split at h
  · exact pw_bad h
  · rfl
theorem pm_ok {f : List Pt} {n : Int} (h : (pmRes f n).2 = true) : mapOk f = true ∧ 0 ≤ n ∧ n ≤ 6 ∧ pmRes f n = pwR f n.toNat ∧ mapOk (pmRes f n).1 = true := by
  cases h1 : mapOk f with
  | false => rw [pm_f1 h1] at h; cases h
  | true =>
    cases h2 : inB n 0 6 with
    | false => rw [pm_f2 h2] at h; cases h
    | true =>
      rw [pm_t h1 h2] at h ⊢
      unfold inB at h2
      simp only [Bool.and_eq_true, decide_eq_true_eq] at h2
      exact ⟨rfl, h2.1, h2.2, rfl, pw_map h1 h⟩
noncomputable def rmRes (f : List Pt) (i : Iv) (n : Int) : List Pt × Bool := match (raRes f i n).2 && (raRes f i n).1 with
  | true => match (pmRes f n).2 with
    | true => rmR (pmRes f n).1 i
    | false => ([], false)
  | false => ([], false)
theorem rm_f1 {f : List Pt} {i : Iv} {n : Int} (h : (raRes f i n).2 = false) : rmRes f i n = ([], false) := by unfold rmRes; rw [h]; rfl
theorem rm_f2 {f : List Pt} {i : Iv} {n : Int} (h : (raRes f i n).1 = false) : rmRes f i n = ([], false) := by unfold rmRes; rw [h, Bool.and_false]
theorem rm_f3 {f : List Pt} {i : Iv} {n : Int} (h : (pmRes f n).2 = false) : rmRes f i n = ([], false) := by
  unfold rmRes
  rw [h]
  cases (raRes f i n).2 && (raRes f i n).1 <;> rfl
theorem rm_t {f : List Pt} {i : Iv} {n : Int} (h1 : (raRes f i n).2 = true) (h2 : (raRes f i n).1 = true) (h3 : (pmRes f n).2 = true) : rmRes f i n = rmR (pmRes f n).1 i := by unfold rmRes; rw [h1, h2, h3]; rfl
theorem rm_back {f : List Pt} {i : Iv} {n : Int} (h1 : (raRes f i n).2 = true) (h2 : (raRes f i n).1 = true) (h3 : (pmRes f n).2 = true) : mapOk (pmRes f n).1 = true ∧ ivOk i = true ∧ Back (pmRes f n).1 i := by
  obtain ⟨p1, p2, p3, p4, p5⟩ := pm_ok h3
  refine ⟨p5, ?_, ?_⟩
  · cases hi : (imsRes f i n).2 with
    | false => rw [ra_f hi] at h1; cases h1
    | true => exact (ims_ok hi).2.1
  · rw [p4] at h3 ⊢
    exact back_of (Prod.ext h2 h1) h3
theorem rmRes_len (f : List Pt) (i : Iv) (n : Int) : (rmRes f i n).1.length ≤ 12 := by
  unfold rmRes
  split
  · split
    · unfold rmR
      cases h : (fnR (!rmG (pmRes f n).1 i (rmN (pmRes f n).1 i)) (rmL (pmRes f n).1 i (rmN (pmRes f n).1 i))).2 with
      | false => rw [fn_bad h]; exact Nat.zero_le _
      | true => obtain ⟨_, _, h3, h4⟩ := fn_t h; rw [h4]; exact (mapOk_iff.1 h3).1.2
    · exact Nat.zero_le _
  · exact Nat.zero_le _
end Go.Vx
namespace Go.Vx
open Go Go.Proofs
set_option maxRecDepth 100000
set_option linter.unusedSimpArgs false
set_option linter.unusedVariables false

theorem cond_and (P Q : Bool) : (bif P then Q else false) = (P && Q) := by cases P <;> rfl
theorem sl_all {h : List Pt} (hm : mapOk h = true) : ((slL h (h.length - 1)).any fun s => decide (s.num ≤ 0)) = !risR (h.map Pt.y) := by
  obtain ⟨m1, m2, m3, m4, m5⟩ := mapOk_iff.1 hm
  have key : ∀ i, i + 1 < h.length → (decide ((slR (getA zP h i) (getA zP h (i + 1))).num ≤ 0) = true ↔ ¬ ltR (getA zP h i).y (getA zP h (i + 1)).y) := fun i hi => by
    rw [decide_eq_true_eq, ← sl_pos (map_pt hm (by omega)) (map_pt hm hi) (m5 i hi)]; omega
  cases hr : risR (h.map Pt.y) with
  | true =>
    have hr := risR_iff.1 hr
    rw [List.length_map] at hr
    rw [List.any_eq_false.2]
    · rfl
    · intro x hx
      obtain ⟨i, hi, rfl⟩ := List.mem_map.1 hx
      have hi := List.mem_range.1 hi
      rw [(key i (by omega))]
      have := hr i (by omega)
      rw [getA_map Pt.y zP _ _ _ (by omega), getA_map Pt.y zP _ _ _ (by omega)] at this
      exact fun h => h this
  | false =>
    have : ¬ ∀ i, i + 1 < h.length → ltR (getA zP h i).y (getA zP h (i + 1)).y := by
      intro hall
      have : risR (h.map Pt.y) = true := risR_iff.2 (fun i hi => by
        rw [List.length_map] at hi
        rw [getA_map Pt.y zP _ _ _ (by omega), getA_map Pt.y zP _ _ _ (by omega)]; exact hall i hi)
      rw [hr] at this; cases this
    obtain ⟨i, hi⟩ := Classical.not_forall.1 this
    have hi1 : i + 1 < h.length := Classical.byContradiction fun h => hi (fun h2 => (h h2).elim)
    have hi2 : ¬ ltR (getA zP h i).y (getA zP h (i + 1)).y := fun h => hi (fun _ => h)
    rw [List.any_eq_true.2]
    · rfl
    · exact ⟨_, List.mem_map.2 ⟨i, List.mem_range.2 (by omega), rfl⟩, (key i hi1).2 hi2⟩
noncomputable def s_impl_isChange_1 : Sig := ⟨199, [.val .rat], [.val .bool], fun ((s : Rt), _) => ⟨[], (decide (s.num ≤ 0), ()), ()⟩⟩
theorem ok_impl_isChange_1 : GSpec Tryz.prog s_impl_isChange_1 := by
  refine fn_known tab_ok fol Known.nil (by decide) Tryz.func199 ?_
  rintro ⟨⟨(n : Int), (d : Int)⟩, ⟨⟩⟩ - -
  repeat' (first | with_reducible apply andAll_cons | with_reducible apply andAll_nil | (with_reducible apply Cf.mk; kernel_rfl) | apply And.intro | intro _ | exact True.intro | apply Lf.mk)
  all_goals rfl
noncomputable def s_impl_isChange : Sig := ⟨130, [.list .pt], [.val .bool], fun ((h : List Pt), _) => ⟨[], (chOk h, ()), ()⟩⟩
noncomputable def s_spec_cjGood : Sig := ⟨132, [.list .pt], [.val .bool], fun ((h : List Pt), _) => ⟨[], (chOk h, ()), ()⟩⟩
theorem ch_no0 {h : List Pt} (hm : mapOk h = false) : false = chOk h := by unfold chOk; rw [hm]; rfl
theorem ch_fin {h : List Pt} (hm : mapOk h = true) : (((mapOk h && eqRt (getA zP h (Int.toNat 0)).y ⟨0, 1⟩) && eqRt (getA zP h ((h.length : Int) - 1).toNat).y ⟨1, 1⟩) && !((slL h (h.length - 1)).any fun s => decide (s.num ≤ 0))) = chOk h := by
  have := (mapOk_iff.1 hm).1
  unfold chOk
  rw [sl_all hm, Bool.not_not, Bool.and_assoc, Bool.and_assoc, show ((h.length : Int) - 1).toNat = h.length - 1 by omega]
  rfl
theorem ch_noA {h : List Pt} (hA : (mapOk h && eqRt (getA zP h (Int.toNat 0)).y ⟨0, 1⟩) = false) : false = chOk h := by
  unfold chOk
  rw [← Bool.and_assoc]
  have hA : (mapOk h && eqRt (getA zP h 0).y ⟨0, 1⟩) = false := hA
  rw [hA]; rfl
theorem ch_noB {h : List Pt} (hm : mapOk h = true) (hA : ((mapOk h && eqRt (getA zP h (Int.toNat 0)).y ⟨0, 1⟩) && eqRt (getA zP h ((h.length : Int) - 1).toNat).y ⟨1, 1⟩) = false) : false = chOk h := by
  have := (mapOk_iff.1 hm).1
  unfold chOk
  rw [← Bool.and_assoc, ← Bool.and_assoc]
  rw [show ((h.length : Int) - 1).toNat = h.length - 1 by omega] at hA
  have hA : ((mapOk h && eqRt (getA zP h 0).y ⟨0, 1⟩) && eqRt (getA zP h (h.length - 1)).y ⟨1, 1⟩) = false := hA
  rw [hA]; rfl
theorem ok_impl_isChange : GSpec Tryz.prog s_impl_isChange := by
  refine fn_known tab_ok fol ((((((Known.nil.cons ok_impl_isMap (by kernel_rfl)).cons ok_impl_zero (by kernel_rfl)).cons ok_impl_oneRat (by kernel_rfl)).cons ok_impl_slopes (by kernel_rfl)).cons ok_lib_ContainsFuncRat (by kernel_rfl)).cons ok_impl_isChange_1 (by kernel_rfl)) (by decide) Tryz.func130 ?_
  rintro ⟨(h : List Pt), ⟨⟩⟩ ⟨hl, _⟩ -
  have hl : h.length ≤ 9223372036854775807 := hl
  repeat' (first | with_reducible apply andAll_cons | with_reducible apply andAll_nil | (with_reducible apply Cf.mk; kernel_rfl) | apply And.intro | intro _ | exact True.intro | apply Lf.mk)
  all_goals (try simp only [cond_and, List.drop_zero, List.take_length, Nat.zero_add] at *)
  all_goals first
    | omega
    | assumption
    | exact ch_no0 (by assumption)
    | contradiction
    | rfl
    | (have hm := (mapOk_iff.1 (by assumption : mapOk h = true)).1; omega)
    | (have hm := (mapOk_iff.1 (by assumption : mapOk h = true)).1; show Int.toNat 0 < _; simp; omega)
    | exact ch_noA (by assumption)
    | exact ch_noB (by assumption) (by assumption)
    | exact ch_fin (by assumption)
    | skip
theorem bL {P Q : Bool} (h : (bif !P then true else Q) = false) : Q = false := by revert h; cases P <;> cases Q <;> decide
theorem bL' {P Q : Bool} (h : (bif !P then true else Q) = true) (h2 : P = true) : Q = true := by revert h h2; cases P <;> cases Q <;> decide
theorem bM {X Q : Bool} (h : (bif X then true else !Q) = true) (h2 : X = false) : Q = false := by revert h h2; cases X <;> cases Q <;> decide
theorem bN {X Q : Bool} (h : (bif X then true else !Q) = false) : Q = true := by revert h; cases X <;> cases Q <;> decide
theorem ch_y0 {h : List Pt} (hm : mapOk h = true) (h2 : ((getA zP h (Int.toNat 0)).y.num != 0) = false) : (getA zP h 0).y = ⟨0, 1⟩ := by
  have h3 : (getA zP h 0).y.num = 0 := by simpa using h2
  have hl := (mapOk_iff.1 hm).1
  exact good_eq (coord_good (ptOk_iff.1 (map_pt hm (by omega))).2) good_zero (by rw [h3]; simp)
theorem ch_noy0 {h : List Pt} (h2 : ((getA zP h (Int.toNat 0)).y.num != 0) = true) : false = chOk h := by
  symm; rw [Bool.eq_false_iff]; intro hc
  have := (chOk_iff.1 hc).2.1
  have h3 : ((getA zP h 0).y.num != 0) = true := h2
  rw [this] at h3; cases h3
theorem ch_noyl {h : List Pt} (hm : mapOk h = true) (h2 : eqRt (getA zP h ((h.length : Int) - 1).toNat).y ⟨1, 1⟩ = false) : false = chOk h := by
  have hl := (mapOk_iff.1 hm).1
  symm; rw [Bool.eq_false_iff]; intro hc
  have := (chOk_iff.1 hc).2.2.1
  rw [show ((h.length : Int) - 1).toNat = h.length - 1 by omega, this] at h2
  cases h2
theorem ch_nolt {h : List Pt} {i : Nat} (hi : i + 1 < h.length) (h2 : ¬ ltR (getA zP h i).y (getA zP h (i + 1)).y) : false = chOk h := by
  symm; rw [Bool.eq_false_iff]; intro hc
  exact h2 ((chOk_iff.1 hc).2.2.2 i hi)
theorem ch_yes {h : List Pt} (hm : mapOk h = true) (h0 : (getA zP h 0).y = ⟨0, 1⟩) (h1 : eqRt (getA zP h ((h.length : Int) - 1).toNat).y ⟨1, 1⟩ = true) (h2 : ∀ i, i + 1 < h.length → ltR (getA zP h i).y (getA zP h (i + 1)).y) : true = chOk h := by
  have hl := (mapOk_iff.1 hm).1
  symm
  rw [show ((h.length : Int) - 1).toNat = h.length - 1 by omega] at h1
  exact chOk_iff.2 ⟨hm, h0, of_decide_eq_true h1, h2⟩
theorem ge_nlt {a b : Rt} (h : 0 ≤ cmpRt a b) : ¬ ltR a b := fun h2 => by have := cmpRt_neg.2 h2; omega
theorem nge_lt {a b : Rt} (h : ¬ 0 ≤ cmpRt a b) : ltR a b := cmpRt_neg.1 (by omega)
theorem ok_spec_cjGood : GSpec Tryz.prog s_spec_cjGood := by
  refine fn_known tab_ok fol (((Known.nil.cons ok_spec_imGood (by kernel_rfl)).cons ok_spec_raCmp (by kernel_rfl)).cons ok_spec_raInt (by kernel_rfl)) (by decide) Tryz.func132 ?_
  rintro ⟨(h : List Pt), ⟨⟩⟩ ⟨hl, _⟩ -
  have hl : h.length ≤ 9223372036854775807 := hl
  repeat' (first | with_reducible apply andAll_cons | with_reducible apply andAll_nil | (with_reducible apply Cf.mk; kernel_rfl) | apply And.intro | intro _ | exact True.intro | apply Lf.mk)
  all_goals (try simp only [Bool.not_eq_true', Bool.not_eq_false', Bool.not_not, decide_eq_true_eq, decide_eq_false_iff_not, beq_iff_eq, bne_iff_ne, beq_eq_false_iff_ne, bne_eq_false_iff_eq, ne_eq, Bool.and_eq_true, Bool.and_eq_false_iff, Bool.or_eq_true, Bool.or_eq_false_iff, Int.toNat_natCast, Nat.zero_add, Int.ofNat_lt, Int.ofNat_le, List.length_cons, List.length_nil, List.drop_zero, List.take_length] at *)
  all_goals first
    | omega
    | contradiction
    | (exact absurd (by assumption : true = false) (by decide))
    | assumption
    | exact ch_no0 (by assumption)
    | (have hm := (mapOk_iff.1 (by assumption : mapOk h = true)).1; omega)
    | exact ch_noy0 (bL' (by assumption) (by assumption))
    | exact ch_noyl (by assumption) (bM (by assumption) (by assumption))
    | skip
  rename_i hm q1 q2
  have hb := (mapOk_iff.1 hm).1
  have y0 := ch_y0 hm (bL q1)
  have y1 := bN q2
  refine ⟨Nat, fun i => ⟨[(3, .sc (.num .i64 ((i : Int) + 1)))], [100000], []⟩, fun i => i + 1 ≤ h.length ∧ ∀ j, j < i → ltR (getA zP h j).y (getA zP h (j + 1)).y, fun i => h.length - i, ⟨0, ⟨by omega, fun j hj => by omega⟩, ?_⟩, ?_⟩
  · repeat' (first | apply And.intro | exact True.intro | exact Lf.mk (by with_reducible rfl) | apply Lf.mk)
    all_goals rfl
  · rintro i ⟨g1, g2⟩
    repeat' (first | with_reducible apply andAll_cons | with_reducible apply andAll_nil | (with_reducible apply Cf.mk; kernel_rfl) | apply And.intro | intro _ | exact True.intro | apply Lf.mk)
    all_goals (try simp only [Bool.not_eq_true', Bool.not_eq_false', Bool.not_not, decide_eq_true_eq, decide_eq_false_iff_not, beq_iff_eq, bne_iff_ne, beq_eq_false_iff_ne, bne_eq_false_iff_eq, ne_eq, Bool.and_eq_true, Bool.and_eq_false_iff, Bool.or_eq_true, Bool.or_eq_false_iff, Int.toNat_natCast, Nat.zero_add, Int.ofNat_lt, Int.ofNat_le, List.length_cons, List.length_nil, List.drop_zero, List.take_length] at *)
    all_goals (try simp only [show ((i : Int) + 1 - 1).toNat = i by omega, show ((i : Int) + 1).toNat = i + 1 by omega] at *)
    all_goals first
      | omega
      | exact coord_good (ptOk_iff.1 (map_pt hm (by omega))).2
      | skip
    · rename_i q3 q4
      exact ch_nolt (by omega) (ge_nlt q4)
    · rename_i q3 q4
      refine ⟨i + 1, ⟨by omega, fun j hj => ?_⟩, by omega, ?_⟩
      · rcases Nat.lt_or_eq_of_le (Nat.le_of_lt_succ hj) with h7 | h7
        · exact g2 j h7
        · rw [h7]; exact nge_lt q4
      · repeat' (first | apply And.intro | exact True.intro | exact Lf.mk (by with_reducible rfl) | apply Lf.mk)
        all_goals (rw [Int.natCast_add]; rfl)
    · exact ch_yes hm y0 y1 (fun j hj => g2 j (by omega))
noncomputable def s_impl_IsChange : Sig := ⟨64, [.list .pt], [.val .bool], fun ((h : List Pt), _) => ⟨[], (chOk h, ()), ()⟩⟩
theorem ok_impl_IsChange : GSpec Tryz.prog s_impl_IsChange := by
  refine fn_known tab_ok fol (Known.nil.cons ok_impl_isChange (by kernel_rfl)) (by decide) Tryz.func64 ?_
  rintro ⟨(h : List Pt), ⟨⟩⟩ - -
  repeat' (first | with_reducible apply andAll_cons | with_reducible apply andAll_nil | (with_reducible apply Cf.mk; kernel_rfl) | apply And.intro | intro _ | exact True.intro | apply Lf.mk)
  all_goals (try simp only [Bool.not_eq_true', Bool.not_eq_false', Bool.not_not, decide_eq_true_eq, decide_eq_false_iff_not, beq_iff_eq, bne_iff_ne, beq_eq_false_iff_ne, bne_eq_false_iff_eq, ne_eq, Bool.and_eq_true, Bool.and_eq_false_iff, Bool.or_eq_true, Bool.or_eq_false_iff, Int.toNat_natCast, Nat.zero_add, Int.ofNat_lt, Int.ofNat_le, List.length_cons, List.length_nil, List.drop_zero, List.take_length] at *)
noncomputable def s_impl_exchanged : Sig := ⟨134, [.list .pt], [.list 107 .pt], fun ((f : List Pt), _) => ⟨[f.length ≤ 1000000000], (exR f, ()), ()⟩⟩
noncomputable def s_spec_cjSwap : Sig := ⟨135, [.list .pt], [.list 107 .pt], fun ((f : List Pt), _) => ⟨[f.length ≤ 1000000000], (exR f, ()), ()⟩⟩
theorem ok_impl_exchanged : GSpec Tryz.prog s_impl_exchanged := by
  refine fn_known tab_ok fol Known.nil (by decide) Tryz.func134 ?_
  rintro ⟨(f : List Pt), ⟨⟩⟩ ⟨hl, _⟩ ⟨h1, _⟩
  refine ⟨Nat, fun i => ⟨[(8, .sc (.num .i64 i)), (3, .sc (.own 7777777))], [100000], [(7777777, .row 107 .pt (exR (f.take i)))]⟩, fun i => i ≤ f.length, fun i => f.length - i, ⟨0, Nat.zero_le _, ?_⟩, ?_⟩
  · repeat' (first | apply And.intro | exact True.intro | exact Lf.mk (by with_reducible rfl) | apply Lf.mk)
    all_goals first | rfl | simp
  · intro i g1
    have hm : (exR (f.take i)).length = i := by rw [exR_length]; simp; omega
    repeat' (first | with_reducible apply andAll_cons | with_reducible apply andAll_nil | (with_reducible apply Cf.mk; kernel_rfl) | apply And.intro | intro _ | exact True.intro | apply Lf.mk)
    all_goals simp only [hm] at *
    all_goals (try simp only [Bool.not_eq_true', Bool.not_eq_false', Bool.not_not, decide_eq_true_eq, decide_eq_false_iff_not, beq_iff_eq, bne_iff_ne, beq_eq_false_iff_ne, bne_eq_false_iff_eq, ne_eq, Bool.and_eq_true, Bool.and_eq_false_iff, Bool.or_eq_true, Bool.or_eq_false_iff, Int.toNat_natCast, Nat.zero_add, Int.ofNat_lt, Int.ofNat_le, List.length_cons, List.length_nil, List.drop_zero, List.take_length] at *)
    all_goals first | omega | (show (_ + 1) * 32 ≤ 140737488355328; omega) | skip
    · refine ⟨i + 1, by omega, by omega, ?_⟩
      repeat' (first | apply And.intro | exact True.intro | exact Lf.mk (by with_reducible rfl) | apply Lf.mk)
      all_goals first | (rw [Int.natCast_add]; rfl) | exact map_take_succ (fun p : Pt => (⟨p.y, p.x⟩ : Pt)) zP f i (by assumption)
    · rw [List.take_of_length_le (by omega)]
theorem ok_spec_cjSwap : GSpec Tryz.prog s_spec_cjSwap := by
  refine fn_known tab_ok fol Known.nil (by decide) Tryz.func135 ?_
  rintro ⟨(f : List Pt), ⟨⟩⟩ ⟨hl, _⟩ ⟨h1, _⟩
  refine ⟨Nat, fun i => ⟨[(8, .sc (.num .i64 i)), (3, .sc (.own 7777777))], [100000], [(7777777, .row 107 .pt (exR (f.take i)))]⟩, fun i => i ≤ f.length, fun i => f.length - i, ⟨0, Nat.zero_le _, ?_⟩, ?_⟩
  · repeat' (first | apply And.intro | exact True.intro | exact Lf.mk (by with_reducible rfl) | apply Lf.mk)
    all_goals first | rfl | simp
  · intro i g1
    have hm : (exR (f.take i)).length = i := by rw [exR_length]; simp; omega
    repeat' (first | with_reducible apply andAll_cons | with_reducible apply andAll_nil | (with_reducible apply Cf.mk; kernel_rfl) | apply And.intro | intro _ | exact True.intro | apply Lf.mk)
    all_goals simp only [hm] at *
    all_goals (try simp only [Bool.not_eq_true', Bool.not_eq_false', Bool.not_not, decide_eq_true_eq, decide_eq_false_iff_not, beq_iff_eq, bne_iff_ne, beq_eq_false_iff_ne, bne_eq_false_iff_eq, ne_eq, Bool.and_eq_true, Bool.and_eq_false_iff, Bool.or_eq_true, Bool.or_eq_false_iff, Int.toNat_natCast, Nat.zero_add, Int.ofNat_lt, Int.ofNat_le, List.length_cons, List.length_nil, List.drop_zero, List.take_length] at *)
    all_goals first | omega | (show (_ + 1) * 32 ≤ 140737488355328; omega) | skip
    · refine ⟨i + 1, by omega, by omega, ?_⟩
      repeat' (first | apply And.intro | exact True.intro | exact Lf.mk (by with_reducible rfl) | apply Lf.mk)
      all_goals first | (rw [Int.natCast_add]; rfl) | exact map_take_succ (fun p : Pt => (⟨p.y, p.x⟩ : Pt)) zP f i (by assumption)
    · rw [List.take_of_length_le (by omega)]
noncomputable def icRes (h : List Pt) : List Pt × Bool := match chOk h with
  | true => (exR h, true)
  | false => ([], false)
theorem ic_t {h : List Pt} (hc : chOk h = true) : icRes h = (exR h, true) := by unfold icRes; rw [hc]
theorem ic_f {h : List Pt} (hc : chOk h = false) : icRes h = ([], false) := by unfold icRes; rw [hc]
theorem ch_len {h : List Pt} (hc : chOk h = true) : 2 ≤ h.length ∧ h.length ≤ 12 := (mapOk_iff.1 (chOk_iff.1 hc).1).1
theorem ic_len (h : List Pt) : (icRes h).1.length ≤ 12 := by
  cases hc : chOk h with
  | false => rw [ic_f hc]; exact Nat.zero_le _
  | true => rw [ic_t hc]; have := ch_len hc; dsimp only; rw [exR_length]; omega
noncomputable def s_impl_InverseChange : Sig := ⟨55, [.list .pt], [.list 107 .pt, .val .bool], fun ((h : List Pt), _) => ⟨[], ((icRes h).1, (icRes h).2, ()), ()⟩⟩
noncomputable def s_spec_InverseChange : Sig := ⟨56, [.list .pt], [.list 107 .pt, .val .bool], fun ((h : List Pt), _) => ⟨[], ((icRes h).1, (icRes h).2, ()), ()⟩⟩
theorem ok_impl_InverseChange : GSpec Tryz.prog s_impl_InverseChange := by
  refine fn_known tab_ok fol ((Known.nil.cons ok_impl_isChange (by kernel_rfl)).cons ok_impl_exchanged (by kernel_rfl)) (by decide) Tryz.func55 ?_
  rintro ⟨(h : List Pt), ⟨⟩⟩ - -
  repeat' (first | with_reducible apply andAll_cons | with_reducible apply andAll_nil | (with_reducible apply Cf.mk; kernel_rfl) | apply And.intro | intro _ | exact True.intro | apply Lf.mk)
  all_goals (try simp only [Bool.not_eq_true', Bool.not_eq_false', Bool.not_not, decide_eq_true_eq, decide_eq_false_iff_not, beq_iff_eq, bne_iff_ne, beq_eq_false_iff_ne, bne_eq_false_iff_eq, ne_eq, Bool.and_eq_true, Bool.and_eq_false_iff, Bool.or_eq_true, Bool.or_eq_false_iff, Int.toNat_natCast, Nat.zero_add, Int.ofNat_lt, Int.ofNat_le, List.length_cons, List.length_nil, List.drop_zero, List.take_length] at *)
  all_goals first | (rw [ic_f (by assumption)]; done) | (rw [ic_t (by assumption)]; done) | (have := ch_len (by assumption); omega) | skip
theorem ok_spec_InverseChange : GSpec Tryz.prog s_spec_InverseChange := by
  refine fn_known tab_ok fol ((Known.nil.cons ok_spec_cjGood (by kernel_rfl)).cons ok_spec_cjSwap (by kernel_rfl)) (by decide) Tryz.func56 ?_
  rintro ⟨(h : List Pt), ⟨⟩⟩ - -
  repeat' (first | with_reducible apply andAll_cons | with_reducible apply andAll_nil | (with_reducible apply Cf.mk; kernel_rfl) | apply And.intro | intro _ | exact True.intro | apply Lf.mk)
  all_goals (try simp only [Bool.not_eq_true', Bool.not_eq_false', Bool.not_not, decide_eq_true_eq, decide_eq_false_iff_not, beq_iff_eq, bne_iff_ne, beq_eq_false_iff_ne, bne_eq_false_iff_eq, ne_eq, Bool.and_eq_true, Bool.and_eq_false_iff, Bool.or_eq_true, Bool.or_eq_false_iff, Int.toNat_natCast, Nat.zero_add, Int.ofNat_lt, Int.ofNat_le, List.length_cons, List.length_nil, List.drop_zero, List.take_length] at *)
  all_goals first | (rw [ic_f (by assumption)]; done) | (rw [ic_t (by assumption)]; done) | (have := ch_len (by assumption); omega) | skip
noncomputable def s_calc_back : Sig := ⟨200, [.cell cT .bool, .val .pt, .val .pt, .val .rat], [.val .rat], fun ((c : Bool), (p : Pt), (q : Pt), (y : Rt), _) => ⟨[ptOk p = true, ptOk q = true, ltR p.x q.x, goodRt y = true], (backO p (slR p q) y, ()), (c || !(backR p (slR p q) y).2, ())⟩⟩
theorem ok_calc_back : GSpec Tryz.prog s_calc_back := by
  refine fn_known tab_ok fol ((((Known.nil.cons ok_calc_sub (by kernel_rfl)).cons ok_calc_slope (by kernel_rfl)).cons ok_calc_div (by kernel_rfl)).cons ok_calc_add (by kernel_rfl)) (by decide) Tryz.func200 ?_
  rintro ⟨(c : Bool), ⟨⟨(n : Int), (d : Int)⟩, ⟨(m : Int), (e : Int)⟩⟩, ⟨⟨(n' : Int), (d' : Int)⟩, ⟨(m' : Int), (e' : Int)⟩⟩, ⟨(n2 : Int), (d2 : Int)⟩, ⟨⟩⟩ - ⟨h1, h2, h3, h4, _⟩
  obtain ⟨s1, s2, s3⟩ := slR_ok h1 h2 h3
  have hp := ptOk_iff.1 h1
  have g1 := coord_good hp.1
  have g2 := coord_good hp.2
  have hf := back_flag c ⟨⟨n, d⟩, ⟨m, e⟩⟩ (slR ⟨⟨n, d⟩, ⟨m, e⟩⟩ ⟨⟨n', d'⟩, ⟨m', e'⟩⟩) ⟨n2, d2⟩
  dsimp only at *
  repeat' (first | with_reducible apply andAll_cons | with_reducible apply andAll_nil | (with_reducible apply Cf.mk; kernel_rfl) | apply And.intro | intro _ | exact True.intro | apply Lf.mk)
  all_goals first | assumption | exact opR_good | exact hf | rfl | skip
noncomputable def s_spec_imBack : Sig := ⟨201, [.val .pt, .val .pt, .val .rat], [.val .rat, .val .bool], fun ((p : Pt), (q : Pt), (y : Rt), _) => ⟨[ptOk p = true, ptOk q = true, ltR p.x q.x, goodRt y = true], ((backR p (slR p q) y).1, (backR p (slR p q) y).2, ()), ()⟩⟩
theorem ok_spec_imBack : GSpec Tryz.prog s_spec_imBack := by
  refine fn_known tab_ok fol ((((Known.nil.cons ok_spec_raSub (by kernel_rfl)).cons ok_spec_imSlope (by kernel_rfl)).cons ok_spec_raDiv (by kernel_rfl)).cons ok_spec_raAdd (by kernel_rfl)) (by decide) Tryz.func201 ?_
  rintro ⟨⟨⟨(n : Int), (d : Int)⟩, ⟨(m : Int), (e : Int)⟩⟩, ⟨⟨(n' : Int), (d' : Int)⟩, ⟨(m' : Int), (e' : Int)⟩⟩, ⟨(n2 : Int), (d2 : Int)⟩, ⟨⟩⟩ - ⟨h1, h2, h3, h4, _⟩
  obtain ⟨s1, s2, s3⟩ := slR_ok h1 h2 h3
  have hp := ptOk_iff.1 h1
  have g1 := ok_good (coord_good hp.1)
  have g2 := ok_good (coord_good hp.2)
  have g3 := ok_good h4
  have g4 := ok_good s2
  dsimp only at *
  repeat' (first | with_reducible apply andAll_cons | with_reducible apply andAll_nil | (with_reducible apply Cf.mk; kernel_rfl) | apply And.intro | intro _ | exact True.intro | apply Lf.mk)
  all_goals (try simp only [Bool.not_eq_true', Bool.not_eq_false', Bool.not_not, decide_eq_true_eq, decide_eq_false_iff_not, beq_iff_eq, bne_iff_ne, beq_eq_false_iff_ne, bne_eq_false_iff_eq, ne_eq, Bool.and_eq_true, Bool.and_eq_false_iff, Bool.or_eq_true, Bool.or_eq_false_iff, Int.toNat_natCast, Nat.zero_add, Int.ofNat_lt, Int.ofNat_le, List.length_cons, List.length_nil, List.drop_zero, List.take_length] at *)
  all_goals first | assumption | exact lowRt_ok | skip
  · rename_i q1; exact congrArg Prod.fst (backR_1 (p := ⟨⟨n, d⟩, ⟨m, e⟩⟩) (s := slR ⟨⟨n, d⟩, ⟨m, e⟩⟩ ⟨⟨n', d'⟩, ⟨m', e'⟩⟩) (y := ⟨n2, d2⟩) q1).symm
  · rename_i q1; exact congrArg Prod.snd (backR_1 (p := ⟨⟨n, d⟩, ⟨m, e⟩⟩) (s := slR ⟨⟨n, d⟩, ⟨m, e⟩⟩ ⟨⟨n', d'⟩, ⟨m', e'⟩⟩) (y := ⟨n2, d2⟩) q1).symm
  · rename_i q1 q2; exact congrArg Prod.fst (backR_2 (p := ⟨⟨n, d⟩, ⟨m, e⟩⟩) (s := slR ⟨⟨n, d⟩, ⟨m, e⟩⟩ ⟨⟨n', d'⟩, ⟨m', e'⟩⟩) (y := ⟨n2, d2⟩) q1 q2).symm
  · rename_i q1 q2; exact congrArg Prod.snd (backR_2 (p := ⟨⟨n, d⟩, ⟨m, e⟩⟩) (s := slR ⟨⟨n, d⟩, ⟨m, e⟩⟩ ⟨⟨n', d'⟩, ⟨m', e'⟩⟩) (y := ⟨n2, d2⟩) q1 q2).symm
  · rename_i q1 q2; exact congrArg Prod.fst (backR_3 (p := ⟨⟨n, d⟩, ⟨m, e⟩⟩) (s := slR ⟨⟨n, d⟩, ⟨m, e⟩⟩ ⟨⟨n', d'⟩, ⟨m', e'⟩⟩) (y := ⟨n2, d2⟩) q1 q2).symm
  · rename_i q1 q2; exact congrArg Prod.snd (backR_3 (p := ⟨⟨n, d⟩, ⟨m, e⟩⟩) (s := slR ⟨⟨n, d⟩, ⟨m, e⟩⟩ ⟨⟨n', d'⟩, ⟨m', e'⟩⟩) (y := ⟨n2, d2⟩) q1 q2).symm
noncomputable def s_calc_changeBack : Sig := ⟨131, [.cell cT .bool, .list .pt, .val .rat], [.val .rat], fun ((c : Bool), (h : List Pt), (y : Rt), _) => ⟨[chOk h = true, unitRt y = true], (chO h y, ()), (c || !(chB h y).2, ())⟩⟩
theorem ok_calc_changeBack : GSpec Tryz.prog s_calc_changeBack := by
  refine fn_known tab_ok fol (((Known.nil.cons ok_impl_exchanged (by kernel_rfl)).cons ok_impl_pieceAt (by kernel_rfl)).cons ok_calc_back (by kernel_rfl)) (by decide) Tryz.func131 ?_
  rintro ⟨(c : Bool), (h : List Pt), ⟨(n : Int), (d : Int)⟩, ⟨⟩⟩ ⟨hl, _⟩ ⟨h1, h2, _⟩
  obtain ⟨p1, p2, p3⟩ := ch_piece h1 h2
  obtain ⟨k1, k2, k3, k4⟩ := chOk_iff.1 h1
  obtain ⟨m1, m2, m3, m4, m5⟩ := mapOk_iff.1 k1
  have a1 := map_pt k1 (i := pcN (exR h) ⟨n, d⟩) (by omega)
  have a2 := map_pt k1 (i := pcN (exR h) ⟨n, d⟩ + 1) (by omega)
  have e1 : ∀ p ∈ exR h, goodRt p.x = true := fun p hp => coord_good (ptOk_iff.1 ((mapOk_iff.1 (ex_map h1)).2.1 p hp)).1
  repeat' (first | with_reducible apply andAll_cons | with_reducible apply andAll_nil | (with_reducible apply Cf.mk; kernel_rfl) | apply And.intro | intro _ | exact True.intro | apply Lf.mk)
  all_goals (try simp only [Bool.not_eq_true', Bool.not_eq_false', Bool.not_not, decide_eq_true_eq, decide_eq_false_iff_not, beq_iff_eq, bne_iff_ne, beq_eq_false_iff_ne, bne_eq_false_iff_eq, ne_eq, Bool.and_eq_true, Bool.and_eq_false_iff, Bool.or_eq_true, Bool.or_eq_false_iff, Int.toNat_natCast, Nat.zero_add, Int.ofNat_lt, Int.ofNat_le, List.length_cons, List.length_nil, List.drop_zero, List.take_length] at *)
  all_goals (try simp only [Int.toNat_natCast, succ_nat] at *)
  all_goals first | omega | assumption | exact e1 _ (by assumption) | exact unit_good h2 | exact m5 _ p1 | (unfold chO; rfl) | (unfold chB; rfl) | rfl | skip
noncomputable def s_spec_cjBack : Sig := ⟨133, [.list .pt, .val .rat], [.val .rat, .val .bool], fun ((h : List Pt), (y : Rt), _) => ⟨[chOk h = true, unitRt y = true], ((chB h y).1, (chB h y).2, ()), ()⟩⟩
theorem one_nlt {y : Rt} (h : unitRt y = true) (h2 : ltR ⟨1, 1⟩ y) : False := by
  have h3 := unitRt_iff.1 h
  have h4 : (1 : Int) * y.den < y.num * 1 := h2
  omega
theorem ok_spec_cjBack : GSpec Tryz.prog s_spec_cjBack := by
  refine fn_known tab_ok fol ((Known.nil.cons ok_spec_raCmp (by kernel_rfl)).cons ok_spec_imBack (by kernel_rfl)) (by decide) Tryz.func133 ?_
  rintro ⟨(h : List Pt), ⟨(n : Int), (d : Int)⟩, ⟨⟩⟩ ⟨hl, _⟩ ⟨h1, h2, _⟩
  obtain ⟨k1, k2, k3, k4⟩ := chOk_iff.1 h1
  obtain ⟨m1, m2, m3, m4, m5⟩ := mapOk_iff.1 k1
  refine ⟨Nat, fun i => ⟨[(6, .sc (.num .i64 ((i : Int) + 1)))], [100000, 3, 4], []⟩, fun i => i + 1 < h.length ∧ ∀ j, 0 < j → j ≤ i → ltR (getA zP h j).y ⟨n, d⟩, fun i => h.length - i, ⟨0, ⟨by omega, fun j hj hj2 => by omega⟩, ?_⟩, ?_⟩
  · repeat' (first | apply And.intro | exact True.intro | exact Lf.mk (by with_reducible rfl) | apply Lf.mk)
    all_goals rfl
  · rintro i ⟨g1, g2⟩
    repeat' (first | with_reducible apply andAll_cons | with_reducible apply andAll_nil | (with_reducible apply Cf.mk; kernel_rfl) | apply And.intro | intro _ | exact True.intro | apply Lf.mk)
    all_goals (try simp only [Bool.not_eq_true', Bool.not_eq_false', Bool.not_not, decide_eq_true_eq, decide_eq_false_iff_not, beq_iff_eq, bne_iff_ne, beq_eq_false_iff_ne, bne_eq_false_iff_eq, ne_eq, Bool.and_eq_true, Bool.and_eq_false_iff, Bool.or_eq_true, Bool.or_eq_false_iff, Int.toNat_natCast, Nat.zero_add, Int.ofNat_lt, Int.ofNat_le, List.length_cons, List.length_nil, List.drop_zero, List.take_length] at *)
    all_goals (try simp only [show ((i : Int) + 1 - 1).toNat = i by omega, show ((i : Int) + 1).toNat = i + 1 by omega] at *)
    all_goals first
      | omega
      | exact unit_good h2
      | exact coord_good (ptOk_iff.1 (map_pt k1 (by omega))).2
      | exact map_pt k1 (by omega)
      | exact m5 i g1
      | skip
    · rename_i q1
      have q2 : ltR (getA zP h (i + 1)).y ⟨n, d⟩ := cmpRt_neg.1 q1
      have hi : i + 2 < h.length := by
        rcases Nat.lt_or_ge (i + 2) h.length with h5 | h5
        · exact h5
        · rw [show i + 1 = h.length - 1 by omega, k3] at q2
          exact (one_nlt h2 q2).elim
      refine ⟨i + 1, ⟨by omega, fun j hj hj2 => ?_⟩, by omega, ?_⟩
      · rcases Nat.lt_or_eq_of_le hj2 with h7 | h7
        · exact g2 j hj (by omega)
        · rw [h7]; exact q2
      · repeat' (first | apply And.intro | exact True.intro | exact Lf.mk (by with_reducible rfl) | apply Lf.mk)
        all_goals (rw [Int.natCast_add]; rfl)
    all_goals
      have q2 : ¬ ltR (getA zP h (i + 1)).y ⟨n, d⟩ := fun h5 => (by assumption : ¬ cmpRt _ _ < 0) (cmpRt_neg.2 h5)
      have e : i = pcN (exR h) ⟨n, d⟩ := pc_uniq (ex_map h1) h2 (fun j hj hj2 => by rw [exR_get (by omega)]; exact g2 j hj hj2) (fun h5 => by rw [exR_get (by omega)] at h5; exact q2 h5.2) (by rw [exR_length]; exact g1)
      first
        | (unfold chB; rw [← e]; done)
        | (unfold chB; rw [← e]; rfl)
end Go.Vx
namespace Go.Proofs
open Go.Shelf
def Tryz.sortRat_ren : Go.Shelf.Ren := ⟨fun | 6 => 174 | 15 => 224 | 14 => 223 | 28 => 246 | 29 => 247 | 20 => 238 | 21 => 239 | 22 => 240 | 23 => 241 | 24 => 242 | 25 => 243 | 26 => 244 | 27 => 245 | 46 => 250 | 47 => 251 | 48 => 252 | 49 => 253 | 50 => 254 | 57 => 256 | n => n, fun | 22 => 42 | 24 => 26 | 25 => 105 | 3 => 3 | 39 => 172 | 0 => 0 | 53 => 183 | 55 => 91 | 4 => 4 | 46 => 177 | 45 => 176 | 50 => 40 | 5 => 5 | 9 => 9 | 66 => 187 | 70 => 191 | 76 => 193 | 77 => 194 | n => n, fun | n => n⟩
theorem Tryz.sortRat : Go.Proofs.SlLaysF0.n6 Tryz.prog Tryz.sortRat_ren := {
  mixed := by kernel_rfl,
  f6 := ⟨Tryz.f174.name, by decide, Tryz.func174.trans (congrArg some (by kernel_rfl))⟩,
  f14 := ⟨Tryz.f223.name, by decide, Tryz.func223.trans (congrArg some (by kernel_rfl))⟩,
  f15 := Tryz.func224.trans (congrArg some (by kernel_rfl)),
  f20 := ⟨Tryz.f238.name, by decide, Tryz.func238.trans (congrArg some (by kernel_rfl))⟩,
  f21 := ⟨Tryz.f239.name, by decide, Tryz.func239.trans (congrArg some (by kernel_rfl))⟩,
  f22 := ⟨Tryz.f240.name, by decide, Tryz.func240.trans (congrArg some (by kernel_rfl))⟩,
  f23 := ⟨Tryz.f241.name, by decide, Tryz.func241.trans (congrArg some (by kernel_rfl))⟩,
  f24 := ⟨Tryz.f242.name, by decide, Tryz.func242.trans (congrArg some (by kernel_rfl))⟩,
  f25 := ⟨Tryz.f243.name, by decide, Tryz.func243.trans (congrArg some (by kernel_rfl))⟩,
  f26 := ⟨Tryz.f244.name, by decide, Tryz.func244.trans (congrArg some (by kernel_rfl))⟩,
  f27 := ⟨Tryz.f245.name, by decide, Tryz.func245.trans (congrArg some (by kernel_rfl))⟩,
  f28 := Tryz.func246.trans (congrArg some (by kernel_rfl)),
  f29 := Tryz.func247.trans (congrArg some (by kernel_rfl)),
  f46 := ⟨Tryz.f250.name, by decide, Tryz.func250.trans (congrArg some (by kernel_rfl))⟩,
  f47 := Tryz.func251.trans (congrArg some (by kernel_rfl)),
  f48 := Tryz.func252.trans (congrArg some (by kernel_rfl)),
  f49 := ⟨Tryz.f253.name, by decide, Tryz.func253.trans (congrArg some (by kernel_rfl))⟩,
  f50 := ⟨Tryz.f254.name, by decide, Tryz.func254.trans (congrArg some (by kernel_rfl))⟩,
  f57 := ⟨Tryz.f256.name, by decide, Tryz.func256.trans (congrArg some (by kernel_rfl))⟩,
  t0 := Tryz.underlying0,
  a0 := Tryz.isAgg0,
  z0 := Tryz.sizeOf0,
  v0 := Tryz.zeroValue0,
  t3 := Tryz.underlying3,
  a3 := Tryz.isAgg3,
  z3 := Tryz.sizeOf3,
  v3 := Tryz.zeroValue3,
  t4 := Tryz.underlying4,
  a4 := Tryz.isAgg4,
  z4 := Tryz.sizeOf4,
  v4 := Tryz.zeroValue4,
  t5 := Tryz.underlying5,
  a5 := Tryz.isAgg5,
  z5 := Tryz.sizeOf5,
  v5 := Tryz.zeroValue5,
  t9 := Tryz.underlying9,
  a9 := Tryz.isAgg9,
  z9 := Tryz.sizeOf9,
  v9 := Tryz.zeroValue9,
  t22 := Tryz.underlying42,
  a22 := Tryz.isAgg42,
  z22 := Tryz.sizeOf42,
  v22 := Tryz.zeroValue42,
  t25 := Tryz.underlying105,
  a25 := Tryz.isAgg105,
  z25 := Tryz.sizeOf105,
  v25 := Tryz.zeroValue105,
  t39 := Tryz.underlying172,
  a39 := Tryz.isAgg172,
  z39 := Tryz.sizeOf172,
  v39 := Tryz.zeroValue172,
  t45 := Tryz.underlying176,
  a45 := Tryz.isAgg176,
  z45 := Tryz.sizeOf176,
  v45 := Tryz.zeroValue176,
  t46 := Tryz.underlying177,
  a46 := Tryz.isAgg177,
  z46 := Tryz.sizeOf177,
  v46 := Tryz.zeroValue177,
  t50 := Tryz.underlying40,
  a50 := Tryz.isAgg40,
  z50 := Tryz.sizeOf40,
  v50 := Tryz.zeroValue40,
  t53 := Tryz.underlying183,
  a53 := Tryz.isAgg183,
  z53 := Tryz.sizeOf183,
  v53 := Tryz.zeroValue183,
  t55 := Tryz.underlying91,
  a55 := Tryz.isAgg91,
  z55 := Tryz.sizeOf91,
  v55 := Tryz.zeroValue91,
  t66 := Tryz.underlying187,
  a66 := Tryz.isAgg187,
  z66 := Tryz.sizeOf187,
  v66 := Tryz.zeroValue187,
  t70 := Tryz.underlying191,
  a70 := Tryz.isAgg191,
  z70 := Tryz.sizeOf191,
  v70 := Tryz.zeroValue191,
  t76 := Tryz.underlying193,
  a76 := Tryz.isAgg193,
  z76 := Tryz.sizeOf193,
  v76 := Tryz.zeroValue193,
  t77 := Tryz.underlying194,
  a77 := Tryz.isAgg194,
  z77 := Tryz.sizeOf194,
  v77 := Tryz.zeroValue194 }
end Go.Proofs
