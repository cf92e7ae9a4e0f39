/- Conjugate maps: the program's function and the reference's. -/
import Derived.Test.YtjiafbjoijffjaaGreatPk22
import Derived.Test.YtjiafbjoijffjaaGreatPk24
import Derived.Test.YtjiafbjoijffjaaGreatPk19
import Derived.Test.YtjiafbjoijffjaaGreatPk20
namespace Go.Vx
open Go
set_option maxRecDepth 100000
set_option linter.unusedSimpArgs false
set_option linter.unusedVariables false

theorem iv_q {i : Iv} (hi : ivOk i = true) : goodRt i.a = true ∧ goodRt i.b = true ∧ qR i.a < qR i.b ∧ 0 ≤ qR i.a ∧ qR i.b ≤ 1 := by
  obtain ⟨h1, h2, h3⟩ := ivOk_iff.1 hi
  have g1 := unit_good h1
  have g2 := unit_good h2
  exact ⟨g1, g2, (q_lt g1 g2).1 h3, ((q_unit g1).1 h1).1, ((q_unit g2).1 h2).2⟩
/-- scaled out of an interval -/
noncomputable def sc (i : Iv) (t : Rat) : Rat := (t - qR i.a) / (qR i.b - qR i.a)
theorem sc_mul {i : Iv} (hi : ivOk i = true) (t : Rat) : sc i t * (qR i.b - qR i.a) = t - qR i.a := by
  have h := (iv_q hi).2.2.1
  have hw : qR i.b - qR i.a ≠ 0 := by grind
  unfold sc
  generalize qR i.b - qR i.a = w at *
  generalize t - qR i.a = u
  grind
theorem sc_uniq {i : Iv} (hi : ivOk i = true) {t u : Rat} (h : u * (qR i.b - qR i.a) = t - qR i.a) : u = sc i t :=
  r_cancel (c := qR i.b - qR i.a) (by have := (iv_q hi).2.2.1; grind) (by rw [h, sc_mul hi])
theorem sc_unit {i : Iv} (hi : ivOk i = true) {t : Rat} (h1 : qR i.a ≤ t) (h2 : t ≤ qR i.b) : 0 ≤ sc i t ∧ sc i t ≤ 1 := by
  have h := (iv_q hi).2.2.1
  have e := sc_mul hi t
  have q1 : 0 ≤ sc i t := r_prod (c := qR i.b - qR i.a) (by grind) (by grind)
  have q2 : 0 ≤ 1 - sc i t := r_prod (c := qR i.b - qR i.a) (by grind) (by grind)
  grind
theorem sc_lt {i : Iv} (hi : ivOk i = true) {t u : Rat} (h1 : t < u) : sc i t < sc i u := by
  have h := (iv_q hi).2.2.1
  have e1 := sc_mul hi t
  have e2 := sc_mul hi u
  by_cases hc : sc i u ≤ sc i t
  · have := Rat.mul_nonneg (show 0 ≤ sc i t - sc i u by grind) (show 0 ≤ qR i.b - qR i.a by grind)
    grind
  · grind
theorem aff_sc {i : Iv} (hi : ivOk i = true) {F : Rat → Rat} {a b : Rat} (h : Aff F a b) : Aff (fun t => sc i (F t)) a b := fun t h1 h2 => by
  have e := h t h1 h2
  have hw := (iv_q hi).2.2.1
  show (sc i (F t) - sc i (F a)) * (b - a) = (sc i (F b) - sc i (F a)) * (t - a)
  have e1 := sc_mul hi (F t)
  have e2 := sc_mul hi (F a)
  have e3 := sc_mul hi (F b)
  refine r_cancel (c := qR i.b - qR i.a) (by grind) ?_
  generalize sc i (F t) = x at *
  generalize sc i (F a) = y at *
  generalize sc i (F b) = z at *
  generalize hW : qR i.b - qR i.a = w at *
  have k1 : (x - y) * w = F t - F a := by grind
  have k2 : (z - y) * w = F b - F a := by grind
  have : (x - y) * (b - a) * w = ((x - y) * w) * (b - a) := by grind
  rw [this, k1, e, ← k2]
  grind
theorem scOut_q {i : Iv} {x : Rt} (hi : ivOk i = true) (hx : goodRt x = true) (h : (scOut i x).2 = true) : goodRt (scOut i x).1 = true ∧ qR (scOut i x).1 = sc i (qR x) := by
  obtain ⟨g1, g2, h3, _, _⟩ := iv_q hi
  cases h1 : (subRt x i.a).2 with
  | false => rw [scOut_1 h1] at h; cases h
  | true =>
    cases h2 : (subRt i.b i.a).2 with
    | false => rw [scOut_2 h2] at h; cases h
    | true =>
      rw [scOut_3 h1 h2] at h ⊢
      have k1 : goodRt (subRt x i.a).1 = true := lowRt_good1 h1
      have k2 : goodRt (subRt i.b i.a).1 = true := lowRt_good1 h2
      have hp := sub_num_pos g2 g1 h2 ((q_lt g1 g2).2 h3)
      have e := q_div k1 k2 (by omega) h
      refine ⟨lowRt_good1 h, sc_uniq hi ?_⟩
      rw [q_sub hx g1 h1, q_sub g2 g1 h2] at e
      exact e

/-! ### the places of a return map -/
def rmI (g : List Pt) (i : Iv) (k : Nat) : List Rt := bif inB' i.a i.b (getA zP g k) then [(getA zP g k).x] else []
@[irreducible] def rmRaw (g : List Pt) (i : Iv) (n : Nat) : List Rt := [i.a, i.b] ++ (List.range n).flatMap (rmI g i)
theorem rmRaw_zero (g : List Pt) (i : Iv) : rmRaw g i 0 = [i.a, i.b] := by unfold rmRaw; simp
theorem rmRaw_succ (g : List Pt) (i : Iv) (n : Nat) : rmRaw g i (n + 1) = rmRaw g i n ++ rmI g i n := by unfold rmRaw; rw [List.range_succ, List.flatMap_append, List.append_assoc]; simp
theorem rmRaw_t {g : List Pt} {i : Iv} {n : Nat} (h1 : lessRt i.a (getA zP g n).x = true) (h2 : lessRt (getA zP g n).x i.b = true) : rmRaw g i n ++ [(getA zP g n).x] = rmRaw g i (n + 1) := by
  rw [rmRaw_succ]; unfold rmI inB'; rw [h1, h2]; rfl
theorem rmRaw_f1 {g : List Pt} {i : Iv} {n : Nat} (h1 : lessRt i.a (getA zP g n).x = false) : rmRaw g i n = rmRaw g i (n + 1) := by
  rw [rmRaw_succ]; unfold rmI inB'; rw [h1]; simp
theorem rmRaw_f2 {g : List Pt} {i : Iv} {n : Nat} (h1 : lessRt (getA zP g n).x i.b = false) : rmRaw g i n = rmRaw g i (n + 1) := by
  rw [rmRaw_succ]; unfold rmI inB'; rw [h1]; simp
theorem rmRaw_len (g : List Pt) (i : Iv) : ∀ n, (rmRaw g i n).length ≤ 2 + n
  | 0 => by rw [rmRaw_zero]; simp
  | n + 1 => by
    have := rmRaw_len g i n
    have h : (rmI g i n).length ≤ 1 := by unfold rmI; cases inB' i.a i.b (getA zP g n) <;> simp
    rw [rmRaw_succ, List.length_append]; omega
theorem rmRaw_mem {g : List Pt} {i : Iv} {n : Nat} {x : Rt} : x ∈ rmRaw g i n ↔ (x = i.a ∨ x = i.b) ∨ ∃ k, k < n ∧ inB' i.a i.b (getA zP g k) = true ∧ x = (getA zP g k).x := by
  unfold rmRaw rmI
  simp only [List.mem_append, List.mem_cons, List.not_mem_nil, or_false, List.mem_flatMap, List.mem_range, mem_bif]
theorem rmRaw_gd {g : List Pt} {i : Iv} (hg : mapOk g = true) (hi : ivOk i = true) {n : Nat} (hn : n ≤ g.length) : Gd (rmRaw g i n) := fun x hx => by
  obtain ⟨g1, g2, _⟩ := iv_q hi
  rcases rmRaw_mem.1 hx with (rfl | rfl) | ⟨k, hk, _, rfl⟩
  · exact g1
  · exact g2
  · exact pt_gd hg (by omega)
@[irreducible] def rmO (g : List Pt) (i : Iv) : List Rt := putsL [] (rmRaw g i g.length)
theorem rmO_len {g : List Pt} (i : Iv) (hg : mapOk g = true) : (rmO g i).length ≤ 14 := by
  unfold rmO
  have l1 := (mapOk_iff.1 hg).1
  have h1 := putsL_len (rmRaw g i g.length) []
  have h2 := rmRaw_len g i g.length
  simp only [List.length_nil] at h1
  omega
theorem rmO_ss {g : List Pt} {i : Iv} (hg : mapOk g = true) (hi : ivOk i = true) : SS (rmO g i) := by unfold rmO; exact putsL_ss Gd.nil (rmRaw_gd hg hi (Nat.le_refl _)) SS.nil
theorem rmO_mem {g : List Pt} {i : Iv} {x : Rt} : x ∈ rmO g i ↔ (x = i.a ∨ x = i.b) ∨ ∃ k, k < g.length ∧ inB' i.a i.b (getA zP g k) = true ∧ x = (getA zP g k).x := by
  unfold rmO
  rw [putsL_mem, rmRaw_mem]
  constructor
  · rintro (h | h)
    · cases h
    · exact h
  · exact .inr
theorem rmO_bd {g : List Pt} {i : Iv} (hg : mapOk g = true) (hi : ivOk i = true) {x : Rt} (hx : x ∈ rmO g i) : unitRt x = true ∧ qR i.a ≤ qR x ∧ qR x ≤ qR i.b := by
  obtain ⟨g1, g2, h3, h4, h5⟩ := iv_q hi
  obtain ⟨u1, u2, _⟩ := ivOk_iff.1 hi
  rcases rmO_mem.1 hx with (rfl | rfl) | ⟨k, hk, hin, rfl⟩
  · exact ⟨u1, Rat.le_refl, Rat.le_of_lt h3⟩
  · exact ⟨u2, Rat.le_of_lt h3, Rat.le_refl⟩
  · unfold inB' lessRt at hin
    rw [Bool.and_eq_true, decide_eq_true_eq, decide_eq_true_eq] at hin
    have gx := pt_gd hg hk
    exact ⟨coord_unit (ptOk_iff.1 (map_pt hg hk)).1, Rat.le_of_lt ((q_lt g1 gx).1 hin.1), Rat.le_of_lt ((q_lt gx g2).1 hin.2)⟩
noncomputable abbrev rmN (g : List Pt) (i : Iv) : Nat := (rmO g i).length
theorem rm_two {g : List Pt} {i : Iv} (hi : ivOk i = true) : 2 ≤ rmN g i := by
  have h0 : i.a ∈ rmO g i := rmO_mem.2 (.inl (.inl rfl))
  have h1 : i.b ∈ rmO g i := rmO_mem.2 (.inl (.inr rfl))
  have h3 := (iv_q hi).2.2.1
  revert h0 h1
  show _ → _ → 2 ≤ (rmO g i).length
  generalize rmO g i = l
  intro h0 h1
  match l, h0, h1 with
  | [], h0, _ => cases h0
  | [x], h0, h1 =>
    rw [List.mem_singleton] at h0 h1
    rw [h0, h1] at h3
    grind
  | _ :: _ :: r, _, _ => simp
/-- between two places the map is a line -/
theorem rm_line {g : List Pt} {i : Iv} (hg : mapOk g = true) (hi : ivOk i = true) {k : Nat} (hk : k + 1 < rmN g i) : Aff (pv g) (qZ (rmO g i) k) (qZ (rmO g i) (k + 1)) := by
  have hs := rmO_ss hg hi
  have hz := ss_lt hs (Nat.lt_succ_self k) hk
  have m1 : getA zR (rmO g i) k ∈ rmO g i := getA_mem _ (Nat.lt_of_succ_lt hk)
  have m2 : getA zR (rmO g i) (k + 1) ∈ rmO g i := getA_mem _ hk
  obtain ⟨v1, a1, a2⟩ := rmO_bd hg hi m1
  obtain ⟨v2, b1, b2⟩ := rmO_bd hg hi m2
  have w1 := (q_unit (unit_good v1)).1 v1
  have w2 := (q_unit (unit_good v2)).1 v2
  obtain ⟨g1, g2, _⟩ := iv_q hi
  obtain ⟨j, hj, j1, j2⟩ := no_knot (map_2 hg) (a := qZ (rmO g i) k) (b := qZ (rmO g i) (k + 1)) (by rw [map_0 hg]; exact w1.1) hz (by rw [map_1 hg]; exact w2.2) (fun m hm hlt => by
    refine ss_none hs hk (x := (getA zP g m).x) (rmO_mem.2 (.inr ⟨m, hm, ?_, rfl⟩)) hlt
    have gx := pt_gd hg hm
    unfold inB' lessRt
    rw [Bool.and_eq_true, decide_eq_true_eq, decide_eq_true_eq]
    exact ⟨(q_lt g1 gx).2 (by have := hlt.1; show _ < qX g m; grind), (q_lt gx g2).2 (by have := hlt.2; show qX g m < _; grind)⟩)
  exact aff_piece (map_inc hg) hj j1 (Rat.le_of_lt hz) j2
/-! ### its points -/
@[irreducible] noncomputable def rmL (g : List Pt) (i : Iv) (n : Nat) : List Pt := (List.range n).map fun k => ⟨scO i (getA zR (rmO g i) k), scO i (vO g (getA zR (rmO g i) k))⟩
theorem rmL_zero (g : List Pt) (i : Iv) : rmL g i 0 = [] := by unfold rmL; rfl
theorem rmL_succ (g : List Pt) (i : Iv) (n : Nat) : rmL g i (n + 1) = rmL g i n ++ [⟨scO i (getA zR (rmO g i) n), scO i (vO g (getA zR (rmO g i) n))⟩] := by unfold rmL; rw [List.range_succ, List.map_append]; rfl
theorem rmL_len (g : List Pt) (i : Iv) (n : Nat) : (rmL g i n).length = n := by unfold rmL; simp
theorem rmL_get {g : List Pt} {i : Iv} {n k : Nat} (hk : k < n) : getA zP (rmL g i n) k = ⟨scO i (getA zR (rmO g i) k), scO i (vO g (getA zR (rmO g i) k))⟩ := by
  unfold rmL
  rw [getA_eq]; simp [List.getD, hk]
@[irreducible] noncomputable def rmG (g : List Pt) (i : Iv) (n : Nat) : Bool := (List.range n).all fun k => (scOut i (getA zR (rmO g i) k)).2 && ((vR g (getA zR (rmO g i) k)).2 && (scOut i (vO g (getA zR (rmO g i) k))).2)
theorem rmG_zero (g : List Pt) (i : Iv) : rmG g i 0 = true := by unfold rmG; rfl
theorem rmG_succ (g : List Pt) (i : Iv) (n : Nat) : rmG g i (n + 1) = (rmG g i n && ((scOut i (getA zR (rmO g i) n)).2 && ((vR g (getA zR (rmO g i) n)).2 && (scOut i (vO g (getA zR (rmO g i) n))).2))) := by unfold rmG; rw [List.range_succ, List.all_append]; simp
theorem rm_flag {g : List Pt} {i : Iv} {n : Nat} : (((!rmG g i n || !(scOut i (getA zR (rmO g i) n)).2) || !(vR g (getA zR (rmO g i) n)).2) || !(scOut i (vO g (getA zR (rmO g i) n))).2) = !rmG g i (n + 1) := by
  rw [rmG_succ]
  generalize rmG g i n = a
  generalize (scOut i (getA zR (rmO g i) n)).2 = b
  generalize (vR g (getA zR (rmO g i) n)).2 = c
  generalize (scOut i (vO g (getA zR (rmO g i) n))).2 = d
  cases a <;> cases b <;> cases c <;> cases d <;> rfl
theorem rmG_at {g : List Pt} {i : Iv} : ∀ {n : Nat}, rmG g i n = true → ∀ k, k < n → (scOut i (getA zR (rmO g i) k)).2 = true ∧ (vR g (getA zR (rmO g i) k)).2 = true ∧ (scOut i (vO g (getA zR (rmO g i) k))).2 = true
  | 0, _, k, hk => by omega
  | n + 1, hG, k, hk => by
    rw [rmG_succ, Bool.and_eq_true, Bool.and_eq_true, Bool.and_eq_true] at hG
    by_cases e : k = n
    · rw [e]; exact hG.2
    · exact rmG_at hG.1 k (by omega)
theorem rmG_f {g : List Pt} {i : Iv} {k n : Nat} (hk : k < n) (hb : ¬ ((scOut i (getA zR (rmO g i) k)).2 = true ∧ (vR g (getA zR (rmO g i) k)).2 = true ∧ (scOut i (vR g (getA zR (rmO g i) k)).1).2 = true)) : rmG g i n = false := by
  cases h : rmG g i n
  · rfl
  · obtain ⟨a, b, c⟩ := rmG_at h k hk
    rw [vO_t b] at c
    exact (hb ⟨a, b, c⟩).elim
noncomputable def rmR (g : List Pt) (i : Iv) : List Pt × Bool := fnR (!rmG g i (rmN g i)) (rmL g i (rmN g i))
/-- an interval that the map brings back -/
def Back (g : List Pt) (i : Iv) : Prop := ∀ t, qR i.a ≤ t → t ≤ qR i.b → qR i.a ≤ pv g t ∧ pv g t ≤ qR i.b
theorem rm_val {g : List Pt} {i : Iv} (hg : mapOk g = true) (hi : ivOk i = true) (hG : rmG g i (rmN g i) = true) {k : Nat} (hk : k < rmN g i) :
    goodRt (getA zP (rmL g i (rmN g i)) k).x = true ∧ goodRt (getA zP (rmL g i (rmN g i)) k).y = true ∧ qX (rmL g i (rmN g i)) k = sc i (qZ (rmO g i) k) ∧ qY (rmL g i (rmN g i)) k = sc i (pv g (qZ (rmO g i) k)) := by
  obtain ⟨o1, o2, o3⟩ := rmG_at hG k hk
  obtain ⟨u, _, _⟩ := rmO_bd hg hi (getA_mem zR (l := rmO g i) hk)
  unfold qX qY
  rw [rmL_get hk]
  dsimp only
  rw [scO_t o1, scO_t o3]
  rw [vO_t o2] at o3 ⊢
  obtain ⟨a1, a2⟩ := scOut_q hi (unit_good u) o1
  obtain ⟨b1, b2⟩ := scOut_q hi (vR_good hg u o2) o3
  exact ⟨a1, b1, a2, by rw [b2, vR_q hg u o2]⟩
theorem rm_units {g : List Pt} {i : Iv} (hg : mapOk g = true) (hi : ivOk i = true) (hB : Back g i) (hG : rmG g i (rmN g i) = true) : ∀ p ∈ rmL g i (rmN g i), unitRt p.x = true ∧ unitRt p.y = true := by
  intro p hp
  obtain ⟨k, hk, rfl⟩ := List.getElem_of_mem hp
  have hk2 := hk
  rw [rmL_len] at hk2
  obtain ⟨a1, a2, a3, a4⟩ := rm_val hg hi hG hk2
  obtain ⟨u, b1, b2⟩ := rmO_bd hg hi (getA_mem zR (l := rmO g i) hk2)
  rw [← getA_lt zP _ _ hk]
  obtain ⟨c1, c2⟩ := hB _ b1 b2
  exact ⟨(q_unit a1).2 (by have := sc_unit hi b1 b2; rw [← a3] at this; exact this), (q_unit a2).2 (by have := sc_unit hi c1 c2; rw [← a4] at this; exact this)⟩
theorem rm_rs {g : List Pt} {i : Iv} (hg : mapOk g = true) (hi : ivOk i = true) (hB : Back g i) (hG : rmG g i (rmN g i) = true) (ha : (rmL g i (rmN g i)).any bigP = false) : rsOk (rmL g i (rmN g i)) := by
  refine rsOk_iff.2 ⟨units_ok (rm_units hg hi hB hG) ha, fun k hk => ?_⟩
  rw [rmL_len] at hk
  obtain ⟨a1, _, a3, _⟩ := rm_val hg hi hG (Nat.lt_of_succ_lt hk)
  obtain ⟨b1, _, b3, _⟩ := rm_val hg hi hG hk
  refine (q_lt a1 b1).2 ?_
  show qX _ _ < qX _ _
  rw [a3, b3]
  exact sc_lt hi (ss_lt (rmO_ss hg hi) (Nat.lt_succ_self k) hk)
/-- **The return map's values.** -/
theorem rm_pv {g : List Pt} {i : Iv} (hg : mapOk g = true) (hi : ivOk i = true) (hB : Back g i) (h : (rmR g i).2 = true) : mapOk (rmR g i).1 = true ∧ ∀ t, qR i.a ≤ t → t ≤ qR i.b → pv (rmR g i).1 (sc i t) = sc i (pv g t) := by
  obtain ⟨h1, h2, h3, h4⟩ := fn_t (c := !rmG g i (rmN g i)) (l := rmL g i (rmN g i)) h
  have hG : rmG g i (rmN g i) = true := by simpa using h1
  unfold rmR
  rw [h4]
  refine ⟨h3, fun t t0 t1 => ?_⟩
  have hr := rm_rs hg hi hB hG h2
  have hl : 2 ≤ (rmL g i (rmN g i)).length := by rw [rmL_len]; exact rm_two hi
  have hs := rmO_ss hg hi
  obtain ⟨k, hk, k1, k2⟩ := ss_loc hs (rmO_mem.2 (.inl (.inl rfl))) (rmO_mem.2 (.inl (.inr rfl))) (iv_q hi).2.2.1 t0 t1
  have hz := ss_lt hs (Nat.lt_succ_self k) hk
  obtain ⟨_, _, a3, a4⟩ := rm_val hg hi hG (Nat.lt_of_succ_lt hk)
  obtain ⟨_, _, b3, b4⟩ := rm_val hg hi hG hk
  have key := interp (rs_inc hr) (z := qZ (rmO g i)) (φ := fun t => sc i t) (ψ := fun t => sc i (pv g t)) (by rw [rmL_len]; exact hk) hz a3 b3 a4 b4 (aff_sc hi (Aff.id _ _)) (aff_sc hi (rm_line hg hi hk)) k1 k2
  obtain ⟨j, j1, j2, j3, j4⟩ := key
  have le0 : qX (rmL g i (rmN g i)) 0 ≤ sc i t := by
    have := Inc.le (rs_inc hr) 0 j (by omega)
    rw [Nat.zero_add] at this
    exact Rat.le_trans this j2
  have le1 : sc i t ≤ qX (rmL g i (rmN g i)) ((rmL g i (rmN g i)).length - 1) := by
    have := Inc.le (rs_inc hr) (j + 1) ((rmL g i (rmN g i)).length - 1 - (j + 1)) (by omega)
    rw [show j + 1 + ((rmL g i (rmN g i)).length - 1 - (j + 1)) = (rmL g i (rmN g i)).length - 1 by omega] at this
    exact Rat.le_trans j3 this
  rw [sm_pv hr hl h3 le0 le1]
  exact pv_eq (rs_inc hr) ⟨j, j1, j2, j3, j4⟩
/-- an interval that returns is brought back by the power -/
theorem back_of {f : List Pt} {i : Iv} {n : Int} (hr : raRes f i n = (true, true)) (hp : (pwR f n.toNat).2 = true) : Back (pwR f n.toNat).1 i := by
  cases hi : (imsRes f i n).2 with
  | false => rw [ra_f hi] at hr; cases hr
  | true =>
    obtain ⟨h1, h2, h3, h4, h5, h6, h7, h8, h9⟩ := ims_ok hi
    rw [ra_t hi, h6] at hr
    dsimp only at hr
    rw [imgs_last h1 h2 _ h5] at hr
    have hl : liesR (imgs f i n.toNat).2.1 i = true := congrArg Prod.fst hr
    obtain ⟨g1, g2, w3, w4, w5⟩ := iv_q h2
    obtain ⟨k1, k2, _⟩ := iv_q (((imgs_inv h1 h2 _).1 h5).2.1)
    unfold liesR lessRt at hl
    rw [Bool.and_eq_true, Bool.not_eq_true', Bool.not_eq_true', decide_eq_false_iff_not, decide_eq_false_iff_not] at hl
    intro t t1 t2
    rw [(pw_pv h1 hp).2 t (by grind) (by grind)]
    obtain ⟨b1, b2⟩ := imgs_in h1 h2 t1 t2 n.toNat h5
    have c1 : qR i.a ≤ qR (imgs f i n.toNat).2.1.a := Rat.not_lt.1 fun hh => hl.1 ((q_lt k1 g1).2 hh)
    have c2 : qR (imgs f i n.toNat).2.1.b ≤ qR i.b := Rat.not_lt.1 fun hh => hl.2 ((q_lt g2 k2).2 hh)
    exact ⟨Rat.le_trans c1 b1, Rat.le_trans b2 c2⟩

/-! ### the results -/
noncomputable def pmRes (f : List Pt) (n : Int) : List Pt × Bool := match mapOk f && inB n 0 6 with
  | true => pwR f n.toNat
  | false => ([], false)
theorem pm_t {f : List Pt} {n : Int} (h1 : mapOk f = true) (h2 : inB n 0 6 = true) : pmRes f n = pwR f n.toNat := by unfold pmRes; rw [h1, h2]; rfl
theorem pm_f1 {f : List Pt} {n : Int} (h1 : mapOk f = false) : pmRes f n = ([], false) := by unfold pmRes; rw [h1]; rfl
theorem pm_f2 {f : List Pt} {n : Int} (h2 : inB n 0 6 = false) : pmRes f n = ([], false) := by unfold pmRes; rw [h2, Bool.and_false]
theorem pw_bad {f : List Pt} {n : Nat} (h : (pwR f n).2 = false) : pwR f n = ([], false) := by
  cases n with
  | zero => rw [pwR_zero] at h; cases h
  | succ n =>
    cases hn : (pwR f n).2 with
    | false => exact pwR_f hn
    | true =>
      rw [pwR_t hn] at h ⊢
      unfold cpR at h ⊢
      exact fn_bad h
theorem pw_stay {f : List Pt} {k : Nat} (h : (pwR f k).2 = false) : ∀ {n : Nat}, k ≤ n → pwR f n = ([], false)
  | n, hn => by
    induction n with
    | zero => rw [show k = 0 by omega, pwR_zero] at h; cases h
    | succ n ih =>
      rcases Nat.lt_or_eq_of_le hn with h1 | h1
      · have e := ih (by omega)
        exact pwR_f (by rw [e])
      · subst h1; exact pw_bad h
theorem pm_bad {f : List Pt} {n : Int} (h : (pmRes f n).2 = false) : pmRes f n = ([], false) := by
  unfold pmRes at h ⊢
  split at h
  · exact pw_bad h
  · rfl
theorem pm_ok {f : List Pt} {n : Int} (h : (pmRes f n).2 = true) : mapOk f = true ∧ 0 ≤ n ∧ n ≤ 6 ∧ pmRes f n = pwR f n.toNat ∧ mapOk (pmRes f n).1 = true := by
  cases h1 : mapOk f with
  | false => rw [pm_f1 h1] at h; cases h
  | true =>
    cases h2 : inB n 0 6 with
    | false => rw [pm_f2 h2] at h; cases h
    | true =>
      rw [pm_t h1 h2] at h ⊢
      unfold inB at h2
      simp only [Bool.and_eq_true, decide_eq_true_eq] at h2
      exact ⟨rfl, h2.1, h2.2, rfl, pw_map h1 h⟩
noncomputable def rmRes (f : List Pt) (i : Iv) (n : Int) : List Pt × Bool := match (raRes f i n).2 && (raRes f i n).1 with
  | true => match (pmRes f n).2 with
    | true => rmR (pmRes f n).1 i
    | false => ([], false)
  | false => ([], false)
theorem rm_f1 {f : List Pt} {i : Iv} {n : Int} (h : (raRes f i n).2 = false) : rmRes f i n = ([], false) := by unfold rmRes; rw [h]; rfl
theorem rm_f2 {f : List Pt} {i : Iv} {n : Int} (h : (raRes f i n).1 = false) : rmRes f i n = ([], false) := by unfold rmRes; rw [h, Bool.and_false]
theorem rm_f3 {f : List Pt} {i : Iv} {n : Int} (h : (pmRes f n).2 = false) : rmRes f i n = ([], false) := by
  unfold rmRes
  rw [h]
  cases (raRes f i n).2 && (raRes f i n).1 <;> rfl
theorem rm_t {f : List Pt} {i : Iv} {n : Int} (h1 : (raRes f i n).2 = true) (h2 : (raRes f i n).1 = true) (h3 : (pmRes f n).2 = true) : rmRes f i n = rmR (pmRes f n).1 i := by unfold rmRes; rw [h1, h2, h3]; rfl
theorem rm_back {f : List Pt} {i : Iv} {n : Int} (h1 : (raRes f i n).2 = true) (h2 : (raRes f i n).1 = true) (h3 : (pmRes f n).2 = true) : mapOk (pmRes f n).1 = true ∧ ivOk i = true ∧ Back (pmRes f n).1 i := by
  obtain ⟨p1, p2, p3, p4, p5⟩ := pm_ok h3
  refine ⟨p5, ?_, ?_⟩
  · cases hi : (imsRes f i n).2 with
    | false => rw [ra_f hi] at h1; cases h1
    | true => exact (ims_ok hi).2.1
  · rw [p4] at h3 ⊢
    exact back_of (Prod.ext h2 h1) h3
theorem rmRes_len (f : List Pt) (i : Iv) (n : Int) : (rmRes f i n).1.length ≤ 12 := by
  unfold rmRes
  split
  · split
    · unfold rmR
      cases h : (fnR (!rmG (pmRes f n).1 i (rmN (pmRes f n).1 i)) (rmL (pmRes f n).1 i (rmN (pmRes f n).1 i))).2 with
      | false => rw [fn_bad h]; exact Nat.zero_le _
      | true => obtain ⟨_, _, h3, h4⟩ := fn_t h; rw [h4]; exact (mapOk_iff.1 h3).1.2
    · exact Nat.zero_le _
  · exact Nat.zero_le _
end Go.Vx
namespace Go.Vx
open Go Go.Proofs
set_option maxRecDepth 100000
set_option linter.unusedSimpArgs false
set_option linter.unusedVariables false

noncomputable def s_impl_slopes_ : Sig := ⟨198, [.list .pt], [.list 26 .rat], fun ((f : List Pt), _) => ⟨[2 ≤ f.length, f.length ≤ 1000, rsOk f], (slL f (f.length - 1), ()), ()⟩⟩
theorem ok_impl_slopes_ : GSpec Tryz.prog s_impl_slopes_ := by
  refine fn_known tab_ok fol (Known.nil.cons ok_calc_slope (by kernel_rfl)) (by decide) Tryz.func198 ?_
  rintro ⟨(f : List Pt), ⟨⟩⟩ ⟨hl, _⟩ ⟨l1, l2, h1, _⟩
  have l1 : 2 ≤ f.length := l1
  have l2 : f.length ≤ 1000 := l2
  refine ⟨Nat, fun i => ⟨[(5, .sc (.num .i64 ((i : Int) + 1))), (4, .sc (.own 7777777))], [100000], [(7777777, .row 26 .rat (slL f i)), (3, .box cT [.bool false])]⟩, fun i => i + 1 ≤ f.length, fun i => f.length - i, ⟨0, by omega, ?_⟩, ?_⟩
  · repeat' (first | apply And.intro | exact True.intro | exact Lf.mk (by with_reducible rfl) | apply Lf.mk)
    all_goals first | rfl | simp
  · intro i g1
    have hm := slL_length f i
    repeat' (first | with_reducible apply andAll_cons | with_reducible apply andAll_nil | (with_reducible apply Cf.mk; kernel_rfl) | apply And.intro | intro _ | exact True.intro | apply Lf.mk)
    all_goals simp only [hm] at *
    all_goals (try simp only [Bool.not_eq_true', Bool.not_eq_false', Bool.not_not, decide_eq_true_eq, decide_eq_false_iff_not, beq_iff_eq, bne_iff_ne, beq_eq_false_iff_ne, bne_eq_false_iff_eq, ne_eq, Bool.and_eq_true, Bool.and_eq_false_iff, Bool.or_eq_true, Bool.or_eq_false_iff, Int.toNat_natCast, Nat.zero_add, Int.ofNat_lt, Int.ofNat_le, List.length_cons, List.length_nil, List.drop_zero, List.take_length] at *)
    all_goals (try simp only [show ((i : Int) + 1 - 1).toNat = i by omega, show ((i : Int) + 1).toNat = i + 1 by omega] at *)
    all_goals first
      | omega
      | exact rs_pt h1 (by omega)
      | exact rs_lt h1 (by omega)
      | (show (_ + 1) * 16 ≤ 140737488355328; omega)
      | (rw [show i = f.length - 1 by omega]; done)
      | skip
    refine ⟨i + 1, by omega, by omega, ?_⟩
    repeat' (first | apply And.intro | exact True.intro | exact Lf.mk (by with_reducible rfl) | apply Lf.mk)
    all_goals first | rfl | (rw [Int.natCast_add]; rfl) | exact slL_succ f i
noncomputable def s_impl_made_1 : Sig := ⟨227, [.val .pt], [.val .bool], fun ((p : Pt), _) => ⟨[], (bigP p, ()), ()⟩⟩
theorem ok_impl_made_1 : GSpec Tryz.prog s_impl_made_1 := by
  refine fn_known tab_ok fol Known.nil (by decide) Tryz.func227 ?_
  rintro ⟨⟨⟨(n : Int), (d : Int)⟩, ⟨(m : Int), (e : Int)⟩⟩, ⟨⟩⟩ - -
  repeat' (first | with_reducible apply andAll_cons | with_reducible apply andAll_nil | (with_reducible apply Cf.mk; kernel_rfl) | apply And.intro | intro _ | exact True.intro | apply Lf.mk)
  all_goals (try simp only [Bool.not_eq_true', Bool.not_eq_false', Bool.not_not, decide_eq_true_eq, decide_eq_false_iff_not, beq_iff_eq, bne_iff_ne, beq_eq_false_iff_ne, bne_eq_false_iff_eq, ne_eq, Bool.and_eq_true, Bool.and_eq_false_iff, Bool.or_eq_true, Bool.or_eq_false_iff, Int.toNat_natCast, Nat.zero_add, Int.ofNat_lt, Int.ofNat_le, List.length_cons, List.length_nil, List.drop_zero, List.take_length] at *)
  all_goals first | rfl | (simp [bigP, *]; done) | trace_state
theorem slL_get {f : List Pt} {n i : Nat} (hi : i < n) : getA zR (slL f n) i = slR (getA zP f i) (getA zP f (i + 1)) := by
  unfold slL
  rw [getA_eq]; simp [List.getD, hi]
noncomputable def s_impl_simple : Sig := ⟨228, [.list .pt], [.list 107 .pt], fun ((f : List Pt), _) => ⟨[2 ≤ f.length, f.length ≤ 1000, rsOk f], (smL f, ()), ()⟩⟩
theorem ok_impl_simple : GSpec Tryz.prog s_impl_simple := by
  refine fn_known tab_ok fol (Known.nil.cons ok_impl_slopes_ (by kernel_rfl)) (by decide) Tryz.func228 ?_
  rintro ⟨(f : List Pt), ⟨⟩⟩ ⟨hl, _⟩ ⟨l1, l2, h1, _⟩
  have l1 : 2 ≤ f.length := l1
  have l2 : f.length ≤ 1000 := l2
  have l3 := slL_length f (f.length - 1)
  repeat' (first | with_reducible apply andAll_cons | with_reducible apply andAll_nil | (with_reducible apply Cf.mk; kernel_rfl) | apply And.intro | intro _ | exact True.intro | apply Lf.mk)
  all_goals (try simp only [Bool.not_eq_true', Bool.not_eq_false', Bool.not_not, decide_eq_true_eq, decide_eq_false_iff_not, beq_iff_eq, bne_iff_ne, beq_eq_false_iff_ne, bne_eq_false_iff_eq, ne_eq, Bool.and_eq_true, Bool.and_eq_false_iff, Bool.or_eq_true, Bool.or_eq_false_iff, Int.toNat_natCast, Nat.zero_add, Int.ofNat_lt, Int.ofNat_le, List.length_cons, List.length_nil, List.drop_zero, List.take_length] at *)
  all_goals first | omega | exact h1 | skip
  refine ⟨Nat, fun i => ⟨[(5, .sc (.num .i64 ((i : Int) + 1))), (4, .sc (.own 7777777))], [100000, 200070], [(7777777, .row 107 .pt (smK f i))]⟩, fun i => i + 2 ≤ f.length, fun i => f.length - i, ⟨0, l1, ?_⟩, ?_⟩
  · have e := smK_zero f
    repeat' (first | apply And.intro | exact True.intro | exact Lf.mk (by with_reducible rfl) | apply Lf.mk)
    all_goals first | rfl | exact e.symm | trace_state
  · rintro i g1
    have g1 : i + 2 ≤ f.length := g1
    have q1 := smK_len f i
    have q2 := smK_succ f i
    have e1 : ((i : Int) + 1 - 1).toNat = i := by omega
    have e2 : ((i : Int) + 1).toNat = i + 1 := by omega
    have e3 : ((f.length : Int) - 1).toNat = f.length - 1 := by omega
    repeat' (first | with_reducible apply andAll_cons | with_reducible apply andAll_nil | (with_reducible apply Cf.mk; kernel_rfl) | apply And.intro | intro _ | exact True.intro | apply Lf.mk)
    all_goals (try simp only [e1, e2, e3] at *)
    all_goals (try simp only [Bool.not_eq_true', Bool.not_eq_false', Bool.not_not, decide_eq_true_eq, decide_eq_false_iff_not, beq_iff_eq, bne_iff_ne, beq_eq_false_iff_ne, bne_eq_false_iff_eq, ne_eq, Bool.and_eq_true, Bool.and_eq_false_iff, Bool.or_eq_true, Bool.or_eq_false_iff, Int.toNat_natCast, Nat.zero_add, Int.ofNat_lt, Int.ofNat_le, List.length_cons, List.length_nil, List.drop_zero, List.take_length] at *)
    all_goals first | omega | (show (_ + 1) * 32 ≤ 140737488355328; omega) | skip
    · rename_i h5 h6
      have h7 : eqRt (getA zR (slL f (f.length - 1)) i) (getA zR (slL f (f.length - 1)) (i + 1)) = false := h6
      rw [slL_get (by omega), slL_get (by omega)] at h7
      rw [smI_t (.inr (by rw [smT_succ, h7]; rfl))] at q2
      refine ⟨i + 1, by omega, by omega, ?_⟩
      repeat' (first | apply And.intro | exact True.intro | exact Lf.mk (by with_reducible rfl) | apply Lf.mk)
      all_goals first | rfl | exact q2.symm | (rw [Int.natCast_add]; rfl) | trace_state
    · rename_i h5 h6
      have h7 : eqRt (getA zR (slL f (f.length - 1)) i) (getA zR (slL f (f.length - 1)) (i + 1)) = true := h6
      rw [slL_get (by omega), slL_get (by omega)] at h7
      rw [smI_f (by omega) (by rw [smT_succ, h7]; rfl), List.append_nil] at q2
      refine ⟨i + 1, by omega, by omega, ?_⟩
      repeat' (first | apply And.intro | exact True.intro | exact Lf.mk (by with_reducible rfl) | apply Lf.mk)
      all_goals first | rfl | exact q2.symm | (rw [Int.natCast_add]; rfl) | trace_state
    · rw [smI_t (.inl (by omega))] at q2
      unfold smL
      rw [show f.length - 1 = i + 1 by omega]
      exact q2.symm
noncomputable def s_spec_imSimple : Sig := ⟨210, [.list .pt], [.list 107 .pt], fun ((f : List Pt), _) => ⟨[2 ≤ f.length, f.length ≤ 1000, rsOk f], (smL f, ()), ()⟩⟩
theorem ok_spec_imSimple : GSpec Tryz.prog s_spec_imSimple := by
  refine fn_known tab_ok fol (Known.nil.cons ok_spec_imSlope (by kernel_rfl)) (by decide) Tryz.func210 ?_
  rintro ⟨(f : List Pt), ⟨⟩⟩ ⟨hl, _⟩ ⟨l1, l2, h1, _⟩
  have l1 : 2 ≤ f.length := l1
  have l2 : f.length ≤ 1000 := l2
  repeat' (first | with_reducible apply andAll_cons | with_reducible apply andAll_nil | (with_reducible apply Cf.mk; kernel_rfl) | apply And.intro | intro _ | exact True.intro | apply Lf.mk)
  all_goals first | omega | skip
  refine ⟨Nat, fun i => ⟨[(4, .sc (.num .i64 ((i : Int) + 1))), (3, .sc (.own 7777777))], [100000], [(7777777, .row 107 .pt (smK f i))]⟩, fun i => i + 1 ≤ f.length, fun i => f.length - i, ⟨0, by omega, ?_⟩, ?_⟩
  · have e := smK_zero f
    repeat' (first | apply And.intro | exact True.intro | exact Lf.mk (by with_reducible rfl) | apply Lf.mk)
    all_goals first | rfl | exact e.symm | trace_state
  · rintro i g1
    have g1 : i + 1 ≤ f.length := g1
    have q1 := smK_len f i
    have q2 := smK_succ f i
    have e1 : ((i : Int) + 1 - 1).toNat = i := by omega
    have e2 : ((i : Int) + 1).toNat = i + 1 := by omega
    have e3 : ((i : Int) + 1 + 1).toNat = i + 1 + 1 := by omega
    repeat' (first | with_reducible apply andAll_cons | with_reducible apply andAll_nil | (with_reducible apply Cf.mk; kernel_rfl) | apply And.intro | intro _ | exact True.intro | apply Lf.mk)
    all_goals (try simp only [e1, e2, e3] at *)
    all_goals (try simp only [Bool.not_eq_true', Bool.not_eq_false', Bool.not_not, decide_eq_true_eq, decide_eq_false_iff_not, beq_iff_eq, bne_iff_ne, beq_eq_false_iff_ne, bne_eq_false_iff_eq, ne_eq, Bool.and_eq_true, Bool.and_eq_false_iff, Bool.or_eq_true, Bool.or_eq_false_iff, Int.toNat_natCast, Nat.zero_add, Int.ofNat_lt, Int.ofNat_le, List.length_cons, List.length_nil, List.drop_zero, List.take_length] at *)
    all_goals first | omega | exact rs_pt h1 (by omega) | exact rs_lt h1 (by omega) | (show (_ + 1) * 32 ≤ 140737488355328; omega) | skip
    · rename_i h4 h5 h6
      rw [beq_eq_false_iff_ne.2 h5, cond_false] at h6
      have h7 : smT f (i + 1) = true := h6
      rw [smI_t (.inr h7)] at q2
      refine ⟨i + 1, by omega, by omega, ?_⟩
      repeat' (first | apply And.intro | exact True.intro | exact Lf.mk (by with_reducible rfl) | apply Lf.mk)
      all_goals first | rfl | exact q2.symm | (rw [Int.natCast_add]; rfl) | trace_state
    · rename_i h4 h5 h6
      rw [beq_eq_false_iff_ne.2 h5, cond_false] at h6
      have h7 : smT f (i + 1) = false := h6
      rw [smI_f (by omega) h7, List.append_nil] at q2
      refine ⟨i + 1, by omega, by omega, ?_⟩
      repeat' (first | apply And.intro | exact True.intro | exact Lf.mk (by with_reducible rfl) | apply Lf.mk)
      all_goals first | rfl | exact q2.symm | (rw [Int.natCast_add]; rfl) | trace_state
    · rename_i h4 h5
      rw [smI_t (.inl (by omega))] at q2
      refine ⟨i + 1, by omega, by omega, ?_⟩
      repeat' (first | apply And.intro | exact True.intro | exact Lf.mk (by with_reducible rfl) | apply Lf.mk)
      all_goals first | rfl | exact q2.symm | (rw [Int.natCast_add]; rfl) | trace_state
    · exact absurd ‹true = false› Bool.noConfusion
    · unfold smL
      rw [show f.length - 1 = i by omega]
noncomputable def s_impl_made : Sig := ⟨180, [.list .pt], [.list 107 .pt, .val .bool], fun ((f : List Pt), _) => ⟨[2 ≤ f.length, f.length ≤ 1000, f.any bigP = false → rsOk f], ((mdR f).1, (mdR f).2, ()), ()⟩⟩
theorem ok_impl_made : GSpec Tryz.prog s_impl_made := by
  refine fn_known tab_ok fol ((((Known.nil.cons ok_lib_ContainsFuncPoint (by kernel_rfl)).cons ok_impl_made_1 (by kernel_rfl)).cons ok_impl_simple (by kernel_rfl)).cons ok_impl_isMap (by kernel_rfl)) (by decide) Tryz.func180 ?_
  rintro ⟨(f : List Pt), ⟨⟩⟩ ⟨hl, _⟩ ⟨l1, l2, h1, _⟩
  have l1 : 2 ≤ f.length := l1
  have l2 : f.length ≤ 1000 := l2
  have h1 : f.any bigP = false → rsOk f := h1
  repeat' (first | with_reducible apply andAll_cons | with_reducible apply andAll_nil | (with_reducible apply Cf.mk; kernel_rfl) | apply And.intro | intro _ | exact True.intro | apply Lf.mk)
  all_goals (try simp only [List.drop_zero, List.take_length] at *)
  all_goals (try simp only [Bool.not_eq_true', Bool.not_eq_false', Bool.not_not, decide_eq_true_eq, decide_eq_false_iff_not, beq_iff_eq, bne_iff_ne, beq_eq_false_iff_ne, bne_eq_false_iff_eq, ne_eq, Bool.and_eq_true, Bool.and_eq_false_iff, Bool.or_eq_true, Bool.or_eq_false_iff, Int.toNat_natCast, Nat.zero_add, Int.ofNat_lt, Int.ofNat_le, List.length_cons, List.length_nil, List.drop_zero, List.take_length] at *)
  all_goals first | omega | exact h1 (by assumption) | rfl | (rw [mdR_t (by assumption)]; done) | (rw [mdR_f (by assumption)]; done) | trivial | skip
  all_goals trace_state
noncomputable def s_calc_finish : Sig := ⟨105, [.cell cT .bool, .list .pt], [.list 107 .pt, .val .bool], fun ((c : Bool), (f : List Pt), _) => ⟨[2 ≤ f.length, f.length ≤ 1000, c = false → f.any bigP = false → rsOk f], ((fnR c f).1, (fnR c f).2, ()), (c, ())⟩⟩
theorem ok_calc_finish : GSpec Tryz.prog s_calc_finish := by
  refine fn_known tab_ok fol (Known.nil.cons ok_impl_made (by kernel_rfl)) (by decide) Tryz.func105 ?_
  rintro ⟨(c : Bool), (f : List Pt), ⟨⟩⟩ ⟨hl, _⟩ ⟨l1, l2, h1, _⟩
  have l1 : 2 ≤ f.length := l1
  have l2 : f.length ≤ 1000 := l2
  repeat' (first | with_reducible apply andAll_cons | with_reducible apply andAll_nil | (with_reducible apply Cf.mk; kernel_rfl) | apply And.intro | intro _ | exact True.intro | apply Lf.mk)
  all_goals (try simp only [Bool.not_eq_true', Bool.not_eq_false', Bool.not_not, decide_eq_true_eq, decide_eq_false_iff_not, beq_iff_eq, bne_iff_ne, beq_eq_false_iff_ne, bne_eq_false_iff_eq, ne_eq, Bool.and_eq_true, Bool.and_eq_false_iff, Bool.or_eq_true, Bool.or_eq_false_iff, Int.toNat_natCast, Nat.zero_add, Int.ofNat_lt, Int.ofNat_le, List.length_cons, List.length_nil, List.drop_zero, List.take_length] at *)
  all_goals first | omega | skip
  all_goals first
    | exact h1 (by assumption) (by assumption)
    | (rw [show c = true by assumption, fnR_c]; done)
    | (rw [fnR_f (by assumption)]; done)
    | (rw [fnR_t (by assumption) (by assumption)]; done)
    | trace_state
noncomputable def s_impl_ConjugateMap : Sig := ⟨61, [.list .pt, .list .pt], [.list 107 .pt, .val .bool], fun ((f : List Pt), (h : List Pt), _) => ⟨[], ((cmRes f h).1, (cmRes f h).2, ()), ()⟩⟩
theorem ok_impl_ConjugateMap : GSpec Tryz.prog s_impl_ConjugateMap := by
  refine fn_known tab_ok fol (((((Known.nil.cons ok_impl_isMap (by kernel_rfl)).cons ok_impl_isChange (by kernel_rfl)).cons ok_calc_bends (by kernel_rfl)).cons ok_calc_value (by kernel_rfl)).cons ok_calc_finish (by kernel_rfl)) (by decide) Tryz.func61 ?_
  rintro ⟨(f : List Pt), (h : List Pt), ⟨⟩⟩ ⟨hl, hl2, _⟩ -
  have c2 : chOk h = true → mapOk h = true := fun hc => (chOk_iff.1 hc).1
  repeat' (first | with_reducible apply andAll_cons | with_reducible apply andAll_nil | (with_reducible apply Cf.mk; kernel_rfl) | apply And.intro | intro _ | exact True.intro | apply Lf.mk)
  all_goals (try simp only [Bool.not_eq_true', Bool.not_eq_false', Bool.not_not, decide_eq_true_eq, decide_eq_false_iff_not, beq_iff_eq, bne_iff_ne, beq_eq_false_iff_ne, bne_eq_false_iff_eq, ne_eq, Bool.and_eq_true, Bool.and_eq_false_iff, Bool.or_eq_true, Bool.or_eq_false_iff, Int.toNat_natCast, Nat.zero_add, Int.ofNat_lt, Int.ofNat_le, List.length_cons, List.length_nil, List.drop_zero, List.take_length] at *)
  all_goals first | (rw [cmRes_f1 (by assumption)]; done) | (rw [cmRes_f2 (by assumption)]; done) | assumption | exact c2 (by assumption) | skip
  rename_i m1 m3
  have m4 := c2 m3
  have q0 := bdO_len m1 m4
  have q00 := bd_two m1 m4
  have q00 : 2 ≤ (bdO f h).length := q00
  refine ⟨Nat, fun i => ⟨[(22, .sc (.num .i64 i)), (7, .sc (.own 7777777))], [200200, 100000, 100001], [(6, .box cT [.bool (!cmG f h i)]), (7777777, .row 107 .pt (cmL f h i))]⟩, fun i => i ≤ (bdO f h).length, fun i => (bdO f h).length - i, ⟨0, Nat.zero_le _, ?_⟩, ?_⟩
  · have e1 := cmL_zero f h
    have e2 := cmG_zero f h
    repeat' (first | apply And.intro | exact True.intro | exact Lf.mk (by with_reducible rfl) | apply Lf.mk)
    all_goals first | rfl | exact e1.symm | (rw [e1]; rfl) | (rw [e2]; rfl) | (rw [e2, Bool.false_or]; done) | trace_state
  · rintro i g1
    have q1 : i < (bdO f h).length → unitRt (getA zR (bdO f h) i) = true := fun hi => bd_unitA m1 m4 (getA_mem _ hi)
    have q2 : i < (bdO f h).length → unitRt (vO f (getA zR (bdO f h) i)) = true := fun hi => vO_unit m1 (q1 hi)
    have q3 := cmL_len f h i
    have q4 := @cm_flag f h i
    have q5 := cmL_succ f h i
    repeat' (first | with_reducible apply andAll_cons | with_reducible apply andAll_nil | (with_reducible apply Cf.mk; kernel_rfl) | apply And.intro | intro _ | exact True.intro | apply Lf.mk)
    all_goals (try simp only [Bool.not_eq_true', Bool.not_eq_false', Bool.not_not, decide_eq_true_eq, decide_eq_false_iff_not, beq_iff_eq, bne_iff_ne, beq_eq_false_iff_ne, bne_eq_false_iff_eq, ne_eq, Bool.and_eq_true, Bool.and_eq_false_iff, Bool.or_eq_true, Bool.or_eq_false_iff, Int.toNat_natCast, Nat.zero_add, Int.ofNat_lt, Int.ofNat_le, List.length_cons, List.length_nil, List.drop_zero, List.take_length] at *)
    all_goals first | omega | exact m1 | exact m4 | exact q1 (by assumption) | exact q2 (by assumption) | (show (_ + 1) * 32 ≤ 140737488355328; omega) | skip
    · rename_i h5
      refine ⟨i + 1, Nat.succ_le_of_lt h5, Nat.sub_succ_lt_self _ _ h5, ?_⟩
      repeat' (first | apply And.intro | exact True.intro | exact Lf.mk (by with_reducible rfl) | apply Lf.mk)
      all_goals first | rfl | exact q4 | exact q5.symm | (rw [Int.natCast_add]; rfl) | trace_state
    all_goals (have e : i = cmN f h := Nat.le_antisymm g1 (Nat.not_lt.1 (by assumption)))
    all_goals subst e
    all_goals first
      | exact cm_rs' m1 m3 (by assumption) (by assumption)
      | (rw [fn_eq m1 m3, cmRes_t m1 m3]; done)
      | trace_state
noncomputable def s_spec_cjMap : Sig := ⟨146, [.list .pt, .list .pt], [.list 107 .pt, .val .bool], fun ((f : List Pt), (h : List Pt), _) => ⟨[mapOk f = true, chOk h = true], ((cmR f h).1, (cmR f h).2, ()), ()⟩⟩
theorem ok_spec_cjMap : GSpec Tryz.prog s_spec_cjMap := by
  refine fn_known tab_ok fol ((((((Known.nil.cons ok_spec_cjBreaks (by kernel_rfl)).cons ok_spec_imAt (by kernel_rfl)).cons ok_spec_cjTwice (by kernel_rfl)).cons ok_spec_imCoord (by kernel_rfl)).cons ok_spec_imSimple (by kernel_rfl)).cons ok_spec_imGood (by kernel_rfl)) (by decide) Tryz.func146 ?_
  rintro ⟨(f : List Pt), (h : List Pt), ⟨⟩⟩ ⟨hl, hl2, _⟩ ⟨m1, m3, _⟩
  have m4 := (chOk_iff.1 m3).1
  repeat' (first | with_reducible apply andAll_cons | with_reducible apply andAll_nil | (with_reducible apply Cf.mk; kernel_rfl) | apply And.intro | intro _ | exact True.intro | apply Lf.mk)
  all_goals (try simp only [Bool.not_eq_true', Bool.not_eq_false', Bool.not_not, decide_eq_true_eq, decide_eq_false_iff_not, beq_iff_eq, bne_iff_ne, beq_eq_false_iff_ne, bne_eq_false_iff_eq, ne_eq, Bool.and_eq_true, Bool.and_eq_false_iff, Bool.or_eq_true, Bool.or_eq_false_iff, Int.toNat_natCast, Nat.zero_add, Int.ofNat_lt, Int.ofNat_le, List.length_cons, List.length_nil, List.drop_zero, List.take_length] at *)
  all_goals first | exact m1 | exact m4 | (rw [cmR_f (cmK_f0 (by rw [← bdR_2]; assumption))]; done) | skip
  rename_i h0
  have h2 : bdG f h = true := by rw [← bdR_2]; exact h0
  have h3 : (bdR f h).1 = bdO f h := by rw [bdR_t h2]
  have q0 := bdO_len m1 m4
  have q00 := bd_two m1 m4
  have q00 : 2 ≤ (bdO f h).length := q00
  have q01 : (bdR f h).1.length = (bdO f h).length := by rw [h3]
  have hu : ∀ x ∈ (bdR f h).1, unitRt x = true := fun x hx => by rw [h3] at hx; exact bd_unitA m1 m4 hx
  refine ⟨Nat, fun i => ⟨[(25, .sc (.num .i64 i)), (8, .sc (.own 7777777))], [200180, 100000, 100001], [(7777777, .row 107 .pt (cmL f h i))]⟩, fun i => i ≤ (bdR f h).1.length ∧ cmK f h i = true, fun i => (bdR f h).1.length - i, ⟨0, ⟨Nat.zero_le _, cmK_zero h2⟩, ?_⟩, ?_⟩
  · have e1 := cmL_zero f h
    repeat' (first | apply And.intro | exact True.intro | exact Lf.mk (by with_reducible rfl) | apply Lf.mk)
    all_goals first | rfl | exact e1.symm | (rw [e1]; rfl) | trace_state
  · rintro i ⟨g1, g2⟩
    have q1 : i < (bdR f h).1.length → unitRt (getA zR (bdR f h).1 i) = true := fun hi => hu _ (getA_mem _ hi)
    have q2 : unitRt (getA zR (bdR f h).1 i) = true → (vR h (getA zR (bdR f h).1 i)).2 = true → goodRt (vR h (getA zR (bdR f h).1 i)).1 = true := fun a b => vR_good m4 a b
    have q3 := cmL_len f h i
    repeat' (first | with_reducible apply andAll_cons | with_reducible apply andAll_nil | (with_reducible apply Cf.mk; kernel_rfl) | apply And.intro | intro _ | exact True.intro | apply Lf.mk)
    all_goals (try simp only [Bool.not_eq_true', Bool.not_eq_false', Bool.not_not, decide_eq_true_eq, decide_eq_false_iff_not, beq_iff_eq, bne_iff_ne, beq_eq_false_iff_ne, bne_eq_false_iff_eq, ne_eq, Bool.and_eq_true, Bool.and_eq_false_iff, Bool.or_eq_true, Bool.or_eq_false_iff, Int.toNat_natCast, Nat.zero_add, Int.ofNat_lt, Int.ofNat_le, List.length_cons, List.length_nil, List.drop_zero, List.take_length] at *)
    all_goals first | omega | exact m1 | exact m4 | exact q1 (by assumption) | (show (_ + 1) * 32 ≤ 140737488355328; omega) | skip
    all_goals (try have hlt : i < cmN f h := Nat.lt_of_lt_of_eq (show i < (bdR f h).1.length by assumption) q01)
    all_goals first
      | (have hb : (vR h (getA zR (bdR f h).1 i)).2 = false := by assumption
         rw [h3] at hb
         rw [cmR_f (cmK_f (i := i) (n := cmN f h) hlt (fun hh => by have hh2 := hh.1; rw [hb] at hh2; cases hh2))]
         done)
      | (have hb : (twR f h (getA zR (bdR f h).1 i)).2 = false := by assumption
         rw [h3] at hb
         rw [cmR_f (cmK_f (i := i) (n := cmN f h) hlt (fun hh => by have hh2 := hh.2.1; rw [hb] at hh2; cases hh2))]
         done)
      | (have hb : coordRt (vR h (getA zR (bdR f h).1 i)).1 = false := by assumption
         rw [h3] at hb
         rw [cmR_f (cmK_f (i := i) (n := cmN f h) hlt (fun hh => by have hh2 := hh.2.2.1; rw [hb] at hh2; cases hh2))]
         done)
      | (have hb : coordRt (twR f h (getA zR (bdR f h).1 i)).1 = false := by assumption
         rw [h3] at hb
         rw [cmR_f (cmK_f (i := i) (n := cmN f h) hlt (fun hh => by have hh2 := hh.2.2.2; rw [hb] at hh2; cases hh2))]
         done)
      | skip
    · have a1 : (vR h (getA zR (bdR f h).1 i)).2 = true := by assumption
      have a2 : (twR f h (getA zR (bdR f h).1 i)).2 = true := by assumption
      have a3 : coordRt (vR h (getA zR (bdR f h).1 i)).1 = true := by assumption
      have a4 : coordRt (twR f h (getA zR (bdR f h).1 i)).1 = true := by assumption
      have e0 : (getA zR (bdR f h).1 i) = getA zR (bdO f h) i := by rw [h3]
      have b1 := a1
      have b2 := a2
      rw [e0] at b1 b2 a3 a4
      have e := cmL_next b1 b2
      rw [← e0] at e
      refine ⟨i + 1, ⟨Nat.succ_le_of_lt (Nat.lt_of_lt_of_eq hlt q01.symm), cmK_next g2 b1 b2 a3 a4⟩, Nat.sub_succ_lt_self _ _ (Nat.lt_of_lt_of_eq hlt q01.symm), ?_⟩
      repeat' (first | apply And.intro | exact True.intro | exact Lf.mk (by with_reducible rfl) | apply Lf.mk)
      all_goals first | rfl | exact e | (rw [Int.natCast_add]; rfl) | trace_state
    all_goals (have e : i = cmN f h := Nat.le_antisymm (Nat.le_trans g1 (Nat.le_of_eq q01)) (Nat.le_trans (Nat.le_of_eq q01.symm) (Nat.not_lt.1 (by assumption))))
    all_goals subst e
    all_goals (have q5 := cmL_len f h (cmN f h))
    all_goals first
      | (rw [q5]; omega)
      | exact cm_rs m1 m3 g2
      | (rw [cmR_t g2, cmF_t (by assumption)]; done)
      | (rw [cmR_t g2, cmF_f (by assumption)]; done)
      | trace_state
noncomputable def s_spec_ConjugateMap : Sig := ⟨62, [.list .pt, .list .pt], [.list 107 .pt, .val .bool], fun ((f : List Pt), (h : List Pt), _) => ⟨[], ((cmRes f h).1, (cmRes f h).2, ()), ()⟩⟩
theorem ok_spec_ConjugateMap : GSpec Tryz.prog s_spec_ConjugateMap := by
  refine fn_known tab_ok fol (((Known.nil.cons ok_spec_imGood (by kernel_rfl)).cons ok_spec_cjGood (by kernel_rfl)).cons ok_spec_cjMap (by kernel_rfl)) (by decide) Tryz.func62 ?_
  rintro ⟨(f : List Pt), (h : List Pt), ⟨⟩⟩ - -
  repeat' (first | with_reducible apply andAll_cons | with_reducible apply andAll_nil | (with_reducible apply Cf.mk; kernel_rfl) | apply And.intro | intro _ | exact True.intro | apply Lf.mk)
  all_goals (try simp only [Bool.not_eq_true', Bool.not_eq_false', Bool.not_not, decide_eq_true_eq, decide_eq_false_iff_not, beq_iff_eq, bne_iff_ne, beq_eq_false_iff_ne, bne_eq_false_iff_eq, ne_eq, Bool.and_eq_true, Bool.and_eq_false_iff, Bool.or_eq_true, Bool.or_eq_false_iff, Int.toNat_natCast, Nat.zero_add, Int.ofNat_lt, Int.ofNat_le, List.length_cons, List.length_nil, List.drop_zero, List.take_length] at *)
  all_goals first | (rw [cmRes_f1 (by assumption)]; done) | (rw [cmRes_f2 (by assumption)]; done) | assumption | (rw [cmRes_t (by assumption) (by assumption)]; done) | trace_state
end Go.Vx
