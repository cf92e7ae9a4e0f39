/- Images of intervals: the program's functions and the reference's. -/
import Derived.Test.YtjiafbjoijffjaaGreatPk21
import Derived.Test.YtjiafbjoijffjaaGreatPk15
namespace Go.Vx
open Go
set_option maxRecDepth 100000
set_option linter.unusedSimpArgs false
set_option linter.unusedVariables false

theorem getA_al {α : Type} (d : α) (l m : List α) (i : Nat) (h : i < l.length) : getA d (l ++ m) i = getA d l i := by
  rw [getA_eq, getA_eq, List.getD_eq_getElem?_getD, List.getD_eq_getElem?_getD, List.getElem?_append_left h]
theorem rs_inc {l : List Pt} (h : rsOk l) : Inc l := fun i hi =>
  (q_lt (coord_good (ptOk_iff.1 (rs_pt h (i := i) (by omega))).1) (coord_good (ptOk_iff.1 (rs_pt h hi)).1)).1 (rs_lt h hi)
noncomputable abbrev slA (l : List Pt) (i : Nat) : Rt := slR (getA zP l i) (getA zP l (i + 1))
theorem slA_q {l : List Pt} (h : rsOk l) {i : Nat} (hi : i + 1 < l.length) : qR (slA l i) * (qX l (i + 1) - qX l i) = qY l (i + 1) - qY l i :=
  (slR_ok (rs_pt h (i := i) (by omega)) (rs_pt h hi) (rs_lt h hi)).2.2
/-- pieces of one slope -/
theorem col {l : List Pt} (hr : rsOk l) {m n : Nat} (hn : n + 1 < l.length) (hs : ∀ k, m ≤ k → k ≤ n → slA l k = slA l m) :
    ∀ k, m + k ≤ n + 1 → ∀ t, qX l m ≤ t → t ≤ qX l (m + k) → pv l t - qY l m = qR (slA l m) * (t - qX l m)
  | 0, hk, t, h1, h2 => by
    have e : t = qX l m := by rw [Nat.add_zero] at h2; grind
    rw [e, pv_knot (rs_inc hr) (by omega) (by omega)]
    grind
  | k + 1, hk, t, h1, h2 => by
    by_cases h : t ≤ qX l (m + k)
    · exact col hr hn hs k (by omega) t h1 h
    · have hi := rs_inc hr
      have hle := Inc.le hi m k (by omega)
      have e := col hr hn hs k (by omega) _ hle Rat.le_refl
      rw [pv_knot hi (by omega) (by omega)] at e
      have e1 := pv_piece hi (i := m + k) (by omega) (t := t) (by grind) h2
      have e2 := slA_q hr (i := m + k) (by omega)
      have e3 := hi (m + k) (by omega)
      rw [hs (m + k) (by omega) (by omega)] at e2
      unfold OnP at e1
      have : pv l t - qY l (m + k) = qR (slA l m) * (t - qX l (m + k)) := by
        refine r_cancel (c := qX l (m + k + 1) - qX l (m + k)) (by grind) ?_
        rw [e1, ← e2]; grind
      grind
theorem PV.app {K M : List Pt} {t v : Rat} (h : PV K t v) : PV (K ++ M) t v := by
  obtain ⟨i, h1, h2, h3, h4⟩ := h
  refine ⟨i, by rw [List.length_append]; omega, ?_, ?_, ?_⟩
  · unfold qX; rw [getA_al _ _ _ _ (by omega)]; exact h2
  · unfold qX; rw [getA_al _ _ _ _ h1]; exact h3
  · unfold OnP qX qY; rw [getA_al _ _ _ _ (by omega), getA_al _ _ _ _ h1]; exact h4
theorem sm_inv {l : List Pt} (hr : rsOk l) (h2 : 2 ≤ l.length) : ∀ n, n < l.length → ∃ m, m ≤ n ∧ 0 < (smK l n).length ∧ getA zP (smK l n) ((smK l n).length - 1) = getA zP l m ∧ (n + 1 < l.length → ∀ k, m ≤ k → k ≤ n → slA l k = slA l m) ∧
    (∀ t, 0 < m → qX l 0 ≤ t → t ≤ qX l m → PV (smK l n) t (pv l t)) ∧ (0 < n → n + 1 = l.length → m = n) ∧ getA zP (smK l n) 0 = getA zP l 0
  | 0, _ => by
    rw [smK_zero]
    exact ⟨0, Nat.le_refl _, by simp, rfl, (fun _ k h1 h2 => by rw [show k = 0 by omega]), (fun _ h => by omega), (fun h => by omega), rfl⟩
  | n + 1, hn => by
    obtain ⟨m, a1, a2, a3, a4, a5, a6, a7⟩ := sm_inv hr h2 n (by omega)
    rw [smK_succ]
    by_cases hk : n + 1 + 1 = l.length ∨ smT l (n + 1) = true
    · rw [smI_t hk]
      have hi := rs_inc hr
      have hmn := Inc.lt hi (show m < n + 1 by omega) hn
      have hcol := col hr (m := m) (n := n) hn (a4 hn) (n + 1 - m) (by omega)
      rw [show m + (n + 1 - m) = n + 1 by omega] at hcol
      refine ⟨n + 1, Nat.le_refl _, by simp, ?_, fun _ k h1 h2 => by rw [show k = n + 1 by omega], fun t _ h0 h1 => ?_, fun _ _ => rfl, by rw [getA_al _ _ _ _ a2]; exact a7⟩
      · rw [List.length_append, List.length_singleton, Nat.add_sub_cancel]; exact getA_app_last zP _ _
      · by_cases hc : 0 < m ∧ t ≤ qX l m
        · exact (a5 t hc.1 h0 hc.2).app
        · have hm : qX l m ≤ t := by
            rcases Nat.eq_zero_or_pos m with h | h
            · rw [h]; exact h0
            · by_cases h' : t ≤ qX l m
              · exact (hc ⟨h, h'⟩).elim
              · grind
          have e1 := hcol t hm h1
          have e2 := hcol (qX l (n + 1)) (Rat.le_of_lt hmn) Rat.le_refl
          rw [pv_knot hi h2 hn] at e2
          have g1 : getA zP (smK l n ++ [getA zP l (n + 1)]) ((smK l n).length - 1) = getA zP l m := by rw [getA_al _ _ _ _ (by omega)]; exact a3
          have g2 : getA zP (smK l n ++ [getA zP l (n + 1)]) ((smK l n).length - 1 + 1) = getA zP l (n + 1) := by rw [Nat.sub_add_cancel a2]; exact getA_app_last zP _ _
          refine ⟨(smK l n).length - 1, by rw [List.length_append, List.length_singleton]; omega, ?_, ?_, ?_⟩
          · unfold qX; rw [g1]; exact hm
          · unfold qX; rw [g2]; exact h1
          · unfold OnP qX qY
            rw [g1, g2]
            show (pv l t - qY l m) * (qX l (n + 1) - qX l m) = (qY l (n + 1) - qY l m) * (t - qX l m)
            rw [e1, e2]; grind
    · obtain ⟨hk1, hk2⟩ := not_or.1 hk
      have hk2 : smT l (n + 1) = false := by simpa using hk2
      rw [smI_f hk1 hk2, List.append_nil]
      refine ⟨m, by omega, a2, a3, fun hl k h1 h3 => ?_, a5, fun _ h => by omega, a7⟩
      by_cases e : k = n + 1
      · subst e
        rw [smT_succ] at hk2
        have h4 : slA l n = slA l (n + 1) := by
          have : eqRt (slA l n) (slA l (n + 1)) = true := by simpa using hk2
          exact of_decide_eq_true this
        rw [← h4]
        exact a4 (by omega) n (by omega) (Nat.le_refl _)
      · exact a4 (by omega) k h1 (by omega)
/-- dropping points on lines changes no value -/
theorem sm_PV {l : List Pt} (hr : rsOk l) (h2 : 2 ≤ l.length) {t : Rat} (h0 : qX l 0 ≤ t) (h1 : t ≤ qX l (l.length - 1)) : PV (smL l) t (pv l t) := by
  obtain ⟨m, a1, a2, a3, a4, a5, a6, _⟩ := sm_inv hr h2 (l.length - 1) (by omega)
  have e := a6 (by omega) (by omega)
  subst e
  unfold smL
  exact a5 t (by omega) h0 h1
theorem sm_pv {l : List Pt} (hr : rsOk l) (h2 : 2 ≤ l.length) (hm : mapOk (smL l) = true) {t : Rat} (h0 : qX l 0 ≤ t) (h1 : t ≤ qX l (l.length - 1)) : pv (smL l) t = pv l t :=
  pv_eq (map_inc hm) (sm_PV hr h2 h0 h1)

/-! ### where a map is a line after another one -/
/-- a rising list that has the places of g, and the places where g takes those of f: f after g is a line between two neighbours -/
theorem comp_line {f g : List Pt} (hf : mapOk f = true) (hg : mapOk g = true) {z : List Rt} (hs : SS z) (hu : ∀ x ∈ z, unitRt x = true) (hgx : ∀ p ∈ g, p.x ∈ z) (hb : ∀ i, i < f.length → bfG g (getA zP f i).x = true)
    (hbf : ∀ i, i < f.length → ∀ x ∈ bfO g (getA zP f i).x, x ∈ z) {i : Nat} (hi : i + 1 < z.length) : Aff (pv g) (qZ z i) (qZ z (i + 1)) ∧ Aff (fun t => pv f (pv g t)) (qZ z i) (qZ z (i + 1)) := by
  have hz := ss_lt hs (Nat.lt_succ_self i) hi
  have u1 := (q_unit (unit_good (hu _ (getA_mem zR (l := z) (i := i) (by omega))))).1 (hu _ (getA_mem zR (l := z) (i := i) (by omega)))
  have u2 := (q_unit (unit_good (hu _ (getA_mem zR (l := z) hi)))).1 (hu _ (getA_mem zR (l := z) hi))
  have ig := map_inc hg
  have if_ := map_inc hf
  obtain ⟨j, hj, j1, j2⟩ := no_knot (map_2 hg) (a := qZ z i) (b := qZ z (i + 1)) (by rw [map_0 hg]; exact u1.1) hz (by rw [map_1 hg]; exact u2.2)
    (fun k hk => ss_none hs hi (hgx _ (getA_mem zP hk)))
  have aG := aff_piece ig hj j1 (Rat.le_of_lt hz) j2
  refine ⟨aG, ?_⟩
  have v1 := pv_unit hg u1.1 u1.2
  have v2 := pv_unit hg u2.1 u2.2
  have hjd := ig j hj
  have aP := aff_piece ig hj Rat.le_refl (Rat.le_of_lt hjd) Rat.le_refl
  have k1 := pv_knot ig (map_2 hg) (i := j) (by omega)
  have k2 := pv_knot ig (map_2 hg) hj
  -- no place of f lies strictly between the two values
  have none : ∀ k, k < f.length → ¬ ((pv g (qZ z i) < qX f k ∧ qX f k < pv g (qZ z (i + 1))) ∨ (pv g (qZ z (i + 1)) < qX f k ∧ qX f k < pv g (qZ z i))) := by
    intro k hk hbt
    have hjj : (qY g j < qX f k ∧ qX f k < qY g (j + 1)) ∨ (qY g (j + 1) < qX f k ∧ qX f k < qY g j) := by
      by_cases hle : pv g (qX g j) ≤ pv g (qX g (j + 1))
      · have m1 := aP.mid hjd j1 (by grind) hle
        have m2 := aP.mid hjd (t := qZ z (i + 1)) (by grind) j2 hle
        rw [k1, k2] at m1 m2
        rw [k1, k2] at hle
        rcases hbt with hbt | hbt
        · left; grind
        · left; grind
      · have m1 := aP.mid' hjd j1 (by grind) (by grind)
        have m2 := aP.mid' hjd (t := qZ z (i + 1)) (by grind) j2 (by grind)
        rw [k1, k2] at m1 m2
        rcases hbt with hbt | hbt
        · right; grind
        · right; grind
    obtain ⟨x, hx, ex⟩ := before_mem hg (coord_good (ptOk_iff.1 (map_pt hf hk)).1) (hb k hk) hj hjj
    refine ss_none hs hi (hbf k hk x hx) ?_
    -- x lies on the line of the piece
    have p1 := pv_piece ig hj j1 (by grind)
    have p2 := pv_piece ig hj (t := qZ z (i + 1)) (by grind) j2
    unfold OnP at p1 p2
    refine Aff.back (G := pv g) (y := qX f k) hz ?_ hbt
    refine r_cancel (c := qX g (j + 1) - qX g j) (by grind) ?_
    have ex : (qX f k - qY g j) * (qX g (j + 1) - qX g j) = (qY g (j + 1) - qY g j) * (qR x - qX g j) := ex
    generalize qX g (j + 1) - qX g j = d at *
    generalize qY g (j + 1) - qY g j = s at *
    have q1 : (qX f k - pv g (qZ z i)) * d = s * (qR x - qZ z i) := by grind
    have q2 : (pv g (qZ z (i + 1)) - pv g (qZ z i)) * d = s * (qZ z (i + 1) - qZ z i) := by grind
    have : (qX f k - pv g (qZ z i)) * (qZ z (i + 1) - qZ z i) * d = ((qX f k - pv g (qZ z i)) * d) * (qZ z (i + 1) - qZ z i) := by grind
    rw [this, q1]
    have : (pv g (qZ z (i + 1)) - pv g (qZ z i)) * (qR x - qZ z i) * d = ((pv g (qZ z (i + 1)) - pv g (qZ z i)) * d) * (qR x - qZ z i) := by grind
    rw [this, q2]
    grind
  refine Aff.comp hz aG ?_
  by_cases hle : pv g (qZ z i) ≤ pv g (qZ z (i + 1))
  · refine .inl ⟨hle, fun hlt => ?_⟩
    obtain ⟨k, hk, e1, e2⟩ := no_knot (map_2 hf) (a := pv g (qZ z i)) (b := pv g (qZ z (i + 1))) (by rw [map_0 hf]; exact v1.1) hlt (by rw [map_1 hf]; exact v2.2) (fun k hk h => none k hk (.inl h))
    exact aff_piece if_ hk e1 (Rat.le_of_lt hlt) e2
  · have hlt : pv g (qZ z (i + 1)) < pv g (qZ z i) := by grind
    refine .inr ⟨hlt, ?_⟩
    obtain ⟨k, hk, e1, e2⟩ := no_knot (map_2 hf) (a := pv g (qZ z (i + 1))) (b := pv g (qZ z i)) (by rw [map_0 hf]; exact v2.1) hlt (by rw [map_1 hf]; exact v1.2) (fun k hk h => none k hk (.inr h))
    exact aff_piece if_ hk e1 (Rat.le_of_lt hlt) e2

/-! ### compositions -/
/-- the places of g, and those where g takes a place of f -/
@[irreducible] noncomputable def cpRaw (g f : List Pt) (n : Nat) : List Rt := g.map Pt.x ++ (List.range n).flatMap fun i => bfO g (getA zP f i).x
theorem cpRaw_zero (g f : List Pt) : cpRaw g f 0 = g.map Pt.x := by unfold cpRaw; simp
theorem cpRaw_succ (g f : List Pt) (n : Nat) : cpRaw g f (n + 1) = cpRaw g f n ++ bfO g (getA zP f n).x := by unfold cpRaw; rw [List.range_succ, List.flatMap_append, List.append_assoc]; simp
theorem cpRaw_len {g f : List Pt} (hg : g.length ≤ 12) : ∀ n, (cpRaw g f n).length ≤ 12 + 24 * n
  | 0 => by rw [cpRaw_zero, List.length_map]; omega
  | n + 1 => by
    have := cpRaw_len (f := f) hg n
    have := bfO_len (y := (getA zP f n).x) hg
    rw [cpRaw_succ, List.length_append]; omega
theorem cpRaw_gd {g f : List Pt} (hg : mapOk g = true) : ∀ n, Gd (cpRaw g f n)
  | 0 => by rw [cpRaw_zero]; exact xs_gd hg
  | n + 1 => by rw [cpRaw_succ]; exact (cpRaw_gd hg n).app (bfO_gd hg)
@[irreducible] noncomputable def cpO (g f : List Pt) : List Rt := putsL [] (cpRaw g f f.length)
theorem cpO_len {g f : List Pt} (hg : mapOk g = true) (hf : mapOk f = true) : (cpO g f).length ≤ 300 := by
  unfold cpO
  have l1 := (mapOk_iff.1 hg).1
  have l2 := (mapOk_iff.1 hf).1
  have h1 := putsL_len (cpRaw g f f.length) []
  have h2 := cpRaw_len (f := f) l1.2 f.length
  simp only [List.length_nil] at h1
  omega
theorem cpO_ss {g f : List Pt} (hg : mapOk g = true) : SS (cpO g f) := by unfold cpO; exact putsL_ss Gd.nil (cpRaw_gd hg _) SS.nil
theorem xs_ss {g : List Pt} (hg : mapOk g = true) : SS (g.map Pt.x) := by
  refine List.pairwise_iff_getElem.2 fun i j hi hj hij => ?_
  rw [List.getElem_map, List.getElem_map]
  rw [List.length_map] at hi hj
  have := Inc.lt (map_inc hg) hij hj
  unfold qX at this
  rw [getA_lt _ _ _ hi, getA_lt _ _ _ hj] at this
  exact this
/-- the reference puts the places into those of g -/
theorem cp_eq {g f : List Pt} (hg : mapOk g = true) (n : Nat) : putsL (g.map Pt.x) ((List.range n).flatMap fun i => bfO g (getA zP f i).x) = putsL [] (cpRaw g f n) := by
  have hgd : Gd ((List.range n).flatMap fun i => bfO g (getA zP f i).x) := fun x hx => by
    simp only [List.mem_flatMap, List.mem_range] at hx
    obtain ⟨i, hi, h⟩ := hx
    exact bfO_gd hg x h
  refine SS.uniq (putsL_ss (xs_gd hg) hgd (xs_ss hg)) (putsL_ss Gd.nil (cpRaw_gd hg n) SS.nil) fun x => ?_
  rw [putsL_mem, putsL_mem]
  unfold cpRaw
  rw [List.mem_append]
  constructor
  · intro h; exact .inr h
  · rintro (h | h)
    · cases h
    · exact h
theorem cp_unit {g f : List Pt} {x : Rt} (hg : mapOk g = true) (hf : mapOk f = true) (hx : x ∈ cpO g f) : unitRt x = true := by
  unfold cpO cpRaw at hx
  rcases putsL_mem.1 hx with h1 | h1
  · cases h1
  · rcases List.mem_append.1 h1 with h1 | h1
    · exact mapx_unit hg h1
    · simp only [List.mem_flatMap, List.mem_range] at h1
      obtain ⟨i, hi, h2⟩ := h1
      exact bf_unitA hg (pt_gd hf hi) h2
theorem cp_memx {g f : List Pt} {p : Pt} (hp : p ∈ g) : p.x ∈ cpO g f := by
  unfold cpO cpRaw
  exact putsL_mem.2 (.inr (List.mem_append.2 (.inl (List.mem_map_of_mem hp))))
theorem cp_memb {g f : List Pt} {i : Nat} (hi : i < f.length) {x : Rt} (hx : x ∈ bfO g (getA zP f i).x) : x ∈ cpO g f := by
  unfold cpO cpRaw
  refine putsL_mem.2 (.inr (List.mem_append.2 (.inr ?_)))
  simp only [List.mem_flatMap, List.mem_range]
  exact ⟨i, hi, hx⟩
theorem two_of {l : List Rt} (h0 : (⟨0, 1⟩ : Rt) ∈ l) (h1 : (⟨1, 1⟩ : Rt) ∈ l) : 2 ≤ l.length := by
  match l, h0, h1 with
  | [], h0, _ => cases h0
  | [x], h0, h1 =>
    rw [List.mem_singleton] at h0 h1
    rw [← h0] at h1
    cases h1
  | _ :: _ :: r, _, _ => simp
theorem cp_01 {g f : List Pt} (hg : mapOk g = true) : (⟨0, 1⟩ : Rt) ∈ cpO g f ∧ (⟨1, 1⟩ : Rt) ∈ cpO g f := by
  obtain ⟨m1, m2, m3, m4, m5⟩ := mapOk_iff.1 hg
  exact ⟨by rw [← m3]; exact cp_memx (getA_mem _ (by omega)), by rw [← m4]; exact cp_memx (getA_mem _ (by omega))⟩
noncomputable abbrev cpN (g f : List Pt) : Nat := (cpO g f).length
theorem cp_two {g f : List Pt} (hg : mapOk g = true) : 2 ≤ cpN g f := two_of (cp_01 hg).1 (cp_01 hg).2
/-- points over a list of places, the value of f at the value of g -/
@[irreducible] noncomputable def ptL (g f : List Pt) (z : List Rt) (n : Nat) : List Pt := (List.range n).map fun i => ⟨getA zR z i, twO g f (getA zR z i)⟩
theorem ptL_zero (g f : List Pt) (z : List Rt) : ptL g f z 0 = [] := by unfold ptL; rfl
theorem ptL_succ (g f : List Pt) (z : List Rt) (n : Nat) : ptL g f z (n + 1) = ptL g f z n ++ [⟨getA zR z n, twO g f (getA zR z n)⟩] := by unfold ptL; rw [List.range_succ, List.map_append]; rfl
theorem ptL_len (g f : List Pt) (z : List Rt) (n : Nat) : (ptL g f z n).length = n := by unfold ptL; simp
theorem ptL_get {g f : List Pt} {z : List Rt} {n i : Nat} (hi : i < n) : getA zP (ptL g f z n) i = ⟨getA zR z i, twO g f (getA zR z i)⟩ := by
  unfold ptL
  rw [getA_eq]; simp [List.getD, hi]
@[irreducible] noncomputable def ptG (g f : List Pt) (z : List Rt) (n : Nat) : Bool := (List.range n).all fun i => (twR g f (getA zR z i)).2
theorem ptG_zero (g f : List Pt) (z : List Rt) : ptG g f z 0 = true := by unfold ptG; rfl
theorem ptG_succ (g f : List Pt) (z : List Rt) (n : Nat) : ptG g f z (n + 1) = (ptG g f z n && (twR g f (getA zR z n)).2) := by unfold ptG; rw [List.range_succ, List.all_append]; simp
theorem ptG_at {g f : List Pt} {z : List Rt} : ∀ {n : Nat}, ptG g f z n = true → ∀ i, i < n → (twR g f (getA zR z i)).2 = true
  | 0, _, i, hi => by omega
  | n + 1, hg, i, hi => by
    rw [ptG_succ, Bool.and_eq_true] at hg
    by_cases e : i = n
    · rw [e]; exact hg.2
    · exact ptG_at hg.1 i (by omega)
theorem pt_flag {c : Bool} {g f : List Pt} {z : List Rt} {i : Nat} : (((c || !ptG g f z i) || !(vR g (getA zR z i)).2) || !(vR f (vO g (getA zR z i))).2) = (c || !ptG g f z (i + 1)) := by
  rw [ptG_succ, twR_g]
  generalize ptG g f z i = a
  generalize (vR g (getA zR z i)).2 = b
  generalize (vR f (vO g (getA zR z i))).2 = d
  cases c <;> cases a <;> cases b <;> cases d <;> rfl
theorem ptG_f {g f : List Pt} {z : List Rt} {i n : Nat} (hi : i < n) (hb : (twR g f (getA zR z i)).2 = false) : ptG g f z n = false := by
  cases h : ptG g f z n
  · rfl
  · rw [ptG_at h i hi] at hb; cases hb
noncomputable abbrev cpL (g f : List Pt) : List Pt := ptL g f (cpO g f) (cpN g f)
noncomputable abbrev cpG (g f : List Pt) : Bool := bdG g f && ptG g f (cpO g f) (cpN g f)
noncomputable def cpR (g f : List Pt) : List Pt × Bool := fnR (!cpG g f) (cpL g f)
theorem cp_units {g f : List Pt} (hg : mapOk g = true) (hf : mapOk f = true) : ∀ p ∈ cpL g f, unitRt p.x = true ∧ unitRt p.y = true := by
  intro p hp
  unfold cpL ptL at hp
  obtain ⟨i, hi, rfl⟩ := List.mem_map.1 hp
  have hi := List.mem_range.1 hi
  have u1 : unitRt (getA zR (cpO g f) i) = true := cp_unit hg hf (getA_mem _ hi)
  exact ⟨u1, by unfold twO; exact vO_unit hf (vO_unit hg u1)⟩
theorem units_ok {l : List Pt} (hu : ∀ p ∈ l, unitRt p.x = true ∧ unitRt p.y = true) (ha : l.any bigP = false) : ∀ p ∈ l, ptOk p = true := fun p hp => by
  have h1 := hu p hp
  rw [pt_big h1.1 h1.2]
  have : bigP p = false := by
    rw [List.any_eq_false] at ha
    simpa using ha p hp
  rw [this]; rfl
theorem cp_rs {g f : List Pt} (hg : mapOk g = true) (hf : mapOk f = true) (ha : (cpL g f).any bigP = false) : rsOk (cpL g f) := by
  refine rsOk_iff.2 ⟨units_ok (cp_units hg hf) ha, fun i hi => ?_⟩
  rw [ptL_len] at hi
  rw [ptL_get (by omega), ptL_get hi]
  show ltR (getA zR (cpO g f) i) (getA zR (cpO g f) (i + 1))
  have u1 : unitRt (getA zR (cpO g f) i) = true := cp_unit hg hf (getA_mem _ (show i < (cpO g f).length from Nat.lt_of_succ_lt hi))
  have u2 : unitRt (getA zR (cpO g f) (i + 1)) = true := cp_unit hg hf (getA_mem _ hi)
  exact (q_lt (unit_good u1) (unit_good u2)).2 (ss_lt (cpO_ss hg) (Nat.lt_succ_self i) hi)
theorem fn_t {c : Bool} {l : List Pt} (h : (fnR c l).2 = true) : c = false ∧ l.any bigP = false ∧ mapOk (smL l) = true ∧ (fnR c l).1 = smL l := by
  cases c with
  | true => rw [fnR_c] at h; cases h
  | false =>
    cases ha : l.any bigP with
    | true => rw [fnR_f (by rw [mdR_t ha])] at h; cases h
    | false =>
      cases hm : mapOk (smL l) with
      | false => rw [fnR_f (by rw [mdR_f ha]; exact hm)] at h; cases h
      | true => rw [fnR_t rfl (by rw [mdR_f ha]; exact hm), mdR_f ha]; exact ⟨rfl, rfl, rfl, rfl⟩
theorem fn_bad {c : Bool} {l : List Pt} (h : (fnR c l).2 = false) : fnR c l = ([], false) := by
  cases c with
  | true => rfl
  | false =>
    cases hm : (mdR l).2 with
    | false => exact fnR_f hm
    | true => rw [fnR_t rfl hm] at h; cases h
theorem qX_end {l : List Pt} {z : List Rt} {g f : List Pt} (e : l = ptL g f z z.length) (hs : SS z) (h0 : (⟨0, 1⟩ : Rt) ∈ z) (h1 : (⟨1, 1⟩ : Rt) ∈ z) : qX l 0 ≤ 0 ∧ 1 ≤ qX l (l.length - 1) := by
  have h2 := two_of h0 h1
  subst e
  rw [ptL_len]
  unfold qX
  rw [ptL_get (by omega), ptL_get (by omega)]
  have ends : ∀ x ∈ z, qZ z 0 ≤ qR x ∧ qR x ≤ qZ z (z.length - 1) := fun x hx => by
    obtain ⟨k, hk, rfl⟩ := List.getElem_of_mem hx
    have e : qR z[k] = qZ z k := by show _ = qR _; rw [getA_lt _ _ _ hk]
    rw [e]
    constructor
    · rcases Nat.eq_zero_or_pos k with h | h
      · subst h; exact Rat.le_refl
      · exact Rat.le_of_lt (ss_lt hs h hk)
    · rcases Nat.lt_or_ge k (z.length - 1) with h | h
      · exact Rat.le_of_lt (ss_lt hs h (by omega))
      · rw [show k = z.length - 1 by omega]; exact Rat.le_refl
  have a := (ends _ h0).1
  have b := (ends _ h1).2
  rw [q_zero] at a
  rw [q_one] at b
  exact ⟨a, b⟩
/-- **The composition's values.** -/
theorem cp_pv {g f : List Pt} (hg : mapOk g = true) (hf : mapOk f = true) (h : (cpR g f).2 = true) : mapOk (cpR g f).1 = true ∧ ∀ t, 0 ≤ t → t ≤ 1 → pv (cpR g f).1 t = pv f (pv g t) := by
  obtain ⟨h1, h2, h3, h4⟩ := fn_t (c := !cpG g f) (l := cpL g f) h
  have hG : cpG g f = true := by simpa using h1
  rw [Bool.and_eq_true] at hG
  unfold cpR
  rw [h4]
  refine ⟨h3, fun t t0 t1 => ?_⟩
  have hr := cp_rs hg hf h2
  have hl : 2 ≤ (cpL g f).length := by rw [ptL_len]; exact cp_two hg
  obtain ⟨e0, e1⟩ := qX_end (l := cpL g f) rfl (cpO_ss hg) (cp_01 (f := f) hg).1 (cp_01 hg).2
  rw [sm_pv hr hl h3 (Rat.le_trans e0 t0) (Rat.le_trans t1 e1)]
  refine pv_eq (rs_inc hr) ?_
  obtain ⟨i, hi, i1, i2⟩ := ss_loc (cpO_ss hg) (cp_01 (f := f) hg).1 (cp_01 hg).2 (by rw [q_zero, q_one]; grind) (t := t) (by rw [q_zero]; exact t0) (by rw [q_one]; exact t1)
  have hb : ∀ i, i < f.length → bfG g (getA zP f i).x = true := fun i hi => by
    have := hG.1
    unfold bdG at this
    exact bdG__at this i hi
  obtain ⟨_, a2⟩ := comp_line hf hg (cpO_ss hg) (fun x hx => cp_unit hg hf hx) (fun p hp => cp_memx hp) hb (fun i hi x hx => cp_memb hi hx) hi
  have val : ∀ j, j < cpN g f → qY (cpL g f) j = pv f (pv g (qZ (cpO g f) j)) ∧ qX (cpL g f) j = qZ (cpO g f) j := fun j hj => by
    have u : unitRt (getA zR (cpO g f) j) = true := cp_unit hg hf (getA_mem _ hj)
    have o := ptG_at hG.2 j hj
    unfold qY qX
    rw [ptL_get hj]
    refine ⟨?_, rfl⟩
    show qR (twO g f _) = _
    rw [twO_t o]
    exact twR_q hg hf u o
  have hz := ss_lt (cpO_ss hg) (Nat.lt_succ_self i) hi
  exact interp (rs_inc hr) (z := qZ (cpO g f)) (φ := fun t => t) (ψ := fun t => pv f (pv g t)) (by rw [ptL_len]; exact hi) hz (val i (Nat.lt_of_succ_lt hi)).2 (val (i + 1) hi).2 (val i (Nat.lt_of_succ_lt hi)).1 (val (i + 1) hi).1 (Aff.id _ _) a2 i1 i2

/-! ### powers -/
def idM : List Pt := [⟨⟨0, 1⟩, ⟨0, 1⟩⟩, ⟨⟨1, 1⟩, ⟨1, 1⟩⟩]
noncomputable def pwS (f : List Pt) (r : List Pt × Bool) : List Pt × Bool := match r.2 with
  | true => cpR r.1 f
  | false => ([], false)
noncomputable def pwQ (f : List Pt) : Nat → List Pt × Bool
  | 0 => (idM, true)
  | n + 1 => pwS f (pwQ f n)
@[irreducible] noncomputable def pwR (f : List Pt) (n : Nat) : List Pt × Bool := pwQ f n
theorem pwR_zero (f : List Pt) : pwR f 0 = (idM, true) := by unfold pwR; rfl
theorem pwR_t {f : List Pt} {n : Nat} (h : (pwR f n).2 = true) : pwR f (n + 1) = cpR (pwR f n).1 f := by
  unfold pwR at h ⊢
  show pwS f (pwQ f n) = _
  unfold pwS
  rw [h]
theorem pwR_f {f : List Pt} {n : Nat} (h : (pwR f n).2 = false) : pwR f (n + 1) = ([], false) := by
  unfold pwR at h ⊢
  show pwS f (pwQ f n) = _
  unfold pwS
  rw [h]
theorem idM_ok : mapOk idM = true := by
  have c0 : coordRt ⟨0, 1⟩ = true := coord_iff.2 ⟨good_zero, by decide⟩
  have c1 : coordRt ⟨1, 1⟩ = true := coord_iff.2 ⟨good_one, by decide⟩
  refine mapOk_iff.2 ⟨by decide, fun p hp => ?_, rfl, rfl, fun i hi => ?_⟩
  · simp only [idM, List.mem_cons, List.not_mem_nil, or_false] at hp
    rcases hp with rfl | rfl
    · exact ptOk_iff.2 ⟨c0, c0⟩
    · exact ptOk_iff.2 ⟨c1, c1⟩
  · have : i = 0 := by have : idM.length = 2 := rfl; omega
    subst this
    decide
theorem idM_pv {t : Rat} (h0 : 0 ≤ t) (h1 : t ≤ 1) : pv idM t = t := by
  refine pv_eq (map_inc idM_ok) ⟨0, by decide, ?_, ?_, ?_⟩
  · show qR ⟨0, 1⟩ ≤ t; rw [q_zero]; exact h0
  · show t ≤ qR ⟨1, 1⟩; rw [q_one]; exact h1
  · show (t - qR ⟨0, 1⟩) * (qR ⟨1, 1⟩ - qR ⟨0, 1⟩) = (qR ⟨1, 1⟩ - qR ⟨0, 1⟩) * (t - qR ⟨0, 1⟩)
    grind
/-- the value of f, n times -/
noncomputable def itv (f : List Pt) : Nat → Rat → Rat
  | 0, t => t
  | n + 1, t => pv f (itv f n t)
theorem itv_unit {f : List Pt} (hf : mapOk f = true) {t : Rat} (h0 : 0 ≤ t) (h1 : t ≤ 1) : ∀ n, 0 ≤ itv f n t ∧ itv f n t ≤ 1
  | 0 => ⟨h0, h1⟩
  | n + 1 => by have := itv_unit hf h0 h1 n; exact pv_unit hf this.1 this.2
theorem pw_pv {f : List Pt} (hf : mapOk f = true) : ∀ {n : Nat}, (pwR f n).2 = true → mapOk (pwR f n).1 = true ∧ ∀ t, 0 ≤ t → t ≤ 1 → pv (pwR f n).1 t = itv f n t
  | 0, _ => by rw [pwR_zero]; exact ⟨idM_ok, fun t h0 h1 => idM_pv h0 h1⟩
  | n + 1, h => by
    cases hn : (pwR f n).2 with
    | false => rw [pwR_f hn] at h; cases h
    | true =>
      rw [pwR_t hn] at h ⊢
      obtain ⟨m1, m2⟩ := pw_pv hf hn
      obtain ⟨c1, c2⟩ := cp_pv m1 hf h
      exact ⟨c1, fun t h0 h1 => by rw [c2 t h0 h1, m2 t h0 h1]; rfl⟩
theorem pw_map {f : List Pt} (hf : mapOk f = true) {n : Nat} (h : (pwR f n).2 = true) : mapOk (pwR f n).1 = true := (pw_pv hf h).1
theorem pw_len {f : List Pt} (hf : mapOk f = true) (n : Nat) : (pwR f n).1.length ≤ 12 := by
  cases h : (pwR f n).2 with
  | true => exact (mapOk_iff.1 (pw_map hf h)).1.2
  | false =>
    cases n with
    | zero => rw [pwR_zero] at h; cases h
    | succ n =>
      cases hn : (pwR f n).2 with
      | false => rw [pwR_f hn]; exact Nat.zero_le _
      | true =>
        rw [pwR_t hn] at h ⊢
        unfold cpR at h ⊢
        rw [fn_bad h]; exact Nat.zero_le _

/-! ### conjugate maps -/
/-- **The conjugate map's values.** -/
theorem cm_pv {f h : List Pt} (hf : mapOk f = true) (hc : chOk h = true) (hk : cmK f h (cmN f h) = true) (hm : mapOk (smL (cmL f h (cmN f h))) = true) : ∀ t, 0 ≤ t → t ≤ 1 → pv (smL (cmL f h (cmN f h))) (pv h t) = pv h (pv f t) := by
  intro t t0 t1
  have hh := (chOk_iff.1 hc).1
  have hr := cm_rs hf hc hk
  have hkk := hk
  unfold cmK at hkk
  rw [Bool.and_eq_true] at hkk
  obtain ⟨g1, g2⟩ := cmG_at hkk.1
  have hl : 2 ≤ (cmL f h (cmN f h)).length := by rw [cmL_len]; exact bd_two hf hh
  have hss := bdO_ss hf hh
  have memx : ∀ p ∈ f, p.x ∈ bdO f h := fun p hp => by
    unfold bdO bdRaw
    exact putsL_mem.2 (.inr (List.mem_append.2 (.inl (List.mem_append.2 (.inl (List.mem_map_of_mem hp))))))
  have memh : ∀ p ∈ h, p.x ∈ bdO f h := fun p hp => by
    unfold bdO bdRaw
    exact putsL_mem.2 (.inr (List.mem_append.2 (.inl (List.mem_append.2 (.inr (List.mem_map_of_mem hp))))))
  have memb : ∀ i, i < h.length → ∀ x ∈ bfO f (getA zP h i).x, x ∈ bdO f h := fun i hi x hx => by
    unfold bdO bdRaw
    refine putsL_mem.2 (.inr (List.mem_append.2 (.inr ?_)))
    simp only [List.mem_flatMap, List.mem_range]
    exact ⟨i, hi, hx⟩
  obtain ⟨m1, m2, m3, m4, m5⟩ := mapOk_iff.1 hf
  have z0 : (⟨0, 1⟩ : Rt) ∈ bdO f h := by rw [← m3]; exact memx _ (getA_mem _ (by omega))
  have z1 : (⟨1, 1⟩ : Rt) ∈ bdO f h := by rw [← m4]; exact memx _ (getA_mem _ (by omega))
  have un : ∀ x ∈ bdO f h, unitRt x = true := fun x hx => bd_unitA hf hh hx
  have hb : ∀ i, i < h.length → bfG f (getA zP h i).x = true := fun i hi => by
    have := g1
    unfold bdG at this
    exact bdG__at this i hi
  have val : ∀ j, j < cmN f h → qX (cmL f h (cmN f h)) j = pv h (qZ (bdO f h) j) ∧ qY (cmL f h (cmN f h)) j = pv h (pv f (qZ (bdO f h) j)) := fun j hj => by
    have u : unitRt (getA zR (bdO f h) j) = true := un _ (getA_mem _ hj)
    obtain ⟨o1, o2⟩ := g2 j hj
    unfold qX qY
    rw [cmL_get hj]
    constructor
    · show qR (vO h _) = _
      rw [vO_t o1]
      exact vR_q hh u o1
    · show qR (vO h (vO f _)) = _
      have := twO_t o2
      unfold twO at this
      rw [this]
      exact twR_q hf hh u o2
  obtain ⟨i, hi, i1, i2⟩ := ss_loc hss z0 z1 (by rw [q_zero, q_one]; grind) (t := t) (by rw [q_zero]; exact t0) (by rw [q_one]; exact t1)
  have hz := ss_lt hss (Nat.lt_succ_self i) hi
  obtain ⟨_, a2⟩ := comp_line hh hf hss un memx hb memb hi
  have u1 := (q_unit (unit_good (un _ (getA_mem zR (l := bdO f h) (i := i) (by omega))))).1 (un _ (getA_mem zR (l := bdO f h) (i := i) (by omega)))
  have u2 := (q_unit (unit_good (un _ (getA_mem zR (l := bdO f h) hi)))).1 (un _ (getA_mem zR (l := bdO f h) hi))
  obtain ⟨j, hj, j1, j2⟩ := no_knot (map_2 hh) (a := qZ (bdO f h) i) (b := qZ (bdO f h) (i + 1)) (by rw [map_0 hh]; exact u1.1) hz (by rw [map_1 hh]; exact u2.2)
    (fun k hk => ss_none hss hi (memh _ (getA_mem zP hk)))
  have a1 := aff_piece (map_inc hh) hj j1 (Rat.le_of_lt hz) j2
  have key := interp (rs_inc hr) (z := qZ (bdO f h)) (φ := pv h) (ψ := fun t => pv h (pv f t)) (by rw [cmL_len]; exact hi) hz (val i (Nat.lt_of_succ_lt hi)).1 (val (i + 1) hi).1 (val i (Nat.lt_of_succ_lt hi)).2 (val (i + 1) hi).2 a1 a2 i1 i2
  obtain ⟨k, k1, k2, k3, k4⟩ := key
  have le0 : qX (cmL f h (cmN f h)) 0 ≤ pv h t := by
    have := Inc.le (rs_inc hr) 0 k (by omega)
    rw [Nat.zero_add] at this
    exact Rat.le_trans this k2
  have le1 : pv h t ≤ qX (cmL f h (cmN f h)) ((cmL f h (cmN f h)).length - 1) := by
    have := Inc.le (rs_inc hr) (k + 1) ((cmL f h (cmN f h)).length - 1 - (k + 1)) (by omega)
    rw [show k + 1 + ((cmL f h (cmN f h)).length - 1 - (k + 1)) = (cmL f h (cmN f h)).length - 1 by omega] at this
    exact Rat.le_trans k3 this
  rw [sm_pv hr hl hm le0 le1]
  exact pv_eq (rs_inc hr) ⟨k, k1, k2, k3, k4⟩

/-! ### images -/
theorem imF_le {s : Rt × Rt} {y : Rt} (h1 : goodRt s.1 = true) (h2 : goodRt s.2 = true) (hy : goodRt y = true) : qR (imF s y).1 ≤ qR s.1 ∧ qR (imF s y).1 ≤ qR y ∧ qR s.2 ≤ qR (imF s y).2 ∧ qR y ≤ qR (imF s y).2 := by
  unfold imF
  dsimp only
  refine ⟨?_, ?_, ?_, ?_⟩
  · by_cases h : ltR s.1 y
    · rw [lsR_t h]; exact Rat.le_refl
    · rw [lsR_f h]; exact Rat.not_lt.1 fun hh => h ((q_lt h1 hy).2 hh)
  · by_cases h : ltR s.1 y
    · rw [lsR_t h]; exact Rat.le_of_lt ((q_lt h1 hy).1 h)
    · rw [lsR_f h]; exact Rat.le_refl
  · by_cases h : ltR s.2 y
    · rw [grR_t h]; exact Rat.le_of_lt ((q_lt h2 hy).1 h)
    · rw [grR_f h]; exact Rat.le_refl
  · by_cases h : ltR s.2 y
    · rw [grR_t h]; exact Rat.le_refl
    · rw [grR_f h]; exact Rat.not_lt.1 fun hh => h ((q_lt h2 hy).2 hh)
theorem imI_le {f : List Pt} {a b : Rt} (h : mapOk f = true) (ha : unitRt a = true) (hb : unitRt b = true) : ∀ i, i ≤ f.length → qR (imI f a b i).1 ≤ qR (imS f a b).1 ∧ qR (imS f a b).2 ≤ qR (imI f a b i).2 ∧ ∀ j, j < i → inB' a b (getA zP f j) = true → qR (imI f a b i).1 ≤ qY f j ∧ qY f j ≤ qR (imI f a b i).2
  | 0, _ => by
    have e : imI f a b 0 = imS f a b := rfl
    rw [e]
    exact ⟨Rat.le_refl, Rat.le_refl, fun j hj => by omega⟩
  | i + 1, hi => by
    obtain ⟨e1, e2, e3⟩ := imI_le h ha hb i (by omega)
    obtain ⟨r1, r2, r3⟩ := imI_rg h ha hb i (by omega)
    by_cases hc : inB' a b (getA zP f i) = true
    · rw [imI_t (by omega) hc]
      obtain ⟨d1, d2, d3, d4⟩ := imF_le (unit_good r1) (unit_good r2) (coord_good (ptOk_iff.1 (map_pt h (i := i) (by omega))).2) (s := imI f a b i)
      refine ⟨Rat.le_trans d1 e1, Rat.le_trans e2 d3, fun j hj hin => ?_⟩
      by_cases e : j = i
      · subst e; exact ⟨d2, d4⟩
      · obtain ⟨c1, c2⟩ := e3 j (by omega) hin
        exact ⟨Rat.le_trans d1 c1, Rat.le_trans c2 d3⟩
    · rw [imI_f (by omega) hc]
      refine ⟨e1, e2, fun j hj hin => ?_⟩
      by_cases e : j = i
      · subst e; exact (hc hin).elim
      · exact e3 j (by omega) hin
/-- **An image holds all values.** -/
theorem im_in {f : List Pt} {a b : Rt} (h : mapOk f = true) (ha : unitRt a = true) (hb : unitRt b = true) (hB : imB f a b = true) {t : Rat} (h1 : qR a ≤ t) (h2 : t ≤ qR b) : qR (imO f a b).1 ≤ pv f t ∧ pv f t ≤ qR (imO f a b).2 := by
  unfold imB at hB
  rw [Bool.and_eq_true] at hB
  have ea := vR_q h ha hB.1
  have eb := vR_q h hb hB.2
  have ga := unit_good ha
  have gb := unit_good hb
  have ua := (q_unit ga).1 ha
  have ub := (q_unit gb).1 hb
  have va := vR_good h ha hB.1
  have vb := vR_good h hb hB.2
  obtain ⟨i1, i2, i3⟩ := imI_le h ha hb f.length (Nat.le_refl _)
  have hS : qR (imS f a b).1 ≤ pv f (qR a) ∧ qR (imS f a b).1 ≤ pv f (qR b) ∧ pv f (qR a) ≤ qR (imS f a b).2 ∧ pv f (qR b) ≤ qR (imS f a b).2 := by
    unfold imS
    rw [vO_t hB.1, vO_t hB.2]
    have := imF_le (s := ((vR f a).1, (vR f a).1)) va va vb
    rw [ea, eb] at this
    grind
  show qR (imI f a b f.length).1 ≤ _ ∧ _ ≤ qR (imI f a b f.length).2
  have hinc := map_inc h
  obtain ⟨j, hj, j1, j2⟩ := map_loc h (t := t) (by grind) (by grind)
  have kn : ∀ k, k < f.length → qR a < qX f k → qX f k < qR b → qR (imI f a b f.length).1 ≤ pv f (qX f k) ∧ pv f (qX f k) ≤ qR (imI f a b f.length).2 := fun k hk hl hr => by
    rw [pv_knot hinc (map_2 h) hk]
    have gx := coord_good (ptOk_iff.1 (map_pt h hk)).1
    refine i3 k hk ?_
    unfold inB' lessRt
    rw [Bool.and_eq_true, decide_eq_true_eq, decide_eq_true_eq]
    exact ⟨(q_lt ga gx).2 hl, (q_lt gx gb).2 hr⟩
  have endA : qR (imI f a b f.length).1 ≤ pv f (qR a) ∧ pv f (qR a) ≤ qR (imI f a b f.length).2 := by grind
  have endB : qR (imI f a b f.length).1 ≤ pv f (qR b) ∧ pv f (qR b) ≤ qR (imI f a b f.length).2 := by grind
  -- from l to r, both with values inside
  obtain ⟨l, l1, l2, l3⟩ : ∃ l, l ≤ t ∧ qX f j ≤ l ∧ (qR (imI f a b f.length).1 ≤ pv f l ∧ pv f l ≤ qR (imI f a b f.length).2) := by
    by_cases hc : qR a < qX f j
    · by_cases hd : qX f j < qR b
      · exact ⟨qX f j, j1, Rat.le_refl, kn j (by omega) hc hd⟩
      · have e : qX f j = qR b := by grind
        exact ⟨qX f j, j1, Rat.le_refl, by rw [e]; exact endB⟩
    · exact ⟨qR a, h1, by grind, endA⟩
  obtain ⟨r, r1, r2, r3⟩ : ∃ r, t ≤ r ∧ r ≤ qX f (j + 1) ∧ (qR (imI f a b f.length).1 ≤ pv f r ∧ pv f r ≤ qR (imI f a b f.length).2) := by
    by_cases hc : qX f (j + 1) < qR b
    · by_cases hd : qR a < qX f (j + 1)
      · exact ⟨qX f (j + 1), j2, Rat.le_refl, kn (j + 1) hj hd hc⟩
      · have e : qX f (j + 1) = qR a := by grind
        exact ⟨qX f (j + 1), j2, Rat.le_refl, by rw [e]; exact endA⟩
    · exact ⟨qR b, h2, by grind, endB⟩
  by_cases hlr : l < r
  · have hA := aff_piece hinc hj l2 (Rat.le_of_lt hlr) r2
    by_cases hle : pv f l ≤ pv f r
    · have := hA.mid hlr l1 r1 hle; grind
    · have := hA.mid' hlr l1 r1 (by grind); grind
  · have e : t = l := by grind
    rw [e]; exact l3
/-- **An interval's images hold the values of its fractions.** -/
theorem imgs_in {f : List Pt} {i : Iv} (h : mapOk f = true) (hi : ivOk i = true) {t : Rat} (h1 : qR i.a ≤ t) (h2 : t ≤ qR i.b) : ∀ k, (imgs f i k).2.2 = 0 → qR (imgs f i k).2.1.a ≤ itv f k t ∧ itv f k t ≤ qR (imgs f i k).2.1.b
  | 0, _ => ⟨h1, h2⟩
  | k + 1, hc => by
    have c0 : (imgs f i k).2.2 = 0 := by
      cases e : (imgs f i k).2.2 with
      | zero => rfl
      | succ n => rw [imgs_stay (by omega) (Nat.le_succ k)] at hc; omega
    obtain ⟨a1, a2⟩ := imgs_in h hi h1 h2 k c0
    have hv := ivOk_iff.1 (((imgs_inv h hi k).1 c0).2.1)
    cases c1 : imB f (imgs f i k).2.1.a (imgs f i k).2.1.b with
    | false => rw [imgs_1 c0 c1] at hc; cases hc
    | true =>
      by_cases c2 : (imO f (imgs f i k).2.1.a (imgs f i k).2.1.b).1 = (imO f (imgs f i k).2.1.a (imgs f i k).2.1.b).2
      · rw [imgs_2 c0 c1 c2] at hc; cases hc
      · rw [imgs_0 c0 c1 c2]
        exact im_in h hv.1 hv.2.1 c1 a1 a2
/-- the last image is the last of the list -/
theorem imgs_last {f : List Pt} {i : Iv} (h : mapOk f = true) (hi : ivOk i = true) : ∀ k, (imgs f i k).2.2 = 0 → getA (VK.dflt .iv) (imgs f i k).1 k = (imgs f i k).2.1
  | 0, _ => rfl
  | k + 1, hc => by
    have c0 : (imgs f i k).2.2 = 0 := by
      cases e : (imgs f i k).2.2 with
      | zero => rfl
      | succ n => rw [imgs_stay (by omega) (Nat.le_succ k)] at hc; omega
    have hl := ((imgs_inv h hi k).1 c0).1
    cases c1 : imB f (imgs f i k).2.1.a (imgs f i k).2.1.b with
    | false => rw [imgs_1 c0 c1] at hc; cases hc
    | true =>
      by_cases c2 : (imO f (imgs f i k).2.1.a (imgs f i k).2.1.b).1 = (imO f (imgs f i k).2.1.a (imgs f i k).2.1.b).2
      · rw [imgs_2 c0 c1 c2] at hc; cases hc
      · rw [imgs_0 c0 c1 c2]
        dsimp only
        have := getA_app_last (VK.dflt .iv) (imgs f i k).1 (⟨(imO f (imgs f i k).2.1.a (imgs f i k).2.1.b).1, (imO f (imgs f i k).2.1.a (imgs f i k).2.1.b).2⟩ : Iv)
        rw [hl] at this
        exact this
end Go.Vx
namespace Go.Vx
open Go Go.Proofs
set_option maxRecDepth 100000
set_option linter.unusedSimpArgs false
set_option linter.unusedVariables false

abbrev rT : Nat := 26
noncomputable def s_calc_image_1 : Sig := ⟨213, [.val .rat, .cell rT .rat, .cell rT .rat], [], fun ((y : Rt), (lo : Rt), (hi : Rt), _) => ⟨[goodRt y = true, goodRt lo = true, goodRt hi = true], (), (lsR lo y, grR hi y, ())⟩⟩
theorem ok_calc_image_1 : GSpec Tryz.prog s_calc_image_1 := by
  refine fn_known tab_ok fol ((Known.nil.cons ok_impl_lesser (by kernel_rfl)).cons ok_impl_greater (by kernel_rfl)) (by decide) Tryz.func213 ?_
  rintro ⟨⟨(n : Int), (d : Int)⟩, ⟨(m : Int), (e : Int)⟩, ⟨(n' : Int), (d' : Int)⟩, ⟨⟩⟩ - ⟨h1, h2, h3, _⟩
  repeat' (first | with_reducible apply andAll_cons | with_reducible apply andAll_nil | (with_reducible apply Cf.mk; kernel_rfl) | apply And.intro | intro _ | exact True.intro | apply Lf.mk)
  all_goals (try simp only [Bool.not_eq_true', Bool.not_eq_false', Bool.not_not, decide_eq_true_eq, decide_eq_false_iff_not, beq_iff_eq, bne_iff_ne, beq_eq_false_iff_ne, bne_eq_false_iff_eq, ne_eq, Bool.and_eq_true, Bool.and_eq_false_iff, Bool.or_eq_true, Bool.or_eq_false_iff, Int.toNat_natCast, Nat.zero_add, Int.ofNat_lt, Int.ofNat_le, List.length_cons, List.length_nil, List.drop_zero, List.take_length] at *)
  all_goals first | assumption | rfl
theorem inB_t {a b : Rt} {p : Pt} (h1 : lessRt a p.x = true) (h2 : lessRt p.x b = true) : inB' a b p = true := by unfold inB'; rw [h1, h2]; rfl
theorem inB_f1 {a b : Rt} {p : Pt} (h1 : lessRt a p.x = false) : ¬ inB' a b p = true := by unfold inB'; rw [h1]; simp
theorem inB_f2 {a b : Rt} {p : Pt} (h2 : lessRt p.x b = false) : ¬ inB' a b p = true := by unfold inB'; rw [h2]; simp
theorem flag2 {f : List Pt} {a b : Rt} (c : Bool) : ((c || !(vR f a).2) || !(vR f b).2) = (c || !imB f a b) := by
  unfold imB; cases c <;> cases (vR f a).2 <;> cases (vR f b).2 <;> rfl
noncomputable def s_calc_image : Sig := ⟨150, [.cell cT .bool, .list .pt, .val .rat, .val .rat], [.val .rat, .val .rat], fun ((c : Bool), (f : List Pt), (a : Rt), (b : Rt), _) => ⟨[mapOk f = true, unitRt a = true, unitRt b = true], ((imO f a b).1, (imO f a b).2, ()), (c || !imB f a b, ())⟩⟩
theorem ok_calc_image : GSpec Tryz.prog s_calc_image := by
  refine fn_known tab_ok fol (((Known.nil.cons ok_calc_value (by kernel_rfl)).cons ok_calc_image_1 (by kernel_rfl)).cons ok_impl_less (by kernel_rfl)) (by decide) Tryz.func150 ?_
  rintro ⟨(c : Bool), (f : List Pt), ⟨(n : Int), (d : Int)⟩, ⟨(m : Int), (e : Int)⟩, ⟨⟩⟩ ⟨hl, _⟩ ⟨h1, h2, h3, _⟩
  have hl : f.length ≤ 9223372036854775807 := hl
  have u1 := vO_unit h1 h2
  have u2 := vO_unit h1 h3
  have g1 := unit_good u1
  have g2 := unit_good u2
  repeat' (first | with_reducible apply andAll_cons | with_reducible apply andAll_nil | (with_reducible apply Cf.mk; kernel_rfl) | apply And.intro | intro _ | exact True.intro | apply Lf.mk)
  all_goals (try simp only [Bool.not_eq_true', Bool.not_eq_false', Bool.not_not, decide_eq_true_eq, decide_eq_false_iff_not, beq_iff_eq, bne_iff_ne, beq_eq_false_iff_ne, bne_eq_false_iff_eq, ne_eq, Bool.and_eq_true, Bool.and_eq_false_iff, Bool.or_eq_true, Bool.or_eq_false_iff, Int.toNat_natCast, Nat.zero_add, Int.ofNat_lt, Int.ofNat_le, List.length_cons, List.length_nil, List.drop_zero, List.take_length] at *)
  all_goals first | assumption | skip
  refine ⟨Nat, fun i => ⟨[(29, .sc (.num .i64 i))], [100000, 100001, 6, 7, 8, 9], [(10, .box rT [.num .i64 (imI f ⟨n, d⟩ ⟨m, e⟩ i).1.num, .num .i64 (imI f ⟨n, d⟩ ⟨m, e⟩ i).1.den]), (11, .box rT [.num .i64 (imI f ⟨n, d⟩ ⟨m, e⟩ i).2.num, .num .i64 (imI f ⟨n, d⟩ ⟨m, e⟩ i).2.den])]⟩, fun i => i ≤ f.length, fun i => f.length - i, ⟨0, Nat.zero_le _, ?_⟩, ?_⟩
  · repeat' (first | apply And.intro | exact True.intro | exact Lf.mk (by with_reducible rfl) | apply Lf.mk)
    all_goals rfl
  · intro i g3
    obtain ⟨r1, r2, r3⟩ := imI_rg h1 h2 h3 i g3
    have r1 := unit_good r1
    have r2 := unit_good r2
    repeat' (first | with_reducible apply andAll_cons | with_reducible apply andAll_nil | (with_reducible apply Cf.mk; kernel_rfl) | apply And.intro | intro _ | exact True.intro | apply Lf.mk)
    all_goals (try simp only [Bool.not_eq_true', Bool.not_eq_false', Bool.not_not, decide_eq_true_eq, decide_eq_false_iff_not, beq_iff_eq, bne_iff_ne, beq_eq_false_iff_ne, bne_eq_false_iff_eq, ne_eq, Bool.and_eq_true, Bool.and_eq_false_iff, Bool.or_eq_true, Bool.or_eq_false_iff, Int.toNat_natCast, Nat.zero_add, Int.ofNat_lt, Int.ofNat_le, List.length_cons, List.length_nil, List.drop_zero, List.take_length] at *)
    all_goals first | omega | assumption | exact unit_good h2 | exact unit_good h3 | exact coord_good (ptOk_iff.1 (map_pt h1 (by assumption))).1 | exact coord_good (ptOk_iff.1 (map_pt h1 (by assumption))).2 | skip
    · have e := imI_t (f := f) (i := i) (by assumption) (inB_t (a := ⟨n, d⟩) (b := ⟨m, e⟩) (by assumption) (by assumption))
      refine ⟨i + 1, by omega, by omega, ?_⟩
      repeat' (first | apply And.intro | exact True.intro | exact Lf.mk (by with_reducible rfl) | apply Lf.mk)
      all_goals first | (rw [Int.natCast_add]; rfl) | (rw [e]; done) | (rw [e]; rfl)
    · have e := imI_f (f := f) (i := i) (by assumption) (inB_f2 (a := ⟨n, d⟩) (b := ⟨m, e⟩) (by assumption))
      refine ⟨i + 1, by omega, by omega, ?_⟩
      repeat' (first | apply And.intro | exact True.intro | exact Lf.mk (by with_reducible rfl) | apply Lf.mk)
      all_goals first | (rw [Int.natCast_add]; rfl) | (rw [e]; done) | (rw [e]; rfl)
    · have e := imI_f (f := f) (i := i) (by assumption) (inB_f1 (a := ⟨n, d⟩) (b := ⟨m, e⟩) (by assumption))
      refine ⟨i + 1, by omega, by omega, ?_⟩
      repeat' (first | apply And.intro | exact True.intro | exact Lf.mk (by with_reducible rfl) | apply Lf.mk)
      all_goals first | (rw [Int.natCast_add]; rfl) | (rw [e]; done) | (rw [e]; rfl)
    · rw [show i = f.length by omega]; rfl
    · rw [show i = f.length by omega]; rfl
    · exact flag2 c
noncomputable def s_spec_imImage : Sig := ⟨151, [.list .pt, .val .rat, .val .rat], [.val .rat, .val .rat, .val .bool], fun ((f : List Pt), (a : Rt), (b : Rt), _) => ⟨[mapOk f = true, unitRt a = true, unitRt b = true], ((imR f a b).1, (imR f a b).2, imB f a b, ()), ()⟩⟩
@[irreducible] noncomputable def imV (f : List Pt) (a b : Rt) (i : Nat) : List Rt := vO f b :: inY a b (f.take i)
@[irreducible] noncomputable def imW (f : List Pt) (a b : Rt) (j : Nat) : Rt × Rt := ((imV f a b f.length).take j).foldl imF (vO f a, vO f a)
theorem imV_t {f : List Pt} {a b : Rt} {i : Nat} (h : i < f.length) (h1 : inB' a b (getA zP f i) = true) : imV f a b (i + 1) = imV f a b i ++ [(getA zP f i).y] := by
  unfold imV; rw [inY_succ h, if_pos h1]; rfl
theorem imV_f {f : List Pt} {a b : Rt} {i : Nat} (h : i < f.length) (h1 : ¬ inB' a b (getA zP f i) = true) : imV f a b (i + 1) = imV f a b i := by
  unfold imV; rw [inY_succ h, if_neg h1, List.append_nil]
theorem inY_len (a b : Rt) (l : List Pt) : (inY a b l).length ≤ l.length := by
  unfold inY; rw [List.length_map]; exact List.length_filter_le _ _
theorem imV_len {f : List Pt} {a b : Rt} {i : Nat} (h : i ≤ f.length) : (imV f a b i).length ≤ i + 1 := by
  have := inY_len a b (f.take i)
  unfold imV; rw [List.length_cons]; rw [List.length_take] at this; omega
theorem imV_unit {f : List Pt} {a b : Rt} {i : Nat} (h : mapOk f = true) (hb : unitRt b = true) : ∀ y ∈ imV f a b i, unitRt y = true := by
  intro y hy
  unfold imV at hy
  rcases List.mem_cons.1 hy with rfl | hy
  · exact vO_unit h hb
  · obtain ⟨p, hp, rfl⟩ := List.mem_map.1 hy
    have := List.mem_of_mem_take (List.mem_filter.1 hp).1
    exact coord_unit (ptOk_iff.1 ((mapOk_iff.1 h).2.1 _ this)).2
theorem imW_succ {f : List Pt} {a b : Rt} {j : Nat} (h : j < (imV f a b f.length).length) : imW f a b (j + 1) = imF (imW f a b j) (getA zR (imV f a b f.length) j) := by
  unfold imW
  rw [List.take_add_one, List.foldl_append, List.getElem?_eq_getElem h, getA_lt _ _ _ h]; rfl
theorem imW_end {f : List Pt} {a b : Rt} {j : Nat} (h : ¬ j < (imV f a b f.length).length) : imW f a b j = imO f a b := by
  unfold imW
  rw [List.take_of_length_le (by omega)]
  unfold imV imO imI
  rw [List.take_length]
  rfl
theorem imW_0 {f : List Pt} {a b : Rt} : imW f a b 0 = (vO f a, vO f a) := by unfold imW; rfl
theorem imW_rg {f : List Pt} {a b : Rt} (h : mapOk f = true) (ha : unitRt a = true) (hb : unitRt b = true) : ∀ (j : Nat), j ≤ (imV f a b f.length).length → Rg (imW f a b j)
  | 0, _ => by rw [imW_0]; exact rg_refl (vO_unit h ha)
  | j + 1, hj => by rw [imW_succ (by omega)]; exact imF_rg (imW_rg h ha hb j (by omega)) (imV_unit h hb _ (getA_mem _ (by omega)))
theorem imB_1 {f : List Pt} {a b : Rt} (h : (vR f a).2 = false) : imB f a b = false := by unfold imB; rw [h]; rfl
theorem imB_2 {f : List Pt} {a b : Rt} (h : (vR f b).2 = false) : imB f a b = false := by unfold imB; rw [h]; simp
theorem imB_t {f : List Pt} {a b : Rt} (h : (vR f a).2 = true) (h2 : (vR f b).2 = true) : imB f a b = true := by unfold imB; rw [h, h2]; rfl
theorem cmp_nlt' {a b : Rt} (h : ¬ cmpRt a b < 0) : ¬ ltR a b := fun h2 => h (cmpRt_neg.2 h2)
theorem imW_1 {f : List Pt} {a b : Rt} {j : Nat} (h : j < (imV f a b f.length).length) (c : ltR (getA zR (imV f a b f.length) j) (imW f a b j).1) : (imW f a b (j + 1)).1 = getA zR (imV f a b f.length) j := by
  rw [imW_succ h]; exact lsR_alt2 c
theorem imW_2 {f : List Pt} {a b : Rt} {j : Nat} (h : j < (imV f a b f.length).length) (g1 : goodRt (imW f a b j).1 = true) (g2 : goodRt (getA zR (imV f a b f.length) j) = true) (c : ¬ ltR (getA zR (imV f a b f.length) j) (imW f a b j).1) : (imW f a b (j + 1)).1 = (imW f a b j).1 := by
  rw [imW_succ h]; exact lsR_alt g1 g2 c
theorem imW_3 {f : List Pt} {a b : Rt} {j : Nat} (h : j < (imV f a b f.length).length) (c : ltR (imW f a b j).2 (getA zR (imV f a b f.length) j)) : (imW f a b (j + 1)).2 = getA zR (imV f a b f.length) j := by
  rw [imW_succ h]; exact grR_t c
theorem imW_4 {f : List Pt} {a b : Rt} {j : Nat} (h : j < (imV f a b f.length).length) (c : ¬ ltR (imW f a b j).2 (getA zR (imV f a b f.length) j)) : (imW f a b (j + 1)).2 = (imW f a b j).2 := by
  rw [imW_succ h]; exact grR_f c
theorem cmp_nlt {a b : Rt} (h : ¬ cmpRt a b < 0) : lessRt a b = false := by
  rw [Bool.eq_false_iff, ne_eq, ← cmp_lt_iff]; exact h
theorem ok_spec_imImage : GSpec Tryz.prog s_spec_imImage := by
  refine fn_known tab_ok fol ((Known.nil.cons ok_spec_imAt (by kernel_rfl)).cons ok_spec_raCmp (by kernel_rfl)) (by decide) Tryz.func151 ?_
  rintro ⟨(f : List Pt), ⟨(n : Int), (d : Int)⟩, ⟨(m : Int), (e : Int)⟩, ⟨⟩⟩ ⟨hl, _⟩ ⟨h1, h2, h3, _⟩
  have hl : f.length ≤ 9223372036854775807 := hl
  have hm := (mapOk_iff.1 h1).1
  repeat' (first | with_reducible apply andAll_cons | with_reducible apply andAll_nil | (with_reducible apply Cf.mk; kernel_rfl) | apply And.intro | intro _ | exact True.intro | apply Lf.mk)
  all_goals (try simp only [Bool.not_eq_true', Bool.not_eq_false', Bool.not_not, decide_eq_true_eq, decide_eq_false_iff_not, beq_iff_eq, bne_iff_ne, beq_eq_false_iff_ne, bne_eq_false_iff_eq, ne_eq, Bool.and_eq_true, Bool.and_eq_false_iff, Bool.or_eq_true, Bool.or_eq_false_iff, Int.toNat_natCast, Nat.zero_add, Int.ofNat_lt, Int.ofNat_le, List.length_cons, List.length_nil, List.drop_zero, List.take_length] at *)
  all_goals first
    | assumption
    | contradiction
    | exact (congrArg Prod.fst (imR_f (imB_1 (by assumption)))).symm
    | exact (congrArg Prod.snd (imR_f (imB_1 (by assumption)))).symm
    | exact (congrArg Prod.fst (imR_f (imB_2 (by assumption)))).symm
    | exact (congrArg Prod.snd (imR_f (imB_2 (by assumption)))).symm
    | exact (imB_1 (by assumption)).symm
    | exact (imB_2 (by assumption)).symm
    | skip
  rename_i hA hB
  have u1 := vR_unit h1 h2 hA
  have eA := vO_t hA
  have eB := vO_t hB
  refine ⟨Nat, fun i => ⟨[(44, .sc (.num .i64 i)), (14, .sc (.own 7777777))], [100000, 4, 5, 6, 7, 9, 11, 13], [(7777777, .row rT .rat (imV f ⟨n, d⟩ ⟨m, e⟩ i))]⟩, fun i => i ≤ f.length, fun i => f.length - i, ⟨0, Nat.zero_le _, ?_⟩, ?_⟩
  · repeat' (first | apply And.intro | exact True.intro | exact Lf.mk (by with_reducible rfl) | apply Lf.mk)
    all_goals first | rfl | (unfold imV; rw [eB]; rfl)
  · intro i g3
    have hL := imV_len (a := ⟨n, d⟩) (b := ⟨m, e⟩) g3
    repeat' (first | with_reducible apply andAll_cons | with_reducible apply andAll_nil | (with_reducible apply Cf.mk; kernel_rfl) | apply And.intro | intro _ | exact True.intro | apply Lf.mk)
    all_goals (try simp only [Bool.not_eq_true', Bool.not_eq_false', Bool.not_not, decide_eq_true_eq, decide_eq_false_iff_not, beq_iff_eq, bne_iff_ne, beq_eq_false_iff_ne, bne_eq_false_iff_eq, ne_eq, Bool.and_eq_true, Bool.and_eq_false_iff, Bool.or_eq_true, Bool.or_eq_false_iff, Int.toNat_natCast, Nat.zero_add, Int.ofNat_lt, Int.ofNat_le, List.length_cons, List.length_nil, List.drop_zero, List.take_length] at *)
    all_goals first | omega | assumption | exact unit_good h2 | exact unit_good h3 | exact coord_good (ptOk_iff.1 (map_pt h1 (by assumption))).1 | exact coord_good (ptOk_iff.1 (map_pt h1 (by assumption))).2 | (show (_ + 1) * 16 ≤ 140737488355328; omega) | skip
    · have e := imV_t (f := f) (i := i) (by assumption) (inB_t (a := ⟨n, d⟩) (b := ⟨m, e⟩) (cmp_lt_iff.1 (by assumption)) (cmp_lt_iff.1 (by assumption)))
      refine ⟨i + 1, by omega, by omega, ?_⟩
      repeat' (first | apply And.intro | exact True.intro | exact Lf.mk (by with_reducible rfl) | apply Lf.mk)
      all_goals first | (rw [Int.natCast_add]; rfl) | (rw [e]; done) | (rw [e]; rfl)
    · have e := imV_f (f := f) (i := i) (by assumption) (inB_f2 (a := ⟨n, d⟩) (b := ⟨m, e⟩) (cmp_nlt (by assumption)))
      refine ⟨i + 1, by omega, by omega, ?_⟩
      repeat' (first | apply And.intro | exact True.intro | exact Lf.mk (by with_reducible rfl) | apply Lf.mk)
      all_goals first | (rw [Int.natCast_add]; rfl) | (rw [e]; done) | (rw [e]; rfl)
    · have e := imV_f (f := f) (i := i) (by assumption) (inB_f1 (a := ⟨n, d⟩) (b := ⟨m, e⟩) (cmp_nlt (by assumption)))
      refine ⟨i + 1, by omega, by omega, ?_⟩
      repeat' (first | apply And.intro | exact True.intro | exact Lf.mk (by with_reducible rfl) | apply Lf.mk)
      all_goals first | (rw [Int.natCast_add]; rfl) | (rw [e]; done) | (rw [e]; rfl)
    · have hi : i = f.length := by omega
      subst hi
      refine ⟨Nat, fun j => ⟨[(68, .sc (.num .i64 j))], [6, 7, 7777777], [(9, .box rT [.num .i64 (imW f ⟨n, d⟩ ⟨m, e⟩ j).1.num, .num .i64 (imW f ⟨n, d⟩ ⟨m, e⟩ j).1.den]), (13, .box rT [.num .i64 (imW f ⟨n, d⟩ ⟨m, e⟩ j).2.num, .num .i64 (imW f ⟨n, d⟩ ⟨m, e⟩ j).2.den])]⟩, fun j => j ≤ (imV f ⟨n, d⟩ ⟨m, e⟩ f.length).length, fun j => (imV f ⟨n, d⟩ ⟨m, e⟩ f.length).length - j, ⟨0, Nat.zero_le _, ?_⟩, ?_⟩
      · repeat' (first | apply And.intro | exact True.intro | exact Lf.mk (by with_reducible rfl) | apply Lf.mk)
        all_goals first | rfl | exact congrArg Rt.num (eA.symm.trans (congrArg Prod.fst imW_0).symm) | exact congrArg Rt.den (eA.symm.trans (congrArg Prod.fst imW_0).symm) | exact congrArg Rt.num (eA.symm.trans (congrArg Prod.snd imW_0).symm) | exact congrArg Rt.den (eA.symm.trans (congrArg Prod.snd imW_0).symm)
      · intro j g4
        obtain ⟨r1, r2, r3⟩ := imW_rg h1 h2 h3 j g4
        have r1 := unit_good r1
        have r2 := unit_good r2
        repeat' (first | with_reducible apply andAll_cons | with_reducible apply andAll_nil | (with_reducible apply Cf.mk; kernel_rfl) | apply And.intro | intro _ | exact True.intro | apply Lf.mk)
        all_goals (try simp only [Bool.not_eq_true', Bool.not_eq_false', Bool.not_not, decide_eq_true_eq, decide_eq_false_iff_not, beq_iff_eq, bne_iff_ne, beq_eq_false_iff_ne, bne_eq_false_iff_eq, ne_eq, Bool.and_eq_true, Bool.and_eq_false_iff, Bool.or_eq_true, Bool.or_eq_false_iff, Int.toNat_natCast, Nat.zero_add, Int.ofNat_lt, Int.ofNat_le, List.length_cons, List.length_nil, List.drop_zero, List.take_length] at *)
        all_goals first | omega | assumption | exact unit_good (imV_unit h1 h3 _ (getA_mem _ (by assumption))) | (rw [imW_end (by assumption)]; exact (congrArg Prod.fst (imR_t hA hB)).symm) | (rw [imW_end (by assumption)]; exact (congrArg Prod.snd (imR_t hA hB)).symm) | exact (imB_t hA hB).symm | skip
        all_goals
          have hj : j < (imV f ⟨n, d⟩ ⟨m, e⟩ f.length).length := by assumption
          have gy := unit_good (imV_unit h1 h3 _ (getA_mem zR hj))
          have e1 := fun c => imW_1 (f := f) (a := ⟨n, d⟩) (b := ⟨m, e⟩) hj c
          have e2 := fun c => imW_2 (f := f) (a := ⟨n, d⟩) (b := ⟨m, e⟩) hj r1 gy c
          have e3 := fun c => imW_3 (f := f) (a := ⟨n, d⟩) (b := ⟨m, e⟩) hj c
          have e4 := fun c => imW_4 (f := f) (a := ⟨n, d⟩) (b := ⟨m, e⟩) hj c
          refine ⟨j + 1, by omega, by omega, ?_⟩
          repeat' (first | apply And.intro | exact True.intro | exact Lf.mk (by with_reducible rfl) | apply Lf.mk)
          all_goals first
            | (rw [Int.natCast_add]; rfl)
            | exact congrArg Rt.num (e1 (cmpRt_neg.1 (by assumption))).symm
            | exact congrArg Rt.den (e1 (cmpRt_neg.1 (by assumption))).symm
            | exact congrArg Rt.num (e2 (cmp_nlt' (by assumption))).symm
            | exact congrArg Rt.den (e2 (cmp_nlt' (by assumption))).symm
            | exact congrArg Rt.num (e3 (cmpRt_neg.1 (by assumption))).symm
            | exact congrArg Rt.den (e3 (cmpRt_neg.1 (by assumption))).symm
            | exact congrArg Rt.num (e4 (cmp_nlt' (by assumption))).symm
            | exact congrArg Rt.den (e4 (cmp_nlt' (by assumption))).symm
end Go.Vx
