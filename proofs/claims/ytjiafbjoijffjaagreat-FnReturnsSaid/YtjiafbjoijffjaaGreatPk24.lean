/- Scaling into and out of an interval, and the part of an image in it: the program's functions and the reference's. -/
import Derived.Test.YtjiafbjoijffjaaGreatPk23
namespace Go.Vx
open Go Go.Proofs
set_option maxRecDepth 100000
set_option linter.unusedSimpArgs false
set_option linter.unusedVariables false

abbrev zI : Iv := ⟨⟨0, 0⟩, ⟨0, 0⟩⟩
def rowB (L : List Iv) (j : Nat) : Bool := (List.range j).all fun k => sepR (getA zI L j) (getA zI L k)
def sepAll (L : List Iv) (n : Nat) : Bool := (List.range n).all (rowB L)
theorem row_no {L : List Iv} {j k : Nat} (hk : k < j) (h : sepR (getA zI L j) (getA zI L k) = false) : rowB L j = false := by
  rw [Bool.eq_false_iff]; intro h2
  have := List.all_eq_true.1 h2 k (List.mem_range.2 hk)
  rw [h] at this; cases this
theorem pair_no {L : List Iv} {n j : Nat} (hj : j < n) (h : rowB L j = false) : sepAll L n = false := by
  rw [Bool.eq_false_iff]; intro h2
  have := List.all_eq_true.1 h2 j (List.mem_range.2 hj)
  rw [h] at this; cases this
theorem row_yes {L : List Iv} {j : Nat} (h : ∀ k, k < j → sepR (getA zI L j) (getA zI L k) = true) : rowB L j = true :=
  List.all_eq_true.2 fun k hk => h k (List.mem_range.1 hk)
theorem pair_yes {L : List Iv} {n : Nat} (h : ∀ j, j < n → rowB L j = true) : sepAll L n = true :=
  List.all_eq_true.2 fun k hk => h k (List.mem_range.1 hk)
/-- an interval that returns, its images separate -/
def restB (L : List Iv) (n : Nat) : Bool := liesR (getA zI L n) (getA zI L 0) && sepAll L n
theorem rest_1 {L : List Iv} {n : Nat} (h : liesR (getA zI L n) (getA zI L 0) = false) : restB L n = false := by unfold restB; rw [h]; rfl
theorem rest_2 {L : List Iv} {n : Nat} (h : sepAll L n = false) : restB L n = false := by unfold restB; rw [h]; simp
theorem rest_3 {L : List Iv} {n : Nat} (h : sepAll L n = true) : restB L n = liesR (getA zI L n) (getA zI L 0) := by unfold restB; rw [h]; simp
theorem sep_of_meet {i k : Iv} (hi : ivOk i = true) (hk : ivOk k = true) (h : meetR i k = true) : sepR i k = false := by rw [meet_sep hi hk] at h; simpa using h
theorem sep_of_nmeet {i k : Iv} (hi : ivOk i = true) (hk : ivOk k = true) (h : meetR i k = false) : sepR i k = true := by rw [meet_sep hi hk] at h; simpa using h
noncomputable def s_impl_isRestrictive : Sig := ⟨68, [.list .iv], [.val .bool], fun ((L : List Iv), _) => ⟨[2 ≤ L.length, L.length ≤ 13, ∀ j ∈ L, ivOk j = true], (restB L (L.length - 1), ()), ()⟩⟩
theorem ok_impl_isRestrictive : GSpec Tryz.prog s_impl_isRestrictive := by
  refine fn_known tab_ok fol ((Known.nil.cons ok_impl_lies (by kernel_rfl)).cons ok_impl_common (by kernel_rfl)) (by decide) Tryz.func68 ?_
  rintro ⟨(L : List Iv), ⟨⟩⟩ ⟨hl, _⟩ ⟨h1, h2, h3, _⟩
  have hg : ∀ i, i < L.length → ivOk (getA zI L i) = true := fun i hi => h3 _ (getA_mem _ hi)
  have eL : ((L.length : Int) - 1).toNat = L.length - 1 := by omega
  repeat' (first | with_reducible apply andAll_cons | with_reducible apply andAll_nil | (with_reducible apply Cf.mk; kernel_rfl) | apply And.intro | intro _ | exact True.intro | apply Lf.mk)
  all_goals (try simp only [Bool.not_eq_true', Bool.not_eq_false', Bool.not_not, decide_eq_true_eq, decide_eq_false_iff_not, beq_iff_eq, bne_iff_ne, beq_eq_false_iff_ne, bne_eq_false_iff_eq, ne_eq, Bool.and_eq_true, Bool.and_eq_false_iff, Bool.or_eq_true, Bool.or_eq_false_iff, Int.toNat_natCast, Nat.zero_add, Int.ofNat_lt, Int.ofNat_le, List.length_cons, List.length_nil, List.drop_zero, List.take_length] at *)
  all_goals first | omega | exact hg _ (by omega) | exact hg 0 (by omega) | (simp only [eL] at *; exact (rest_1 (by assumption)).symm) | skip
  rename_i hlie
  simp only [eL] at hlie
  refine ⟨Nat, fun j => ⟨[(21, .sc (.num .i64 j))], [100000], []⟩, fun j => j ≤ L.length - 1 ∧ ∀ k, k < j → rowB L k = true, fun j => L.length - j, ⟨0, ⟨Nat.zero_le _, fun k hk => by omega⟩, ?_⟩, ?_⟩
  · repeat' (first | apply And.intro | exact True.intro | exact Lf.mk (by with_reducible rfl) | apply Lf.mk)
    all_goals rfl
  · rintro j ⟨g1, g2⟩
    repeat' (first | with_reducible apply andAll_cons | with_reducible apply andAll_nil | (with_reducible apply Cf.mk; kernel_rfl) | apply And.intro | intro _ | exact True.intro | apply Lf.mk)
    all_goals (try simp only [Bool.not_eq_true', Bool.not_eq_false', Bool.not_not, decide_eq_true_eq, decide_eq_false_iff_not, beq_iff_eq, bne_iff_ne, beq_eq_false_iff_ne, bne_eq_false_iff_eq, ne_eq, Bool.and_eq_true, Bool.and_eq_false_iff, Bool.or_eq_true, Bool.or_eq_false_iff, Int.toNat_natCast, Nat.zero_add, Int.ofNat_lt, Int.ofNat_le, List.length_cons, List.length_nil, List.drop_zero, List.take_length] at *)
    all_goals first | omega | skip
    · refine ⟨Nat, fun k => ⟨[(25, .sc (.num .i64 k))], [100000], []⟩, fun k => k ≤ j ∧ ∀ k', k' < k → sepR (getA zI L j) (getA zI L k') = true, fun k => j - k, ⟨0, ⟨Nat.zero_le _, fun k hk => by omega⟩, ?_⟩, ?_⟩
      · repeat' (first | apply And.intro | exact True.intro | exact Lf.mk (by with_reducible rfl) | apply Lf.mk)
        all_goals rfl
      · rintro k ⟨p1, p2⟩
        repeat' (first | with_reducible apply andAll_cons | with_reducible apply andAll_nil | (with_reducible apply Cf.mk; kernel_rfl) | apply And.intro | intro _ | exact True.intro | apply Lf.mk)
        all_goals (try simp only [Bool.not_eq_true', Bool.not_eq_false', Bool.not_not, decide_eq_true_eq, decide_eq_false_iff_not, beq_iff_eq, bne_iff_ne, beq_eq_false_iff_ne, bne_eq_false_iff_eq, ne_eq, Bool.and_eq_true, Bool.and_eq_false_iff, Bool.or_eq_true, Bool.or_eq_false_iff, Int.toNat_natCast, Nat.zero_add, Int.ofNat_lt, Int.ofNat_le, List.length_cons, List.length_nil, List.drop_zero, List.take_length] at *)
        all_goals first | omega | exact hg _ (by omega) | skip
        · rename_i q1 q2 q3
          exact (rest_2 (pair_no (j := j) (by omega) (row_no q2 (sep_of_meet (hg _ (by omega)) (hg _ (by omega)) q3)))).symm
        · rename_i q1 q2 q3
          refine ⟨k + 1, ⟨by omega, fun k' hk' => ?_⟩, by omega, ?_⟩
          · rcases Nat.lt_or_eq_of_le (Nat.le_of_lt_succ hk') with h7 | h7
            · exact p2 k' h7
            · rw [h7]; exact sep_of_nmeet (hg _ (by omega)) (hg _ (by omega)) q3
          · repeat' (first | apply And.intro | exact True.intro | exact Lf.mk (by with_reducible rfl) | apply Lf.mk)
            all_goals (rw [Int.natCast_add]; rfl)
        · rename_i q1 q2
          refine ⟨j + 1, ⟨by omega, fun k' hk' => ?_⟩, by omega, ?_⟩
          · rcases Nat.lt_or_eq_of_le (Nat.le_of_lt_succ hk') with h7 | h7
            · exact g2 k' h7
            · rw [h7]; exact row_yes fun k' hk' => p2 k' (by omega)
          · repeat' (first | apply And.intro | exact True.intro | exact Lf.mk (by with_reducible rfl) | apply Lf.mk)
            all_goals (rw [Int.natCast_add]; rfl)
    · rw [rest_3 (pair_yes fun k hk => g2 k (by omega))]; exact hlie.symm
noncomputable def rrRes (f : List Pt) (i : Iv) (n : Int) : Bool × Bool := match decide ((imgs f i n.toNat).2.2 = 0) with
  | true => (restB (imgs f i n.toNat).1 n.toNat, true)
  | false => (false, false)
theorem rr_t {f : List Pt} {i : Iv} {n : Int} (h : (imgs f i n.toNat).2.2 = 0) : rrRes f i n = (restB (imgs f i n.toNat).1 n.toNat, true) := by unfold rrRes; rw [decide_eq_true h]
theorem rr_f {f : List Pt} {i : Iv} {n : Int} (h : ¬ (imgs f i n.toNat).2.2 = 0) : rrRes f i n = (false, false) := by unfold rrRes; rw [decide_eq_false h]
noncomputable def s_spec_rnRestrictive : Sig := ⟨70, [.list .pt, .val .iv, .val NI], [.val .bool, .val .bool], fun ((f : List Pt), (i : Iv), (n : Int), _) => ⟨[retOk f i n = true], ((rrRes f i n).1, (rrRes f i n).2, ()), ()⟩⟩
theorem ok_spec_rnRestrictive : GSpec Tryz.prog s_spec_rnRestrictive := by
  refine fn_known tab_ok fol (((Known.nil.cons ok_spec_rnImages (by kernel_rfl)).cons ok_spec_ivSeparate (by kernel_rfl)).cons ok_spec_rnIn (by kernel_rfl)) (by decide) Tryz.func70 ?_
  rintro ⟨(f : List Pt), ⟨⟨(n : Int), (d : Int)⟩, ⟨(m : Int), (e : Int)⟩⟩, (k : Int), ⟨⟩⟩ - ⟨hr, _⟩
  obtain ⟨m1, m2, m3, m4⟩ := retOk_iff.1 hr
  repeat' (first | with_reducible apply andAll_cons | with_reducible apply andAll_nil | (with_reducible apply Cf.mk; kernel_rfl) | apply And.intro | intro _ | exact True.intro | apply Lf.mk)
  all_goals (try simp only [Bool.not_eq_true', Bool.not_eq_false', Bool.not_not, decide_eq_true_eq, decide_eq_false_iff_not, beq_iff_eq, bne_iff_ne, beq_eq_false_iff_ne, bne_eq_false_iff_eq, ne_eq, Bool.and_eq_true, Bool.and_eq_false_iff, Bool.or_eq_true, Bool.or_eq_false_iff, Int.toNat_natCast, Nat.zero_add, Int.ofNat_lt, Int.ofNat_le, List.length_cons, List.length_nil, List.drop_zero, List.take_length] at *)
  all_goals first | omega | assumption | (rw [rr_f (by assumption)]; done) | skip
  all_goals (rename_i hc; obtain ⟨w3, w4, w7, w8, w2, w9⟩ := im_facts hr hc)
  · omega
  have hg : ∀ i, i < (imgs f ⟨⟨n, d⟩, ⟨m, e⟩⟩ k.toNat).1.length → ivOk (getA zI (imgs f ⟨⟨n, d⟩, ⟨m, e⟩⟩ k.toNat).1 i) = true := fun i hi => w8 _ (getA_mem _ hi)
  rw [rr_t hc]
  refine ⟨Nat, fun j => ⟨[(27, .sc (.num .i64 j))], [4, 200180], []⟩, fun j => j ≤ k.toNat ∧ ∀ k', k' < j → rowB (imgs f ⟨⟨n, d⟩, ⟨m, e⟩⟩ k.toNat).1 k' = true, fun j => k.toNat - j, ⟨0, ⟨Nat.zero_le _, fun k hk => by omega⟩, ?_⟩, ?_⟩
  · repeat' (first | apply And.intro | exact True.intro | exact Lf.mk (by with_reducible rfl) | apply Lf.mk)
    all_goals rfl
  · rintro j ⟨g1, g2⟩
    repeat' (first | with_reducible apply andAll_cons | with_reducible apply andAll_nil | (with_reducible apply Cf.mk; kernel_rfl) | apply And.intro | intro _ | exact True.intro | apply Lf.mk)
    all_goals (try simp only [Bool.not_eq_true', Bool.not_eq_false', Bool.not_not, decide_eq_true_eq, decide_eq_false_iff_not, beq_iff_eq, bne_iff_ne, beq_eq_false_iff_ne, bne_eq_false_iff_eq, ne_eq, Bool.and_eq_true, Bool.and_eq_false_iff, Bool.or_eq_true, Bool.or_eq_false_iff, Int.toNat_natCast, Nat.zero_add, Int.ofNat_lt, Int.ofNat_le, List.length_cons, List.length_nil, List.drop_zero, List.take_length] at *)
    all_goals first | omega | exact hg _ (by omega) | exact w2 | skip
    · refine ⟨Nat, fun q => ⟨[(36, .sc (.num .i64 q))], [4, 200180, 11], []⟩, fun q => q ≤ j ∧ ∀ k', k' < q → sepR (getA zI (imgs f ⟨⟨n, d⟩, ⟨m, e⟩⟩ k.toNat).1 j) (getA zI (imgs f ⟨⟨n, d⟩, ⟨m, e⟩⟩ k.toNat).1 k') = true, fun q => j - q, ⟨0, ⟨Nat.zero_le _, fun k hk => by omega⟩, ?_⟩, ?_⟩
      · repeat' (first | apply And.intro | exact True.intro | exact Lf.mk (by with_reducible rfl) | apply Lf.mk)
        all_goals rfl
      · rintro q ⟨p1, p2⟩
        repeat' (first | with_reducible apply andAll_cons | with_reducible apply andAll_nil | (with_reducible apply Cf.mk; kernel_rfl) | apply And.intro | intro _ | exact True.intro | apply Lf.mk)
        all_goals (try simp only [Bool.not_eq_true', Bool.not_eq_false', Bool.not_not, decide_eq_true_eq, decide_eq_false_iff_not, beq_iff_eq, bne_iff_ne, beq_eq_false_iff_ne, bne_eq_false_iff_eq, ne_eq, Bool.and_eq_true, Bool.and_eq_false_iff, Bool.or_eq_true, Bool.or_eq_false_iff, Int.toNat_natCast, Nat.zero_add, Int.ofNat_lt, Int.ofNat_le, List.length_cons, List.length_nil, List.drop_zero, List.take_length] at *)
        all_goals first | omega | exact hg _ (by omega) | skip
        · rename_i q1 q2 q3
          exact (rest_2 (pair_no (j := j) (by omega) (row_no (by omega) q3))).symm
        · rename_i q1 q2 q3
          refine ⟨q + 1, ⟨by omega, fun k' hk' => ?_⟩, by omega, ?_⟩
          · rcases Nat.lt_or_eq_of_le (Nat.le_of_lt_succ hk') with h7 | h7
            · exact p2 k' h7
            · rw [h7]; exact q3
          · repeat' (first | apply And.intro | exact True.intro | exact Lf.mk (by with_reducible rfl) | apply Lf.mk)
            all_goals (rw [Int.natCast_add]; rfl)
        · rename_i q1 q2
          refine ⟨j + 1, ⟨by omega, fun k' hk' => ?_⟩, by omega, ?_⟩
          · rcases Nat.lt_or_eq_of_le (Nat.le_of_lt_succ hk') with h7 | h7
            · exact g2 k' h7
            · rw [h7]; exact row_yes fun k' hk' => p2 k' (by omega)
          · repeat' (first | apply And.intro | exact True.intro | exact Lf.mk (by with_reducible rfl) | apply Lf.mk)
            all_goals (rw [Int.natCast_add]; rfl)
    · have hq := rest_3 (pair_yes fun k' hk => g2 k' (by omega) : sepAll (imgs f ⟨⟨n, d⟩, ⟨m, e⟩⟩ k.toNat).1 k.toNat = true)
      have e2 : getA zI (imgs f ⟨⟨n, d⟩, ⟨m, e⟩⟩ k.toNat).1 0 = ⟨⟨n, d⟩, ⟨m, e⟩⟩ := w9
      rw [e2] at hq
      exact hq.symm
/-- whether an interval is restrictive -/
noncomputable def irRes (f : List Pt) (i : Iv) (n : Int) : Bool × Bool := match retOk f i n with
  | true => rrRes f i n
  | false => (false, false)
theorem ir_t {f : List Pt} {i : Iv} {n : Int} (h : retOk f i n = true) : irRes f i n = rrRes f i n := by unfold irRes; rw [h]
theorem ir_f {f : List Pt} {i : Iv} {n : Int} (h : retOk f i n = false) : irRes f i n = (false, false) := by unfold irRes; rw [h]
theorem ir_no {f : List Pt} {i : Iv} {n : Int} (h : (imsRes f i n).2 = false) : irRes f i n = (false, false) := by
  cases hr : retOk f i n with
  | false => exact ir_f hr
  | true =>
    rw [ir_t hr]
    rw [ims_t hr] at h
    exact rr_f (of_decide_eq_false h)
theorem ir_yes {f : List Pt} {i : Iv} {n : Int} (h : (imsRes f i n).2 = true) : irRes f i n = (restB (imsRes f i n).1 ((imsRes f i n).1.length - 1), true) := by
  obtain ⟨h1, h2, h3, h4, h5, h6, h7, h8, h9⟩ := ims_ok h
  rw [ir_t (retOk_iff.2 ⟨h1, h2, h3, h4⟩), rr_t h5, h7, h6, Nat.add_sub_cancel]
noncomputable def s_impl_IsRestrictive : Sig := ⟨9, [.list .pt, .val .iv, .val NI], [.val .bool, .val .bool], fun ((f : List Pt), (i : Iv), (n : Int), _) => ⟨[], ((irRes f i n).1, (irRes f i n).2, ()), ()⟩⟩
noncomputable def s_spec_IsRestrictive : Sig := ⟨10, [.list .pt, .val .iv, .val NI], [.val .bool, .val .bool], fun ((f : List Pt), (i : Iv), (n : Int), _) => ⟨[], ((irRes f i n).1, (irRes f i n).2, ()), ()⟩⟩
theorem ok_impl_IsRestrictive : GSpec Tryz.prog s_impl_IsRestrictive := by
  refine fn_known tab_ok fol ((Known.nil.cons ok_impl_ImagesOf (by kernel_rfl)).cons ok_impl_isRestrictive (by kernel_rfl)) (by decide) Tryz.func9 ?_
  rintro ⟨(f : List Pt), ⟨⟨(n : Int), (d : Int)⟩, ⟨(m : Int), (e : Int)⟩⟩, (k : Int), ⟨⟩⟩ - -
  repeat' (first | with_reducible apply andAll_cons | with_reducible apply andAll_nil | (with_reducible apply Cf.mk; kernel_rfl) | apply And.intro | intro _ | exact True.intro | apply Lf.mk)
  all_goals (try simp only [Bool.not_eq_true', Bool.not_eq_false', Bool.not_not, decide_eq_true_eq, decide_eq_false_iff_not, beq_iff_eq, bne_iff_ne, beq_eq_false_iff_ne, bne_eq_false_iff_eq, ne_eq, Bool.and_eq_true, Bool.and_eq_false_iff, Bool.or_eq_true, Bool.or_eq_false_iff, Int.toNat_natCast, Nat.zero_add, Int.ofNat_lt, Int.ofNat_le, List.length_cons, List.length_nil, List.drop_zero, List.take_length] at *)
  all_goals first
    | (rw [ir_no (by assumption)]; done)
    | (rw [ir_yes (by assumption)]; done)
    | (have h := ims_ok (by assumption : (imsRes _ _ _).2 = true); first | omega | exact h.2.2.2.2.2.2.2.1 _ (by assumption))
    | skip
theorem ok_spec_IsRestrictive : GSpec Tryz.prog s_spec_IsRestrictive := by
  refine fn_known tab_ok fol ((Known.nil.cons ok_spec_rnAsked (by kernel_rfl)).cons ok_spec_rnRestrictive (by kernel_rfl)) (by decide) Tryz.func10 ?_
  rintro ⟨(f : List Pt), ⟨⟨(n : Int), (d : Int)⟩, ⟨(m : Int), (e : Int)⟩⟩, (k : Int), ⟨⟩⟩ - -
  repeat' (first | with_reducible apply andAll_cons | with_reducible apply andAll_nil | (with_reducible apply Cf.mk; kernel_rfl) | apply And.intro | intro _ | exact True.intro | apply Lf.mk)
  all_goals (try simp only [Bool.not_eq_true', Bool.not_eq_false', Bool.not_not, decide_eq_true_eq, decide_eq_false_iff_not, beq_iff_eq, bne_iff_ne, beq_eq_false_iff_ne, bne_eq_false_iff_eq, ne_eq, Bool.and_eq_true, Bool.and_eq_false_iff, Bool.or_eq_true, Bool.or_eq_false_iff, Int.toNat_natCast, Nat.zero_add, Int.ofNat_lt, Int.ofNat_le, List.length_cons, List.length_nil, List.drop_zero, List.take_length] at *)
  all_goals first
    | assumption
    | (rw [ir_f (by assumption)]; done)
    | (rw [ir_t (by assumption)]; done)
    | skip
noncomputable def rtG (f : List Pt) (i : Iv) : Nat → Nat → Rt → Int × Bool
  | 0, _, _ => (0, false)
  | k + 1, n, x => match (vR f x).2 with
    | true => match hasR i (vR f x).1 with
      | true => ((n : Int), true)
      | false => rtG f i k (n + 1) (vR f x).1
    | false => (0, false)
theorem rtG_bad {f : List Pt} {i : Iv} {M j : Nat} {x : Rt} (hj : j < M) (h : (vR f x).2 = false) : rtG f i (M - j) (j + 1) x = (0, false) := by
  rw [show M - j = (M - (j + 1)) + 1 by omega, rtG, h]
theorem rtG_hit {f : List Pt} {i : Iv} {M j : Nat} {x : Rt} (hj : j < M) (h : (vR f x).2 = true) (h2 : hasR i (vR f x).1 = true) : rtG f i (M - j) (j + 1) x = (((j + 1 : Nat) : Int), true) := by
  rw [show M - j = (M - (j + 1)) + 1 by omega, rtG, h, h2]
theorem rtG_miss {f : List Pt} {i : Iv} {M j : Nat} {x : Rt} (hj : j < M) (h : (vR f x).2 = true) (h2 : hasR i (vR f x).1 = false) : rtG f i (M - j) (j + 1) x = rtG f i (M - (j + 1)) (j + 1 + 1) (vR f x).1 := by
  rw [show M - j = (M - (j + 1)) + 1 by omega, rtG, h, h2]
theorem rtG_end {f : List Pt} {i : Iv} {M j : Nat} {x : Rt} (hj : ¬ j < M) : rtG f i (M - j) (j + 1) x = (0, false) := by
  rw [show M - j = 0 by omega]; rfl
noncomputable def rtOk (f : List Pt) (i : Iv) (x : Rt) (n : Int) : Bool := retOk f i n && (unitRt x && hasR i x)
noncomputable def rtRes (f : List Pt) (i : Iv) (x : Rt) (n : Int) : Int × Bool := match rtOk f i x n with
  | true => rtG f i n.toNat 1 x
  | false => (0, false)
theorem rt_t {f : List Pt} {i : Iv} {x : Rt} {n : Int} (h : rtOk f i x n = true) : rtRes f i x n = rtG f i n.toNat 1 x := by unfold rtRes; rw [h]
theorem rt_f {f : List Pt} {i : Iv} {x : Rt} {n : Int} (h : rtOk f i x n = false) : rtRes f i x n = (0, false) := by unfold rtRes; rw [h]
theorem rt_f1 {f : List Pt} {i : Iv} {x : Rt} {n : Int} (h : retOk f i n = false) : rtRes f i x n = (0, false) := rt_f (by unfold rtOk; rw [h]; rfl)
theorem rt_f2 {f : List Pt} {i : Iv} {x : Rt} {n : Int} (h : unitRt x = false) : rtRes f i x n = (0, false) := rt_f (by unfold rtOk; rw [h]; simp)
theorem rt_f3 {f : List Pt} {i : Iv} {x : Rt} {n : Int} (h : hasR i x = false) : rtRes f i x n = (0, false) := rt_f (by unfold rtOk; rw [h]; simp)
theorem rt_tt {f : List Pt} {i : Iv} {x : Rt} {n : Int} (h : retOk f i n = true) (h2 : unitRt x = true) (h3 : hasR i x = true) : rtRes f i x n = rtG f i n.toNat 1 x := rt_t (by unfold rtOk; rw [h, h2, h3]; rfl)
noncomputable def s_impl_ReturnTime : Sig := ⟨46, [.list .pt, .val .iv, .val .rat, .val NI], [.val NI, .val .bool], fun ((f : List Pt), (i : Iv), (x : Rt), (n : Int), _) => ⟨[], ((rtRes f i x n).1, (rtRes f i x n).2, ()), ()⟩⟩
noncomputable def s_spec_ReturnTime : Sig := ⟨47, [.list .pt, .val .iv, .val .rat, .val NI], [.val NI, .val .bool], fun ((f : List Pt), (i : Iv), (x : Rt), (n : Int), _) => ⟨[], ((rtRes f i x n).1, (rtRes f i x n).2, ()), ()⟩⟩
theorem ok_impl_ReturnTime : GSpec Tryz.prog s_impl_ReturnTime := by
  refine fn_known tab_ok fol ((((Known.nil.cons ok_impl_isReturn (by kernel_rfl)).cons ok_impl_isUnit (by kernel_rfl)).cons ok_impl_isIn (by kernel_rfl)).cons ok_calc_value (by kernel_rfl)) (by decide) Tryz.func46 ?_
  rintro ⟨(f : List Pt), ⟨⟨(n : Int), (d : Int)⟩, ⟨(m : Int), (e : Int)⟩⟩, ⟨(n' : Int), (d' : Int)⟩, (k : Int), ⟨⟩⟩ - -
  repeat' (first | with_reducible apply andAll_cons | with_reducible apply andAll_nil | (with_reducible apply Cf.mk; kernel_rfl) | apply And.intro | intro _ | exact True.intro | apply Lf.mk)
  all_goals (try simp only [Bool.not_eq_true', Bool.not_eq_false', Bool.not_not, decide_eq_true_eq, decide_eq_false_iff_not, beq_iff_eq, bne_iff_ne, beq_eq_false_iff_ne, bne_eq_false_iff_eq, ne_eq, Bool.and_eq_true, Bool.and_eq_false_iff, Bool.or_eq_true, Bool.or_eq_false_iff, Int.toNat_natCast, Nat.zero_add, Int.ofNat_lt, Int.ofNat_le, List.length_cons, List.length_nil, List.drop_zero, List.take_length] at *)
  all_goals first
    | exact (retOk_iff.1 (by assumption)).2.1
    | exact unit_good (by assumption)
    | (rw [rt_f1 (by assumption)]; done)
    | (rw [rt_f2 (by assumption)]; done)
    | (rw [rt_f3 (by assumption)]; done)
    | skip
  rename_i hr hu hh
  obtain ⟨m1, m2, m3, m4⟩ := retOk_iff.1 hr
  refine ⟨Nat × Rt, fun x => ⟨[(11, .sc (.num .i64 ((x.1 : Int) + 1)))], [100000, 5], [(6, .box rT [.num .i64 x.2.num, .num .i64 x.2.den]), (10, .box cT [.bool false])]⟩, fun x => x.1 ≤ k.toNat ∧ unitRt x.2 = true ∧ rtG f ⟨⟨n, d⟩, ⟨m, e⟩⟩ (k.toNat - x.1) (x.1 + 1) x.2 = rtRes f ⟨⟨n, d⟩, ⟨m, e⟩⟩ ⟨n', d'⟩ k, fun x => k.toNat - x.1, ⟨(0, ⟨n', d'⟩), ⟨Nat.zero_le _, hu, (rt_tt hr hu hh).symm⟩, ?_⟩, ?_⟩
  · repeat' (first | apply And.intro | exact True.intro | exact Lf.mk (by with_reducible rfl) | apply Lf.mk)
    all_goals rfl
  · rintro ⟨j, ⟨(a : Int), (b : Int)⟩⟩ ⟨g1, g2, g3⟩
    dsimp only at g1 g2 g3
    repeat' (first | with_reducible apply andAll_cons | with_reducible apply andAll_nil | (with_reducible apply Cf.mk; kernel_rfl) | apply And.intro | intro _ | exact True.intro | apply Lf.mk)
    all_goals (try simp only [Bool.not_eq_true', Bool.not_eq_false', Bool.not_not, decide_eq_true_eq, decide_eq_false_iff_not, beq_iff_eq, bne_iff_ne, beq_eq_false_iff_ne, bne_eq_false_iff_eq, ne_eq, Bool.and_eq_true, Bool.and_eq_false_iff, Bool.or_eq_true, Bool.or_eq_false_iff, Int.toNat_natCast, Nat.zero_add, Int.ofNat_lt, Int.ofNat_le, List.length_cons, List.length_nil, List.drop_zero, List.take_length] at *)
    all_goals first
      | omega
      | assumption
      | exact unit_good (by assumption)
      | exact unit_good (vO_unit m1 g2)
      | exact unit_good (vR_unit m1 g2 (by assumption))
      | exact (congrArg Prod.fst ((rtG_bad (by omega) ((by assumption : false = true ∨ _).resolve_left Bool.noConfusion)).symm.trans g3))
      | exact (congrArg Prod.snd ((rtG_bad (by omega) ((by assumption : false = true ∨ _).resolve_left Bool.noConfusion)).symm.trans g3))
      | exact (congrArg Prod.fst ((rtG_hit (by omega) (by assumption : True ∧ _).2 (by rw [← vO_t (by assumption : True ∧ _).2]; assumption)).symm.trans g3))
      | exact (congrArg Prod.snd ((rtG_hit (by omega) (by assumption : True ∧ _).2 (by rw [← vO_t (by assumption : True ∧ _).2]; assumption)).symm.trans g3))
      | exact (congrArg Prod.fst ((rtG_end (by omega)).symm.trans g3))
      | exact (congrArg Prod.snd ((rtG_end (by omega)).symm.trans g3))
      | skip
    · refine ⟨(j + 1, (vR f ⟨a, b⟩).1), ⟨by dsimp only; omega, vR_unit m1 g2 (by assumption : True ∧ _).2, (rtG_miss (by omega) (by assumption : True ∧ _).2 (by rw [← vO_t (by assumption : True ∧ _).2]; assumption)).symm.trans g3⟩, by dsimp only; omega, ?_⟩
      repeat' (first | apply And.intro | exact True.intro | exact Lf.mk (by with_reducible rfl) | apply Lf.mk)
      all_goals first | rfl | (rw [Int.natCast_add]; rfl) | exact congrArg Rt.num (vO_t (by assumption : True ∧ _).2) | exact congrArg Rt.den (vO_t (by assumption : True ∧ _).2) | exact fC (by assumption : True ∧ _).2 | skip
theorem ok_spec_ReturnTime : GSpec Tryz.prog s_spec_ReturnTime := by
  refine fn_known tab_ok fol ((((Known.nil.cons ok_spec_rnAsked (by kernel_rfl)).cons ok_spec_raUnit (by kernel_rfl)).cons ok_spec_rnHas (by kernel_rfl)).cons ok_spec_imAt (by kernel_rfl)) (by decide) Tryz.func47 ?_
  rintro ⟨(f : List Pt), ⟨⟨(n : Int), (d : Int)⟩, ⟨(m : Int), (e : Int)⟩⟩, ⟨(n' : Int), (d' : Int)⟩, (k : Int), ⟨⟩⟩ - -
  repeat' (first | with_reducible apply andAll_cons | with_reducible apply andAll_nil | (with_reducible apply Cf.mk; kernel_rfl) | apply And.intro | intro _ | exact True.intro | apply Lf.mk)
  all_goals (try simp only [Bool.not_eq_true', Bool.not_eq_false', Bool.not_not, decide_eq_true_eq, decide_eq_false_iff_not, beq_iff_eq, bne_iff_ne, beq_eq_false_iff_ne, bne_eq_false_iff_eq, ne_eq, Bool.and_eq_true, Bool.and_eq_false_iff, Bool.or_eq_true, Bool.or_eq_false_iff, Int.toNat_natCast, Nat.zero_add, Int.ofNat_lt, Int.ofNat_le, List.length_cons, List.length_nil, List.drop_zero, List.take_length] at *)
  all_goals first
    | exact (retOk_iff.1 (by assumption)).2.1
    | exact unit_good (by assumption)
    | (rw [rt_f1 (by assumption)]; done)
    | (rw [rt_f2 (by assumption)]; done)
    | (rw [rt_f3 (by assumption)]; done)
    | skip
  rename_i hr hu hh
  obtain ⟨m1, m2, m3, m4⟩ := retOk_iff.1 hr
  refine ⟨Nat × Rt, fun x => ⟨[(10, .sc (.num .i64 ((x.1 : Int) + 1)))], [100000, 5], [(6, .box rT [.num .i64 x.2.num, .num .i64 x.2.den])]⟩, fun x => x.1 ≤ k.toNat ∧ unitRt x.2 = true ∧ rtG f ⟨⟨n, d⟩, ⟨m, e⟩⟩ (k.toNat - x.1) (x.1 + 1) x.2 = rtRes f ⟨⟨n, d⟩, ⟨m, e⟩⟩ ⟨n', d'⟩ k, fun x => k.toNat - x.1, ⟨(0, ⟨n', d'⟩), ⟨Nat.zero_le _, hu, (rt_tt hr hu hh).symm⟩, ?_⟩, ?_⟩
  · repeat' (first | apply And.intro | exact True.intro | exact Lf.mk (by with_reducible rfl) | apply Lf.mk)
    all_goals rfl
  · rintro ⟨j, ⟨(a : Int), (b : Int)⟩⟩ ⟨g1, g2, g3⟩
    dsimp only at g1 g2 g3
    repeat' (first | with_reducible apply andAll_cons | with_reducible apply andAll_nil | (with_reducible apply Cf.mk; kernel_rfl) | apply And.intro | intro _ | exact True.intro | apply Lf.mk)
    all_goals (try simp only [Bool.not_eq_true', Bool.not_eq_false', Bool.not_not, decide_eq_true_eq, decide_eq_false_iff_not, beq_iff_eq, bne_iff_ne, beq_eq_false_iff_ne, bne_eq_false_iff_eq, ne_eq, Bool.and_eq_true, Bool.and_eq_false_iff, Bool.or_eq_true, Bool.or_eq_false_iff, Int.toNat_natCast, Nat.zero_add, Int.ofNat_lt, Int.ofNat_le, List.length_cons, List.length_nil, List.drop_zero, List.take_length] at *)
    all_goals first
      | omega
      | assumption
      | exact unit_good (by assumption)
      | exact unit_good (vO_unit m1 g2)
      | exact unit_good (vR_unit m1 g2 (by assumption))
      | exact (congrArg Prod.fst ((rtG_bad (by omega) (by assumption)).symm.trans g3))
      | exact (congrArg Prod.snd ((rtG_bad (by omega) (by assumption)).symm.trans g3))
      | exact (congrArg Prod.fst ((rtG_hit (by omega) (by assumption) (by assumption)).symm.trans g3))
      | exact (congrArg Prod.snd ((rtG_hit (by omega) (by assumption) (by assumption)).symm.trans g3))
      | exact (congrArg Prod.fst ((rtG_end (by omega)).symm.trans g3))
      | exact (congrArg Prod.snd ((rtG_end (by omega)).symm.trans g3))
      | skip
    · refine ⟨(j + 1, (vR f ⟨a, b⟩).1), ⟨by dsimp only; omega, vR_unit m1 g2 (by assumption), (rtG_miss (by omega) (by assumption) (by assumption)).symm.trans g3⟩, by dsimp only; omega, ?_⟩
      repeat' (first | apply And.intro | exact True.intro | exact Lf.mk (by with_reducible rfl) | apply Lf.mk)
      all_goals first | rfl | (rw [Int.natCast_add]; rfl) | exact congrArg Rt.num (vO_t (by assumption)) | exact congrArg Rt.den (vO_t (by assumption)) | exact fC (by assumption) | skip
end Go.Vx
namespace Go.Vx
open Go Go.Proofs
set_option maxRecDepth 100000
set_option linter.unusedSimpArgs false
set_option linter.unusedVariables false

@[irreducible] noncomputable def scOut (i : Iv) (x : Rt) : Rt × Bool := match (subRt x i.a).2 with
  | true => match (subRt i.b i.a).2 with
    | true => divRt (subRt x i.a).1 (subRt i.b i.a).1
    | false => (⟨0, 0⟩, false)
  | false => (⟨0, 0⟩, false)
theorem scOut_1 {i : Iv} {x : Rt} (h : (subRt x i.a).2 = false) : scOut i x = (⟨0, 0⟩, false) := by unfold scOut; rw [h]
theorem scOut_2 {i : Iv} {x : Rt} (h : (subRt i.b i.a).2 = false) : scOut i x = (⟨0, 0⟩, false) := by unfold scOut; rw [h]; cases (subRt x i.a).2 <;> rfl
theorem scOut_3 {i : Iv} {x : Rt} (h : (subRt x i.a).2 = true) (h2 : (subRt i.b i.a).2 = true) : scOut i x = divRt (subRt x i.a).1 (subRt i.b i.a).1 := by unfold scOut; rw [h, h2]
@[irreducible] noncomputable def scO (i : Iv) (x : Rt) : Rt := opR (divRt (opR (subRt x i.a)) (opR (subRt i.b i.a)))
theorem scOut_flag (c : Bool) (i : Iv) (x : Rt) : (((c || !(subRt x i.a).2) || !(subRt i.b i.a).2) || !(divRt (opR (subRt x i.a)) (opR (subRt i.b i.a))).2) = (c || !(scOut i x).2) := by
  cases h1 : (subRt x i.a).2 with
  | false => rw [scOut_1 h1]; simp
  | true =>
    cases h2 : (subRt i.b i.a).2 with
    | false => rw [scOut_2 h2]; simp
    | true => rw [scOut_3 h1 h2, opR_t h1, opR_t h2]; simp
theorem scO_t {i : Iv} {x : Rt} (h : (scOut i x).2 = true) : scO i x = (scOut i x).1 := by
  cases h1 : (subRt x i.a).2 with
  | false => rw [scOut_1 h1] at h; cases h
  | true =>
    cases h2 : (subRt i.b i.a).2 with
    | false => rw [scOut_2 h2] at h; cases h
    | true =>
      rw [scOut_3 h1 h2] at h ⊢
      unfold scO
      rw [opR_t h1, opR_t h2, opR_t h]
theorem scOut_bad {i : Iv} {x : Rt} (h : (scOut i x).2 = false) : scOut i x = (⟨0, 0⟩, false) := by
  cases h1 : (subRt x i.a).2 with
  | false => exact scOut_1 h1
  | true =>
    cases h2 : (subRt i.b i.a).2 with
    | false => exact scOut_2 h2
    | true => rw [scOut_3 h1 h2] at h ⊢; exact lowRt_bad h
noncomputable def s_calc_scaleOut : Sig := ⟨103, [.cell cT .bool, .val .iv, .val .rat], [.val .rat], fun ((c : Bool), (i : Iv), (x : Rt), _) => ⟨[ivOk i = true, goodRt x = true], (scO i x, ()), (c || !(scOut i x).2, ())⟩⟩
theorem ok_calc_scaleOut : GSpec Tryz.prog s_calc_scaleOut := by
  refine fn_known tab_ok fol ((Known.nil.cons ok_calc_sub (by kernel_rfl)).cons ok_calc_div (by kernel_rfl)) (by decide) Tryz.func103 ?_
  rintro ⟨(c : Bool), ⟨⟨(n : Int), (d : Int)⟩, ⟨(m : Int), (e : Int)⟩⟩, ⟨(n' : Int), (d' : Int)⟩, ⟨⟩⟩ - ⟨h1, h2, _⟩
  obtain ⟨u1, u2, u3⟩ := ivOk_iff.1 h1
  have hf := scOut_flag c ⟨⟨n, d⟩, ⟨m, e⟩⟩ ⟨n', d'⟩
  dsimp only at *
  repeat' (first | with_reducible apply andAll_cons | with_reducible apply andAll_nil | (with_reducible apply Cf.mk; kernel_rfl) | apply And.intro | intro _ | exact True.intro | apply Lf.mk)
  all_goals first | assumption | exact unit_good (by assumption) | exact opR_good | exact hf | (unfold scO; rfl) | skip
noncomputable def soOk (i : Iv) (x : Rt) : Bool := ivOk i && (unitRt x && hasR i x)
noncomputable def soRes (i : Iv) (x : Rt) : Rt × Bool := match soOk i x with
  | true => scOut i x
  | false => (⟨0, 0⟩, false)
theorem so_f1 {i : Iv} {x : Rt} (h : ivOk i = false) : soRes i x = (⟨0, 0⟩, false) := by unfold soRes soOk; rw [h]; rfl
theorem so_f2 {i : Iv} {x : Rt} (h : unitRt x = false) : soRes i x = (⟨0, 0⟩, false) := by unfold soRes soOk; rw [h]; cases ivOk i <;> rfl
theorem so_f3 {i : Iv} {x : Rt} (h : hasR i x = false) : soRes i x = (⟨0, 0⟩, false) := by unfold soRes soOk; rw [h]; cases ivOk i <;> cases unitRt x <;> rfl
theorem so_t {i : Iv} {x : Rt} (h : ivOk i = true) (h2 : unitRt x = true) (h3 : hasR i x = true) : soRes i x = scOut i x := by unfold soRes soOk; rw [h, h2, h3]; rfl
noncomputable def s_impl_ScaleOut : Sig := ⟨42, [.val .iv, .val .rat], [.val .rat, .val .bool], fun ((i : Iv), (x : Rt), _) => ⟨[], ((soRes i x).1, (soRes i x).2, ()), ()⟩⟩
noncomputable def s_spec_ScaleOut : Sig := ⟨37, [.val .iv, .val .rat], [.val .rat, .val .bool], fun ((i : Iv), (x : Rt), _) => ⟨[], ((soRes i x).1, (soRes i x).2, ()), ()⟩⟩
noncomputable def s_spec_rnOut : Sig := ⟨96, [.val .iv, .val .rat], [.val .rat, .val .bool], fun ((i : Iv), (x : Rt), _) => ⟨[ivOk i = true, goodRt x = true], ((scOut i x).1, (scOut i x).2, ()), ()⟩⟩
theorem ok_impl_ScaleOut : GSpec Tryz.prog s_impl_ScaleOut := by
  refine fn_known tab_ok fol ((((Known.nil.cons ok_impl_isInterval (by kernel_rfl)).cons ok_impl_isUnit (by kernel_rfl)).cons ok_impl_isIn (by kernel_rfl)).cons ok_calc_scaleOut (by kernel_rfl)) (by decide) Tryz.func42 ?_
  rintro ⟨⟨⟨(n : Int), (d : Int)⟩, ⟨(m : Int), (e : Int)⟩⟩, ⟨(n' : Int), (d' : Int)⟩, ⟨⟩⟩ - -
  repeat' (first | with_reducible apply andAll_cons | with_reducible apply andAll_nil | (with_reducible apply Cf.mk; kernel_rfl) | apply And.intro | intro _ | exact True.intro | apply Lf.mk)
  all_goals (try simp only [Bool.not_eq_true', Bool.not_eq_false', Bool.not_not, decide_eq_true_eq, decide_eq_false_iff_not, beq_iff_eq, bne_iff_ne, beq_eq_false_iff_ne, bne_eq_false_iff_eq, ne_eq, Bool.and_eq_true, Bool.and_eq_false_iff, Bool.or_eq_true, Bool.or_eq_false_iff, Int.toNat_natCast, Nat.zero_add, Int.ofNat_lt, Int.ofNat_le, List.length_cons, List.length_nil, List.drop_zero, List.take_length] at *)
  all_goals first
    | assumption
    | exact unit_good (by assumption)
    | (rw [so_f1 (by assumption)]; done)
    | (rw [so_f2 (by assumption)]; done)
    | (rw [so_f3 (by assumption)]; done)
    | skip
  all_goals rename_i q1 q2 q3 q4
  · rw [so_t q1 q2 q3, scOut_bad (q4.resolve_left Bool.noConfusion)]
  · rw [so_t q1 q2 q3, scOut_bad (q4.resolve_left Bool.noConfusion)]
  · rw [so_t q1 q2 q3]; exact scO_t q4.2
  · rw [so_t q1 q2 q3]; exact q4.2.symm
theorem ok_spec_rnOut : GSpec Tryz.prog s_spec_rnOut := by
  refine fn_known tab_ok fol ((Known.nil.cons ok_spec_raSub (by kernel_rfl)).cons ok_spec_raDiv (by kernel_rfl)) (by decide) Tryz.func96 ?_
  rintro ⟨⟨⟨(n : Int), (d : Int)⟩, ⟨(m : Int), (e : Int)⟩⟩, ⟨(n' : Int), (d' : Int)⟩, ⟨⟩⟩ - ⟨h1, h2, _⟩
  obtain ⟨u1, u2, u3⟩ := ivOk_iff.1 h1
  have g1 := ok_good (unit_good u1)
  have g2 := ok_good (unit_good u2)
  have g3 := ok_good h2
  dsimp only at *
  repeat' (first | with_reducible apply andAll_cons | with_reducible apply andAll_nil | (with_reducible apply Cf.mk; kernel_rfl) | apply And.intro | intro _ | exact True.intro | apply Lf.mk)
  all_goals (try simp only [Bool.not_eq_true', Bool.not_eq_false', Bool.not_not, decide_eq_true_eq, decide_eq_false_iff_not, beq_iff_eq, bne_iff_ne, beq_eq_false_iff_ne, bne_eq_false_iff_eq, ne_eq, Bool.and_eq_true, Bool.and_eq_false_iff, Bool.or_eq_true, Bool.or_eq_false_iff, Int.toNat_natCast, Nat.zero_add, Int.ofNat_lt, Int.ofNat_le, List.length_cons, List.length_nil, List.drop_zero, List.take_length] at *)
  all_goals first
    | assumption
    | exact lowRt_ok
    | exact congrArg Prod.fst (scOut_1 (i := ⟨⟨n, d⟩, ⟨m, e⟩⟩) (x := ⟨n', d'⟩) (by assumption)).symm
    | exact congrArg Prod.snd (scOut_1 (i := ⟨⟨n, d⟩, ⟨m, e⟩⟩) (x := ⟨n', d'⟩) (by assumption)).symm
    | exact congrArg Prod.fst (scOut_2 (i := ⟨⟨n, d⟩, ⟨m, e⟩⟩) (x := ⟨n', d'⟩) (by assumption)).symm
    | exact congrArg Prod.snd (scOut_2 (i := ⟨⟨n, d⟩, ⟨m, e⟩⟩) (x := ⟨n', d'⟩) (by assumption)).symm
    | exact congrArg Prod.fst (scOut_3 (i := ⟨⟨n, d⟩, ⟨m, e⟩⟩) (x := ⟨n', d'⟩) (by assumption) (by assumption)).symm
    | exact congrArg Prod.snd (scOut_3 (i := ⟨⟨n, d⟩, ⟨m, e⟩⟩) (x := ⟨n', d'⟩) (by assumption) (by assumption)).symm
    | skip
theorem ok_spec_ScaleOut : GSpec Tryz.prog s_spec_ScaleOut := by
  refine fn_known tab_ok fol ((((Known.nil.cons ok_spec_ivGood (by kernel_rfl)).cons ok_spec_raUnit (by kernel_rfl)).cons ok_spec_rnHas (by kernel_rfl)).cons ok_spec_rnOut (by kernel_rfl)) (by decide) Tryz.func37 ?_
  rintro ⟨⟨⟨(n : Int), (d : Int)⟩, ⟨(m : Int), (e : Int)⟩⟩, ⟨(n' : Int), (d' : Int)⟩, ⟨⟩⟩ - -
  repeat' (first | with_reducible apply andAll_cons | with_reducible apply andAll_nil | (with_reducible apply Cf.mk; kernel_rfl) | apply And.intro | intro _ | exact True.intro | apply Lf.mk)
  all_goals (try simp only [Bool.not_eq_true', Bool.not_eq_false', Bool.not_not, decide_eq_true_eq, decide_eq_false_iff_not, beq_iff_eq, bne_iff_ne, beq_eq_false_iff_ne, bne_eq_false_iff_eq, ne_eq, Bool.and_eq_true, Bool.and_eq_false_iff, Bool.or_eq_true, Bool.or_eq_false_iff, Int.toNat_natCast, Nat.zero_add, Int.ofNat_lt, Int.ofNat_le, List.length_cons, List.length_nil, List.drop_zero, List.take_length] at *)
  all_goals first
    | assumption
    | exact unit_good (by assumption)
    | (rw [so_f1 (by assumption)]; done)
    | (rw [so_f2 (by assumption)]; done)
    | (rw [so_f3 (by assumption)]; done)
    | (rw [so_t (by assumption) (by assumption) (by assumption)]; done)
    | skip
noncomputable def siRes (i : Iv) (x : Rt) : Rt × Bool := match ivOk i && unitRt x with
  | true => lineR ⟨i.a, i.a⟩ x i.b
  | false => (⟨0, 0⟩, false)
theorem si_f1 {i : Iv} {x : Rt} (h : ivOk i = false) : siRes i x = (⟨0, 0⟩, false) := by unfold siRes; rw [h]; rfl
theorem si_f2 {i : Iv} {x : Rt} (h : unitRt x = false) : siRes i x = (⟨0, 0⟩, false) := by unfold siRes; rw [h]; cases ivOk i <;> rfl
theorem si_t {i : Iv} {x : Rt} (h : ivOk i = true) (h2 : unitRt x = true) : siRes i x = lineR ⟨i.a, i.a⟩ x i.b := by unfold siRes; rw [h, h2]; rfl
theorem si_bad {a b x : Rt} (h : (((false || !(subRt b a).2) || !(mulRt (opR (subRt b a)) x).2) || !(addRt a (opR (mulRt (opR (subRt b a)) x))).2) = true) : lineR ⟨a, a⟩ x b = (⟨0, 0⟩, false) := by
  rw [mulRt_comm _ x] at h
  have := line_flag false ⟨a, a⟩ x b
  dsimp only at this
  rw [this] at h
  exact lineR_bad (by simpa using h)
theorem si_ok {a b x : Rt} (h : (((false || !(subRt b a).2) || !(mulRt (opR (subRt b a)) x).2) || !(addRt a (opR (mulRt (opR (subRt b a)) x))).2) = false) : (opR (addRt a (opR (mulRt (opR (subRt b a)) x))), true) = lineR ⟨a, a⟩ x b := by
  rw [mulRt_comm _ x] at h ⊢
  have := line_flag false ⟨a, a⟩ x b
  dsimp only at this
  rw [this] at h
  have h2 : (lineR ⟨a, a⟩ x b).2 = true := by simpa using h
  exact Prod.ext (lineO_t h2) h2.symm
theorem si_1 {a b x : Rt} (h : (subRt b a).2 = false) : (⟨0, 0⟩, false) = lineR ⟨a, a⟩ x b := (lineR_1 (p := ⟨a, a⟩) (s := x) (x := b) h).symm
theorem si_2 {a b x : Rt} (h1 : (subRt b a).2 = true) (h : (mulRt (subRt b a).1 x).2 = false) : (⟨0, 0⟩, false) = lineR ⟨a, a⟩ x b := by
  rw [mulRt_comm] at h; exact (lineR_2 (p := ⟨a, a⟩) (s := x) (x := b) h1 h).symm
theorem si_3 {a b x : Rt} (h1 : (subRt b a).2 = true) (h : (mulRt (subRt b a).1 x).2 = true) : addRt a (mulRt (subRt b a).1 x).1 = lineR ⟨a, a⟩ x b := by
  rw [mulRt_comm] at h ⊢; exact (lineR_3 (p := ⟨a, a⟩) (s := x) (x := b) h1 h).symm
noncomputable def s_impl_ScaleInto : Sig := ⟨41, [.val .iv, .val .rat], [.val .rat, .val .bool], fun ((i : Iv), (x : Rt), _) => ⟨[], ((siRes i x).1, (siRes i x).2, ()), ()⟩⟩
noncomputable def s_spec_ScaleInto : Sig := ⟨35, [.val .iv, .val .rat], [.val .rat, .val .bool], fun ((i : Iv), (x : Rt), _) => ⟨[], ((siRes i x).1, (siRes i x).2, ()), ()⟩⟩
theorem ok_impl_ScaleInto : GSpec Tryz.prog s_impl_ScaleInto := by
  refine fn_known tab_ok fol (((((Known.nil.cons ok_impl_isInterval (by kernel_rfl)).cons ok_impl_isUnit (by kernel_rfl)).cons ok_calc_sub (by kernel_rfl)).cons ok_calc_mul (by kernel_rfl)).cons ok_calc_add (by kernel_rfl)) (by decide) Tryz.func41 ?_
  rintro ⟨⟨⟨(n : Int), (d : Int)⟩, ⟨(m : Int), (e : Int)⟩⟩, ⟨(n' : Int), (d' : Int)⟩, ⟨⟩⟩ - -
  repeat' (first | with_reducible apply andAll_cons | with_reducible apply andAll_nil | (with_reducible apply Cf.mk; kernel_rfl) | apply And.intro | intro _ | exact True.intro | apply Lf.mk)
  all_goals (try simp only [Bool.not_eq_true', Bool.not_eq_false'] at *)
  all_goals first
    | assumption
    | exact unit_good (by assumption)
    | exact opR_good
    | exact unit_good (ivOk_iff.1 (by assumption)).1
    | exact unit_good (ivOk_iff.1 (by assumption)).2.1
    | (rw [si_f1 (by assumption)]; done)
    | (rw [si_f2 (by assumption)]; done)
    | skip
  all_goals rename_i q4 q1 q2
  · rw [si_t q1 q2, si_bad q4]
  · rw [si_t q1 q2, si_bad q4]
  · rw [si_t q1 q2]; exact congrArg Prod.fst (si_ok q4)
  · rw [si_t q1 q2]; exact congrArg Prod.snd (si_ok q4)
theorem ok_spec_ScaleInto : GSpec Tryz.prog s_spec_ScaleInto := by
  refine fn_known tab_ok fol (((((Known.nil.cons ok_spec_ivGood (by kernel_rfl)).cons ok_spec_raUnit (by kernel_rfl)).cons ok_spec_raSub (by kernel_rfl)).cons ok_spec_raMul (by kernel_rfl)).cons ok_spec_raAdd (by kernel_rfl)) (by decide) Tryz.func35 ?_
  rintro ⟨⟨⟨(n : Int), (d : Int)⟩, ⟨(m : Int), (e : Int)⟩⟩, ⟨(n' : Int), (d' : Int)⟩, ⟨⟩⟩ - -
  repeat' (first | with_reducible apply andAll_cons | with_reducible apply andAll_nil | (with_reducible apply Cf.mk; kernel_rfl) | apply And.intro | intro _ | exact True.intro | apply Lf.mk)
  all_goals (try simp only [Bool.not_eq_true', Bool.not_eq_false', Bool.not_not, decide_eq_true_eq, decide_eq_false_iff_not, beq_iff_eq, bne_iff_ne, beq_eq_false_iff_ne, bne_eq_false_iff_eq, ne_eq, Bool.and_eq_true, Bool.and_eq_false_iff, Bool.or_eq_true, Bool.or_eq_false_iff, Int.toNat_natCast, Nat.zero_add, Int.ofNat_lt, Int.ofNat_le, List.length_cons, List.length_nil, List.drop_zero, List.take_length] at *)
  all_goals first
    | assumption
    | exact unit_good (by assumption)
    | exact ok_good (unit_good (by assumption))
    | exact ok_good (unit_good (ivOk_iff.1 (by assumption)).1)
    | exact ok_good (unit_good (ivOk_iff.1 (by assumption)).2.1)
    | (rw [si_f1 (by assumption)]; done)
    | (rw [si_f2 (by assumption)]; done)
    | exact lowRt_ok
    | skip
  · rename_i q1 q2 q3; rw [si_t q1 q2]; exact congrArg Prod.fst (si_1 q3)
  · rename_i q1 q2 q3; rw [si_t q1 q2]; exact congrArg Prod.snd (si_1 q3)
  · rename_i q1 q2 q3 q4; rw [si_t q1 q2]; exact congrArg Prod.fst (si_2 q3 q4)
  · rename_i q1 q2 q3 q4; rw [si_t q1 q2]; exact congrArg Prod.snd (si_2 q3 q4)
  · rename_i q1 q2 q3 q4; rw [si_t q1 q2]; exact congrArg Prod.fst (si_3 q3 q4)
  · rename_i q1 q2 q3 q4; rw [si_t q1 q2]; exact congrArg Prod.snd (si_3 q3 q4)
end Go.Vx
