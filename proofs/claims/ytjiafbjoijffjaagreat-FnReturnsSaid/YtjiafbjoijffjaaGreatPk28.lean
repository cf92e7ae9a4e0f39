/- Helpers of the laws of return maps and changes. -/
import Derived.Test.YtjiafbjoijffjaaGreatPk24
import Derived.Test.YtjiafbjoijffjaaGreatPk27
import Derived.Test.YtjiafbjoijffjaaGreatPk22
import Derived.Test.YtjiafbjoijffjaaGreatPk12
import Derived.Test.YtjiafbjoijffjaaGreatPk13
import Derived.Test.YtjiafbjoijffjaaGreatPk15
namespace Go.Vx
open Go Go.Proofs
set_option maxRecDepth 100000
set_option linter.unusedSimpArgs false
set_option linter.unusedVariables false

noncomputable def ioOk (f : List Pt) (a b : Rt) : Bool := mapOk f && (unitRt a && (unitRt b && !lessRt b a))
noncomputable def ioRes (f : List Pt) (a b : Rt) : Rt × Rt × Bool := match ioOk f a b && imB f a b with
  | true => ((imO f a b).1, (imO f a b).2, true)
  | false => (⟨0, 0⟩, ⟨0, 0⟩, false)
theorem io_t {f : List Pt} {a b : Rt} (h1 : mapOk f = true) (h2 : unitRt a = true) (h3 : unitRt b = true) (h4 : lessRt b a = false) (h5 : imB f a b = true) : ioRes f a b = ((imO f a b).1, (imO f a b).2, true) := by
  unfold ioRes ioOk; rw [h1, h2, h3, h4, h5]; rfl
theorem io_f1 {f : List Pt} {a b : Rt} (h : mapOk f = false) : ioRes f a b = (⟨0, 0⟩, ⟨0, 0⟩, false) := by unfold ioRes ioOk; rw [h]; rfl
theorem io_f2 {f : List Pt} {a b : Rt} (h : [a, b].all unitRt = false) : ioRes f a b = (⟨0, 0⟩, ⟨0, 0⟩, false) := by
  have h2 : (unitRt a && unitRt b) = false := by simpa using h
  unfold ioRes ioOk
  cases h3 : unitRt a with
  | false => cases mapOk f <;> rfl
  | true =>
    rw [h3] at h2
    have h4 : unitRt b = false := h2
    rw [h4]; cases mapOk f <;> rfl
theorem io_f3 {f : List Pt} {a b : Rt} (h : lessRt b a = true) : ioRes f a b = (⟨0, 0⟩, ⟨0, 0⟩, false) := by
  unfold ioRes ioOk; rw [h]; cases mapOk f <;> cases unitRt a <;> cases unitRt b <;> rfl
theorem io_f4 {f : List Pt} {a b : Rt} (h : imB f a b = false) : ioRes f a b = (⟨0, 0⟩, ⟨0, 0⟩, false) := by
  unfold ioRes; rw [h]; cases ioOk f a b <;> rfl
noncomputable def s_impl_ImageOf : Sig := ⟨77, [.list .pt, .val .rat, .val .rat], [.val .rat, .val .rat, .val .bool], fun ((f : List Pt), (a : Rt), (b : Rt), _) => ⟨[], ((ioRes f a b).1, (ioRes f a b).2.1, (ioRes f a b).2.2, ()), ()⟩⟩
theorem ok_impl_ImageOf : GSpec Tryz.prog s_impl_ImageOf := by
  refine fn_known tab_ok fol ((((Known.nil.cons ok_impl_isMap (by kernel_rfl)).cons ok_impl_areUnits (by kernel_rfl)).cons ok_impl_less (by kernel_rfl)).cons ok_calc_image (by kernel_rfl)) (by decide) Tryz.func77 ?_
  rintro ⟨(f : List Pt), ⟨(n : Int), (d : Int)⟩, ⟨(m : Int), (e : Int)⟩, ⟨⟩⟩ - -
  repeat' (first | with_reducible apply andAll_cons | with_reducible apply andAll_nil | (with_reducible apply Cf.mk; kernel_rfl) | apply And.intro | intro _ | exact True.intro | apply Lf.mk)
  all_goals (try simp only [Bool.not_eq_true', Bool.not_eq_false', Bool.not_not, decide_eq_true_eq, decide_eq_false_iff_not, beq_iff_eq, bne_iff_ne, beq_eq_false_iff_ne, bne_eq_false_iff_eq, ne_eq, Bool.and_eq_true, Bool.and_eq_false_iff, Bool.or_eq_true, Bool.or_eq_false_iff, Int.toNat_natCast, Nat.zero_add, Int.ofNat_lt, Int.ofNat_le, List.length_cons, List.length_nil, List.drop_zero, List.take_length] at *)
  all_goals first
    | assumption
    | exact (all2 (by assumption)).1
    | exact (all2 (by assumption)).2
    | exact unit_good (all2 (by assumption)).1
    | exact unit_good (all2 (by assumption)).2
    | (rw [io_f1 (by assumption)]; done)
    | (rw [io_f2 (by assumption)]; done)
    | (rw [io_f3 (by assumption)]; done)
    | (rw [io_f4 ((by assumption : false = true ∨ _).resolve_left Bool.noConfusion)]; done)
    | (rw [io_t (by assumption) (all2 (by assumption)).1 (all2 (by assumption)).2 (by assumption) (by assumption : True ∧ _).2]; done)
    | skip
/-- the image of an interval, if it is one -/
noncomputable def iiRes (f : List Pt) (i : Iv) : Iv × Bool := match mapOk f && (ivOk i && (imB f i.a i.b && !eqRt (imO f i.a i.b).1 (imO f i.a i.b).2)) with
  | true => (⟨(imO f i.a i.b).1, (imO f i.a i.b).2⟩, true)
  | false => (⟨⟨0, 0⟩, ⟨0, 0⟩⟩, false)
theorem ii_t {f : List Pt} {i : Iv} (h1 : mapOk f = true) (h2 : ivOk i = true) (h3 : imB f i.a i.b = true) (h4 : eqRt (imO f i.a i.b).1 (imO f i.a i.b).2 = false) : iiRes f i = (⟨(imO f i.a i.b).1, (imO f i.a i.b).2⟩, true) := by
  unfold iiRes; rw [h1, h2, h3, h4]; rfl
theorem ii_f1 {f : List Pt} {i : Iv} (h : mapOk f = false) : iiRes f i = (⟨⟨0, 0⟩, ⟨0, 0⟩⟩, false) := by unfold iiRes; rw [h]; rfl
theorem ii_f2 {f : List Pt} {i : Iv} (h : ivOk i = false) : iiRes f i = (⟨⟨0, 0⟩, ⟨0, 0⟩⟩, false) := by unfold iiRes; rw [h]; cases mapOk f <;> rfl
theorem ii_f3 {f : List Pt} {i : Iv} (h : imB f i.a i.b = false) : iiRes f i = (⟨⟨0, 0⟩, ⟨0, 0⟩⟩, false) := by unfold iiRes; rw [h]; cases mapOk f <;> cases ivOk i <;> rfl
theorem ii_f4 {f : List Pt} {i : Iv} (h : eqRt (imO f i.a i.b).1 (imO f i.a i.b).2 = true) : iiRes f i = (⟨⟨0, 0⟩, ⟨0, 0⟩⟩, false) := by unfold iiRes; rw [h]; cases mapOk f <;> cases ivOk i <;> cases imB f i.a i.b <;> rfl
theorem lt_asym {a b : Rt} (h : ltR a b) : lessRt b a = false := decide_eq_false (fun h2 => by have h1 : a.num * b.den < b.num * a.den := h; omega)
theorem io_no {f : List Pt} {i : Iv} (hi : ivOk i = true) (h : (ioRes f i.a i.b).2.2 = false) : iiRes f i = (⟨⟨0, 0⟩, ⟨0, 0⟩⟩, false) := by
  obtain ⟨h1, h2, h3⟩ := ivOk_iff.1 hi
  cases hm : mapOk f with
  | false => exact ii_f1 hm
  | true =>
    cases hb : imB f i.a i.b with
    | false => exact ii_f3 hb
    | true => rw [io_t hm h1 h2 (lt_asym h3) hb] at h; cases h
theorem io_yes {f : List Pt} {i : Iv} (hi : ivOk i = true) (h : (ioRes f i.a i.b).2.2 = true) : mapOk f = true ∧ imB f i.a i.b = true ∧ ioRes f i.a i.b = ((imO f i.a i.b).1, (imO f i.a i.b).2, true) := by
  obtain ⟨h1, h2, h3⟩ := ivOk_iff.1 hi
  cases hm : mapOk f with
  | false => rw [io_f1 hm] at h; cases h
  | true =>
    cases hb : imB f i.a i.b with
    | false => rw [io_f4 hb] at h; cases h
    | true => exact ⟨rfl, rfl, io_t hm h1 h2 (lt_asym h3) hb⟩
theorem ii_no {f : List Pt} {i : Iv} (hi : ivOk i = true) (h : (ioRes f i.a i.b).2.2 = true) (he : eqRt (ioRes f i.a i.b).1 (ioRes f i.a i.b).2.1 = true) : iiRes f i = (⟨⟨0, 0⟩, ⟨0, 0⟩⟩, false) := by
  obtain ⟨h1, h2, h3⟩ := io_yes hi h
  rw [h3] at he; exact ii_f4 he
theorem ii_yes {f : List Pt} {i : Iv} (hi : ivOk i = true) (h : (ioRes f i.a i.b).2.2 = true) (he : eqRt (ioRes f i.a i.b).1 (ioRes f i.a i.b).2.1 = false) : (⟨(ioRes f i.a i.b).1, (ioRes f i.a i.b).2.1⟩, true) = iiRes f i := by
  obtain ⟨h1, h2, h3⟩ := io_yes hi h
  rw [h3] at he ⊢; exact (ii_t h1 hi h2 he).symm
theorem ii_ok {f : List Pt} {i : Iv} (h : (iiRes f i).2 = true) : mapOk f = true ∧ ivOk i = true ∧ ivOk (iiRes f i).1 = true ∧ imB f i.a i.b = true ∧ eqRt (imO f i.a i.b).1 (imO f i.a i.b).2 = false := by
  cases hm : mapOk f with
  | false => rw [ii_f1 hm] at h; cases h
  | true =>
    cases hi : ivOk i with
    | false => rw [ii_f2 hi] at h; cases h
    | true =>
      obtain ⟨h1, h2, h3⟩ := ivOk_iff.1 hi
      cases hb : imB f i.a i.b with
      | false => rw [ii_f3 hb] at h; cases h
      | true =>
        cases he : eqRt (imO f i.a i.b).1 (imO f i.a i.b).2 with
        | true => rw [ii_f4 he] at h; cases h
        | false =>
          rw [ii_t hm hi hb he]
          obtain ⟨r1, r2, r3⟩ := imO_rg hm h1 h2
          exact ⟨rfl, rfl, ivOk_iff.2 ⟨r1, r2, lt_of_ne (unit_good r1) (unit_good r2) r3 (by rw [eqRt_dec] at he; exact of_decide_eq_false he)⟩, rfl, rfl⟩
noncomputable def s_impl_ImageInterval : Sig := ⟨16, [.list .pt, .val .iv], [.val .iv, .val .bool], fun ((f : List Pt), (i : Iv), _) => ⟨[], ((iiRes f i).1, (iiRes f i).2, ()), ()⟩⟩
theorem ok_impl_ImageInterval : GSpec Tryz.prog s_impl_ImageInterval := by
  refine fn_known tab_ok fol ((Known.nil.cons ok_impl_isInterval (by kernel_rfl)).cons ok_impl_ImageOf (by kernel_rfl)) (by decide) Tryz.func16 ?_
  rintro ⟨(f : List Pt), ⟨⟨(n : Int), (d : Int)⟩, ⟨(m : Int), (e : Int)⟩⟩, ⟨⟩⟩ - -
  repeat' (first | with_reducible apply andAll_cons | with_reducible apply andAll_nil | (with_reducible apply Cf.mk; kernel_rfl) | apply And.intro | intro _ | exact True.intro | apply Lf.mk)
  all_goals (try simp only [Bool.not_eq_true', Bool.not_eq_false', Bool.not_not, decide_eq_true_eq, decide_eq_false_iff_not, beq_iff_eq, bne_iff_ne, beq_eq_false_iff_ne, bne_eq_false_iff_eq, ne_eq, Bool.and_eq_true, Bool.and_eq_false_iff, Bool.or_eq_true, Bool.or_eq_false_iff, Int.toNat_natCast, Nat.zero_add, Int.ofNat_lt, Int.ofNat_le, List.length_cons, List.length_nil, List.drop_zero, List.take_length] at *)
  all_goals first
    | (rw [ii_f2 (by assumption)]; done)
    | (rw [io_no (i := ⟨⟨n, d⟩, ⟨m, e⟩⟩) (by assumption) (by assumption)]; done)
    | skip
  all_goals rename_i q1 q2 q3
  · exact (congrArg Prod.fst (ii_no q1 q2 q3)).symm
  · exact (congrArg Prod.snd (ii_no q1 q2 q3)).symm
  · exact congrArg Prod.fst (ii_yes q1 q2 q3)
  · exact congrArg Prod.snd (ii_yes q1 q2 q3)
/-- the part of the image of an interval in it -/
noncomputable def ptRes (f : List Pt) (i : Iv) : Iv × Bool := match (iiRes f i).2 with
  | true => (cutR i (iiRes f i).1, meetR i (iiRes f i).1)
  | false => (⟨⟨0, 0⟩, ⟨0, 0⟩⟩, false)
theorem pt_f {f : List Pt} {i : Iv} (h : (iiRes f i).2 = false) : ptRes f i = (⟨⟨0, 0⟩, ⟨0, 0⟩⟩, false) := by unfold ptRes; rw [h]
theorem pt_t {f : List Pt} {i : Iv} (h : (iiRes f i).2 = true) : ptRes f i = (cutR i (iiRes f i).1, meetR i (iiRes f i).1) := by unfold ptRes; rw [h]
noncomputable def s_impl_PartInto : Sig := ⟨50, [.list .pt, .val .iv], [.val .iv, .val .bool], fun ((f : List Pt), (i : Iv), _) => ⟨[], ((ptRes f i).1, (ptRes f i).2, ()), ()⟩⟩
noncomputable def s_spec_PartInto : Sig := ⟨51, [.list .pt, .val .iv], [.val .iv, .val .bool], fun ((f : List Pt), (i : Iv), _) => ⟨[], ((ptRes f i).1, (ptRes f i).2, ()), ()⟩⟩
theorem ok_impl_PartInto : GSpec Tryz.prog s_impl_PartInto := by
  refine fn_known tab_ok fol ((Known.nil.cons ok_impl_ImageInterval (by kernel_rfl)).cons ok_impl_common (by kernel_rfl)) (by decide) Tryz.func50 ?_
  rintro ⟨(f : List Pt), ⟨⟨(n : Int), (d : Int)⟩, ⟨(m : Int), (e : Int)⟩⟩, ⟨⟩⟩ - -
  repeat' (first | with_reducible apply andAll_cons | with_reducible apply andAll_nil | (with_reducible apply Cf.mk; kernel_rfl) | apply And.intro | intro _ | exact True.intro | apply Lf.mk)
  all_goals (try simp only [Bool.not_eq_true', Bool.not_eq_false', Bool.not_not, decide_eq_true_eq, decide_eq_false_iff_not, beq_iff_eq, bne_iff_ne, beq_eq_false_iff_ne, bne_eq_false_iff_eq, ne_eq, Bool.and_eq_true, Bool.and_eq_false_iff, Bool.or_eq_true, Bool.or_eq_false_iff, Int.toNat_natCast, Nat.zero_add, Int.ofNat_lt, Int.ofNat_le, List.length_cons, List.length_nil, List.drop_zero, List.take_length] at *)
  all_goals first
    | (rw [pt_f (by assumption)]; done)
    | exact (ii_ok (by assumption)).2.1
    | exact (ii_ok (by assumption)).2.2.1
    | (rw [pt_t (by assumption)]; done)
    | (rw [pt_t (by assumption)]; rfl)
    | skip
theorem im1_not {f : List Pt} {i : Iv} (hm : mapOk f = true) (hi : ivOk i = true) (hc : ¬ (imgs f i (Int.toNat 1)).2.2 = 0) : (iiRes f i).2 = false := by
  cases hb : imB f i.a i.b with
  | false => rw [ii_f3 hb]
  | true =>
    cases he : eqRt (imO f i.a i.b).1 (imO f i.a i.b).2 with
    | true => rw [ii_f4 he]
    | false =>
      have h := imgs_C (f := f) (i := i) (j := 0) rfl hb he
      exact (hc (by show (imgs f i (0 + 1)).2.2 = 0; rw [h])).elim
theorem im1_yes {f : List Pt} {i : Iv} (hm : mapOk f = true) (hi : ivOk i = true) (hc : (imgs f i (Int.toNat 1)).2.2 = 0) : (iiRes f i).2 = true ∧ (imgs f i (Int.toNat 1)).1.length = 2 ∧ getA zI (imgs f i (Int.toNat 1)).1 (Int.toNat 1) = (iiRes f i).1 := by
  cases hb : imB f i.a i.b with
  | false =>
    have h := imgs_1 (f := f) (i := i) (k := 0) rfl hb
    have hc : (imgs f i (0 + 1)).2.2 = 0 := hc
    rw [h] at hc; cases hc
  | true =>
    cases he : eqRt (imO f i.a i.b).1 (imO f i.a i.b).2 with
    | true =>
      have h := imgs_2 (f := f) (i := i) (k := 0) rfl hb (by rw [eqRt_dec] at he; exact of_decide_eq_true he)
      have hc : (imgs f i (0 + 1)).2.2 = 0 := hc
      rw [h] at hc; cases hc
    | false =>
      have h := imgs_C (f := f) (i := i) (j := 0) rfl hb he
      rw [ii_t hm hi hb he]
      refine ⟨rfl, ?_, ?_⟩
      · show (imgs f i (0 + 1)).1.length = 2
        rw [h]; rfl
      · show getA zI (imgs f i (0 + 1)).1 1 = _
        rw [h]; rfl
theorem sep_comm (i k : Iv) : sepR k i = sepR i k := Bool.or_comm _ _
theorem p_sep {f : List Pt} {i K : Iv} (hi : ivOk i = true) (h2 : (iiRes f i).2 = true) (hK : K = (iiRes f i).1) (hs : sepR K i = true) : (⟨⟨0, 0⟩, ⟨0, 0⟩⟩, false) = ptRes f i := by
  subst hK
  have hm : meetR i (iiRes f i).1 = false := by rw [meet_sep hi (ii_ok h2).2.2.1, ← sep_comm, hs]; rfl
  rw [pt_t h2]; unfold cutR; rw [hm]
theorem p_cut {f : List Pt} {i K : Iv} (hi : ivOk i = true) (h2 : (iiRes f i).2 = true) (hK : K = (iiRes f i).1) (hs : sepR K i = false) : (⟨grR i.a K.a, lsR i.b K.b⟩, true) = ptRes f i := by
  subst hK
  have hm : meetR i (iiRes f i).1 = true := by rw [meet_sep hi (ii_ok h2).2.2.1, ← sep_comm, hs]; rfl
  rw [pt_t h2]; unfold cutR; rw [hm]
theorem bG {P Q : Bool} (h : (bif !P then true else Q) = true) (h2 : P = true) : Q = true := by revert h h2; cases P <;> cases Q <;> decide
theorem bH {P Q : Bool} (h : (bif !P then true else Q) = false) : Q = false := by revert h; cases P <;> cases Q <;> decide
theorem ok_spec_PartInto : GSpec Tryz.prog s_spec_PartInto := by
  refine fn_known tab_ok fol ((((((Known.nil.cons ok_spec_imGood (by kernel_rfl)).cons ok_spec_ivGood (by kernel_rfl)).cons ok_spec_rnImages (by kernel_rfl)).cons ok_spec_ivSeparate (by kernel_rfl)).cons ok_spec_ivGreater (by kernel_rfl)).cons ok_spec_ivLess (by kernel_rfl)) (by decide) Tryz.func51 ?_
  rintro ⟨(f : List Pt), ⟨⟨(n : Int), (d : Int)⟩, ⟨(m : Int), (e : Int)⟩⟩, ⟨⟩⟩ - -
  repeat' (first | with_reducible apply andAll_cons | with_reducible apply andAll_nil | (with_reducible apply Cf.mk; kernel_rfl) | apply And.intro | intro _ | exact True.intro | apply Lf.mk)
  all_goals (try simp only [Bool.not_eq_true', Bool.not_eq_false', Bool.not_not, decide_eq_true_eq, decide_eq_false_iff_not, beq_iff_eq, bne_iff_ne, beq_eq_false_iff_ne, bne_eq_false_iff_eq, ne_eq, Bool.and_eq_true, Bool.and_eq_false_iff, Bool.or_eq_true, Bool.or_eq_false_iff, Int.toNat_natCast, Nat.zero_add, Int.ofNat_lt, Int.ofNat_le, List.length_cons, List.length_nil, List.drop_zero, List.take_length] at *)
  all_goals first
    | assumption
    | omega
    | (rw [pt_f (by rw [ii_f1 (by assumption)])]; done)
    | (rw [pt_f (by rw [ii_f2 (by assumption)])]; done)
    | (rw [pt_f (im1_not (by assumption) (by assumption) (by assumption))]; done)
    | skip
  all_goals first
    | contradiction
    | (exact absurd (by assumption : true = false) (by decide))
    | skip
  all_goals
    have hm := (by assumption : mapOk f = true)
    have hi := (by assumption : ivOk ⟨⟨n, d⟩, ⟨m, e⟩⟩ = true)
    obtain ⟨c1, c2, c3⟩ := im1_yes (f := f) (i := ⟨⟨n, d⟩, ⟨m, e⟩⟩) hm hi (by assumption)
    have hK := (ii_ok c1).2.2.1
    rw [← c3] at hK
    obtain ⟨k1, k2, k3⟩ := ivOk_iff.1 hK
    obtain ⟨i1, i2, i3⟩ := ivOk_iff.1 hi
    first
      | omega
      | (show Int.toNat 1 < _; rw [c2]; decide)
      | exact hK
      | exact unit_good k1
      | exact unit_good k2
      | exact unit_good i1
      | exact unit_good i2
      | skip
  · rename_i q1 q2
    exact congrArg Prod.fst (p_sep hi c1 c3 (bG q2 (decide_eq_true q1)))
  · rename_i q1 q2
    exact congrArg Prod.snd (p_sep hi c1 c3 (bG q2 (decide_eq_true q1)))
  · rename_i q1 q2
    exact congrArg Prod.fst (p_cut hi c1 c3 (bH q2))
  · rename_i q1 q2
    exact congrArg Prod.snd (p_cut hi c1 c3 (bH q2))
end Go.Vx
namespace Go.Vx
open Go Go.Proofs
set_option maxRecDepth 100000
set_option linter.unusedSimpArgs false
set_option linter.unusedVariables false

theorem st_le {f : List Pt} {i : Iv} {m n : Nat} (hmn : m ≤ n) (c : (imgs f i n).2.2 = 0) : (imgs f i m).2.2 = 0 := by
  apply Classical.byContradiction
  intro hc
  rw [imgs_stay hc hmn] at c
  exact hc c
theorem st_step {f : List Pt} {i : Iv} (h : mapOk f = true) (hi : ivOk i = true) {k : Nat} (c : (imgs f i (k + 1)).2.2 = 0) :
    iiRes f (imgs f i k).2.1 = ((imgs f i (k + 1)).2.1, true) ∧ (imgs f i (k + 1)).1 = (imgs f i k).1 ++ [(imgs f i (k + 1)).2.1] := by
  have c0 := st_le (Nat.le_succ k) c
  have hv := ((imgs_inv h hi k).1 c0).2.1
  cases hB : imB f (imgs f i k).2.1.a (imgs f i k).2.1.b with
  | false =>
    rw [imgs_1 c0 hB] at c
    exact absurd c (by simp)
  | true =>
    by_cases hE : (imO f (imgs f i k).2.1.a (imgs f i k).2.1.b).1 = (imO f (imgs f i k).2.1.a (imgs f i k).2.1.b).2
    · rw [imgs_2 c0 hB hE] at c
      exact absurd c (by simp)
    · rw [imgs_0 c0 hB hE]
      exact ⟨ii_t h hv hB (by rw [eqRt_dec, decide_eq_false_iff_not]; exact hE), rfl⟩
theorem st_get {f : List Pt} {i : Iv} (h : mapOk f = true) (hi : ivOk i = true) : ∀ (n : Nat), (imgs f i n).2.2 = 0 → ∀ k, k ≤ n → getA (VK.dflt .iv) (imgs f i n).1 k = (imgs f i k).2.1
  | 0, c, k, hk => by rw [show k = 0 by omega]; rfl
  | n + 1, c, k, hk => by
    rcases Nat.lt_or_eq_of_le hk with h1 | h1
    · have c0 := st_le (Nat.le_succ n) c
      rw [← st_get h hi n c0 k (by omega), (st_step h hi c).2, getA_eq, getA_eq]
      have hl := ((imgs_inv h hi n).1 c0).1
      simp only [List.getD_eq_getElem?_getD]
      rw [List.getElem?_append_left (by omega)]
    · rw [h1]; exact imgs_last h hi _ c
theorem rq_ims {f : List Pt} {i : Iv} {n : Int} (h : (imsRes f i n).2 = true) : retOk f i n = true ∧ (imgs f i n.toNat).2.2 = 0 ∧ (imsRes f i n).1 = (imgs f i n.toNat).1 := by
  cases hr : retOk f i n with
  | false => rw [ims_f hr] at h; cases h
  | true =>
    rw [ims_t hr] at h ⊢
    exact ⟨rfl, of_decide_eq_true h, rfl⟩
theorem rq_ims_of {f : List Pt} {i : Iv} {n : Int} (hr : retOk f i n = true) (hc : (imgs f i n.toNat).2.2 = 0) : (imsRes f i n).2 = true := by
  rw [ims_t hr]; exact decide_eq_true hc
theorem rq_ok1 (f : List Pt) (i : Iv) (n : Int) : (irRes f i n).2 = (imsRes f i n).2 := by
  cases hr : retOk f i n with
  | false => rw [ir_f hr, ims_f hr]
  | true =>
    rw [ir_t hr, ims_t hr]
    by_cases hc : (imgs f i n.toNat).2.2 = 0
    · rw [rr_t hc]; exact (decide_eq_true hc).symm
    · rw [rr_f hc]; exact (decide_eq_false hc).symm
theorem rq_ok2 (f : List Pt) (i : Iv) (n : Int) : (raRes f i n).2 = (imsRes f i n).2 := by
  cases h : (imsRes f i n).2 with
  | false => rw [ra_f h]
  | true => rw [ra_t h]
theorem rq_rest {f : List Pt} {i : Iv} {n : Int} (h : (irRes f i n).1 = true) : (raRes f i n).1 = true := by
  cases hr : retOk f i n with
  | false => rw [ir_f hr] at h; cases h
  | true =>
    rw [ir_t hr] at h
    by_cases hc : (imgs f i n.toNat).2.2 = 0
    · rw [rr_t hc] at h
      obtain ⟨_, _, _, _, _, w⟩ := im_facts hr hc
      rw [ra_t (rq_ims_of hr hc), (rq_ims (rq_ims_of hr hc)).2.2]
      unfold restB at h
      rw [Bool.and_eq_true] at h
      have h2 := h.1
      rw [show getA zI (imgs f i n.toNat).1 0 = i from w] at h2
      exact h2
    · rw [rr_f hc] at h; cases h
theorem rq_len {f : List Pt} {i : Iv} {n : Int} (h : (imsRes f i n).2 = true) : 1 ≤ n ∧ n ≤ 12 ∧ (imsRes f i n).1.length = n.toNat + 1 ∧ (∀ j ∈ (imsRes f i n).1, ivOk j = true) ∧ ivOk i = true ∧ getA (VK.dflt .iv) (imsRes f i n).1 0 = i := by
  obtain ⟨hr, hc, e⟩ := rq_ims h
  rw [e]
  exact im_facts hr hc
theorem rq_step {f : List Pt} {i : Iv} {n : Int} (h : (imsRes f i n).2 = true) {k : Nat} (hk : k < n.toNat) : iiRes f (getA (VK.dflt .iv) (imsRes f i n).1 k) = (getA (VK.dflt .iv) (imsRes f i n).1 (k + 1), true) := by
  obtain ⟨hr, hc, e⟩ := rq_ims h
  obtain ⟨m1, m2, _, _⟩ := retOk_iff.1 hr
  rw [e, st_get m1 m2 _ hc k (by omega), st_get m1 m2 _ hc (k + 1) (by omega)]
  exact (st_step m1 m2 (st_le (by omega) hc)).1
theorem lrG_ok {L : List Iv} {i : Iv} {M : Nat} : ∀ (k n : Nat), (∃ j, n ≤ j ∧ j < n + k ∧ liesR (getA (VK.dflt .iv) L j) i = true) → (lrG L i k n).2 = true
  | 0, n, ⟨j, h1, h2, _⟩ => by omega
  | k + 1, n, ⟨j, h1, h2, h3⟩ => by
    rw [lrG]
    cases hl : liesR (getA (VK.dflt .iv) L n) i with
    | true => rfl
    | false =>
      refine lrG_ok (M := M) k (n + 1) ⟨j, ?_, by omega, h3⟩
      rcases Nat.lt_or_eq_of_le h1 with h4 | h4
      · exact h4
      · rw [← h4, hl] at h3; cases h3
theorem lrG_is {L : List Iv} {i : Iv} : ∀ (k n : Nat), (lrG L i k n).2 = true → ∃ j, n ≤ j ∧ j < n + k ∧ liesR (getA (VK.dflt .iv) L j) i = true ∧ (lrG L i k n).1 = (j : Int)
  | 0, n, h => by cases h
  | k + 1, n, h => by
    rw [lrG] at h ⊢
    cases hl : liesR (getA (VK.dflt .iv) L n) i with
    | true => exact ⟨n, Nat.le_refl _, by omega, hl, rfl⟩
    | false =>
      rw [hl] at h
      obtain ⟨j, h1, h2, h3, h4⟩ := lrG_is k (n + 1) h
      exact ⟨j, by omega, by omega, h3, h4⟩
theorem rq_lr1 {f : List Pt} {i : Iv} {n : Int} (h : (raRes f i n).1 = true) : (lrRes f i n).2 = true := by
  cases ho : (imsRes f i n).2 with
  | false => rw [ra_f ho] at h; cases h
  | true =>
    rw [ra_t ho] at h
    rw [lr_t ho]
    obtain ⟨h1, _⟩ := rq_len ho
    exact lrG_ok (M := 0) _ _ ⟨n.toNat, by omega, by omega, h⟩
theorem rq_lr2 {f : List Pt} {i : Iv} {n : Int} (h : (lrRes f i n).2 = true) : (raRes f i (lrRes f i n).1).1 = true ∧ (raRes f i (lrRes f i n).1).2 = true ∧ (lrRes f i n).1 ≤ n := by
  cases ho : (imsRes f i n).2 with
  | false => rw [lr_f ho] at h; cases h
  | true =>
    rw [lr_t ho] at h ⊢
    obtain ⟨j, h1, h2, h3, h4⟩ := lrG_is _ _ h
    obtain ⟨hr, hc, e⟩ := rq_ims ho
    obtain ⟨m1, m2, m3, m4⟩ := retOk_iff.1 hr
    rw [h4]
    have hjn : j ≤ n.toNat := by omega
    have hr2 : retOk f i (j : Int) = true := retOk_iff.2 ⟨m1, m2, by omega, by omega⟩
    have hc2 : (imgs f i (j : Int).toNat).2.2 = 0 := st_le (by simpa using hjn) hc
    have ho2 := rq_ims_of hr2 hc2
    refine ⟨?_, ?_, by omega⟩
    · rw [ra_t ho2, (rq_ims ho2).2.2]
      rw [e, st_get m1 m2 _ hc j hjn] at h3
      rw [st_get m1 m2 _ hc2 _ (Nat.le_refl _)]
      simpa using h3
    · rw [ra_t ho2]
theorem amI_all {P : Iv → Prop} {f : List Pt} {n : Nat} {a : Rt} : ∀ (r : List Rt) (acc l : List Iv), amI f n a r acc = some l → (∀ k ∈ acc, P k) → (∀ b ∈ r, (imgs f ⟨a, b⟩ n).2.2 = 0 → restB (imgs f ⟨a, b⟩ n).1 n = true → P ⟨a, b⟩) → ∀ k ∈ l, P k
  | [], acc, l, h, h1, _ => by
    rw [amI] at h
    cases h
    exact h1
  | b :: r, acc, l, h, h1, h2 => by
    have h3 := fun c hc => h2 c (List.mem_cons_of_mem _ hc)
    rcases imgs_code f ⟨a, b⟩ n with c | c | c
    · cases hb : restB (imgs f ⟨a, b⟩ n).1 n with
      | true =>
        rw [amI_t c hb] at h
        refine amI_all r _ l h (fun k hk => ?_) h3
        rcases List.mem_append.1 hk with hk | hk
        · exact h1 k hk
        · rw [List.mem_singleton.1 hk]; exact h2 b List.mem_cons_self c hb
      | false =>
        rw [amI_f c hb] at h
        exact amI_all r _ l h h1 h3
    · rw [amI_1 c] at h; cases h
    · rw [amI_2 c] at h
      exact amI_all r _ l h h1 h3
theorem amO_all {P : Iv → Prop} {f : List Pt} {n : Nat} : ∀ (xs : List Rt) (acc l : List Iv), amO f n xs acc = some l → (∀ k ∈ acc, P k) → xs.Pairwise (fun a b => (imgs f ⟨a, b⟩ n).2.2 = 0 → restB (imgs f ⟨a, b⟩ n).1 n = true → P ⟨a, b⟩) → ∀ k ∈ l, P k
  | [], acc, l, h, h1, _ => by
    rw [amO] at h
    cases h
    exact h1
  | a :: r, acc, l, h, h1, h2 => by
    rw [amO] at h
    obtain ⟨h3, h4⟩ := List.pairwise_cons.1 h2
    cases e : amI f n a r acc with
    | none => rw [e] at h; cases h
    | some m =>
      rw [e] at h
      exact amO_all r m l h (amI_all r acc m e h1 h3) h4
theorem rq_am {f : List Pt} {xs : List Rt} {n : Int} : ∀ k ∈ (amRes f xs n).1, irRes f k n = (true, true) := by
  cases h1 : mapOk f with
  | false => rw [am_f1 h1]; intro k hk; cases hk
  | true =>
    cases h2 : partOk xs with
    | false => rw [am_f2 h2]; intro k hk; cases hk
    | true =>
      cases h3 : inB n 1 12 with
      | false => rw [am_f3 h3]; intro k hk; cases hk
      | true =>
        cases h4 : amO f n.toNat xs [] with
        | none => rw [am_n h1 h2 h3 h4]; intro k hk; cases hk
        | some l =>
          rw [am_t h1 h2 h3 h4]
          refine amO_all xs [] l h4 (fun _ h => by cases h) ?_
          rw [List.pairwise_iff_getElem]
          intro i j hi hj hij c hb
          have hv := part_iv h2 hij hj
          rw [getA_lt _ _ _ hi, getA_lt _ _ _ hj] at hv
          have hr : retOk f ⟨xs[i], xs[j]⟩ n = true := by unfold retOk; rw [h1, hv, h3]; rfl
          rw [ir_t hr, rr_t c, hb]
theorem amI_l {f : List Pt} {n : Nat} {a : Rt} : ∀ (r : List Rt) (acc l : List Iv), amI f n a r acc = some l → l.length ≤ acc.length + r.length
  | [], acc, l, h => by
    rw [amI] at h
    cases h
    exact Nat.le_add_right _ _
  | b :: r, acc, l, h => by
    rcases imgs_code f ⟨a, b⟩ n with c | c | c
    · cases hb : restB (imgs f ⟨a, b⟩ n).1 n with
      | true =>
        rw [amI_t c hb] at h
        have := amI_l r _ l h
        simp only [List.length_append, List.length_cons, List.length_nil] at this ⊢
        omega
      | false =>
        rw [amI_f c hb] at h
        have := amI_l r _ l h
        simp only [List.length_cons]
        omega
    · rw [amI_1 c] at h; cases h
    · rw [amI_2 c] at h
      have := amI_l r _ l h
      simp only [List.length_cons]
      omega
theorem amO_l {f : List Pt} {n : Nat} (M : Nat) : ∀ (xs : List Rt) (acc l : List Iv), xs.length ≤ M → amO f n xs acc = some l → l.length ≤ acc.length + xs.length * M
  | [], acc, l, _, h => by
    rw [amO] at h
    cases h
    exact Nat.le_add_right _ _
  | a :: r, acc, l, hM, h => by
    rw [amO] at h
    simp only [List.length_cons] at hM
    cases e : amI f n a r acc with
    | none => rw [e] at h; cases h
    | some m =>
      rw [e] at h
      have h1 := amI_l r acc m e
      have h2 := amO_l M r m l (by omega) h
      simp only [List.length_cons, Nat.add_mul, Nat.one_mul]
      omega
theorem rq_aml (f : List Pt) (xs : List Rt) (n : Int) : (amRes f xs n).1.length ≤ 81 := by
  cases h1 : mapOk f with
  | false => rw [am_f1 h1]; exact Nat.zero_le _
  | true =>
    cases h2 : partOk xs with
    | false => rw [am_f2 h2]; exact Nat.zero_le _
    | true =>
      cases h3 : inB n 1 12 with
      | false => rw [am_f3 h3]; exact Nat.zero_le _
      | true =>
        cases h4 : amO f n.toNat xs [] with
        | none => rw [am_n h1 h2 h3 h4]; exact Nat.zero_le _
        | some l =>
          rw [am_t h1 h2 h3 h4]
          have hx := (part_iff.1 h2).1.2
          have := amO_l 9 xs [] l hx h4
          simp only [List.length_nil, Nat.zero_add] at this
          show l.length ≤ 81
          omega
end Go.Vx
namespace Go.Vx
open Go Go.Proofs
set_option maxRecDepth 100000
set_option linter.unusedSimpArgs false
set_option linter.unusedVariables false

theorem rt_of_eq2 {a b : Rt} (h : eqRt a b = true) : a = b := of_decide_eq_true h
theorem pt_of_eq2 {a b : Pt} (h : eqPt a b = true) : a = b := of_decide_eq_true h
noncomputable def s_laws_big : Sig := ⟨7, [.val .raw, .val .raw], [.val .bool], fun ((a : Raw), (b : Raw), _) => ⟨[], (decide (1048576 < (a.bs.length : Int)) || decide (1048576 - (a.bs.length : Int) < (b.bs.length : Int)), ()), ()⟩⟩
theorem ok_laws_big : GSpec Tryz.prog s_laws_big := by
  refine fn_known tab_ok fol Known.nil (by decide) Tryz.func7 ?_
  rintro ⟨(a : Raw), (b : Raw), ⟨⟩⟩ hl _
  have l1 : a.bs.length ≤ 9223372036854775807 := a.hl
  have l2 : b.bs.length ≤ 9223372036854775807 := b.hl
  repeat' (first | with_reducible apply andAll_cons | with_reducible apply andAll_nil | (with_reducible apply Cf.mk; kernel_rfl) | apply And.intro | intro _ | exact True.intro | apply Lf.mk)
  all_goals (try simp only [Bool.not_eq_true', Bool.not_eq_false', Bool.not_not, decide_eq_true_eq, decide_eq_false_iff_not, beq_iff_eq, bne_iff_ne, beq_eq_false_iff_ne, bne_eq_false_iff_eq, ne_eq, Bool.and_eq_true, Bool.and_eq_false_iff, Bool.or_eq_true, Bool.or_eq_false_iff, Int.toNat_natCast, Nat.zero_add, Int.ofNat_lt, Int.ofNat_le, List.length_cons, List.length_nil, List.drop_zero, List.take_length] at *)
  all_goals first | omega | (simp_all; done) | (rename_i h; rw [decide_eq_false h, Bool.false_or]; done) | (rename_i h; rw [decide_eq_true h, Bool.true_or]; done) | trace_state
noncomputable def s_laws_pLess : Sig := ⟨17, [.val .rat, .val .rat], [.val .bool], fun ((a : Rt), (b : Rt), _) => ⟨[goodRt a = true, goodRt b = true], (decide (a.num * b.den < b.num * a.den), ()), ()⟩⟩
theorem ok_laws_pLess : GSpec Tryz.prog s_laws_pLess := by
  refine fn_known tab_ok fol Known.nil (by decide) Tryz.func17 ?_
  rintro ⟨⟨(n : Int), (d : Int)⟩, ⟨(m : Int), (e : Int)⟩, ⟨⟩⟩ hl ⟨h1, h2, _⟩
  have b1 := ratmul h1 h2
  have b2 := ratmul h2 h1
  dsimp only at b1 b2
  repeat' (first | with_reducible apply andAll_cons | with_reducible apply andAll_nil | (with_reducible apply Cf.mk; kernel_rfl) | apply And.intro | intro _ | exact True.intro | apply Lf.mk)
  all_goals first | omega | rfl | trace_state
theorem sum_rng {l : List Int} (h : ∀ x ∈ l, 0 ≤ x ∧ x ≤ 1000000) : 0 ≤ l.sum ∧ l.sum ≤ 1000000 * l.length := by
  induction l with
  | nil => exact ⟨Int.le_refl _, Int.le_refl _⟩
  | cons a r ih =>
    have h1 := h a (by simp)
    have h2 := ih (fun x hx => h x (by simp [hx]))
    rw [List.sum_cons, List.length_cons]
    omega
@[irreducible] def sumT (l : List Int) (i : Nat) : Int := (l.take i).sum
theorem sumT_z (l : List Int) : sumT l 0 = 0 := by unfold sumT; simp
theorem sumT_all {l : List Int} {i : Nat} (h : l.length ≤ i) : sumT l i = l.sum := by unfold sumT; rw [List.take_of_length_le h]
theorem sumT_rng {l : List Int} (h1 : ∀ x ∈ l, 0 ≤ x ∧ x ≤ 1000000) (h2 : l.length ≤ 1000000) (i : Nat) : 0 ≤ sumT l i ∧ sumT l i ≤ 1000000000000 := by
  unfold sumT
  have h3 := sum_rng (l := l.take i) (fun x hx => h1 x (List.mem_of_mem_take hx))
  have h4 : (l.take i).length ≤ 1000000 := by rw [List.length_take]; omega
  omega
theorem sumT_s {l : List Int} {i : Nat} (h : i < l.length) : sumT l (i + 1) = sumT l i + getA NI.dflt l i := by
  unfold sumT
  rw [List.take_add_one, List.sum_append, List.getElem?_eq_getElem h, getA_lt _ _ _ h]
  simp
theorem getN {l : List Int} (h1 : ∀ x ∈ l, 0 ≤ x ∧ x ≤ 1000000) {i : Nat} (h : i < l.length) : 0 ≤ getA NI.dflt l i ∧ getA NI.dflt l i ≤ 1000000 := h1 _ (getA_mem _ h)
noncomputable def s_laws_pSameMap : Sig := ⟨32, [.list .pt, .list .pt], [.val .bool], fun ((a : List Pt), (b : List Pt), _) => ⟨[], (decide (a = b), ()), ()⟩⟩
theorem ok_laws_pSameMap : GSpec Tryz.prog s_laws_pSameMap := by
  refine fn_known tab_ok fol Known.nil (by decide) Tryz.func32 ?_
  rintro ⟨(a : List Pt), (b : List Pt), ⟨⟩⟩ ⟨hl, hl', _⟩ _
  have hl : a.length ≤ 9223372036854775807 := hl
  repeat' (first | with_reducible apply andAll_cons | with_reducible apply andAll_nil | (with_reducible apply Cf.mk; kernel_rfl) | apply And.intro | intro _ | exact True.intro | apply Lf.mk)
  all_goals (try simp only [Bool.not_eq_true', Bool.not_eq_false', Bool.not_not, decide_eq_true_eq, decide_eq_false_iff_not, beq_iff_eq, bne_iff_ne, beq_eq_false_iff_ne, bne_eq_false_iff_eq, ne_eq, Bool.and_eq_true, Bool.and_eq_false_iff, Bool.or_eq_true, Bool.or_eq_false_iff, Int.toNat_natCast, Nat.zero_add, Int.ofNat_lt, Int.ofNat_le, List.length_cons, List.length_nil, List.drop_zero, List.take_length] at *)
  · rename_i h; change false = decide (a = b); symm; rw [decide_eq_false_iff_not]; intro h2; apply h; rw [h2]
  · rename_i h
    have h : a.length = b.length := by omega
    refine ⟨Nat, fun i => ⟨[(13, .sc (.num .i64 i))], [100000, 100001], []⟩, fun i => i ≤ a.length ∧ a.take i = b.take i, fun i => a.length - i, ⟨0, ?_, ?_⟩, ?_⟩
    · exact ⟨Nat.zero_le _, rfl⟩
    · repeat' (first | apply And.intro | exact True.intro | exact Lf.mk (by with_reducible rfl) | apply Lf.mk)
      all_goals rfl
    · rintro i ⟨g1, g2⟩
      repeat' (first | with_reducible apply andAll_cons | with_reducible apply andAll_nil | (with_reducible apply Cf.mk; kernel_rfl) | apply And.intro | intro _ | exact True.intro | apply Lf.mk)
      all_goals (try simp only [Bool.not_eq_true', Bool.not_eq_false', Bool.not_not, decide_eq_true_eq, decide_eq_false_iff_not, beq_iff_eq, bne_iff_ne, beq_eq_false_iff_ne, bne_eq_false_iff_eq, ne_eq, Bool.and_eq_true, Bool.and_eq_false_iff, Bool.or_eq_true, Bool.or_eq_false_iff, Int.toNat_natCast, Nat.zero_add, Int.ofNat_lt, Int.ofNat_le, List.length_cons, List.length_nil, List.drop_zero, List.take_length] at *)
      all_goals first | omega | skip
      · rename_i h3 h4; change false = decide (a = b); symm; rw [decide_eq_false_iff_not]; intro h2; rw [h2] at h4; simp [eqPt] at h4
      · rename_i h3 h4
        refine ⟨i + 1, ⟨by omega, take_eq_succ VK.pt.dflt a b i h3 (by omega) g2 (pt_of_eq2 (by simpa using h4))⟩, by omega, ?_⟩
        repeat' (first | apply And.intro | exact True.intro | exact Lf.mk (by with_reducible rfl) | apply Lf.mk)
        all_goals rfl
      · rename_i h3; change true = decide (a = b); symm; rw [decide_eq_true_eq]; exact eq_of_take h h3 g2
end Go.Vx
namespace Go.Vx
open Go Go.Proofs
set_option maxRecDepth 100000
set_option linter.unusedSimpArgs false
set_option linter.unusedVariables false

noncomputable def s_laws_pWithin : Sig := ⟨43, [.val .iv, .val .rat], [.val .bool], fun ((i : Iv), (x : Rt), _) => ⟨[goodRt i.a = true, goodRt i.b = true, goodRt x = true], (hasR i x, ()), ()⟩⟩
theorem ok_laws_pWithin : GSpec Tryz.prog s_laws_pWithin := by
  refine fn_known tab_ok fol (Known.nil.cons ok_laws_pLess (by kernel_rfl)) (by decide) Tryz.func43 ?_
  rintro ⟨⟨⟨(n : Int), (d : Int)⟩, ⟨(m : Int), (e : Int)⟩⟩, ⟨(a : Int), (b : Int)⟩, ⟨⟩⟩ - ⟨h1, h2, h3, _⟩
  have h1 : goodRt ⟨n, d⟩ = true := h1
  have h2 : goodRt ⟨m, e⟩ = true := h2
  have h3 : goodRt ⟨a, b⟩ = true := h3
  repeat' (first | with_reducible apply andAll_cons | with_reducible apply andAll_nil | (with_reducible apply Cf.mk; kernel_rfl) | apply And.intro | intro _ | exact True.intro | apply Lf.mk)
  all_goals first | assumption | (unfold hasR lessRt; simp_all; done) | trace_state
noncomputable def s_laws_qMap : Sig := ⟨63, [.list .pt, .list .pt], [.val .bool], fun ((a : List Pt), (b : List Pt), _) => ⟨[], (decide (a = b), ()), ()⟩⟩
theorem ok_laws_qMap : GSpec Tryz.prog s_laws_qMap := by
  refine fn_known tab_ok fol Known.nil (by decide) Tryz.func63 ?_
  rintro ⟨(a : List Pt), (b : List Pt), ⟨⟩⟩ ⟨hl, hl', _⟩ _
  have hl : a.length ≤ 9223372036854775807 := hl
  repeat' (first | with_reducible apply andAll_cons | with_reducible apply andAll_nil | (with_reducible apply Cf.mk; kernel_rfl) | apply And.intro | intro _ | exact True.intro | apply Lf.mk)
  all_goals (try simp only [Bool.not_eq_true', Bool.not_eq_false', Bool.not_not, decide_eq_true_eq, decide_eq_false_iff_not, beq_iff_eq, bne_iff_ne, beq_eq_false_iff_ne, bne_eq_false_iff_eq, ne_eq, Bool.and_eq_true, Bool.and_eq_false_iff, Bool.or_eq_true, Bool.or_eq_false_iff, Int.toNat_natCast, Nat.zero_add, Int.ofNat_lt, Int.ofNat_le, List.length_cons, List.length_nil, List.drop_zero, List.take_length] at *)
  · rename_i h; change false = decide (a = b); symm; rw [decide_eq_false_iff_not]; intro h2; apply h; rw [h2]
  · rename_i h
    have h : a.length = b.length := by omega
    refine ⟨Nat, fun i => ⟨[(13, .sc (.num .i64 i))], [100000, 100001], []⟩, fun i => i ≤ a.length ∧ a.take i = b.take i, fun i => a.length - i, ⟨0, ?_, ?_⟩, ?_⟩
    · exact ⟨Nat.zero_le _, rfl⟩
    · repeat' (first | apply And.intro | exact True.intro | exact Lf.mk (by with_reducible rfl) | apply Lf.mk)
      all_goals rfl
    · rintro i ⟨g1, g2⟩
      repeat' (first | with_reducible apply andAll_cons | with_reducible apply andAll_nil | (with_reducible apply Cf.mk; kernel_rfl) | apply And.intro | intro _ | exact True.intro | apply Lf.mk)
      all_goals (try simp only [Bool.not_eq_true', Bool.not_eq_false', Bool.not_not, decide_eq_true_eq, decide_eq_false_iff_not, beq_iff_eq, bne_iff_ne, beq_eq_false_iff_ne, bne_eq_false_iff_eq, ne_eq, Bool.and_eq_true, Bool.and_eq_false_iff, Bool.or_eq_true, Bool.or_eq_false_iff, Int.toNat_natCast, Nat.zero_add, Int.ofNat_lt, Int.ofNat_le, List.length_cons, List.length_nil, List.drop_zero, List.take_length] at *)
      all_goals first | omega | skip
      · rename_i h3 h4; change false = decide (a = b); symm; rw [decide_eq_false_iff_not]; intro h2; rw [h2] at h4; simp [eqPt] at h4
      · rename_i h3 h4
        refine ⟨i + 1, ⟨by omega, take_eq_succ VK.pt.dflt a b i h3 (by omega) g2 (pt_of_eq2 (by simpa using h4))⟩, by omega, ?_⟩
        repeat' (first | apply And.intro | exact True.intro | exact Lf.mk (by with_reducible rfl) | apply Lf.mk)
        all_goals rfl
      · rename_i h3; change true = decide (a = b); symm; rw [decide_eq_true_eq]; exact eq_of_take h h3 g2
theorem iv_of_eq2 {a b : Iv} (h : eqIv a b = true) : a = b := of_decide_eq_true h
noncomputable def s_laws_pSameCover : Sig := ⟨15, [.list .iv, .list .iv], [.val .bool], fun ((a : List Iv), (b : List Iv), _) => ⟨[], (decide (a = b), ()), ()⟩⟩
theorem ok_laws_pSameCover : GSpec Tryz.prog s_laws_pSameCover := by
  refine fn_known tab_ok fol Known.nil (by decide) Tryz.func15 ?_
  rintro ⟨(a : List Iv), (b : List Iv), ⟨⟩⟩ ⟨hl, hl', _⟩ _
  have hl : a.length ≤ 9223372036854775807 := hl
  repeat' (first | with_reducible apply andAll_cons | with_reducible apply andAll_nil | (with_reducible apply Cf.mk; kernel_rfl) | apply And.intro | intro _ | exact True.intro | apply Lf.mk)
  all_goals (try simp only [Bool.not_eq_true', Bool.not_eq_false', Bool.not_not, decide_eq_true_eq, decide_eq_false_iff_not, beq_iff_eq, bne_iff_ne, beq_eq_false_iff_ne, bne_eq_false_iff_eq, ne_eq, Bool.and_eq_true, Bool.and_eq_false_iff, Bool.or_eq_true, Bool.or_eq_false_iff, Int.toNat_natCast, Nat.zero_add, Int.ofNat_lt, Int.ofNat_le, List.length_cons, List.length_nil, List.drop_zero, List.take_length] at *)
  · rename_i h; change false = decide (a = b); symm; rw [decide_eq_false_iff_not]; intro h2; apply h; rw [h2]
  · rename_i h
    have h : a.length = b.length := by omega
    refine ⟨Nat, fun i => ⟨[(13, .sc (.num .i64 i))], [100000, 100001], []⟩, fun i => i ≤ a.length ∧ a.take i = b.take i, fun i => a.length - i, ⟨0, ?_, ?_⟩, ?_⟩
    · exact ⟨Nat.zero_le _, rfl⟩
    · repeat' (first | apply And.intro | exact True.intro | exact Lf.mk (by with_reducible rfl) | apply Lf.mk)
      all_goals rfl
    · rintro i ⟨g1, g2⟩
      repeat' (first | with_reducible apply andAll_cons | with_reducible apply andAll_nil | (with_reducible apply Cf.mk; kernel_rfl) | apply And.intro | intro _ | exact True.intro | apply Lf.mk)
      all_goals (try simp only [Bool.not_eq_true', Bool.not_eq_false', Bool.not_not, decide_eq_true_eq, decide_eq_false_iff_not, beq_iff_eq, bne_iff_ne, beq_eq_false_iff_ne, bne_eq_false_iff_eq, ne_eq, Bool.and_eq_true, Bool.and_eq_false_iff, Bool.or_eq_true, Bool.or_eq_false_iff, Int.toNat_natCast, Nat.zero_add, Int.ofNat_lt, Int.ofNat_le, List.length_cons, List.length_nil, List.drop_zero, List.take_length] at *)
      all_goals first | omega | skip
      · rename_i h3 h4; change false = decide (a = b); symm; rw [decide_eq_false_iff_not]; intro h2; rw [h2] at h4; simp [eqIv] at h4
      · rename_i h3 h4
        refine ⟨i + 1, ⟨by omega, take_eq_succ VK.iv.dflt a b i h3 (by omega) g2 (iv_of_eq2 (by simpa using h4))⟩, by omega, ?_⟩
        repeat' (first | apply And.intro | exact True.intro | exact Lf.mk (by with_reducible rfl) | apply Lf.mk)
        all_goals rfl
      · rename_i h3; change true = decide (a = b); symm; rw [decide_eq_true_eq]; exact eq_of_take h h3 g2
end Go.Vx
