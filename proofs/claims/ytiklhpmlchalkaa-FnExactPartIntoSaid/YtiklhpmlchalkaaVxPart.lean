/- The part of an image in its interval: the program's functions and the reference's. -/
import Derived.Test.YtiklhpmlchalkaaVxRst
namespace Go.Vx
open Go Go.Proofs
set_option maxRecDepth 100000
set_option linter.unusedSimpArgs false
set_option linter.unusedVariables false

noncomputable def ioOk (f : List Pt) (a b : Rt) : Bool := mapOk f && (unitRt a && (unitRt b && !lessRt b a))
noncomputable def ioRes (f : List Pt) (a b : Rt) : Rt × Rt × Bool := match ioOk f a b && imB f a b with
  | true => ((imO f a b).1, (imO f a b).2, true)
  | false => (⟨0, 0⟩, ⟨0, 0⟩, false)
theorem io_t {f : List Pt} {a b : Rt} (h1 : mapOk f = true) (h2 : unitRt a = true) (h3 : unitRt b = true) (h4 : lessRt b a = false) (h5 : imB f a b = true) : ioRes f a b = ((imO f a b).1, (imO f a b).2, true) := by
  unfold ioRes ioOk; rw [h1, h2, h3, h4, h5]; rfl
theorem io_f1 {f : List Pt} {a b : Rt} (h : mapOk f = false) : ioRes f a b = (⟨0, 0⟩, ⟨0, 0⟩, false) := by unfold ioRes ioOk; rw [h]; rfl
theorem io_f2 {f : List Pt} {a b : Rt} (h : [a, b].all unitRt = false) : ioRes f a b = (⟨0, 0⟩, ⟨0, 0⟩, false) := by
  have h2 : (unitRt a && unitRt b) = false := by simpa using h
  unfold ioRes ioOk
  cases h3 : unitRt a with
  | false => cases mapOk f <;> rfl
  | true =>
    rw [h3] at h2
    have h4 : unitRt b = false := h2
    rw [h4]; cases mapOk f <;> rfl
theorem io_f3 {f : List Pt} {a b : Rt} (h : lessRt b a = true) : ioRes f a b = (⟨0, 0⟩, ⟨0, 0⟩, false) := by
  unfold ioRes ioOk; rw [h]; cases mapOk f <;> cases unitRt a <;> cases unitRt b <;> rfl
theorem io_f4 {f : List Pt} {a b : Rt} (h : imB f a b = false) : ioRes f a b = (⟨0, 0⟩, ⟨0, 0⟩, false) := by
  unfold ioRes; rw [h]; cases ioOk f a b <;> rfl
noncomputable def s_impl_ImageOf : Sig := ⟨104, [.list .pt, .val .rat, .val .rat], [.val .rat, .val .rat, .val .bool], fun ((f : List Pt), (a : Rt), (b : Rt), _) => ⟨[], ((ioRes f a b).1, (ioRes f a b).2.1, (ioRes f a b).2.2, ()), ()⟩⟩
theorem ok_impl_ImageOf : GSpec Try.prog s_impl_ImageOf := by
  refine fn_known tab_ok fol ((((Known.nil.cons ok_impl_isMap (by kernel_rfl)).cons ok_impl_areUnits (by kernel_rfl)).cons ok_impl_less (by kernel_rfl)).cons ok_calc_image (by kernel_rfl)) (by decide) Try.func104 ?_
  rintro ⟨(f : List Pt), ⟨(n : Int), (d : Int)⟩, ⟨(m : Int), (e : Int)⟩, ⟨⟩⟩ - -
  repeat' (first | with_reducible apply andAll_cons | with_reducible apply andAll_nil | (with_reducible apply Cf.mk; kernel_rfl) | apply And.intro | intro _ | exact True.intro | apply Lf.mk)
  all_goals (try simp only [Bool.not_eq_true', Bool.not_eq_false', Bool.not_not, decide_eq_true_eq, decide_eq_false_iff_not, beq_iff_eq, bne_iff_ne, beq_eq_false_iff_ne, bne_eq_false_iff_eq, ne_eq, Bool.and_eq_true, Bool.and_eq_false_iff, Bool.or_eq_true, Bool.or_eq_false_iff, Int.toNat_natCast, Nat.zero_add, Int.ofNat_lt, Int.ofNat_le, List.length_cons, List.length_nil, List.drop_zero, List.take_length] at *)
  all_goals first
    | assumption
    | exact (all2 (by assumption)).1
    | exact (all2 (by assumption)).2
    | exact unit_good (all2 (by assumption)).1
    | exact unit_good (all2 (by assumption)).2
    | (rw [io_f1 (by assumption)]; done)
    | (rw [io_f2 (by assumption)]; done)
    | (rw [io_f3 (by assumption)]; done)
    | (rw [io_f4 ((by assumption : false = true ∨ _).resolve_left Bool.noConfusion)]; done)
    | (rw [io_t (by assumption) (all2 (by assumption)).1 (all2 (by assumption)).2 (by assumption) (by assumption : True ∧ _).2]; done)
    | skip
/-- the image of an interval, if it is one -/
noncomputable def iiRes (f : List Pt) (i : Iv) : Iv × Bool := match mapOk f && (ivOk i && (imB f i.a i.b && !eqRt (imO f i.a i.b).1 (imO f i.a i.b).2)) with
  | true => (⟨(imO f i.a i.b).1, (imO f i.a i.b).2⟩, true)
  | false => (⟨⟨0, 0⟩, ⟨0, 0⟩⟩, false)
theorem ii_t {f : List Pt} {i : Iv} (h1 : mapOk f = true) (h2 : ivOk i = true) (h3 : imB f i.a i.b = true) (h4 : eqRt (imO f i.a i.b).1 (imO f i.a i.b).2 = false) : iiRes f i = (⟨(imO f i.a i.b).1, (imO f i.a i.b).2⟩, true) := by
  unfold iiRes; rw [h1, h2, h3, h4]; rfl
theorem ii_f1 {f : List Pt} {i : Iv} (h : mapOk f = false) : iiRes f i = (⟨⟨0, 0⟩, ⟨0, 0⟩⟩, false) := by unfold iiRes; rw [h]; rfl
theorem ii_f2 {f : List Pt} {i : Iv} (h : ivOk i = false) : iiRes f i = (⟨⟨0, 0⟩, ⟨0, 0⟩⟩, false) := by unfold iiRes; rw [h]; cases mapOk f <;> rfl
theorem ii_f3 {f : List Pt} {i : Iv} (h : imB f i.a i.b = false) : iiRes f i = (⟨⟨0, 0⟩, ⟨0, 0⟩⟩, false) := by unfold iiRes; rw [h]; cases mapOk f <;> cases ivOk i <;> rfl
theorem ii_f4 {f : List Pt} {i : Iv} (h : eqRt (imO f i.a i.b).1 (imO f i.a i.b).2 = true) : iiRes f i = (⟨⟨0, 0⟩, ⟨0, 0⟩⟩, false) := by unfold iiRes; rw [h]; cases mapOk f <;> cases ivOk i <;> cases imB f i.a i.b <;> rfl
theorem lt_asym {a b : Rt} (h : ltR a b) : lessRt b a = false := decide_eq_false (fun h2 => by have h1 : a.num * b.den < b.num * a.den := h; omega)
theorem io_no {f : List Pt} {i : Iv} (hi : ivOk i = true) (h : (ioRes f i.a i.b).2.2 = false) : iiRes f i = (⟨⟨0, 0⟩, ⟨0, 0⟩⟩, false) := by
  obtain ⟨h1, h2, h3⟩ := ivOk_iff.1 hi
  cases hm : mapOk f with
  | false => exact ii_f1 hm
  | true =>
    cases hb : imB f i.a i.b with
    | false => exact ii_f3 hb
    | true => rw [io_t hm h1 h2 (lt_asym h3) hb] at h; cases h
theorem io_yes {f : List Pt} {i : Iv} (hi : ivOk i = true) (h : (ioRes f i.a i.b).2.2 = true) : mapOk f = true ∧ imB f i.a i.b = true ∧ ioRes f i.a i.b = ((imO f i.a i.b).1, (imO f i.a i.b).2, true) := by
  obtain ⟨h1, h2, h3⟩ := ivOk_iff.1 hi
  cases hm : mapOk f with
  | false => rw [io_f1 hm] at h; cases h
  | true =>
    cases hb : imB f i.a i.b with
    | false => rw [io_f4 hb] at h; cases h
    | true => exact ⟨rfl, rfl, io_t hm h1 h2 (lt_asym h3) hb⟩
theorem ii_no {f : List Pt} {i : Iv} (hi : ivOk i = true) (h : (ioRes f i.a i.b).2.2 = true) (he : eqRt (ioRes f i.a i.b).1 (ioRes f i.a i.b).2.1 = true) : iiRes f i = (⟨⟨0, 0⟩, ⟨0, 0⟩⟩, false) := by
  obtain ⟨h1, h2, h3⟩ := io_yes hi h
  rw [h3] at he; exact ii_f4 he
theorem ii_yes {f : List Pt} {i : Iv} (hi : ivOk i = true) (h : (ioRes f i.a i.b).2.2 = true) (he : eqRt (ioRes f i.a i.b).1 (ioRes f i.a i.b).2.1 = false) : (⟨(ioRes f i.a i.b).1, (ioRes f i.a i.b).2.1⟩, true) = iiRes f i := by
  obtain ⟨h1, h2, h3⟩ := io_yes hi h
  rw [h3] at he ⊢; exact (ii_t h1 hi h2 he).symm
theorem ii_ok {f : List Pt} {i : Iv} (h : (iiRes f i).2 = true) : mapOk f = true ∧ ivOk i = true ∧ ivOk (iiRes f i).1 = true ∧ imB f i.a i.b = true ∧ eqRt (imO f i.a i.b).1 (imO f i.a i.b).2 = false := by
  cases hm : mapOk f with
  | false => rw [ii_f1 hm] at h; cases h
  | true =>
    cases hi : ivOk i with
    | false => rw [ii_f2 hi] at h; cases h
    | true =>
      obtain ⟨h1, h2, h3⟩ := ivOk_iff.1 hi
      cases hb : imB f i.a i.b with
      | false => rw [ii_f3 hb] at h; cases h
      | true =>
        cases he : eqRt (imO f i.a i.b).1 (imO f i.a i.b).2 with
        | true => rw [ii_f4 he] at h; cases h
        | false =>
          rw [ii_t hm hi hb he]
          obtain ⟨r1, r2, r3⟩ := imO_rg hm h1 h2
          exact ⟨rfl, rfl, ivOk_iff.2 ⟨r1, r2, lt_of_ne (unit_good r1) (unit_good r2) r3 (by rw [eqRt_dec] at he; exact of_decide_eq_false he)⟩, rfl, rfl⟩
noncomputable def s_impl_ImageInterval : Sig := ⟨72, [.list .pt, .val .iv], [.val .iv, .val .bool], fun ((f : List Pt), (i : Iv), _) => ⟨[], ((iiRes f i).1, (iiRes f i).2, ()), ()⟩⟩
theorem ok_impl_ImageInterval : GSpec Try.prog s_impl_ImageInterval := by
  refine fn_known tab_ok fol ((Known.nil.cons ok_impl_isInterval (by kernel_rfl)).cons ok_impl_ImageOf (by kernel_rfl)) (by decide) Try.func72 ?_
  rintro ⟨(f : List Pt), ⟨⟨(n : Int), (d : Int)⟩, ⟨(m : Int), (e : Int)⟩⟩, ⟨⟩⟩ - -
  repeat' (first | with_reducible apply andAll_cons | with_reducible apply andAll_nil | (with_reducible apply Cf.mk; kernel_rfl) | apply And.intro | intro _ | exact True.intro | apply Lf.mk)
  all_goals (try simp only [Bool.not_eq_true', Bool.not_eq_false', Bool.not_not, decide_eq_true_eq, decide_eq_false_iff_not, beq_iff_eq, bne_iff_ne, beq_eq_false_iff_ne, bne_eq_false_iff_eq, ne_eq, Bool.and_eq_true, Bool.and_eq_false_iff, Bool.or_eq_true, Bool.or_eq_false_iff, Int.toNat_natCast, Nat.zero_add, Int.ofNat_lt, Int.ofNat_le, List.length_cons, List.length_nil, List.drop_zero, List.take_length] at *)
  all_goals first
    | (rw [ii_f2 (by assumption)]; done)
    | (rw [io_no (i := ⟨⟨n, d⟩, ⟨m, e⟩⟩) (by assumption) (by assumption)]; done)
    | skip
  all_goals rename_i q1 q2 q3
  · exact (congrArg Prod.fst (ii_no q1 q2 q3)).symm
  · exact (congrArg Prod.snd (ii_no q1 q2 q3)).symm
  · exact congrArg Prod.fst (ii_yes q1 q2 q3)
  · exact congrArg Prod.snd (ii_yes q1 q2 q3)
/-- the part of the image of an interval in it -/
noncomputable def ptRes (f : List Pt) (i : Iv) : Iv × Bool := match (iiRes f i).2 with
  | true => (cutR i (iiRes f i).1, meetR i (iiRes f i).1)
  | false => (⟨⟨0, 0⟩, ⟨0, 0⟩⟩, false)
theorem pt_f {f : List Pt} {i : Iv} (h : (iiRes f i).2 = false) : ptRes f i = (⟨⟨0, 0⟩, ⟨0, 0⟩⟩, false) := by unfold ptRes; rw [h]
theorem pt_t {f : List Pt} {i : Iv} (h : (iiRes f i).2 = true) : ptRes f i = (cutR i (iiRes f i).1, meetR i (iiRes f i).1) := by unfold ptRes; rw [h]
noncomputable def s_impl_PartInto : Sig := ⟨29, [.list .pt, .val .iv], [.val .iv, .val .bool], fun ((f : List Pt), (i : Iv), _) => ⟨[], ((ptRes f i).1, (ptRes f i).2, ()), ()⟩⟩
noncomputable def s_spec_PartInto : Sig := ⟨28, [.list .pt, .val .iv], [.val .iv, .val .bool], fun ((f : List Pt), (i : Iv), _) => ⟨[], ((ptRes f i).1, (ptRes f i).2, ()), ()⟩⟩
theorem ok_impl_PartInto : GSpec Try.prog s_impl_PartInto := by
  refine fn_known tab_ok fol ((Known.nil.cons ok_impl_ImageInterval (by kernel_rfl)).cons ok_impl_common (by kernel_rfl)) (by decide) Try.func29 ?_
  rintro ⟨(f : List Pt), ⟨⟨(n : Int), (d : Int)⟩, ⟨(m : Int), (e : Int)⟩⟩, ⟨⟩⟩ - -
  repeat' (first | with_reducible apply andAll_cons | with_reducible apply andAll_nil | (with_reducible apply Cf.mk; kernel_rfl) | apply And.intro | intro _ | exact True.intro | apply Lf.mk)
  all_goals (try simp only [Bool.not_eq_true', Bool.not_eq_false', Bool.not_not, decide_eq_true_eq, decide_eq_false_iff_not, beq_iff_eq, bne_iff_ne, beq_eq_false_iff_ne, bne_eq_false_iff_eq, ne_eq, Bool.and_eq_true, Bool.and_eq_false_iff, Bool.or_eq_true, Bool.or_eq_false_iff, Int.toNat_natCast, Nat.zero_add, Int.ofNat_lt, Int.ofNat_le, List.length_cons, List.length_nil, List.drop_zero, List.take_length] at *)
  all_goals first
    | (rw [pt_f (by assumption)]; done)
    | exact (ii_ok (by assumption)).2.1
    | exact (ii_ok (by assumption)).2.2.1
    | (rw [pt_t (by assumption)]; done)
    | (rw [pt_t (by assumption)]; rfl)
    | skip
theorem im1_not {f : List Pt} {i : Iv} (hm : mapOk f = true) (hi : ivOk i = true) (hc : ¬ (imgs f i (Int.toNat 1)).2.2 = 0) : (iiRes f i).2 = false := by
  cases hb : imB f i.a i.b with
  | false => rw [ii_f3 hb]
  | true =>
    cases he : eqRt (imO f i.a i.b).1 (imO f i.a i.b).2 with
    | true => rw [ii_f4 he]
    | false =>
      have h := imgs_C (f := f) (i := i) (j := 0) rfl hb he
      exact (hc (by show (imgs f i (0 + 1)).2.2 = 0; rw [h])).elim
theorem im1_yes {f : List Pt} {i : Iv} (hm : mapOk f = true) (hi : ivOk i = true) (hc : (imgs f i (Int.toNat 1)).2.2 = 0) : (iiRes f i).2 = true ∧ (imgs f i (Int.toNat 1)).1.length = 2 ∧ getA zI (imgs f i (Int.toNat 1)).1 (Int.toNat 1) = (iiRes f i).1 := by
  cases hb : imB f i.a i.b with
  | false =>
    have h := imgs_1 (f := f) (i := i) (k := 0) rfl hb
    have hc : (imgs f i (0 + 1)).2.2 = 0 := hc
    rw [h] at hc; cases hc
  | true =>
    cases he : eqRt (imO f i.a i.b).1 (imO f i.a i.b).2 with
    | true =>
      have h := imgs_2 (f := f) (i := i) (k := 0) rfl hb (by rw [eqRt_dec] at he; exact of_decide_eq_true he)
      have hc : (imgs f i (0 + 1)).2.2 = 0 := hc
      rw [h] at hc; cases hc
    | false =>
      have h := imgs_C (f := f) (i := i) (j := 0) rfl hb he
      rw [ii_t hm hi hb he]
      refine ⟨rfl, ?_, ?_⟩
      · show (imgs f i (0 + 1)).1.length = 2
        rw [h]; rfl
      · show getA zI (imgs f i (0 + 1)).1 1 = _
        rw [h]; rfl
theorem sep_comm (i k : Iv) : sepR k i = sepR i k := Bool.or_comm _ _
theorem p_sep {f : List Pt} {i K : Iv} (hi : ivOk i = true) (h2 : (iiRes f i).2 = true) (hK : K = (iiRes f i).1) (hs : sepR K i = true) : (⟨⟨0, 0⟩, ⟨0, 0⟩⟩, false) = ptRes f i := by
  subst hK
  have hm : meetR i (iiRes f i).1 = false := by rw [meet_sep hi (ii_ok h2).2.2.1, ← sep_comm, hs]; rfl
  rw [pt_t h2]; unfold cutR; rw [hm]
theorem p_cut {f : List Pt} {i K : Iv} (hi : ivOk i = true) (h2 : (iiRes f i).2 = true) (hK : K = (iiRes f i).1) (hs : sepR K i = false) : (⟨grR i.a K.a, lsR i.b K.b⟩, true) = ptRes f i := by
  subst hK
  have hm : meetR i (iiRes f i).1 = true := by rw [meet_sep hi (ii_ok h2).2.2.1, ← sep_comm, hs]; rfl
  rw [pt_t h2]; unfold cutR; rw [hm]
theorem bG {P Q : Bool} (h : (bif !P then true else Q) = true) (h2 : P = true) : Q = true := by revert h h2; cases P <;> cases Q <;> decide
theorem bH {P Q : Bool} (h : (bif !P then true else Q) = false) : Q = false := by revert h; cases P <;> cases Q <;> decide
theorem ok_spec_PartInto : GSpec Try.prog s_spec_PartInto := by
  refine fn_known tab_ok fol ((((((Known.nil.cons ok_spec_imGood (by kernel_rfl)).cons ok_spec_ivGood (by kernel_rfl)).cons ok_spec_rnImages (by kernel_rfl)).cons ok_spec_ivSeparate (by kernel_rfl)).cons ok_spec_ivGreater (by kernel_rfl)).cons ok_spec_ivLess (by kernel_rfl)) (by decide) Try.func28 ?_
  rintro ⟨(f : List Pt), ⟨⟨(n : Int), (d : Int)⟩, ⟨(m : Int), (e : Int)⟩⟩, ⟨⟩⟩ - -
  repeat' (first | with_reducible apply andAll_cons | with_reducible apply andAll_nil | (with_reducible apply Cf.mk; kernel_rfl) | apply And.intro | intro _ | exact True.intro | apply Lf.mk)
  all_goals (try simp only [Bool.not_eq_true', Bool.not_eq_false', Bool.not_not, decide_eq_true_eq, decide_eq_false_iff_not, beq_iff_eq, bne_iff_ne, beq_eq_false_iff_ne, bne_eq_false_iff_eq, ne_eq, Bool.and_eq_true, Bool.and_eq_false_iff, Bool.or_eq_true, Bool.or_eq_false_iff, Int.toNat_natCast, Nat.zero_add, Int.ofNat_lt, Int.ofNat_le, List.length_cons, List.length_nil, List.drop_zero, List.take_length] at *)
  all_goals first
    | assumption
    | omega
    | (rw [pt_f (by rw [ii_f1 (by assumption)])]; done)
    | (rw [pt_f (by rw [ii_f2 (by assumption)])]; done)
    | (rw [pt_f (im1_not (by assumption) (by assumption) (by assumption))]; done)
    | skip
  all_goals first
    | contradiction
    | (exact absurd (by assumption : true = false) (by decide))
    | skip
  all_goals
    have hm := (by assumption : mapOk f = true)
    have hi := (by assumption : ivOk ⟨⟨n, d⟩, ⟨m, e⟩⟩ = true)
    obtain ⟨c1, c2, c3⟩ := im1_yes (f := f) (i := ⟨⟨n, d⟩, ⟨m, e⟩⟩) hm hi (by assumption)
    have hK := (ii_ok c1).2.2.1
    rw [← c3] at hK
    obtain ⟨k1, k2, k3⟩ := ivOk_iff.1 hK
    obtain ⟨i1, i2, i3⟩ := ivOk_iff.1 hi
    first
      | omega
      | (show Int.toNat 1 < _; rw [c2]; decide)
      | exact hK
      | exact unit_good k1
      | exact unit_good k2
      | exact unit_good i1
      | exact unit_good i2
      | skip
  · rename_i q1 q2
    exact congrArg Prod.fst (p_sep hi c1 c3 (bG q2 (decide_eq_true q1)))
  · rename_i q1 q2
    exact congrArg Prod.snd (p_sep hi c1 c3 (bG q2 (decide_eq_true q1)))
  · rename_i q1 q2
    exact congrArg Prod.fst (p_cut hi c1 c3 (bH q2))
  · rename_i q1 q2
    exact congrArg Prod.snd (p_cut hi c1 c3 (bH q2))
end Go.Vx
