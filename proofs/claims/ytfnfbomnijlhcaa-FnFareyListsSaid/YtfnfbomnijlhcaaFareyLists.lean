/- For all arguments the law FnFareyLists returns true; there are no further conditions. -/
import Derived.Test.YtfnfbomnijlhcaaVxRow
import Derived.Test.YtfnfbomnijlhcaaVxFy
import Derived.Test.YtfnfbomnijlhcaaVxJn
namespace Go.Vx
open Go Go.Proofs
set_option maxRecDepth 100000
set_option linter.unusedSimpArgs false
set_option linter.unusedVariables false

noncomputable def s_laws_FnFareyLists : Sig := ⟨3, [.val .raw, .val .raw], [.val .bool], fun ((_ : Raw), (_ : Raw), _) => ⟨[], (true, ()), ()⟩⟩

set_option maxHeartbeats 40000000 in
theorem ok_laws_FnFareyLists : GSpec Try.prog s_laws_FnFareyLists := by
  refine fn_knownJ (some 61) tab_ok fol (((((((((((((((((((((Known.nil.cons ok_spec_DrawFareyList (by kernel_rfl)).cons ok_impl_FareyList (by kernel_rfl)).cons ok_spec_FareyList (by kernel_rfl)).cons ok_spec_DrawFareyNeighbours (by kernel_rfl)).cons ok_impl_FareyNeighbours (by kernel_rfl)).cons ok_spec_FareyNeighbours (by kernel_rfl)).cons ok_spec_DrawMediantOf (by kernel_rfl)).cons ok_impl_MediantOf (by kernel_rfl)).cons ok_spec_MediantOf (by kernel_rfl)).cons ok_impl_AreNeighbours (by kernel_rfl)).cons ok_spec_AreNeighbours (by kernel_rfl)).cons ok_spec_DrawBestApproximation (by kernel_rfl)).cons ok_impl_BestApproximation (by kernel_rfl)).cons ok_spec_BestApproximation (by kernel_rfl)).cons ok_spec_DrawSimplestBetween (by kernel_rfl)).cons ok_impl_SimplestBetween (by kernel_rfl)).cons ok_spec_SimplestBetween (by kernel_rfl)).cons ok_laws_qRats (by kernel_rfl)).cons ok_laws_qUp (by kernel_rfl)).cons ok_laws_qHasRat (by kernel_rfl)).cons ok_laws_qAbs (by kernel_rfl)) (by decide) Try.func3 ?_
  rintro ⟨(r : Raw), (s : Raw), ⟨⟩⟩ hl _
  have l1 : r.bs.length ≤ maxLen := r.hl
  have l2 : s.bs.length ≤ maxLen := s.hl
  have l3 : maxLen = 9223372036854775807 := rfl
  refine VJ.upto 20 ?_
  repeat' (first | with_reducible apply andAll_cons | with_reducible apply andAll_nil | (with_reducible apply Cf.mk; kernel_rfl) | apply And.intro | intro _ | exact True.intro | apply Lf.mk)
  all_goals (try (have ha := far_ok (x := dfnX s) (n := dfnK s) (by assumption)))
  all_goals (try (have hm := med_ok (c := (dmR s).1) (d := (dmR s).2) (by assumption)))
  all_goals (try (have hmc := med_cmp (c := (dmR s).1) (d := (dmR s).2) (by assumption)))
  all_goals (try (have hmn := med_near2 (c := (dmR s).1) (d := (dmR s).2) (by assumption) (by assumption)))
  all_goals (try (have hb := sbt_ok (u := (dsR s).1) (v := (dsR s).2) (by assumption)))
  all_goals (try (have hbc := sbt_cmp (u := (dsR s).1) (v := (dsR s).2) (by assumption)))
  all_goals (try (have hv := ba_ok (y := dbX s) (n := dbK s) (by assumption)))
  all_goals (try (have hva := ba_any (y := dbX s) (n := dbK s) (by assumption)))
  all_goals first
    | rfl | exact ⟨100000, rfl⟩ | exact ⟨100001, rfl⟩
    | exact hm.1 | exact hm.2.1 | exact hm.2.2.1 | exact hb.1 | exact hb.2.1 | exact hb.2.2.1
    | exact den_lo hm.1 hm.2.1 | exact den_hi hm.1 hm.2.1
    | (show _ = true
       exfalso
       simp only [rt_eta, eqRt_self, beq_self_eq_true, bne_self_eq_false, decide_true, Bool.not_true, Bool.not_false, Bool.false_eq_true, Bool.true_eq_false, reduceCtorEq] at *
       done)
    | (show _ = true
       exfalso
       simp only [rt_eta, eqRt_self, beq_self_eq_true, bne_self_eq_false, decide_true, Bool.not_true, Bool.not_false, Bool.false_eq_true, Bool.true_eq_false, reduceCtorEq] at *
       simp_all
       done)
    | skip
  refine VJ.cut ⟨[], [18, 19, 20, 22, 28, 32, 34, 35, 36, 38, 200720], []⟩ ?_ ?_
  · repeat' (first | with_reducible apply andAll_cons | with_reducible apply andAll_nil | (with_reducible apply Cf.mk; kernel_rfl) | apply And.intro | intro _ | exact True.intro | apply Lf.mk)
    all_goals (try (have ha := far_ok (x := dfnX s) (n := dfnK s) (by assumption)))
    all_goals (try (have hm := med_ok (c := (dmR s).1) (d := (dmR s).2) (by assumption)))
    all_goals (try (have hmc := med_cmp (c := (dmR s).1) (d := (dmR s).2) (by assumption)))
    all_goals (try (have hmn := med_near2 (c := (dmR s).1) (d := (dmR s).2) (by assumption) (by assumption)))
    all_goals (try (have hb := sbt_ok (u := (dsR s).1) (v := (dsR s).2) (by assumption)))
    all_goals (try (have hbc := sbt_cmp (u := (dsR s).1) (v := (dsR s).2) (by assumption)))
    all_goals (try (have hv := ba_ok (y := dbX s) (n := dbK s) (by assumption)))
    all_goals (try (have hva := ba_any (y := dbX s) (n := dbK s) (by assumption)))
    all_goals first
      | rfl | exact ⟨100000, rfl⟩ | exact ⟨100001, rfl⟩
      | exact hm.1 | exact hm.2.1 | exact hm.2.2.1 | exact hb.1 | exact hb.2.1 | exact hb.2.2.1
      | exact den_lo hm.1 hm.2.1 | exact den_hi hm.1 hm.2.1
      | (show _ = true
         exfalso
         simp only [rt_eta, eqRt_self, beq_self_eq_true, bne_self_eq_false, decide_true, Bool.not_true, Bool.not_false, Bool.false_eq_true, Bool.true_eq_false, reduceCtorEq] at *
         done)
      | (show _ = true
         exfalso
         simp only [rt_eta, eqRt_self, beq_self_eq_true, bne_self_eq_false, decide_true, Bool.not_true, Bool.not_false, Bool.false_eq_true, Bool.true_eq_false, reduceCtorEq] at *
         simp_all
         done)
      | skip
  refine VJ.cut ⟨[], [18, 19, 20, 22, 28, 32, 34, 35, 36, 38, 200720], []⟩ ?_ ?_
  · repeat' (first | with_reducible apply andAll_cons | with_reducible apply andAll_nil | (with_reducible apply Cf.mk; kernel_rfl) | apply And.intro | intro _ | exact True.intro | apply Lf.mk)
    all_goals (try (have ha := far_ok (x := dfnX s) (n := dfnK s) (by assumption)))
    all_goals (try (have hm := med_ok (c := (dmR s).1) (d := (dmR s).2) (by assumption)))
    all_goals (try (have hmc := med_cmp (c := (dmR s).1) (d := (dmR s).2) (by assumption)))
    all_goals (try (have hmn := med_near2 (c := (dmR s).1) (d := (dmR s).2) (by assumption) (by assumption)))
    all_goals (try (have hb := sbt_ok (u := (dsR s).1) (v := (dsR s).2) (by assumption)))
    all_goals (try (have hbc := sbt_cmp (u := (dsR s).1) (v := (dsR s).2) (by assumption)))
    all_goals (try (have hv := ba_ok (y := dbX s) (n := dbK s) (by assumption)))
    all_goals (try (have hva := ba_any (y := dbX s) (n := dbK s) (by assumption)))
    all_goals first
      | rfl | exact ⟨100000, rfl⟩ | exact ⟨100001, rfl⟩
      | exact hm.1 | exact hm.2.1 | exact hm.2.2.1 | exact hb.1 | exact hb.2.1 | exact hb.2.2.1
      | exact den_lo hm.1 hm.2.1 | exact den_hi hm.1 hm.2.1
      | (show _ = true
         exfalso
         simp only [rt_eta, eqRt_self, beq_self_eq_true, bne_self_eq_false, decide_true, Bool.not_true, Bool.not_false, Bool.false_eq_true, Bool.true_eq_false, reduceCtorEq] at *
         done)
      | (show _ = true
         exfalso
         simp only [rt_eta, eqRt_self, beq_self_eq_true, bne_self_eq_false, decide_true, Bool.not_true, Bool.not_false, Bool.false_eq_true, Bool.true_eq_false, reduceCtorEq] at *
         simp_all
         done)
      | skip
  refine VJ.cut ⟨[], [18, 19, 20, 22, 28, 32, 34, 35, 36, 38, 200720], []⟩ ?_ ?_
  · repeat' (first | with_reducible apply andAll_cons | with_reducible apply andAll_nil | (with_reducible apply Cf.mk; kernel_rfl) | apply And.intro | intro _ | exact True.intro | apply Lf.mk)
    all_goals (try (have ha := far_ok (x := dfnX s) (n := dfnK s) (by assumption)))
    all_goals (try (have hm := med_ok (c := (dmR s).1) (d := (dmR s).2) (by assumption)))
    all_goals (try (have hmc := med_cmp (c := (dmR s).1) (d := (dmR s).2) (by assumption)))
    all_goals (try (have hmn := med_near2 (c := (dmR s).1) (d := (dmR s).2) (by assumption) (by assumption)))
    all_goals (try (have hb := sbt_ok (u := (dsR s).1) (v := (dsR s).2) (by assumption)))
    all_goals (try (have hbc := sbt_cmp (u := (dsR s).1) (v := (dsR s).2) (by assumption)))
    all_goals (try (have hv := ba_ok (y := dbX s) (n := dbK s) (by assumption)))
    all_goals (try (have hva := ba_any (y := dbX s) (n := dbK s) (by assumption)))
    all_goals first
      | rfl | exact ⟨100000, rfl⟩ | exact ⟨100001, rfl⟩
      | exact hm.1 | exact hm.2.1 | exact hm.2.2.1 | exact hb.1 | exact hb.2.1 | exact hb.2.2.1
      | exact den_lo hm.1 hm.2.1 | exact den_hi hm.1 hm.2.1
      | (show _ = true
         exfalso
         simp only [rt_eta, eqRt_self, beq_self_eq_true, bne_self_eq_false, decide_true, Bool.not_true, Bool.not_false, Bool.false_eq_true, Bool.true_eq_false, reduceCtorEq] at *
         done)
      | (show _ = true
         exfalso
         simp only [rt_eta, eqRt_self, beq_self_eq_true, bne_self_eq_false, decide_true, Bool.not_true, Bool.not_false, Bool.false_eq_true, Bool.true_eq_false, reduceCtorEq] at *
         simp_all
         done)
      | skip
  refine VJ.cut ⟨[], [200720], []⟩ ?_ ?_
  · repeat' (first | with_reducible apply andAll_cons | with_reducible apply andAll_nil | (with_reducible apply Cf.mk; kernel_rfl) | apply And.intro | intro _ | exact True.intro | apply Lf.mk)
    all_goals (try (have ha := far_ok (x := dfnX s) (n := dfnK s) (by assumption)))
    all_goals (try (have hm := med_ok (c := (dmR s).1) (d := (dmR s).2) (by assumption)))
    all_goals (try (have hmc := med_cmp (c := (dmR s).1) (d := (dmR s).2) (by assumption)))
    all_goals (try (have hmn := med_near2 (c := (dmR s).1) (d := (dmR s).2) (by assumption) (by assumption)))
    all_goals (try (have hb := sbt_ok (u := (dsR s).1) (v := (dsR s).2) (by assumption)))
    all_goals (try (have hbc := sbt_cmp (u := (dsR s).1) (v := (dsR s).2) (by assumption)))
    all_goals (try (have hv := ba_ok (y := dbX s) (n := dbK s) (by assumption)))
    all_goals (try (have hva := ba_any (y := dbX s) (n := dbK s) (by assumption)))
    all_goals first
      | rfl | exact ⟨100000, rfl⟩ | exact ⟨100001, rfl⟩
      | exact hm.1 | exact hm.2.1 | exact hm.2.2.1 | exact hb.1 | exact hb.2.1 | exact hb.2.2.1
      | exact den_lo hm.1 hm.2.1 | exact den_hi hm.1 hm.2.1
      | (show _ = true
         exfalso
         simp only [rt_eta, eqRt_self, beq_self_eq_true, bne_self_eq_false, decide_true, Bool.not_true, Bool.not_false, Bool.false_eq_true, Bool.true_eq_false, reduceCtorEq] at *
         done)
      | (show _ = true
         exfalso
         simp only [rt_eta, eqRt_self, beq_self_eq_true, bne_self_eq_false, decide_true, Bool.not_true, Bool.not_false, Bool.false_eq_true, Bool.true_eq_false, reduceCtorEq] at *
         simp_all
         done)
      | skip
    · try clear ha hm hmc hb hbc
      try clear hmn
      have hy := (unitRt_iff.1 hv.1).1
      have hx := hv.2.2.2.1
      have hlen := flRes_len (dbK s)
      refine ⟨Nat, fun i => ⟨[(348, .sc (.num .i64 i))], [203250, 200720, 28, 32], []⟩, fun i => i ≤ (flRes (dbK s)).1.length, fun i => (flRes (dbK s)).1.length - i, ⟨0, Nat.zero_le _, ?_⟩, ?_⟩
      · repeat' (first | apply And.intro | exact True.intro | exact Lf.mk (by with_reducible rfl) | apply Lf.mk)
        all_goals rfl
      · rintro i g1
        repeat' (first | with_reducible apply andAll_cons | with_reducible apply andAll_nil | (with_reducible apply Cf.mk; kernel_rfl) | apply And.intro | intro _ | exact True.intro | apply Lf.mk)
        all_goals (try (have hlt : (i : Int) < ((flRes (dbK s)).1.length : Int) := of_decide_eq_true (by assumption)))
        all_goals (try (have hlt2 : (i : Int).toNat < (flRes (dbK s)).1.length := by omega))
        all_goals (try (have hz := fa_tiny (n := dbK s) (i := (i : Int).toNat) hv.2.1 hlt2))
        all_goals first
          | with_reducible exact Eq.refl true | with_reducible exact hlt | with_reducible exact hlt2
          | with_reducible exact bn1 hy hz.1 | with_reducible exact bn2 hy hz.1 | with_reducible exact bn3 hy hz.1 | with_reducible exact bn4 hy hz.1 | with_reducible exact bn5 hy hz.1 | with_reducible exact bn6 hy hz.1 | with_reducible exact bn7 hy hz.1
          | with_reducible exact bn1 hy hx | with_reducible exact bn2 hy hx | with_reducible exact bn3 hy hx | with_reducible exact bn4 hy hx | with_reducible exact bn5 hy hx | with_reducible exact bn6 hy hx | with_reducible exact bn7 hy hx
          | with_reducible exact apx_lo hy hz.1 hx | with_reducible exact apx_hi hy hz.1 hx | with_reducible exact apx_lo hy hx hz.1 | with_reducible exact apx_hi hy hx hz.1
          | omega
          | (have hx : i + 1 ≤ (flRes (dbK s)).1.length := by omega
             have hmu : (flRes (dbK s)).1.length - (i + 1) < (flRes (dbK s)).1.length - i := by omega
             refine ⟨i + 1, hx, hmu, ?_⟩
             repeat' (first | apply And.intro | exact True.intro | exact Lf.mk (by with_reducible rfl) | apply Lf.mk)
             all_goals (rw [Int.natCast_add]; rfl))
          | (exfalso; exact absurd (of_decide_eq_true (by assumption)) (hv.2.2.2.2 _ hz.2))
          | skip
        all_goals rfl
  refine VJ.of ?_
  repeat' (first | with_reducible apply andAll_cons | with_reducible apply andAll_nil | (with_reducible apply Cf.mk; kernel_rfl) | apply And.intro | intro _ | exact True.intro | apply Lf.mk)
  all_goals (try (have ha := far_ok (x := dfnX s) (n := dfnK s) (by assumption)))
  all_goals (try (have hm := med_ok (c := (dmR s).1) (d := (dmR s).2) (by assumption)))
  all_goals (try (have hmc := med_cmp (c := (dmR s).1) (d := (dmR s).2) (by assumption)))
  all_goals (try (have hmn := med_near2 (c := (dmR s).1) (d := (dmR s).2) (by assumption) (by assumption)))
  all_goals (try (have hb := sbt_ok (u := (dsR s).1) (v := (dsR s).2) (by assumption)))
  all_goals (try (have hbc := sbt_cmp (u := (dsR s).1) (v := (dsR s).2) (by assumption)))
  all_goals (try (have hv := ba_ok (y := dbX s) (n := dbK s) (by assumption)))
  all_goals (try (have hva := ba_any (y := dbX s) (n := dbK s) (by assumption)))
  all_goals first
    | rfl | exact ⟨100000, rfl⟩ | exact ⟨100001, rfl⟩
    | exact hm.1 | exact hm.2.1 | exact hm.2.2.1 | exact hb.1 | exact hb.2.1 | exact hb.2.2.1
    | exact den_lo hm.1 hm.2.1 | exact den_hi hm.1 hm.2.1
    | (show _ = true
       exfalso
       simp only [rt_eta, eqRt_self, beq_self_eq_true, bne_self_eq_false, decide_true, Bool.not_true, Bool.not_false, Bool.false_eq_true, Bool.true_eq_false, reduceCtorEq] at *
       done)
    | (show _ = true
       exfalso
       simp only [rt_eta, eqRt_self, beq_self_eq_true, bne_self_eq_false, decide_true, Bool.not_true, Bool.not_false, Bool.false_eq_true, Bool.true_eq_false, reduceCtorEq] at *
       simp_all
       done)
    | skip
  · try clear ha
    try clear hm hmc
    try clear hmn
    try clear hb hbc
    have hok : (flRes (dfl r)).2 = true := by
      have h : (!(flRes (dfl r)).2) = false := by assumption
      simpa using h
    have he := fl_ends hok
    have hlen2 := flRes_len (dfl r)
    refine ⟨Nat, fun j => ⟨[(54, .sc (.num .i64 ((j : Int) + 1)))], [200720], []⟩, fun j => j + 1 ≤ (flRes (dfl r)).1.length, fun j => (flRes (dfl r)).1.length - j, ⟨0, by omega, ?_⟩, ?_⟩
    · repeat' (first | apply And.intro | exact True.intro | exact Lf.mk (by with_reducible rfl) | apply Lf.mk)
      all_goals rfl
    · rintro j g2
      have k0 : (0 : Int) < ((flRes (dfl r)).1.length : Int) := by omega
      have k1 : (0 : Nat) < (flRes (dfl r)).1.length := by omega
      have k2 : -9223372036854775808 ≤ ((flRes (dfl r)).1.length : Int) - 1 := by omega
      have k3 : ((flRes (dfl r)).1.length : Int) - 1 ≤ 9223372036854775807 := by omega
      have k4 : 0 ≤ ((flRes (dfl r)).1.length : Int) - 1 := by omega
      have k5 : ((flRes (dfl r)).1.length : Int) - 1 < ((flRes (dfl r)).1.length : Int) := by omega
      have k6 : (((flRes (dfl r)).1.length : Int) - 1).toNat < (flRes (dfl r)).1.length := by omega
      have k7 := fl_end0 (i := (0 : Int).toNat) hok rfl
      have k8 := fl_end1 (i := (((flRes (dfl r)).1.length : Int) - 1).toNat) hok (by omega)
      repeat' (first | with_reducible apply andAll_cons | with_reducible apply andAll_nil | (with_reducible apply Cf.mk; kernel_rfl) | apply And.intro | intro _ | exact True.intro | apply Lf.mk)
      all_goals (try (have hlt : (j : Int) + 1 < ((flRes (dfl r)).1.length : Int) := of_decide_eq_true (by assumption)))
      all_goals (try (have hlt1 : ((j : Int) + 1 - 1).toNat < (flRes (dfl r)).1.length := by omega))
      all_goals (try (have hlt2 : ((j : Int) + 1).toNat < (flRes (dfl r)).1.length := by omega))
      all_goals (try (have hlt3 : (j : Int) + 1 - 1 < ((flRes (dfl r)).1.length : Int) := by omega))
      all_goals (try (have hq := fl_next2 (i := ((j : Int) + 1 - 1).toNat) (k := ((j : Int) + 1).toNat) hok (by omega) (by omega)))
      all_goals first
        | with_reducible exact Eq.refl true | with_reducible exact k0 | with_reducible exact k1 | with_reducible exact k2 | with_reducible exact k3 | with_reducible exact k4 | with_reducible exact k5 | with_reducible exact k6 | with_reducible exact k7 | with_reducible exact k8
        | with_reducible exact hlt | with_reducible exact hlt1 | with_reducible exact hlt2 | with_reducible exact hlt3 | with_reducible exact hq.2.2.2.1 | with_reducible exact hq.2.2.2.2
        | omega
        | (have hx : j + 1 + 1 ≤ (flRes (dfl r)).1.length := by omega
           have hmu : (flRes (dfl r)).1.length - (j + 1) < (flRes (dfl r)).1.length - j := by omega
           refine ⟨j + 1, hx, hmu, ?_⟩
           repeat' (first | apply And.intro | exact True.intro | exact Lf.mk (by with_reducible rfl) | apply Lf.mk)
           all_goals (rw [Int.natCast_add]; rfl))
        | (exfalso; exact nx_a hq.1 (by assumption))
        | (exfalso; exact nx_b hq.1 hq.2.1 (by assumption))
        | (exfalso; exact nx_absurd hq.1 hq.2.1 hq.2.2.1 (by assumption))
        | (exfalso; exact absurd ‹eqRt _ ⟨0, 1⟩ = false› (by rw [k7]; decide))
        | skip
end Go.Vx
namespace Go.Proofs.Ytfnfbomnijlhcaa
open Go.Vx Go.ChangeShapes Go.WideShapes Go.ChangeAt Go.RowKit
set_option maxRecDepth 100000 in
theorem lifted_FnFareyLists (os : Os) (started : os.Started) (H : Type) (enc : TypeId × Value → H) :
    ReturnsInHanded {} Try.checked os 3 .any (Rows.fnFareyListsSpec.pre6 enc Try.prog Try.f3 Rows.fnFareyListsRow.domain false) (Rows.fnFareyListsSpec.post enc Try.prog Try.f3 false true false false) := by
  refine returnsInHanded_of_change (C := Try.checked) (by kernel_rfl) started (by kernel_rfl) Try.func3
    (ChangeSpec.witness6 (enc := enc) (C := Try.checked) false ⟨#[], #[.slice none 0 0, .slice none 0 0], []⟩ 8 (by kernel_rfl) (by kernel_rfl) (by kernel_rfl) (by kernel_rfl)) ?_
  intro W base args ds gs before hval0 hW hcnd _
  exact law_post (s := s_laws_FnFareyLists) (by kernel_rfl) ok_laws_FnFareyLists (by kernel_rfl) (tb := 4) rfl (by kernel_rfl) rfl (fun x hx => by
    exact ⟨trivial, rfl⟩
    ) rfl
    (fun ds hds => by match ds, hds with | [_, _], _ => rfl) hval0 hW
theorem fnFareyLists_holds : Rows.FnFareyListsSaid :=
  OpenClaim.holds_of_wide 3 Try.f3 rfl rfl rfl rfl rfl rfl rfl ⟨rfl, rfl, rfl, rfl, rfl⟩ rfl rfl rfl rfl rfl (by kernel_rfl) Try.func3 (by kernel_rfl)
    (of_decide_eq_true (by kernel_rfl)) (by unfold Func.isWrapper; first | (rw [if_pos (by decide +kernel)]; kernel_rfl) | (rw [if_neg (by decide +kernel)]; exact ⟨rfl, rfl⟩))
    (fun os started H enc _ => lifted_FnFareyLists os started H enc)
end Go.Proofs.Ytfnfbomnijlhcaa
