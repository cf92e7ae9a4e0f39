/- Reflected maps: the reference and the program. -/
import Derived.Test.YtlknhfldkkjclaaVxRf
import Derived.Test.YtlknhfldkkjclaaVxBz
namespace Go.Vx
open Go Go.Proofs
set_option maxRecDepth 100000
set_option linter.unusedSimpArgs false
set_option linter.unusedVariables false

noncomputable def s_spec_IsReflected : Sig := ⟨6, [.list .pt, .list .pt], [.val .bool, .val .bool], fun ((f : List Pt), (g : List Pt), _) => ⟨[], ((isRf f g).1, (isRf f g).2, ()), ()⟩⟩
theorem ok_spec_IsReflected : GSpec Try.prog s_spec_IsReflected := by
  refine fn_known tab_ok fol ((((Known.nil.cons ok_spec_ReflectMap (by kernel_rfl)).cons ok_spec_imGood (by kernel_rfl)).cons ok_spec_imSimple (by kernel_rfl)).cons ok_spec_cjSame (by kernel_rfl)) (by decide) Try.func6 ?_
  rintro ⟨(f : List Pt), (g : List Pt), ⟨⟩⟩ ⟨hl, hl', _⟩ _
  have hl : f.length ≤ 9223372036854775807 := hl
  have hl' : g.length ≤ 9223372036854775807 := hl'
  cases hm : mapOk f
  · have hr := isRf_f1 (g := g) hm
    have hq := rfM_f hm
    repeat' (first | with_reducible apply andAll_cons | with_reducible apply andAll_nil | (with_reducible apply Cf.mk; kernel_rfl) | apply And.intro | intro _ | exact True.intro | apply Lf.mk)
    all_goals first | (rw [hr]; done) | (rw [hr]; rfl) | (simp_all; done) | trace_state
  · have hq := rfM_t hm
    cases hg : mapOk g
    · have hr := isRf_f2 (f := f) hg
      repeat' (first | with_reducible apply andAll_cons | with_reducible apply andAll_nil | (with_reducible apply Cf.mk; kernel_rfl) | apply And.intro | intro _ | exact True.intro | apply Lf.mk)
      all_goals first | (rw [hr]; done) | (rw [hr]; rfl) | (simp_all; done) | trace_state
    · have hr := isRf_t hm hg
      have r1 := rf_rs hm
      have r2 := map_rs hg
      have r3 := map_len hm
      have r4 := map_len hg
      have r5 := rfL_len f
      repeat' (first | with_reducible apply andAll_cons | with_reducible apply andAll_nil | (with_reducible apply Cf.mk; kernel_rfl) | apply And.intro | intro _ | exact True.intro | apply Lf.mk)
      all_goals (try simp only [List.drop_zero, List.take_length, hq] at *)
      all_goals first | omega | (rw [hq]; omega) | (rw [hq]; exact r1) | exact r2 | (rw [hr]; done) | (rw [hr, hq]; done) | (rw [hr]; rfl) | (simp_all; done) | trace_state
noncomputable def s_impl_IsReflected : Sig := ⟨8, [.list .pt, .list .pt], [.val .bool, .val .bool], fun ((f : List Pt), (g : List Pt), _) => ⟨[], ((isRf f g).1, (isRf f g).2, ()), ()⟩⟩
theorem ok_impl_IsReflected : GSpec Try.prog s_impl_IsReflected := by
  refine fn_known tab_ok fol ((((Known.nil.cons ok_impl_ReflectMap (by kernel_rfl)).cons ok_impl_isMap (by kernel_rfl)).cons ok_impl_simple (by kernel_rfl)).cons ok_lib_EqualPoint (by kernel_rfl)) (by decide) Try.func8 ?_
  rintro ⟨(f : List Pt), (g : List Pt), ⟨⟩⟩ ⟨hl, hl', _⟩ _
  have hl : f.length ≤ 9223372036854775807 := hl
  have hl' : g.length ≤ 9223372036854775807 := hl'
  cases hm : mapOk f
  · have hr := isRf_f1 (g := g) hm
    have hq := rfM_f hm
    repeat' (first | with_reducible apply andAll_cons | with_reducible apply andAll_nil | (with_reducible apply Cf.mk; kernel_rfl) | apply And.intro | intro _ | exact True.intro | apply Lf.mk)
    all_goals first | (rw [hr]; done) | (rw [hr]; rfl) | (simp_all; done) | trace_state
  · have hq := rfM_t hm
    cases hg : mapOk g
    · have hr := isRf_f2 (f := f) hg
      repeat' (first | with_reducible apply andAll_cons | with_reducible apply andAll_nil | (with_reducible apply Cf.mk; kernel_rfl) | apply And.intro | intro _ | exact True.intro | apply Lf.mk)
      all_goals first | (rw [hr]; done) | (rw [hr]; rfl) | (simp_all; done) | trace_state
    · have hr := isRf_t hm hg
      have r1 := rf_rs hm
      have r2 := map_rs hg
      have r3 := map_len hm
      have r4 := map_len hg
      have r5 := rfL_len f
      repeat' (first | with_reducible apply andAll_cons | with_reducible apply andAll_nil | (with_reducible apply Cf.mk; kernel_rfl) | apply And.intro | intro _ | exact True.intro | apply Lf.mk)
      all_goals (try simp only [List.drop_zero, List.take_length, hq] at *)
      all_goals first | omega | (rw [hq]; omega) | (rw [hq]; exact r1) | exact r2 | (rw [hr]; done) | (rw [hr, hq]; done) | (rw [hr]; rfl) | (simp_all; done) | trace_state
end Go.Vx
