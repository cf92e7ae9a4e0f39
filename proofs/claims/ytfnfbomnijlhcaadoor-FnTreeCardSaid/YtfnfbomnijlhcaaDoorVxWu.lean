/- What is drawn: numbers of a continued fraction. -/
import Derived.Test.YtfnfbomnijlhcaaDoorVxWd
import Derived.Test.YtfnfbomnijlhcaaDoorVxE
import Derived.Test.YtfnfbomnijlhcaaDoorVxCv
namespace Go.Vx
open Go Go.Proofs
set_option maxRecDepth 100000
set_option linter.unusedSimpArgs false
set_option linter.unusedVariables false

theorem pk_lt {c : Cur} {n : Int} (h : 0 < n) : pickV c n < n := (pickV_lt c (by omega)).2
theorem pk_tn {c : Cur} {l : Nat} (h : 0 < (l : Int)) : (pickV c (l : Int)).toNat < l := by have := pickV_lt c (n := (l : Int)) (by omega); omega
theorem len_set2 {l : List Int} {i j : Nat} {x y : Int} : ((l.set i x).set j y).length = l.length := by rw [List.length_set, List.length_set]

set_option maxHeartbeats 4000000 in
theorem ex_spec_DrawFromContinued : ∃ (V : Raw → List Int), (∀ (r : Raw), ((V r).length ≤ 1000000100)) ∧ GSpec Tryd.prog ⟨16, [.val .raw], [.list 3 NI], fun ((r : Raw), _) => ⟨[], (V r, ()), ()⟩⟩ := by
  obtain ⟨V, O, h1, h3⟩ := fn_some (P := Tryd.prog) tab_ok fol ((((((Known.nil.cons ok_cur_rat (by kernel_rfl)).cons ok_cur_one (by kernel_rfl)).cons ok_spec_raGood (by kernel_rfl)).cons ok_spec_faContinued (by kernel_rfl)).cons ok_cur_pick (by kernel_rfl)).cons ok_cur_among (by kernel_rfl)) (f := 16) (ks := [.val .raw]) (rs := [.list 3 NI]) (by decide) Tryd.func16 (pre := fun y => match y with | ((r : Raw), _) => []) (Q := fun y R _ => match y, R with | ((r : Raw), _), ((v : List Int), _) => v.length ≤ 1000000100) (by
    rintro ⟨(r : Raw), ⟨⟩⟩ hl hpre
    have hz := cz_at r
    have hp := pickV_lt (pickS (ratS ⟨r, 0, 0⟩) 3) (n := 8) (by decide)
    have ha : Adv 20 ⟨r, 0, 0⟩ (pickS (pickS (ratS ⟨r, 0, 0⟩) 3) 8) := by ((repeat (first | apply adv_pick | apply adv_any | apply adv_uni | apply adv_ord | apply adv_rat | apply adv_next)); (first | exact Adv.refl _ _ | exact Adv.le (by assumption) (by first | decide | omega)))
    repeat' (first | with_reducible apply andAll_cons | with_reducible apply andAll_nil | (with_reducible apply Cf.mk; kernel_rfl) | apply And.intro | intro _ | exact True.intro | apply Lf.mk)
    all_goals (try dsimp only at *)
    all_goals (try simp only [cur_eta, rt_eta_, List.length_cons, List.length_nil, Nat.zero_add, Nat.reduceAdd, Int.cast_ofNat_Int] at *)
    all_goals (try simp only [Bool.not_eq_true', Bool.not_eq_false', Bool.not_not, decide_eq_true_eq, decide_eq_false_iff_not, beq_iff_eq, bne_iff_ne, beq_eq_false_iff_ne, bne_eq_false_iff_eq, ne_eq, Bool.and_eq_true, Bool.and_eq_false_iff, Bool.or_eq_true, Bool.or_eq_false_iff, Int.toNat_natCast, Nat.zero_add, Int.ofNat_lt, Int.ofNat_le, List.length_cons, List.length_nil, List.drop_zero, List.take_length] at *)
    all_goals first | ((try simp only [anyS_r, ratS_r, uniS_r, ordS_r, pickS_r, nextS_r]); (first | exact ⟨100000, rfl⟩ | exact rawIn_adv (by assumption) ⟨100000, rfl⟩)) | ((repeat (first | apply pick_at | apply any_at | apply uni_at | apply ord_at | apply rat_at | apply next_at)); exact AtOk.le (by assumption) (by first | decide | omega)) | omega | (show inI64 _; unfold inI64; omega) | (show 1 ≤ List.length _; simp; done) | (show _ * 32 ≤ 140737488355328; omega) | (show _ * 16 ≤ 140737488355328; omega) | with_reducible assumption | contradiction | exact unit_good_ (by assumption) | exact pk1 (by decide) (by decide) | exact pk2 (by decide) (by decide) | exact pk3 (by decide) (by decide) | exact pk4 (by decide) (by decide) | exact pk5 (by decide) (by decide) | skip
    all_goals (
      refine ⟨Cur × List Int × Nat, fun x => ⟨[(6, .sc (.num .i64 x.2.2)), (4, .sc (.own 7777777))], [], [(7777777, .row 3 NI x.2.1), (10, cuB x.1)]⟩, fun x => Adv (40 - 2 * x.2.2) ⟨r, 0, 0⟩ x.1 ∧ x.2.1.length ≤ 1000000020 - x.2.2 ∧ x.2.2 ≤ 7, fun x => x.2.2, ?_, ?_⟩
      · first
          | (apply start_go (_, _, (pickV (pickS (ratS ⟨r, 0, 0⟩) 3) 8).toNat)
             · repeat' (first | apply And.intro | exact True.intro | exact Lf.mk (by with_reducible rfl) | apply Lf.mk | with_reducible exact Eq.refl _)
               all_goals first | rfl | (show _ = (((pickV (pickS (ratS ⟨r, 0, 0⟩) 3) 8).toNat : Nat) : Int); omega)
             · dsimp only
               have hc := cf_len (x := ratW ⟨r, 0, 0⟩) (by assumption)
               exact ⟨ha.le (by omega), by omega, by omega⟩)
          | (apply start_go (_, ([] : List Int), (pickV (pickS (ratS ⟨r, 0, 0⟩) 3) 8).toNat)
             · repeat' (first | apply And.intro | exact True.intro | exact Lf.mk (by with_reducible rfl) | apply Lf.mk | with_reducible exact Eq.refl _)
               all_goals first | rfl | (show _ = (((pickV (pickS (ratS ⟨r, 0, 0⟩) 3) 8).toNat : Nat) : Int); omega)
             · dsimp only
               exact ⟨ha.le (by omega), by simp, by omega⟩)
      · rintro ⟨d, l, m⟩ ⟨k1, k2, k3⟩
        dsimp only at k1 k2 k3
        have hd : AtOk 200 d := Adv.at_ k1 (hz.le (by omega))
        have hp1 := pickV_lt (pickS d 12) (n := 2) (by decide)
        have hp2 := fun c (h : 0 < l.length) => pickV_lt c (n := (l.length : Int)) (by omega)
        repeat' (first | with_reducible apply andAll_cons | with_reducible apply andAll_nil | (with_reducible apply Cf.mk; kernel_rfl) | apply And.intro | intro _ | exact True.intro | apply Lf.mk)
        all_goals (try dsimp only at *)
        all_goals (try simp only [cur_eta, rt_eta_, List.length_cons, List.length_nil, Nat.zero_add, Nat.reduceAdd, Int.cast_ofNat_Int] at *)
        all_goals (try simp only [Bool.not_eq_true', Bool.not_eq_false', Bool.not_not, decide_eq_true_eq, decide_eq_false_iff_not, beq_iff_eq, bne_iff_ne, beq_eq_false_iff_ne, bne_eq_false_iff_eq, ne_eq, Bool.and_eq_true, Bool.and_eq_false_iff, Bool.or_eq_true, Bool.or_eq_false_iff, Int.toNat_natCast, Nat.zero_add, Int.ofNat_lt, Int.ofNat_le, List.length_cons, List.length_nil, List.drop_zero, List.take_length] at *)
        all_goals first | ((try simp only [anyS_r, ratS_r, uniS_r, ordS_r, pickS_r, nextS_r]); (first | exact ⟨100000, rfl⟩ | exact rawIn_adv (by assumption) ⟨100000, rfl⟩)) | ((repeat (first | apply pick_at | apply any_at | apply uni_at | apply ord_at | apply rat_at | apply next_at)); exact AtOk.le (by assumption) (by first | decide | omega)) | omega | (show inI64 _; unfold inI64; omega) | (show 1 ≤ List.length _; simp; done) | (show _ * 32 ≤ 140737488355328; omega) | (show _ * 16 ≤ 140737488355328; omega) | with_reducible assumption | contradiction | exact unit_good_ (by assumption) | exact pk1 (by decide) (by decide) | exact pk2 (by decide) (by decide) | exact pk3 (by decide) (by decide) | exact pk4 (by decide) (by decide) | exact pk5 (by decide) (by decide) | skip
        all_goals first
          | (show (_ + 1) * 8 ≤ 140737488355328; omega)
          | exact (hp2 _ (by omega)).1
          | (have := hp2 (pickS d 12) (by omega); omega)
          | (have := hp2 (pickS (pickS d 12) 8) (by omega); omega)
          | (apply round_go (_, _, m - 1)
             · repeat' (first | apply And.intro | exact True.intro | exact Lf.mk (by with_reducible rfl) | apply Lf.mk | with_reducible exact Eq.refl _)
               all_goals first | rfl | (show _ = (((m - 1 : Nat)) : Int); omega)
             · dsimp only; omega
             · dsimp only
               rw [List.length_append, List.length_cons, List.length_nil]
               exact ⟨k1.trans (pick_adv _ _) (by omega), by omega, by omega⟩)
          | (apply some_end (ks := [.val .raw]) (rs := [.list 3 NI]) (_, ()) (); (case h => ((repeat' (first | apply And.intro | exact True.intro | exact Lf.mk (by with_reducible rfl) | apply Lf.mk | with_reducible exact Eq.refl _)); all_goals (first | rfl | omega | skip))); (case q => ((try dsimp only); (first | exact trivial | omega | (rw [List.length_set]; omega) | (rw [List.length_take]; omega) | (simp only [List.length_cons, List.length_nil]; omega) | (simp; done) | skip))))
          | (refine ⟨List Int, fun l => ⟨[(4, .sc (.own 8888888))], [10], [(8888888, .row 3 NI l)]⟩, fun l => l.length ≤ 51, fun l => 51 - l.length, ?_, ?_⟩
             · apply start_go ([] : List Int)
               · repeat' (first | apply And.intro | exact True.intro | exact Lf.mk (by with_reducible rfl) | apply Lf.mk | with_reducible exact Eq.refl _)
                 all_goals first | rfl | trace_state
               · exact Nat.zero_le _
             · intro q j1
               have hq2 := fun c (h : 0 < q.length) => pickV_lt c (n := (q.length : Int)) (by omega)
               have hs2 : (q.set ((q.length : Int) - 1).toNat 2).length = q.length := List.length_set
               repeat' (first | with_reducible apply andAll_cons | with_reducible apply andAll_nil | (with_reducible apply Cf.mk; kernel_rfl) | apply And.intro | intro _ | exact True.intro | apply Lf.mk)
               all_goals (try dsimp only at *)
               all_goals (try simp only [cur_eta, rt_eta_, List.length_cons, List.length_nil, Nat.zero_add, Nat.reduceAdd, Int.cast_ofNat_Int] at *)
               all_goals (try simp only [Bool.not_eq_true', Bool.not_eq_false', Bool.not_not, decide_eq_true_eq, decide_eq_false_iff_not, beq_iff_eq, bne_iff_ne, beq_eq_false_iff_ne, bne_eq_false_iff_eq, ne_eq, Bool.and_eq_true, Bool.and_eq_false_iff, Bool.or_eq_true, Bool.or_eq_false_iff, Int.toNat_natCast, Nat.zero_add, Int.ofNat_lt, Int.ofNat_le, List.length_cons, List.length_nil, List.drop_zero, List.take_length] at *)
               all_goals first | ((try simp only [anyS_r, ratS_r, uniS_r, ordS_r, pickS_r, nextS_r]); (first | exact ⟨100000, rfl⟩ | exact rawIn_adv (by assumption) ⟨100000, rfl⟩)) | ((repeat (first | apply pick_at | apply any_at | apply uni_at | apply ord_at | apply rat_at | apply next_at)); exact AtOk.le (by assumption) (by first | decide | omega)) | omega | (show inI64 _; unfold inI64; omega) | (show 1 ≤ List.length _; simp; done) | (show _ * 32 ≤ 140737488355328; omega) | (show _ * 16 ≤ 140737488355328; omega) | with_reducible assumption | contradiction | exact unit_good_ (by assumption) | exact pk1 (by decide) (by decide) | exact pk2 (by decide) (by decide) | exact pk3 (by decide) (by decide) | exact pk4 (by decide) (by decide) | exact pk5 (by decide) (by decide) | skip
               all_goals first
                 | exact (pickV_rng _ _).1 | exact pk_lt (by assumption) | exact pk_tn (by assumption)
                 | (apply round_go _
                    · repeat' (first | apply And.intro | exact True.intro | exact Lf.mk (by with_reducible rfl) | apply Lf.mk | with_reducible exact Eq.refl _)
                      all_goals rfl
                    · rw [List.length_append, List.length_cons, List.length_nil]; omega
                    · rw [List.length_append, List.length_cons, List.length_nil]; omega)
                 | (apply some_end (ks := [.val .raw]) (rs := [.list 3 NI]) (_, ()) ()
                    · repeat' (first | apply And.intro | exact True.intro | exact Lf.mk (by with_reducible rfl) | apply Lf.mk | with_reducible exact Eq.refl _)
                    · dsimp only
                      first | omega | (rw [List.length_set]; omega) | (rw [len_set2]; omega))
                 | trace_state)
          | exact (pickV_rng _ _).1 | exact pk_lt (by assumption) | exact pk_tn (by assumption)
          | trace_state))
  exact ⟨fun r => (V (r, ())).1, fun r => h1 (r, ()) trivial trivial, h3⟩
@[irreducible] noncomputable def dfcV : Raw → List Int := Classical.choose ex_spec_DrawFromContinued
theorem dfc_spec : (∀ (r : Raw), ((dfcV r).length ≤ 1000000100)) ∧ GSpec Tryd.prog ⟨16, [.val .raw], [.list 3 NI], fun ((r : Raw), _) => ⟨[], (dfcV r, ()), ()⟩⟩ := by
  unfold dfcV
  exact (Classical.choose_spec ex_spec_DrawFromContinued)
theorem dfc_ok {r : Raw} : (dfcV r).length ≤ 1000000100 := dfc_spec.1 r
noncomputable def s_spec_DrawFromContinued : Sig := ⟨16, [.val .raw], [.list 3 NI], fun ((r : Raw), _) => ⟨[], (dfcV r, ()), ()⟩⟩
theorem ok_spec_DrawFromContinued : GSpec Tryd.prog s_spec_DrawFromContinued := dfc_spec.2
end Go.Vx
