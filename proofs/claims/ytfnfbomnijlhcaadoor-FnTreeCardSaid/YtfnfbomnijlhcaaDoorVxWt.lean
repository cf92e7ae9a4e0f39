/- What is drawn for the law of the tree of fractions. -/
import Derived.Test.YtfnfbomnijlhcaaDoorVxWd
import Derived.Test.YtfnfbomnijlhcaaDoorVxE
namespace Go.Vx
open Go Go.Proofs
set_option maxRecDepth 100000
set_option linter.unusedSimpArgs false
set_option linter.unusedVariables false

theorem ex_spec_DrawPathTo : ∃ (V : Raw → Rt), (∀ (r : Raw), (True)) ∧ GSpec Tryd.prog ⟨5, [.val .raw], [.val .rat], fun ((r : Raw), _) => ⟨[], (V r, ()), ()⟩⟩ := by
  obtain ⟨V, O, h1, h3⟩ := fn_some (P := Tryd.prog) tab_ok fol ((((Known.nil.cons ok_cur_pick (by kernel_rfl)).cons ok_cur_anyRat (by kernel_rfl)).cons ok_cur_among (by kernel_rfl)).cons ok_cur_unitRat (by kernel_rfl)) (f := 5) (ks := [.val .raw]) (rs := [.val .rat]) (by decide) Tryd.func5 (pre := fun y => match y with | ((r : Raw), _) => []) (Q := fun y R _ => match y, R with | ((r : Raw), _), ((v : Rt), _) => True) (by
    rintro ⟨(r : Raw), ⟨⟩⟩ hl hpre
    have hz := cz_at r
    repeat' (first | with_reducible apply andAll_cons | with_reducible apply andAll_nil | (with_reducible apply Cf.mk; kernel_rfl) | apply And.intro | intro _ | exact True.intro | apply Lf.mk)
    all_goals (try dsimp only at *)
    all_goals (try simp only [cur_eta, rt_eta_, List.length_cons, List.length_nil, Nat.zero_add, Nat.reduceAdd, Int.cast_ofNat_Int] at *)
    all_goals (try simp only [Bool.not_eq_true', Bool.not_eq_false', Bool.not_not, decide_eq_true_eq, decide_eq_false_iff_not, beq_iff_eq, bne_iff_ne, beq_eq_false_iff_ne, bne_eq_false_iff_eq, ne_eq, Bool.and_eq_true, Bool.and_eq_false_iff, Bool.or_eq_true, Bool.or_eq_false_iff, Int.toNat_natCast, Nat.zero_add, Int.ofNat_lt, Int.ofNat_le, List.length_cons, List.length_nil, List.drop_zero, List.take_length] at *)
    all_goals first | ((try simp only [anyS_r, ratS_r, uniS_r, ordS_r, pickS_r, nextS_r]); (first | exact ⟨100000, rfl⟩ | exact rawIn_adv (by assumption) ⟨100000, rfl⟩)) | ((repeat (first | apply pick_at | apply any_at | apply uni_at | apply ord_at | apply rat_at | apply next_at)); exact AtOk.le (by assumption) (by first | decide | omega)) | omega | (show inI64 _; unfold inI64; omega) | (show 1 ≤ List.length _; simp; done) | (show _ * 32 ≤ 140737488355328; omega) | (show _ * 16 ≤ 140737488355328; omega) | with_reducible assumption | contradiction | exact unit_good_ (by assumption) | exact pk1 (by decide) (by decide) | exact pk2 (by decide) (by decide) | exact pk3 (by decide) (by decide) | exact pk4 (by decide) (by decide) | exact pk5 (by decide) (by decide) | skip
    all_goals (apply some_end (ks := [.val .raw]) (rs := [.val .rat]) (_, ()) (); (case h => ((repeat' (first | apply And.intro | exact True.intro | exact Lf.mk (by with_reducible rfl) | apply Lf.mk | with_reducible exact Eq.refl _)); all_goals (first | rfl | omega | skip))); (case q => ((try dsimp only); (first | exact trivial | omega | (rw [List.length_set]; omega) | (rw [List.length_take]; omega) | (simp only [List.length_cons, List.length_nil]; omega) | (simp; done) | skip)))))
  exact ⟨fun r => (V (r, ())).1, fun r => h1 (r, ()) trivial trivial, h3⟩
@[irreducible] noncomputable def dptV : Raw → Rt := Classical.choose ex_spec_DrawPathTo
theorem dpt_spec : (∀ (r : Raw), (True)) ∧ GSpec Tryd.prog ⟨5, [.val .raw], [.val .rat], fun ((r : Raw), _) => ⟨[], (dptV r, ()), ()⟩⟩ := by
  unfold dptV
  exact (Classical.choose_spec ex_spec_DrawPathTo)
theorem dpt_ok {r : Raw} : True := dpt_spec.1 r
noncomputable def s_spec_DrawPathTo : Sig := ⟨5, [.val .raw], [.val .rat], fun ((r : Raw), _) => ⟨[], (dptV r, ()), ()⟩⟩
theorem ok_spec_DrawPathTo : GSpec Tryd.prog s_spec_DrawPathTo := dpt_spec.2
theorem ex_spec_DrawContinuedFraction : ∃ (V : Raw → Rt), (∀ (r : Raw), (True)) ∧ GSpec Tryd.prog ⟨46, [.val .raw], [.val .rat], fun ((r : Raw), _) => ⟨[], (V r, ()), ()⟩⟩ := by
  obtain ⟨V, O, h1, h3⟩ := fn_some (P := Tryd.prog) tab_ok fol (((Known.nil.cons ok_cur_one (by kernel_rfl)).cons ok_cur_unitRat (by kernel_rfl)).cons ok_cur_anyRat (by kernel_rfl)) (f := 46) (ks := [.val .raw]) (rs := [.val .rat]) (by decide) Tryd.func46 (pre := fun y => match y with | ((r : Raw), _) => []) (Q := fun y R _ => match y, R with | ((r : Raw), _), ((v : Rt), _) => True) (by
    rintro ⟨(r : Raw), ⟨⟩⟩ hl hpre
    have hz := cz_at r
    repeat' (first | with_reducible apply andAll_cons | with_reducible apply andAll_nil | (with_reducible apply Cf.mk; kernel_rfl) | apply And.intro | intro _ | exact True.intro | apply Lf.mk)
    all_goals (try dsimp only at *)
    all_goals (try simp only [cur_eta, rt_eta_, List.length_cons, List.length_nil, Nat.zero_add, Nat.reduceAdd, Int.cast_ofNat_Int] at *)
    all_goals (try simp only [Bool.not_eq_true', Bool.not_eq_false', Bool.not_not, decide_eq_true_eq, decide_eq_false_iff_not, beq_iff_eq, bne_iff_ne, beq_eq_false_iff_ne, bne_eq_false_iff_eq, ne_eq, Bool.and_eq_true, Bool.and_eq_false_iff, Bool.or_eq_true, Bool.or_eq_false_iff, Int.toNat_natCast, Nat.zero_add, Int.ofNat_lt, Int.ofNat_le, List.length_cons, List.length_nil, List.drop_zero, List.take_length] at *)
    all_goals first | ((try simp only [anyS_r, ratS_r, uniS_r, ordS_r, pickS_r, nextS_r]); (first | exact ⟨100000, rfl⟩ | exact rawIn_adv (by assumption) ⟨100000, rfl⟩)) | ((repeat (first | apply pick_at | apply any_at | apply uni_at | apply ord_at | apply rat_at | apply next_at)); exact AtOk.le (by assumption) (by first | decide | omega)) | omega | (show inI64 _; unfold inI64; omega) | (show 1 ≤ List.length _; simp; done) | (show _ * 32 ≤ 140737488355328; omega) | (show _ * 16 ≤ 140737488355328; omega) | with_reducible assumption | contradiction | exact unit_good_ (by assumption) | exact pk1 (by decide) (by decide) | exact pk2 (by decide) (by decide) | exact pk3 (by decide) (by decide) | exact pk4 (by decide) (by decide) | exact pk5 (by decide) (by decide) | skip
    all_goals (apply some_end (ks := [.val .raw]) (rs := [.val .rat]) (_, ()) (); (case h => ((repeat' (first | apply And.intro | exact True.intro | exact Lf.mk (by with_reducible rfl) | apply Lf.mk | with_reducible exact Eq.refl _)); all_goals (first | rfl | omega | skip))); (case q => ((try dsimp only); (first | exact trivial | omega | (rw [List.length_set]; omega) | (rw [List.length_take]; omega) | (simp only [List.length_cons, List.length_nil]; omega) | (simp; done) | skip)))))
  exact ⟨fun r => (V (r, ())).1, fun r => h1 (r, ()) trivial trivial, h3⟩
@[irreducible] noncomputable def dcfV : Raw → Rt := Classical.choose ex_spec_DrawContinuedFraction
theorem dcf_spec : (∀ (r : Raw), (True)) ∧ GSpec Tryd.prog ⟨46, [.val .raw], [.val .rat], fun ((r : Raw), _) => ⟨[], (dcfV r, ()), ()⟩⟩ := by
  unfold dcfV
  exact (Classical.choose_spec ex_spec_DrawContinuedFraction)
theorem dcf_ok {r : Raw} : True := dcf_spec.1 r
noncomputable def s_spec_DrawContinuedFraction : Sig := ⟨46, [.val .raw], [.val .rat], fun ((r : Raw), _) => ⟨[], (dcfV r, ()), ()⟩⟩
theorem ok_spec_DrawContinuedFraction : GSpec Tryd.prog s_spec_DrawContinuedFraction := dcf_spec.2
theorem ex_spec_DrawConvergentsOf : ∃ (V : Raw → Rt), (∀ (r : Raw), (True)) ∧ GSpec Tryd.prog ⟨11, [.val .raw], [.val .rat], fun ((r : Raw), _) => ⟨[], (V r, ()), ()⟩⟩ := by
  obtain ⟨V, O, h1, h3⟩ := fn_some (P := Tryd.prog) tab_ok fol (Known.nil.cons ok_spec_DrawContinuedFraction (by kernel_rfl)) (f := 11) (ks := [.val .raw]) (rs := [.val .rat]) (by decide) Tryd.func11 (pre := fun y => match y with | ((r : Raw), _) => []) (Q := fun y R _ => match y, R with | ((r : Raw), _), ((v : Rt), _) => True) (by
    rintro ⟨(r : Raw), ⟨⟩⟩ hl hpre
    repeat' (first | with_reducible apply andAll_cons | with_reducible apply andAll_nil | (with_reducible apply Cf.mk; kernel_rfl) | apply And.intro | intro _ | exact True.intro | apply Lf.mk)
    all_goals (try dsimp only at *)
    all_goals (try simp only [cur_eta, rt_eta_, List.length_cons, List.length_nil, Nat.zero_add, Nat.reduceAdd, Int.cast_ofNat_Int] at *)
    all_goals (try simp only [Bool.not_eq_true', Bool.not_eq_false', Bool.not_not, decide_eq_true_eq, decide_eq_false_iff_not, beq_iff_eq, bne_iff_ne, beq_eq_false_iff_ne, bne_eq_false_iff_eq, ne_eq, Bool.and_eq_true, Bool.and_eq_false_iff, Bool.or_eq_true, Bool.or_eq_false_iff, Int.toNat_natCast, Nat.zero_add, Int.ofNat_lt, Int.ofNat_le, List.length_cons, List.length_nil, List.drop_zero, List.take_length] at *)
    all_goals first | ((try simp only [anyS_r, ratS_r, uniS_r, ordS_r, pickS_r, nextS_r]); (first | exact ⟨100000, rfl⟩ | exact rawIn_adv (by assumption) ⟨100000, rfl⟩)) | ((repeat (first | apply pick_at | apply any_at | apply uni_at | apply ord_at | apply rat_at | apply next_at)); exact AtOk.le (by assumption) (by first | decide | omega)) | omega | (show inI64 _; unfold inI64; omega) | (show 1 ≤ List.length _; simp; done) | (show _ * 32 ≤ 140737488355328; omega) | (show _ * 16 ≤ 140737488355328; omega) | with_reducible assumption | contradiction | exact unit_good_ (by assumption) | exact pk1 (by decide) (by decide) | exact pk2 (by decide) (by decide) | exact pk3 (by decide) (by decide) | exact pk4 (by decide) (by decide) | exact pk5 (by decide) (by decide) | skip
    all_goals (apply some_end (ks := [.val .raw]) (rs := [.val .rat]) (_, ()) (); (case h => ((repeat' (first | apply And.intro | exact True.intro | exact Lf.mk (by with_reducible rfl) | apply Lf.mk | with_reducible exact Eq.refl _)); all_goals (first | rfl | omega | skip))); (case q => ((try dsimp only); (first | exact trivial | omega | (rw [List.length_set]; omega) | (rw [List.length_take]; omega) | (simp only [List.length_cons, List.length_nil]; omega) | (simp; done) | skip)))))
  exact ⟨fun r => (V (r, ())).1, fun r => h1 (r, ()) trivial trivial, h3⟩
@[irreducible] noncomputable def dcvV : Raw → Rt := Classical.choose ex_spec_DrawConvergentsOf
theorem dcv_spec : (∀ (r : Raw), (True)) ∧ GSpec Tryd.prog ⟨11, [.val .raw], [.val .rat], fun ((r : Raw), _) => ⟨[], (dcvV r, ()), ()⟩⟩ := by
  unfold dcvV
  exact (Classical.choose_spec ex_spec_DrawConvergentsOf)
theorem dcv_ok {r : Raw} : True := dcv_spec.1 r
noncomputable def s_spec_DrawConvergentsOf : Sig := ⟨11, [.val .raw], [.val .rat], fun ((r : Raw), _) => ⟨[], (dcvV r, ()), ()⟩⟩
theorem ok_spec_DrawConvergentsOf : GSpec Tryd.prog s_spec_DrawConvergentsOf := dcv_spec.2
theorem ex_cur_of : ∃ (V : Cur → List ByteArray → ByteArray) (S : Cur → List ByteArray → Cur), (∀ (c : Cur) (l : List ByteArray), l.length ≤ 9223372036854775807 → AtOk 2 c → 1 ≤ l.length → ((V c l) ∈ l)) ∧ (∀ (c : Cur) (l : List ByteArray), Adv 2 c (S c l)) ∧ GSpec Tryd.prog ⟨41, [.cell 51 .cur, .list .str], [.val .str], fun ((c : Cur), (l : List ByteArray), _) => ⟨[AtOk 2 c, 1 ≤ l.length], (V c l, ()), (S c l, ())⟩⟩ := by
  obtain ⟨V, S, h1, h2, h3⟩ := some_c (P := Tryd.prog) tab_ok fol (Known.nil.cons ok_cur_pick (by kernel_rfl)) (f := 41) (t := 51) (ks := [.list .str]) (rs := [.val .str]) (by decide) Tryd.func41 2 (fun y => match y with | ((l : List ByteArray), _) => [1 ≤ l.length]) (fun y R => match y, R with | ((l : List ByteArray), _), ((v : ByteArray), _) => v ∈ l) (fun _ _ => rfl) (by
    rintro c ⟨(l : List ByteArray), ⟨⟩⟩ hl hc hpre
    obtain ⟨h1, _⟩ := hpre
    obtain ⟨hl, _⟩ := hl
    have hl : l.length ≤ 9223372036854775807 := hl
    have hp := pickV_lt c (n := (l.length : Int)) (by omega)
    repeat' (first | with_reducible apply andAll_cons | with_reducible apply andAll_nil | (with_reducible apply Cf.mk; kernel_rfl) | apply And.intro | intro _ | exact True.intro | apply Lf.mk)
    all_goals (try dsimp only at *)
    all_goals (try simp only [cur_eta, rt_eta_, List.length_cons, List.length_nil, Nat.zero_add, Nat.reduceAdd, Int.cast_ofNat_Int] at *)
    all_goals (try simp only [Bool.not_eq_true', Bool.not_eq_false', Bool.not_not, decide_eq_true_eq, decide_eq_false_iff_not, beq_iff_eq, bne_iff_ne, beq_eq_false_iff_ne, bne_eq_false_iff_eq, ne_eq, Bool.and_eq_true, Bool.and_eq_false_iff, Bool.or_eq_true, Bool.or_eq_false_iff, Int.toNat_natCast, Nat.zero_add, Int.ofNat_lt, Int.ofNat_le, List.length_cons, List.length_nil, List.drop_zero, List.take_length] at *)
    all_goals first | ((try simp only [anyS_r, ratS_r, uniS_r, ordS_r, pickS_r, nextS_r]); (first | exact ⟨100000, rfl⟩ | exact rawIn_adv (by assumption) ⟨100000, rfl⟩)) | ((repeat (first | apply pick_at | apply any_at | apply uni_at | apply ord_at | apply rat_at | apply next_at)); exact AtOk.le (by assumption) (by first | decide | omega)) | omega | (show inI64 _; unfold inI64; omega) | (show 1 ≤ List.length _; simp; done) | (show _ * 32 ≤ 140737488355328; omega) | (show _ * 16 ≤ 140737488355328; omega) | with_reducible assumption | contradiction | exact unit_good_ (by assumption) | exact pk1 (by decide) (by decide) | exact pk2 (by decide) (by decide) | exact pk3 (by decide) (by decide) | exact pk4 (by decide) (by decide) | exact pk5 (by decide) (by decide) | skip
    apply some_end (ks := [.cell 51 .cur, .list .str]) (rs := [.val .str]) (_, ()) (_, ())
    · repeat' (first | apply And.intro | exact True.intro | exact Lf.mk (by with_reducible rfl) | apply Lf.mk | with_reducible exact Eq.refl _)
    · dsimp only
      exact ⟨getA_mem _ (by omega), by ((repeat (first | apply adv_pick | apply adv_any | apply adv_uni | apply adv_ord | apply adv_rat | apply adv_next)); (first | exact Adv.refl _ _ | exact Adv.le (by assumption) (by first | decide | omega)))⟩)
  exact ⟨fun c l => (V c (l, ())).1, fun c l => S c (l, ()), fun c l q0 hA p0 => h1 c (l, ()) ⟨q0, trivial⟩ hA ⟨p0, trivial⟩, fun c l => h2 c (l, ()), h3⟩
@[irreducible] noncomputable def ofdV : Cur → List ByteArray → ByteArray := Classical.choose ex_cur_of
@[irreducible] noncomputable def ofdS : Cur → List ByteArray → Cur := Classical.choose (Classical.choose_spec ex_cur_of)
theorem ofd_spec : (∀ (c : Cur) (l : List ByteArray), l.length ≤ 9223372036854775807 → AtOk 2 c → 1 ≤ l.length → ((ofdV c l) ∈ l)) ∧ (∀ (c : Cur) (l : List ByteArray), Adv 2 c (ofdS c l)) ∧ GSpec Tryd.prog ⟨41, [.cell 51 .cur, .list .str], [.val .str], fun ((c : Cur), (l : List ByteArray), _) => ⟨[AtOk 2 c, 1 ≤ l.length], (ofdV c l, ()), (ofdS c l, ())⟩⟩ := by
  unfold ofdV ofdS
  exact (Classical.choose_spec (Classical.choose_spec ex_cur_of))
theorem ofd_ok {c : Cur} {l : List ByteArray} (q0 : l.length ≤ 9223372036854775807) (hA : AtOk 2 c) (p0 : 1 ≤ l.length) : (ofdV c l) ∈ l := ofd_spec.1 c l q0 hA p0
theorem ofdS_r (c : Cur) (l : List ByteArray) : (ofdS c l).r = c.r := (ofd_spec.2.1 c l).r
theorem ofd_at {m : Nat} {c : Cur} {l : List ByteArray} (h : AtOk (m + 2) c) : AtOk m (ofdS c l) := (ofd_spec.2.1 c l).at_ h
theorem adv_ofd {k : Nat} {c d : Cur} {l : List ByteArray} (h : Adv k c d) : Adv (k + 2) c (ofdS d l) := h.trans (ofd_spec.2.1 d l) (Nat.le_refl _)
noncomputable def s_cur_of : Sig := ⟨41, [.cell 51 .cur, .list .str], [.val .str], fun ((c : Cur), (l : List ByteArray), _) => ⟨[AtOk 2 c, 1 ≤ l.length], (ofdV c l, ()), (ofdS c l, ())⟩⟩
theorem ok_cur_of : GSpec Tryd.prog s_cur_of := ofd_spec.2.2
theorem bytesA_size : ∀ (l : List Int), (bytesA l).size = l.length := by
  have key : ∀ (l : List Int) (a : ByteArray), (l.foldl (fun r n => r.push (UInt8.ofNat n.toNat)) a).size = a.size + l.length := by
    intro l
    induction l with
    | nil => intro a; simp
    | cons x l ih => intro a; rw [List.foldl_cons, ih, ByteArray.size_push, List.length_cons]; omega
  intro l
  unfold bytesA
  rw [key]
  simp
theorem extract_le (s : ByteArray) (i j : Nat) : (s.extract i j).size ≤ s.size ∧ (s.extract i j).size ≤ j - i := by
  rw [ByteArray.size_extract]; omega

set_option maxHeartbeats 2000000 in
theorem ex_cur_spoilt : ∃ (V : Cur → ByteArray → ByteArray → ByteArray) (S : Cur → ByteArray → ByteArray → Cur), (∀ (c : Cur) (t : ByteArray) (w : ByteArray), AtOk 30 c → t.size ≤ 1000 → 1 ≤ w.size → w.size ≤ 1000 → ((V c t w).size ≤ 1002)) ∧ (∀ (c : Cur) (t : ByteArray) (w : ByteArray), Adv 30 c (S c t w)) ∧ GSpec Tryd.prog ⟨42, [.cell 51 .cur, .val .str, .val .str], [.val .str], fun ((c : Cur), (t : ByteArray), (w : ByteArray), _) => ⟨[AtOk 30 c, t.size ≤ 1000, 1 ≤ w.size, w.size ≤ 1000], (V c t w, ()), (S c t w, ())⟩⟩ := by
  obtain ⟨V, S, h1, h2, h3⟩ := some_c (P := Tryd.prog) tab_ok fol (Known.nil.cons ok_cur_pick (by kernel_rfl)) (f := 42) (t := 51) (ks := [.val .str, .val .str]) (rs := [.val .str]) (by decide) Tryd.func42 30 (fun y => match y with | ((t : ByteArray), (w : ByteArray), _) => [t.size ≤ 1000, 1 ≤ w.size, w.size ≤ 1000]) (fun y R => match y, R with | ((t : ByteArray), (w : ByteArray), _), ((v : ByteArray), _) => v.size ≤ 1002) (fun _ _ => rfl) (by
    rintro c ⟨(t : ByteArray), (w : ByteArray), ⟨⟩⟩ hl hc hpre
    obtain ⟨h1, h2, h3, _⟩ := hpre
    have hp := pickV_lt c (n := 2) (by decide)
    repeat' (first | with_reducible apply andAll_cons | with_reducible apply andAll_nil | (with_reducible apply Cf.mk; kernel_rfl) | apply And.intro | intro _ | exact True.intro | apply Lf.mk)
    all_goals (try dsimp only at *)
    all_goals (try simp only [cur_eta, rt_eta_, List.length_cons, List.length_nil, Nat.zero_add, Nat.reduceAdd, Int.cast_ofNat_Int] at *)
    all_goals (try simp only [Bool.not_eq_true', Bool.not_eq_false', Bool.not_not, decide_eq_true_eq, decide_eq_false_iff_not, beq_iff_eq, bne_iff_ne, beq_eq_false_iff_ne, bne_eq_false_iff_eq, ne_eq, Bool.and_eq_true, Bool.and_eq_false_iff, Bool.or_eq_true, Bool.or_eq_false_iff, Int.toNat_natCast, Nat.zero_add, Int.ofNat_lt, Int.ofNat_le, List.length_cons, List.length_nil, List.drop_zero, List.take_length] at *)
    all_goals first | ((try simp only [anyS_r, ratS_r, uniS_r, ordS_r, pickS_r, nextS_r, ofdS_r]); (first | exact ⟨100000, rfl⟩ | exact rawIn_adv (by assumption) ⟨100000, rfl⟩)) | ((repeat (first | apply pick_at | apply any_at | apply uni_at | apply ord_at | apply rat_at | apply next_at | apply ofd_at)); exact AtOk.le (by assumption) (by first | decide | omega)) | omega | (show inI64 _; unfold inI64; omega) | (show 1 ≤ List.length _; simp; done) | (show _ * 32 ≤ 140737488355328; omega) | (show _ * 16 ≤ 140737488355328; omega) | with_reducible assumption | contradiction | exact unit_good_ (by assumption) | exact pk1 (by decide) (by decide) | exact pk2 (by decide) (by decide) | exact pk3 (by decide) (by decide) | exact pk4 (by decide) (by decide) | exact pk5 (by decide) (by decide) | skip
    refine ⟨Cur × ByteArray × Nat, fun x => ⟨[(7, .sc (.num .i64 x.2.2)), (1, .sc (.str x.2.1))], [], [(100000, cuB x.1)]⟩, fun x => x.2.2 ≤ 2 ∧ Adv (14 - 6 * x.2.2) c x.1 ∧ x.2.1.size ≤ 1002 - x.2.2, fun x => x.2.2, ?_, ?_⟩
    · apply start_go (_, _, (1 + pickV c 2).toNat)
      · repeat' (first | apply And.intro | exact True.intro | exact Lf.mk (by with_reducible rfl) | apply Lf.mk | with_reducible exact Eq.refl _)
        all_goals first | rfl | (show _ = (((1 + pickV c 2).toNat : Nat) : Int); omega) | trace_state
      · dsimp only
        exact ⟨by omega, (pick_adv _ _).le (by omega), by omega⟩
    · rintro ⟨d, s, m⟩ ⟨k1, k2, k3⟩
      dsimp only at k1 k2 k3
      have hd : AtOk 8 d := Adv.at_ k2 (hc.le (by omega))
      have hp1 : 0 < s.size → 0 ≤ pickV d s.size ∧ pickV d s.size < s.size := fun h => pickV_lt d (by omega)
      have hp2 := pickV_lt (pickS d s.size) (n := (w.size : Int)) (by omega)
      have e1 := extract_le s (Int.toNat 0) (pickV d s.size).toNat
      have e2 := extract_le s (pickV d s.size).toNat s.size
      have e3 := extract_le s (pickV d s.size + 1).toNat s.size
      have e4 := bytesA_size [byteA w (pickV (pickS d s.size) w.size).toNat]
      simp only [List.length_cons, List.length_nil] at e4
      repeat' (first | with_reducible apply andAll_cons | with_reducible apply andAll_nil | (with_reducible apply Cf.mk; kernel_rfl) | apply And.intro | intro _ | exact True.intro | apply Lf.mk)
      all_goals (try dsimp only at *)
      all_goals (try simp only [cur_eta, rt_eta_, List.length_cons, List.length_nil, Nat.zero_add, Nat.reduceAdd, Int.cast_ofNat_Int] at *)
      all_goals (try simp only [Bool.not_eq_true', Bool.not_eq_false', Bool.not_not, decide_eq_true_eq, decide_eq_false_iff_not, beq_iff_eq, bne_iff_ne, beq_eq_false_iff_ne, bne_eq_false_iff_eq, ne_eq, Bool.and_eq_true, Bool.and_eq_false_iff, Bool.or_eq_true, Bool.or_eq_false_iff, Int.toNat_natCast, Nat.zero_add, Int.ofNat_lt, Int.ofNat_le, List.length_cons, List.length_nil, List.drop_zero, List.take_length] at *)
      all_goals first | ((try simp only [anyS_r, ratS_r, uniS_r, ordS_r, pickS_r, nextS_r, ofdS_r]); (first | exact ⟨100000, rfl⟩ | exact rawIn_adv (by assumption) ⟨100000, rfl⟩)) | ((repeat (first | apply pick_at | apply any_at | apply uni_at | apply ord_at | apply rat_at | apply next_at | apply ofd_at)); exact AtOk.le (by assumption) (by first | decide | omega)) | omega | (show inI64 _; unfold inI64; omega) | (show 1 ≤ List.length _; simp; done) | (show _ * 32 ≤ 140737488355328; omega) | (show _ * 16 ≤ 140737488355328; omega) | with_reducible assumption | contradiction | exact unit_good_ (by assumption) | exact pk1 (by decide) (by decide) | exact pk2 (by decide) (by decide) | exact pk3 (by decide) (by decide) | exact pk4 (by decide) (by decide) | exact pk5 (by decide) (by decide) | skip
      all_goals first
        | (simp only [ByteArray.size_append]; omega)
        | omega
        | (apply round_go (_, _, m - 1)
           · repeat' (first | apply And.intro | exact True.intro | exact Lf.mk (by with_reducible rfl) | apply Lf.mk | with_reducible exact Eq.refl _)
             all_goals first | rfl | (show _ = (((m - 1 : Nat)) : Int); omega)
           · dsimp only; omega
           · dsimp only
             refine ⟨by omega, ((k2.trans (pick_adv _ _) (k := 16 - 6 * m) (by omega)).trans (pick_adv _ _) (k := 18 - 6 * m) (by omega)).trans (pick_adv _ _) (by omega), ?_⟩
             simp only [ByteArray.size_append]; omega)
        | skip
      all_goals (apply some_end (ks := [.cell 51 .cur, .val .str, .val .str]) (rs := [.val .str]) (_, ()) (_, ()); (case h => ((repeat' (first | apply And.intro | exact True.intro | exact Lf.mk (by with_reducible rfl) | apply Lf.mk | with_reducible exact Eq.refl _)); all_goals (first | rfl | omega | skip))); (case q => ((try dsimp only); refine ⟨?_, by ((repeat (first | apply adv_pick | apply adv_any | apply adv_uni | apply adv_ord | apply adv_rat | apply adv_next | apply adv_ofd)); (first | exact Adv.refl _ _ | exact Adv.le (by assumption) (by first | decide | omega)))⟩; (first | exact trivial | omega | (rw [List.length_set]; omega) | (rw [List.length_take]; omega) | (simp only [List.length_cons, List.length_nil]; omega) | (simp; done) | skip)))))
  exact ⟨fun c t w => (V c (t, w, ())).1, fun c t w => S c (t, w, ()), fun c t w hA p0 p1 p2 => h1 c (t, w, ()) trivial hA ⟨p0, p1, p2, trivial⟩, fun c t w => h2 c (t, w, ()), h3⟩
@[irreducible] noncomputable def spoiV : Cur → ByteArray → ByteArray → ByteArray := Classical.choose ex_cur_spoilt
@[irreducible] noncomputable def spoiS : Cur → ByteArray → ByteArray → Cur := Classical.choose (Classical.choose_spec ex_cur_spoilt)
theorem spoi_spec : (∀ (c : Cur) (t : ByteArray) (w : ByteArray), AtOk 30 c → t.size ≤ 1000 → 1 ≤ w.size → w.size ≤ 1000 → ((spoiV c t w).size ≤ 1002)) ∧ (∀ (c : Cur) (t : ByteArray) (w : ByteArray), Adv 30 c (spoiS c t w)) ∧ GSpec Tryd.prog ⟨42, [.cell 51 .cur, .val .str, .val .str], [.val .str], fun ((c : Cur), (t : ByteArray), (w : ByteArray), _) => ⟨[AtOk 30 c, t.size ≤ 1000, 1 ≤ w.size, w.size ≤ 1000], (spoiV c t w, ()), (spoiS c t w, ())⟩⟩ := by
  unfold spoiV spoiS
  exact (Classical.choose_spec (Classical.choose_spec ex_cur_spoilt))
theorem spoi_ok {c : Cur} {t : ByteArray} {w : ByteArray} (hA : AtOk 30 c) (p0 : t.size ≤ 1000) (p1 : 1 ≤ w.size) (p2 : w.size ≤ 1000) : (spoiV c t w).size ≤ 1002 := spoi_spec.1 c t w hA p0 p1 p2
theorem spoiS_r (c : Cur) (t : ByteArray) (w : ByteArray) : (spoiS c t w).r = c.r := (spoi_spec.2.1 c t w).r
theorem spoi_at {m : Nat} {c : Cur} {t : ByteArray} {w : ByteArray} (h : AtOk (m + 30) c) : AtOk m (spoiS c t w) := (spoi_spec.2.1 c t w).at_ h
theorem adv_spoi {k : Nat} {c d : Cur} {t : ByteArray} {w : ByteArray} (h : Adv k c d) : Adv (k + 30) c (spoiS d t w) := h.trans (spoi_spec.2.1 d t w) (Nat.le_refl _)
noncomputable def s_cur_spoilt : Sig := ⟨42, [.cell 51 .cur, .val .str, .val .str], [.val .str], fun ((c : Cur), (t : ByteArray), (w : ByteArray), _) => ⟨[AtOk 30 c, t.size ≤ 1000, 1 ≤ w.size, w.size ≤ 1000], (spoiV c t w, ()), (spoiS c t w, ())⟩⟩
theorem ok_cur_spoilt : GSpec Tryd.prog s_cur_spoilt := spoi_spec.2.2

theorem mod2_rng_ (i : Nat) : 0 ≤ ((i : Int).tmod 2) ∧ ((i : Int).tmod 2) ≤ 1 := by
  rw [Int.tmod_eq_emod_of_nonneg (by omega)]; omega
theorem lr_size {v : ByteArray} (h : v ∈ [(⟨#[76]⟩ : ByteArray), ⟨#[82]⟩]) : v.size = 1 := by
  simp only [List.mem_cons, List.not_mem_nil, or_false] at h
  rcases h with rfl | rfl <;> rfl

set_option maxHeartbeats 4000000 in
theorem ex_spec_DrawFollowPath : ∃ (V : Raw → ByteArray), (∀ (r : Raw), (True)) ∧ GSpec Tryd.prog ⟨8, [.val .raw], [.val .str], fun ((r : Raw), _) => ⟨[], (V r, ()), ()⟩⟩ := by
  obtain ⟨V, O, h1, h3⟩ := fn_some (P := Tryd.prog) tab_ok fol ((((Known.nil.cons ok_cur_pick (by kernel_rfl)).cons ok_cur_one (by kernel_rfl)).cons ok_cur_of (by kernel_rfl)).cons ok_cur_spoilt (by kernel_rfl)) (f := 8) (ks := [.val .raw]) (rs := [.val .str]) (by decide) Tryd.func8 (pre := fun y => match y with | ((r : Raw), _) => []) (Q := fun y R _ => match y, R with | ((r : Raw), _), ((v : ByteArray), _) => True) (by
    rintro ⟨(r : Raw), ⟨⟩⟩ hl hpre
    have hz := cz_at r
    have hp := pickV_lt ⟨r, 0, 0⟩ (n := 12) (by decide)
    have hp2 := pickV_lt (pickS (pickS ⟨r, 0, 0⟩ 12) 8) (n := 2) (by decide)
    have ha0 : Adv 6 ⟨r, 0, 0⟩ (pickS (pickS (pickS ⟨r, 0, 0⟩ 12) 8) 2) := by ((repeat (first | apply adv_pick | apply adv_any | apply adv_uni | apply adv_ord | apply adv_rat | apply adv_next | apply adv_ofd | apply adv_spoi)); (first | exact Adv.refl _ _ | exact Adv.le (by assumption) (by first | decide | omega)))
    have ha1 : Adv 6 ⟨r, 0, 0⟩ (pickS (pickS ⟨r, 0, 0⟩ 12) 8) := ((pick_adv _ _).trans (pick_adv _ _) (k := 4) (by decide)).le (by decide)
    repeat' (first | with_reducible apply andAll_cons | with_reducible apply andAll_nil | (with_reducible apply Cf.mk; kernel_rfl) | apply And.intro | intro _ | exact True.intro | apply Lf.mk)
    all_goals (try dsimp only at *)
    all_goals (try simp only [cur_eta, rt_eta_, List.length_cons, List.length_nil, Nat.zero_add, Nat.reduceAdd, Int.cast_ofNat_Int] at *)
    all_goals (try simp only [Bool.not_eq_true', Bool.not_eq_false', Bool.not_not, decide_eq_true_eq, decide_eq_false_iff_not, beq_iff_eq, bne_iff_ne, beq_eq_false_iff_ne, bne_eq_false_iff_eq, ne_eq, Bool.and_eq_true, Bool.and_eq_false_iff, Bool.or_eq_true, Bool.or_eq_false_iff, Int.toNat_natCast, Nat.zero_add, Int.ofNat_lt, Int.ofNat_le, List.length_cons, List.length_nil, List.drop_zero, List.take_length] at *)
    all_goals first | ((try simp only [anyS_r, ratS_r, uniS_r, ordS_r, pickS_r, nextS_r, ofdS_r, spoiS_r]); (first | exact ⟨100000, rfl⟩ | exact rawIn_adv (by assumption) ⟨100000, rfl⟩)) | ((repeat (first | apply pick_at | apply any_at | apply uni_at | apply ord_at | apply rat_at | apply next_at | apply ofd_at | apply spoi_at)); exact AtOk.le (by assumption) (by first | decide | omega)) | omega | (show inI64 _; unfold inI64; omega) | (show 1 ≤ List.length _; simp; done) | (show _ * 32 ≤ 140737488355328; omega) | (show _ * 16 ≤ 140737488355328; omega) | with_reducible assumption | contradiction | exact unit_good_ (by assumption) | exact pk1 (by decide) (by decide) | exact pk2 (by decide) (by decide) | exact pk3 (by decide) (by decide) | exact pk4 (by decide) (by decide) | exact pk5 (by decide) (by decide) | skip
    all_goals (
      refine ⟨Cur × ByteArray, fun x => ⟨[(4, .sc (.str x.2))], [], [(9, cuB x.1)]⟩, fun x => Adv (6 + 2 * x.2.size) ⟨r, 0, 0⟩ x.1 ∧ x.2.size ≤ 61, fun x => 61 - x.2.size, ?_, ?_⟩
      · apply start_go (_, ByteArray.empty)
        · repeat' (first | apply And.intro | exact True.intro | exact Lf.mk (by with_reducible rfl) | apply Lf.mk | with_reducible exact Eq.refl _)
          all_goals first | rfl | trace_state
        · dsimp only
          exact ⟨by first | exact ha0 | exact ha1, by decide⟩
      · rintro ⟨d, s⟩ ⟨k1, k2⟩
        dsimp only at k1 k2
        have hd : AtOk 200 d := Adv.at_ k1 (hz.le (by omega))
        have hv := ofd_ok (c := d) (l := [⟨#[76]⟩, ⟨#[82]⟩]) (by decide) (hd.le (by decide)) (by decide)
        have hv := lr_size hv
        repeat' (first | with_reducible apply andAll_cons | with_reducible apply andAll_nil | (with_reducible apply Cf.mk; kernel_rfl) | apply And.intro | intro _ | exact True.intro | apply Lf.mk)
        all_goals (try dsimp only at *)
        all_goals (try simp only [cur_eta, rt_eta_, List.length_cons, List.length_nil, Nat.zero_add, Nat.reduceAdd, Int.cast_ofNat_Int] at *)
        all_goals (try simp only [Bool.not_eq_true', Bool.not_eq_false', Bool.not_not, decide_eq_true_eq, decide_eq_false_iff_not, beq_iff_eq, bne_iff_ne, beq_eq_false_iff_ne, bne_eq_false_iff_eq, ne_eq, Bool.and_eq_true, Bool.and_eq_false_iff, Bool.or_eq_true, Bool.or_eq_false_iff, Int.toNat_natCast, Nat.zero_add, Int.ofNat_lt, Int.ofNat_le, List.length_cons, List.length_nil, List.drop_zero, List.take_length] at *)
        all_goals first | ((try simp only [anyS_r, ratS_r, uniS_r, ordS_r, pickS_r, nextS_r, ofdS_r, spoiS_r]); (first | exact ⟨100000, rfl⟩ | exact rawIn_adv (by assumption) ⟨100000, rfl⟩)) | ((repeat (first | apply pick_at | apply any_at | apply uni_at | apply ord_at | apply rat_at | apply next_at | apply ofd_at | apply spoi_at)); exact AtOk.le (by assumption) (by first | decide | omega)) | omega | (show inI64 _; unfold inI64; omega) | (show 1 ≤ List.length _; simp; done) | (show _ * 32 ≤ 140737488355328; omega) | (show _ * 16 ≤ 140737488355328; omega) | with_reducible assumption | contradiction | exact unit_good_ (by assumption) | exact pk1 (by decide) (by decide) | exact pk2 (by decide) (by decide) | exact pk3 (by decide) (by decide) | exact pk4 (by decide) (by decide) | exact pk5 (by decide) (by decide) | skip
        all_goals first
          | (show ByteArray.size _ ≤ _; exact Nat.le_of_ble_eq_true rfl)
          | (show _ ≤ ByteArray.size _; exact Nat.le_of_ble_eq_true rfl)
          | (apply round_go (_, _)
             · repeat' (first | apply And.intro | exact True.intro | exact Lf.mk (by with_reducible rfl) | apply Lf.mk | with_reducible exact Eq.refl _)
               all_goals rfl
             · dsimp only; rw [ByteArray.size_append, hv]; omega
             · dsimp only
               rw [ByteArray.size_append, hv]
               exact ⟨k1.trans (ofd_spec.2.1 _ _) (by omega), by omega⟩)
          | (apply some_end (ks := [.val .raw]) (rs := [.val .str]) (_, ()) (); (case h => ((repeat' (first | apply And.intro | exact True.intro | exact Lf.mk (by with_reducible rfl) | apply Lf.mk | with_reducible exact Eq.refl _)); all_goals (first | rfl | omega | skip))); (case q => ((try dsimp only); (first | exact trivial | omega | (rw [List.length_set]; omega) | (rw [List.length_take]; omega) | (simp only [List.length_cons, List.length_nil]; omega) | (simp; done) | skip))))
          | (refine ⟨Cur × ByteArray × Nat, fun x => ⟨[(4, .sc (.str x.2.1)), (6, .sc (.num .i64 x.2.2))], [], [(9, cuB x.1)]⟩, fun x => Adv (200 + 2 * x.2.2) ⟨r, 0, 0⟩ x.1 ∧ x.2.1.size ≤ x.2.2 ∧ x.2.2 ≤ 44, fun x => 44 - x.2.2, ?_, ?_⟩
             · apply start_go (_, ByteArray.empty, 0)
               · repeat' (first | apply And.intro | exact True.intro | exact Lf.mk (by with_reducible rfl) | apply Lf.mk | with_reducible exact Eq.refl _)
                 all_goals first | rfl | trace_state
               · dsimp only
                 exact ⟨((k1.trans (pick_adv _ _) (k := 140) (by omega)).trans (pick_adv _ _) (by omega)), by decide, by decide⟩
             · rintro ⟨e, t, k⟩ ⟨j1, j2, j3⟩
               dsimp only at j1 j2 j3
               have he : AtOk 200 e := Adv.at_ j1 (hz.le (by omega))
               have hp3 := pickV_lt e (n := 3) (by decide)
               have hm := mod2_rng_ k
               have hx := extract_le (⟨#[76, 82]⟩ : ByteArray) ((k : Int).tmod 2).toNat ((k : Int).tmod 2 + 1).toNat
               repeat' (first | with_reducible apply andAll_cons | with_reducible apply andAll_nil | (with_reducible apply Cf.mk; kernel_rfl) | apply And.intro | intro _ | exact True.intro | apply Lf.mk)
               all_goals (try dsimp only at *)
               all_goals (try simp only [cur_eta, rt_eta_, List.length_cons, List.length_nil, Nat.zero_add, Nat.reduceAdd, Int.cast_ofNat_Int] at *)
               all_goals (try simp only [Bool.not_eq_true', Bool.not_eq_false', Bool.not_not, decide_eq_true_eq, decide_eq_false_iff_not, beq_iff_eq, bne_iff_ne, beq_eq_false_iff_ne, bne_eq_false_iff_eq, ne_eq, Bool.and_eq_true, Bool.and_eq_false_iff, Bool.or_eq_true, Bool.or_eq_false_iff, Int.toNat_natCast, Nat.zero_add, Int.ofNat_lt, Int.ofNat_le, List.length_cons, List.length_nil, List.drop_zero, List.take_length] at *)
               all_goals first | ((try simp only [anyS_r, ratS_r, uniS_r, ordS_r, pickS_r, nextS_r, ofdS_r, spoiS_r]); (first | exact ⟨100000, rfl⟩ | exact rawIn_adv (by assumption) ⟨100000, rfl⟩)) | ((repeat (first | apply pick_at | apply any_at | apply uni_at | apply ord_at | apply rat_at | apply next_at | apply ofd_at | apply spoi_at)); exact AtOk.le (by assumption) (by first | decide | omega)) | omega | (show inI64 _; unfold inI64; omega) | (show 1 ≤ List.length _; simp; done) | (show _ * 32 ≤ 140737488355328; omega) | (show _ * 16 ≤ 140737488355328; omega) | with_reducible assumption | contradiction | exact unit_good_ (by assumption) | exact pk1 (by decide) (by decide) | exact pk2 (by decide) (by decide) | exact pk3 (by decide) (by decide) | exact pk4 (by decide) (by decide) | exact pk5 (by decide) (by decide) | skip
               all_goals first
                 | (show _ ≤ ((2 : Nat) : Int); omega)
                 | (apply round_go (_, _, k + 1)
                    · repeat' (first | apply And.intro | exact True.intro | exact Lf.mk (by with_reducible rfl) | apply Lf.mk | with_reducible exact Eq.refl _)
                      all_goals first | rfl | (rw [Int.natCast_add]; rfl)
                    · dsimp only; omega
                    · dsimp only
                      rw [ByteArray.size_append]
                      exact ⟨j1.trans (pick_adv _ _) (by omega), by omega, by omega⟩)
                 | (apply some_end (ks := [.val .raw]) (rs := [.val .str]) (_, ()) (); (case h => ((repeat' (first | apply And.intro | exact True.intro | exact Lf.mk (by with_reducible rfl) | apply Lf.mk | with_reducible exact Eq.refl _)); all_goals (first | rfl | omega | skip))); (case q => ((try dsimp only); (first | exact trivial | omega | (rw [List.length_set]; omega) | (rw [List.length_take]; omega) | (simp only [List.length_cons, List.length_nil]; omega) | (simp; done) | skip)))))
          | skip))
  exact ⟨fun r => (V (r, ())).1, fun r => h1 (r, ()) trivial trivial, h3⟩
@[irreducible] noncomputable def dfpV : Raw → ByteArray := Classical.choose ex_spec_DrawFollowPath
theorem dfp_spec : (∀ (r : Raw), (True)) ∧ GSpec Tryd.prog ⟨8, [.val .raw], [.val .str], fun ((r : Raw), _) => ⟨[], (dfpV r, ()), ()⟩⟩ := by
  unfold dfpV
  exact (Classical.choose_spec ex_spec_DrawFollowPath)
theorem dfp_ok {r : Raw} : True := dfp_spec.1 r
noncomputable def s_spec_DrawFollowPath : Sig := ⟨8, [.val .raw], [.val .str], fun ((r : Raw), _) => ⟨[], (dfpV r, ()), ()⟩⟩
theorem ok_spec_DrawFollowPath : GSpec Tryd.prog s_spec_DrawFollowPath := dfp_spec.2
end Go.Vx
