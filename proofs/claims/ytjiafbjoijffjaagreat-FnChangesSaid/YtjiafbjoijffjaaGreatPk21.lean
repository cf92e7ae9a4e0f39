/- The program's sorting of fractions without repeats. -/
import Derived.Test.YtjiafbjoijffjaaGreatPk13
import Derived.Shelf.SlSortCmp.WholeK
import Derived.Shelf.SlSortCmp.NoneTotal
import Derived.Test.YtjiafbjoijffjaaGreatPk16
import Derived.Test.YtjiafbjoijffjaaGreatPk20
import Derived.Shelf.Lay
import Derived.BigQuiet
namespace Go.Vx
open Go Go.Proofs Go.Shelf Go.RowKit Go.Sort
set_option maxRecDepth 100000
set_option linter.unusedSimpArgs false
set_option linter.unusedVariables false

abbrev GR := {r : Rt // goodRt r = true}
instance : Inhabited GR := ⟨⟨⟨0, 1⟩, good_zero⟩⟩
def encG (x : GR) : List Value := valCells .rat x.1
def cmpG (x y : GR) : Int := cmpRt x.1 y.1
theorem encG_len (x : GR) : (encG x).length = 2 := valCells_length .rat x.1
theorem encG_one (x : GR) : ∀ v ∈ encG x, v.oneCell' = true := valCells_one .rat x.1
theorem ltG (x y : GR) : ltOf cmpG x y = lessRt x.1 y.1 := cmp_less x.1 y.1
theorem swoG : SWO (ltOf cmpG) where
  irrefl x := by rw [ltG, less_q_f x.2 x.2]; grind
  trans x y z h1 h2 := by rw [ltG, less_q x.2 y.2] at h1; rw [ltG, less_q y.2 z.2] at h2; rw [ltG, less_q x.2 z.2]; grind
  ntrans x y z h1 h2 := by rw [ltG, less_q_f x.2 y.2] at h1; rw [ltG, less_q_f y.2 z.2] at h2; rw [ltG, less_q_f x.2 z.2]; grind

theorem flatK_list (d : Array GR) : (flatK encG 2 d).toList = flat .rat (d.toList.map (·.1)) := by
  apply List.ext_getElem?
  intro t
  by_cases ht : t < d.size * 2
  · have h1 : (flat .rat (d.toList.map (·.1)))[t / 2 * VK.size .rat + t % 2]? = (valCells .rat ((d.toList.map (·.1)).getD (t / 2) (VK.dflt .rat)))[t % 2]? :=
      flat_get .rat _ (t / 2) (t % 2) (by simp; omega) (Nat.mod_lt _ (by decide))
    have e : t / 2 * VK.size .rat + t % 2 = t := by show t / 2 * 2 + t % 2 = t; omega
    rw [e] at h1
    rw [h1]
    have h2 := get_flatK encG 2 d t ht
    have hs : t < (flatK encG 2 d).size := by rw [size_flatK]; exact ht
    rw [getElem!_pos _ t hs] at h2
    rw [Array.getElem?_toList, Array.getElem?_eq_getElem hs, h2]
    have hd : t / 2 < d.size := by omega
    have e2 : (d.toList.map (·.1)).getD (t / 2) (VK.dflt .rat) = (d[t / 2]!).1 := by
      rw [getElem!_pos d _ hd]
      simp [List.getD, hd]
    have hl : t % 2 < (encG d[t / 2]!).length := by rw [encG_len]; exact Nat.mod_lt _ (by decide)
    rw [e2, getElem!_pos (encG d[t / 2]!) (t % 2) hl]
    exact (List.getElem?_eq_getElem hl).symm
  · rw [List.getElem?_eq_none (by rw [Array.length_toList, size_flatK]; omega), List.getElem?_eq_none (by rw [flat_length]; simp [VK.size]; omega)]

/-- the fractions of a row, as good ones -/
def goodL (xs : List Rt) (h : Gd xs) : List GR := xs.attach.map fun x => ⟨x.1, h x.1 x.2⟩
theorem goodL_val (xs : List Rt) (h : Gd xs) : (goodL xs h).map (·.1) = xs := by
  unfold goodL; simp

theorem pair_of_sorted {d : Array GR} {n : Nat} (hn : n = d.size) (h : SortedIn (ltOf cmpG) 0 n d) : ∀ i, i + 1 < (d.toList.map (·.1)).length → qR (getA zR (d.toList.map (·.1)) i) ≤ qR (getA zR (d.toList.map (·.1)) (i + 1)) := by
  intro i hi
  simp only [List.length_map, Array.length_toList] at hi
  have h1 := h i (i + 1) (by omega) (by omega) (by omega)
  rw [ltG, less_q_f (d[i + 1]!).2 (d[i]!).2] at h1
  have e : ∀ j, j < d.size → getA zR (d.toList.map (·.1)) j = (d[j]!).1 := fun j hj => by
    rw [getA_eq, getElem!_pos d _ hj]; simp [List.getD, hj]
  rw [e i (by omega), e (i + 1) hi]
  exact h1

theorem kept_sort {w : World} {g n : Nat} {F : Array Value} {os : Array Obj} : Kept (fun b => b = g) w (grow (Sort.putRow id (Sort.ahead w n) g 0 F) os) := by
  refine ⟨rfl, rfl, rfl, ?_, fun k hk hne => ?_⟩
  · show w.heap.size ≤ ((w.heap.modify g _) ++ os).size
    rw [Array.size_append, Array.size_modify]; omega
  · show ((w.heap.modify g _) ++ os)[k]? = _
    rw [Array.getElem?_append, if_pos (by rw [Array.size_modify]; exact hk), Array.getElem?_modify, if_neg (Ne.symm hne)]

theorem heap_sort {w : World} {g n : Nat} {F : Array Value} {os : Array Obj} {cur : Array Value} {e : TypeId} {fz : Nat × Nat} (h : w.heap[g]? = some (.cells cur e fz)) :
    (grow (Sort.putRow id (Sort.ahead w n) g 0 F) os).heap[g]? = some (.cells (putCells id 0 F cur) e fz) := by
  have hlt : g < w.heap.size := (Array.getElem?_eq_some_iff.1 h).1
  show ((w.heap.modify g _) ++ os)[g]? = _
  rw [Array.getElem?_append, if_pos (by rw [Array.size_modify]; exact hlt), Array.getElem?_modify, if_pos rfl, h]
  rfl

theorem put_take (F cur : Array Value) (h : F.size ≤ cur.size) : (putCells id 0 F cur).toList.take F.size = F.toList := by
  apply List.ext_getElem?
  intro t
  by_cases ht : t < F.size
  · rw [List.getElem?_take, if_pos ht, Array.getElem?_toList, putCells, Array.getElem?_mapIdx, Array.getElem?_eq_getElem (by omega), Option.map_some, if_pos (by omega), Nat.sub_zero, getElem!_pos F t ht, Array.getElem?_toList, Array.getElem?_eq_getElem ht]
    rfl
  · rw [List.getElem?_eq_none (by rw [List.length_take]; omega), List.getElem?_eq_none (by rw [Array.length_toList]; omega)]

variable {P : Program} {ρ : Shelf.Ren}
/-- A row that is the caller's own, sorted in place. -/
theorem sort_own (L : SlLaysF0.n6 P ρ) (aE : ∀ w, (isAgg (ρ.t 24)).run P w = .ok true w) (zE : ∀ w, (Go.sizeOf (ρ.t 24)).run P w = .ok 2 w) (c : Nat)
    (ec : ∀ args w, (callFunc c args).run P w = .ok (.enter c args) w)
    (hc : ∀ (x y : GR) (W : World), Calls P c #[.agg (encG x).toArray, .agg (encG y).toArray] W fun e w' => e = .returned (.int .i64 (cmpG x y)) ∧ ∃ q os', w' = grow (W.drewN q) os')
    {w : World} {e : TypeId} {v : Value} {xs : List Rt} (hg : Gd xs) (hsz : xs.length ≤ 1000000) (ho : w.ownsRow 0 e 2 v xs.length (flat .rat xs)) :
    Calls P (ρ.f 6) #[v, .func (.func c) #[] #[]] w fun r w' => r = .returned (.tuple #[]) ∧ ∃ ys : List Rt, ys.Perm xs ∧ (∀ i, i + 1 < ys.length → qR (getA zR ys i) ≤ qR (getA zR ys (i + 1))) ∧
      w'.ownsRow 0 e 2 v ys.length (flat .rat ys) ∧ Kept (fun b => some b = v.ownBlock) w w' := by
  have hno : ∀ (p : Option Addr) (cap : Nat), xs = [] → v = .slice p 0 cap → Calls P (ρ.f 6) #[v, .func (.func c) #[] #[]] w fun r w' => r = .returned (.tuple #[]) ∧ ∃ ys : List Rt, ys.Perm xs ∧ (∀ i, i + 1 < ys.length → qR (getA zR ys i) ≤ qR (getA zR ys (i + 1))) ∧
      w'.ownsRow 0 e 2 v ys.length (flat .rat ys) ∧ Kept (fun b => some b = v.ownBlock) w w' := by
    intro p cap hx hv
    rw [hv]
    refine (AnyF.slices_SortFunc_none L p cap _ w).mono ?_
    rintro r w' ⟨rfl, rfl⟩
    refine ⟨rfl, [], by rw [hx], fun i h => by simp at h, ?_, Kept.refl _ _⟩
    rw [hx, hv] at ho
    exact ho
  rcases ho.2 with ⟨hv, hn⟩ | ⟨g, cap, cur, hv, hb, hh, hnc, hcm, hcs, htake⟩
  · exact hno _ _ (List.eq_nil_of_length_eq_zero hn) hv
  · rcases Nat.eq_zero_or_pos xs.length with h0 | hpos
    · exact hno _ _ (List.eq_nil_of_length_eq_zero h0) (by rw [hv, h0])
    · let d : Array GR := (goodL xs hg).toArray
      have hdl : d.toList.map (·.1) = xs := by show (goodL xs hg).map (·.1) = xs; exact goodL_val xs hg
      have hds : d.size = xs.length := by rw [← hdl, List.length_map, Array.length_toList]
      have hfl : (flatK encG 2 d).toList = flat .rat xs := by rw [flatK_list, hdl]
      have hH : HoldsK encG 2 w g 0 d := by
        intro j hj
        rw [size_flatK] at hj
        have hj2 : j < cur.size := by rw [hcs]; omega
        refine ⟨?_, ?_⟩
        · show World.cell? w ⟨g, 0 + j, none⟩ = _
          rw [Nat.zero_add]
          have hs : j < (flatK encG 2 d).size := by rw [size_flatK]; exact hj
          have e1 : (flatK encG 2 d)[j]? = cur[j]? := by
            rw [← Array.getElem?_toList, hfl, ← htake, List.getElem?_take, if_pos (by rw [← hds]; exact hj), Array.getElem?_toList]
          rw [getElem!_pos _ j hs]
          have e2 : cur[j]? = some (flatK encG 2 d)[j] := by rw [← e1, Array.getElem?_eq_getElem hs]
          simp [World.cell?, hh, e2]
        · simp [World.frozen?, hh]
      have hlt : g < w.heap.size := (Array.getElem?_eq_some_iff.1 hh).1
      have hcon := AnyQ.slices_SortFunc L 2 aE zE encG encG_len encG_one cmpG swoG c #[] g 0 cap d w ec (fun _ _ _ _ x y => hc x y _) hH hlt (by rw [hds]; omega)
      rw [hds, ← hv] at hcon
      refine hcon.mono ?_
      rintro r w' ⟨rfl, d', n, os, hp, hs, rfl⟩
      obtain ⟨p1, _, p3⟩ := hp
      have e1 : d'.extract 0 xs.length = d' := by rw [← hds, ← p1]; exact Array.extract_size
      have e0 : d.extract 0 xs.length = d := by rw [← hds]; exact Array.extract_size
      rw [e1, e0] at p3
      have p4 : (d'.toList.map (·.1)).Perm xs := by rw [← hdl]; exact p3.map _
      refine ⟨rfl, d'.toList.map (·.1), p4, pair_of_sorted (by rw [p1, hds]) hs, ?_, ?_⟩
      · have hl : (d'.toList.map (·.1)).length = xs.length := p4.length_eq
        rw [hl]
        refine ⟨by rw [flat_length, hl]; rfl, .inr ⟨g, cap, putCells id 0 (flatK encG 2 d') cur, hv, hb, ?_, hnc, hcm, ?_, ?_⟩⟩
        · exact heap_sort hh
        · rw [← hcs]; simp [putCells]
        · have hF : (flatK encG 2 d').size = xs.length * 2 := by rw [size_flatK, p1, hds]
          rw [← flatK_list, ← hF]
          exact put_take _ _ (by rw [hF, hcs]; exact Nat.mul_le_mul_right _ hnc)
      · refine (kept_sort (w := w) (g := g)).mono fun k _ h => ?_
        rw [h, hv]; rfl
end Go.Vx
namespace Go.Vx
open Go Go.Proofs
set_option maxRecDepth 100000
set_option linter.unusedSimpArgs false
set_option linter.unusedVariables false

theorem getA_app_r {α : Type} (d : α) (l m : List α) (i : Nat) (h : l.length ≤ i) : getA d (l ++ m) i = getA d m (i - l.length) := by
  simp only [getA_eq, List.getD_eq_getElem?_getD, List.getElem?_append_right h]
theorem getA_app_l {α : Type} (d : α) (l m : List α) (i : Nat) (h : i < l.length) : getA d (l ++ m) i = getA d l i := by
  simp only [getA_eq, List.getD_eq_getElem?_getD, List.getElem?_append_left h]
theorem getA_drop' {α : Type} (d : α) (l : List α) (n i : Nat) : getA d (l.drop n) i = getA d l (n + i) := by
  simp only [getA_eq, List.getD_eq_getElem?_getD, List.getElem?_drop]

theorem kp_get {l : List Rt} {n i : Nat} (h : (kpL l n).length ≤ i) : getA zR (kpL l n ++ l.drop (kpL l n).length) i = getA zR l i := by
  rw [getA_app_r _ _ _ _ h, getA_drop', show (kpL l n).length + (i - (kpL l n).length) = i by omega]
theorem kp_set {l : List Rt} {n : Nat} (x : Rt) (h : (kpL l n).length < l.length) : (kpL l n ++ l.drop (kpL l n).length).set (kpL l n).length x = (kpL l n ++ [x]) ++ l.drop ((kpL l n).length + 1) := by
  rw [List.drop_eq_getElem_cons h, List.set_append_right _ _ (Nat.le_refl _), Nat.sub_self, List.set_cons_zero, List.append_assoc]
  rfl
theorem eqRt_t {a b : Rt} (h : eqRt a b = true) : a = b := of_decide_eq_true h
theorem eqRt_f {a b : Rt} (h : eqRt a b = false) : a ≠ b := of_decide_eq_false h
theorem toNat_pred {m : Nat} (h : 1 ≤ m) : ((m : Int) - 1).toNat = m - 1 := by omega

noncomputable def s_lib_CompactRat : Sig := ⟨175, [.own 26 .rat], [.list 26 .rat], fun ((l : List Rt), _) => ⟨[], (kpL l l.length, ()), ()⟩⟩
theorem ok_lib_CompactRat : GSpec Tryz.prog s_lib_CompactRat := by
  refine fn_known tab_ok fol Known.nil (by decide) Tryz.func175 ?_
  rintro ⟨(l : List Rt), ⟨⟩⟩ ⟨hl, _⟩ _
  have hl : l.length ≤ 9223372036854775807 := hl
  repeat' (first | with_reducible apply andAll_cons | with_reducible apply andAll_nil | (with_reducible apply Cf.mk; kernel_rfl) | apply And.intro | intro _ | exact True.intro | apply Lf.mk)
  all_goals (try simp only [Bool.not_eq_true', Bool.not_eq_false', Bool.not_not, decide_eq_true_eq, decide_eq_false_iff_not, beq_iff_eq, bne_iff_ne, beq_eq_false_iff_ne, bne_eq_false_iff_eq, ne_eq, Bool.and_eq_true, Bool.and_eq_false_iff, Bool.or_eq_true, Bool.or_eq_false_iff, Int.toNat_natCast, Nat.zero_add, Int.ofNat_lt, Int.ofNat_le, List.length_cons, List.length_nil, List.drop_zero, List.take_length] at *)
  all_goals first | omega | skip
  · symm
    show kpL l l.length = l
    rw [kpL_all (Nat.le_refl _) (fun j h1 h2 => by omega), List.take_length]
  · rename_i h2
    have h2 : 2 ≤ l.length := by omega
    refine ⟨Nat, fun k => ⟨[(3, .sc (.num .i64 k))], [100000], []⟩, fun k => (1 ≤ k ∧ k ≤ l.length) ∧ ∀ j, 0 < j → j < k → getA zR l j ≠ getA zR l (j - 1), fun k => l.length - k, ⟨1, ⟨⟨by omega, by omega⟩, fun j h1 h2 => by omega⟩, ?_⟩, ?_⟩
    · repeat' (first | apply And.intro | exact True.intro | exact Lf.mk (by with_reducible rfl) | apply Lf.mk)
      all_goals rfl
    · rintro k ⟨⟨g1, g2⟩, g3⟩
      repeat' (first | with_reducible apply andAll_cons | with_reducible apply andAll_nil | (with_reducible apply Cf.mk; kernel_rfl) | apply And.intro | intro _ | exact True.intro | apply Lf.mk)
      all_goals (try simp only [Bool.not_eq_true', Bool.not_eq_false', Bool.not_not, decide_eq_true_eq, decide_eq_false_iff_not, beq_iff_eq, bne_iff_ne, beq_eq_false_iff_ne, bne_eq_false_iff_eq, ne_eq, Bool.and_eq_true, Bool.and_eq_false_iff, Bool.or_eq_true, Bool.or_eq_false_iff, Int.toNat_natCast, Nat.zero_add, Int.ofNat_lt, Int.ofNat_le, List.length_cons, List.length_nil, List.drop_zero, List.take_length] at *)
      all_goals first | omega | skip
      · rename_i h3 h4
        have hk : (k : Int) - 1 = ((k - 1 : Nat) : Int) := by omega
        rw [hk, Int.toNat_natCast] at h3
        have h3 : getA zR l k = getA zR l (k - 1) := of_decide_eq_true h3
        refine ⟨Nat, fun m => ⟨[(5, .sc (.num .i64 m)), (3, .sc (.num .i64 (kpL l (k + m)).length)), (4, .sc (.vw 100000 k (l.length - k)))], [], [(100000, .row 26 .rat (kpL l (k + m) ++ l.drop (kpL l (k + m)).length))]⟩,
          fun m => (1 ≤ m ∧ k + m ≤ l.length) ∧ (kpL l (k + m)).length < k + m, fun m => l.length - m, ⟨1, ⟨⟨by omega, by omega⟩, ?_⟩, ?_⟩, ?_⟩
        · have := kpL_len l k
          rw [kpL_f (by omega) h3]; omega
        · have e : kpL l (k + 1) = l.take k := by rw [kpL_f (by omega) h3, kpL_all (by omega) g3]
          have e2 : (l.take k).length = k := by rw [List.length_take]; omega
          simp only [e, e2, List.take_append_drop]
          repeat' (first | apply And.intro | exact True.intro | exact Lf.mk (by with_reducible rfl) | apply Lf.mk)
          all_goals first | rfl | omega | trace_state
        · rintro m ⟨⟨q1, q2⟩, q3⟩
          have hlen : (kpL l (k + m) ++ l.drop (kpL l (k + m)).length).length = l.length := by rw [List.length_append, List.length_drop]; omega
          repeat' (first | with_reducible apply andAll_cons | with_reducible apply andAll_nil | (with_reducible apply Cf.mk; kernel_rfl) | apply And.intro | intro _ | exact True.intro | apply Lf.mk)
          all_goals (try simp only [Bool.not_eq_true', Bool.not_eq_false', Bool.not_not, decide_eq_true_eq, decide_eq_false_iff_not, beq_iff_eq, bne_iff_ne, beq_eq_false_iff_ne, bne_eq_false_iff_eq, ne_eq, Bool.and_eq_true, Bool.and_eq_false_iff, Bool.or_eq_true, Bool.or_eq_false_iff, Int.toNat_natCast, Nat.zero_add, Int.ofNat_lt, Int.ofNat_le, List.length_cons, List.length_nil, List.drop_zero, List.take_length] at *)
          all_goals first | omega | skip
          · rename_i h5 h6
            rw [toNat_pred q1] at h6
            have h7 := eqRt_f (a := getA zR (kpL l (k + m) ++ l.drop (kpL l (k + m)).length) (k + m)) (b := getA zR (kpL l (k + m) ++ l.drop (kpL l (k + m)).length) (k + (m - 1))) h6
            rw [kp_get (by omega), kp_get (by omega), show k + (m - 1) = k + m - 1 by omega] at h7
            have h8 := kpL_t (l := l) (m := k + m) (.inr h7)
            have h9 : (kpL l (k + (m + 1))).length = (kpL l (k + m)).length + 1 := by rw [← Nat.add_assoc, h8]; simp
            refine ⟨m + 1, ⟨⟨by omega, by omega⟩, by omega⟩, by omega, ?_⟩
            have h10 : (kpL l (k + m) ++ l.drop (kpL l (k + m)).length).set (kpL l (k + m)).length (getA zR (kpL l (k + m) ++ l.drop (kpL l (k + m)).length) (k + m)) = kpL l (k + (m + 1)) ++ l.drop (kpL l (k + (m + 1))).length := by
              rw [kp_set _ (by omega), kp_get (by omega), ← Nat.add_assoc, h8, List.length_append]; rfl
            repeat' (first | apply And.intro | exact True.intro | exact Lf.mk (by with_reducible rfl) | apply Lf.mk)
            all_goals first | rfl | omega | exact h10 | trace_state
          · rename_i h5 h6
            rw [toNat_pred q1] at h6
            have h7 := eqRt_t (a := getA zR (kpL l (k + m) ++ l.drop (kpL l (k + m)).length) (k + m)) (b := getA zR (kpL l (k + m) ++ l.drop (kpL l (k + m)).length) (k + (m - 1))) h6
            rw [kp_get (by omega), kp_get (by omega), show k + (m - 1) = k + m - 1 by omega] at h7
            have h8 := kpL_f (l := l) (m := k + m) (by omega) h7
            refine ⟨m + 1, ⟨⟨by omega, by omega⟩, by rw [← Nat.add_assoc, h8]; omega⟩, by omega, ?_⟩
            rw [← Nat.add_assoc] 
            simp only [← Nat.add_assoc, h8]
            repeat' (first | apply And.intro | exact True.intro | exact Lf.mk (by with_reducible rfl) | apply Lf.mk)
            all_goals first | rfl | omega | trace_state
          · simp only [List.length_append, List.length_take, List.length_replicate, List.length_drop]; omega
          · have := kpL_pos l (k + m) (by omega); first | omega | (simp only [List.length_append, List.length_take, List.length_replicate, List.length_drop]; omega) | trace_state
          · rw [Nat.sub_zero]
            have e : k + m = l.length := by omega
            rw [e] at q3 ⊢
            rw [List.append_assoc, List.take_append_of_le_length (by rw [List.length_take]; simp only [List.length_append, List.length_drop]; omega), List.take_take, Nat.min_self, List.take_left' rfl]
      · rename_i h3 h4
        have hk : (k : Int) - 1 = ((k - 1 : Nat) : Int) := by omega
        rw [hk, Int.toNat_natCast] at h3
        have h3 : getA zR l k ≠ getA zR l (k - 1) := of_decide_eq_false h3
        refine ⟨k + 1, ⟨⟨by omega, by omega⟩, fun j h5 h6 => ?_⟩, by omega, ?_⟩
        · by_cases h7 : j = k
          · rw [h7]; exact h3
          · exact g3 j h5 (by omega)
        · repeat' (first | apply And.intro | exact True.intro | exact Lf.mk (by with_reducible rfl) | apply Lf.mk)
          all_goals first | rfl | omega | trace_state
      · rw [kpL_all (Nat.le_refl _) (fun j h1 h2 => g3 j h1 (by omega)), List.take_length]

theorem putL_at : ∀ {l : List Rt} {k : Nat} {x : Rt}, k ≤ l.length → (∀ j, j < k → lessRt (getA zR l j) x = true) → (k < l.length → lessRt (getA zR l k) x = false) → putL l x = if k < l.length ∧ getA zR l k = x then l else l.take k ++ [x] ++ l.drop k
  | [], k, x, h, _, _ => by
    have : k = 0 := by simpa using h
    subst this
    rw [putL_nil]; simp
  | y :: r, 0, x, _, _, h2 => by
    have h3 : lessRt y x = false := h2 (by simp)
    rw [putL_cons, if_neg (by rw [h3]; exact Bool.false_ne_true)]
    have e : getA zR (y :: r) 0 = y := rfl
    rw [e]
    by_cases h : y = x
    · rw [if_pos h, if_pos ⟨by simp, h⟩]
    · rw [if_neg h, if_neg (fun h2 => h h2.2)]; rfl
  | y :: r, k + 1, x, h, h1, h2 => by
    have h3 : lessRt y x = true := h1 0 (by omega)
    rw [putL_cons, if_pos h3, putL_at (k := k) (by simpa using h) (fun j hj => h1 (j + 1) (by omega)) (fun hj => h2 (by simpa using hj))]
    have e : getA zR (y :: r) (k + 1) = getA zR r k := rfl
    rw [e]
    by_cases h4 : k < r.length ∧ getA zR r k = x
    · rw [if_pos h4, if_pos ⟨by simpa using h4.1, h4.2⟩]
    · rw [if_neg h4, if_neg (fun h5 => h4 ⟨by simpa using h5.1, h5.2⟩)]; simp
noncomputable def s_spec_imPut : Sig := ⟨81, [.own 26 .rat, .val .rat], [.list 26 .rat], fun ((l : List Rt), (x : Rt), _) => ⟨[∀ y ∈ l, goodRt y = true, goodRt x = true, l.length ≤ 100000], (putL l x, ()), ()⟩⟩
theorem ok_spec_imPut : GSpec Tryz.prog s_spec_imPut := by
  refine fn_known tab_ok fol (Known.nil.cons ok_spec_raCmp (by kernel_rfl)) (by decide) Tryz.func81 ?_
  rintro ⟨(l : List Rt), (x : Rt), ⟨⟩⟩ ⟨hl, _⟩ ⟨h1, h2, h3, _⟩
  have hl : l.length ≤ 9223372036854775807 := hl
  refine ⟨Nat, fun k => ⟨[(5, .sc (.num .i64 k))], [100000, 3], []⟩, fun k => k ≤ l.length ∧ ∀ j, j < k → lessRt (getA zR l j) x = true, fun k => l.length - k, ⟨0, ⟨by omega, fun j h1 => by omega⟩, ?_⟩, ?_⟩
  · repeat' (first | apply And.intro | exact True.intro | exact Lf.mk (by with_reducible rfl) | apply Lf.mk)
    all_goals rfl
  · rintro k ⟨g1, g2⟩
    repeat' (first | with_reducible apply andAll_cons | with_reducible apply andAll_nil | (with_reducible apply Cf.mk; kernel_rfl) | apply And.intro | intro _ | exact True.intro | apply Lf.mk)
    all_goals (try simp only [Bool.not_eq_true', Bool.not_eq_false', Bool.not_not, decide_eq_true_eq, decide_eq_false_iff_not, beq_iff_eq, bne_iff_ne, beq_eq_false_iff_ne, bne_eq_false_iff_eq, ne_eq, Bool.and_eq_true, Bool.and_eq_false_iff, Bool.or_eq_true, Bool.or_eq_false_iff, Int.toNat_natCast, Nat.zero_add, Int.ofNat_lt, Int.ofNat_le, List.length_cons, List.length_nil, List.drop_zero, List.take_length] at *)
    all_goals first | omega | exact h2 | exact h1 _ (getA_mem _ (by assumption)) | skip
    all_goals first | (simp only [List.length_append, List.length_take, List.length_drop, List.length_nil, List.length_cons]; show _ * 16 ≤ _; omega) | skip
    · rename_i h4 h5
      rw [decide_eq_true h4, cond_true, cmp_less] at h5
      refine ⟨k + 1, ⟨by omega, fun j hj => ?_⟩, by omega, ?_⟩
      · by_cases h7 : j = k
        · rw [h7]; exact h5
        · exact g2 j (by omega)
      · repeat' (first | apply And.intro | exact True.intro | exact Lf.mk (by with_reducible rfl) | apply Lf.mk)
        all_goals first | rfl | omega | trace_state
    · rename_i h4 h5 h6 h7
      rw [decide_eq_true h4, cond_true, cmp_less] at h5
      rw [decide_eq_true h4, cond_true] at h7
      rw [putL_at g1 g2 (fun _ => h5), if_pos ⟨h4, eqRt_t (a := getA zR l k) (b := x) h7⟩]
    · rename_i h4 h5 h6 h7
      rw [decide_eq_true h4, cond_true, cmp_less] at h5
      rw [decide_eq_true h4, cond_true] at h7
      rw [putL_at g1 g2 (fun _ => h5), if_neg (fun h => eqRt_f (a := getA zR l k) (b := x) h7 h.2), List.nil_append, Nat.sub_zero, List.take_of_length_le (l := l.drop k) (by rw [List.length_drop]; omega)]
    · exact absurd ‹false = true› Bool.false_ne_true
    · exact absurd ‹false = true› Bool.false_ne_true
    · have h7 : ¬ k < l.length := by assumption
      rw [putL_at g1 g2 (fun h => (h7 h).elim), if_neg (fun h => h7 h.1), List.nil_append, Nat.sub_zero, List.take_of_length_le (l := l.drop k) (by rw [List.length_drop]; omega)]

noncomputable def s_lib_IndexRat : Sig := ⟨236, [.list .rat, .val .rat], [.val NI], fun ((l : List Rt), (x : Rt), _) => ⟨[], (idxF (fun y => eqRt x y) l, ()), ()⟩⟩
theorem ok_lib_IndexRat : GSpec Tryz.prog s_lib_IndexRat := by
  refine fn_known tab_ok fol Known.nil (by decide) Tryz.func236 ?_
  rintro ⟨(l : List Rt), (x : Rt), ⟨⟩⟩ ⟨hl, _⟩ _
  have hl : l.length ≤ 9223372036854775807 := hl
  refine ⟨Nat, fun i => ⟨[(8, .sc (.num .i64 i))], [100000, 3], []⟩, fun i => i ≤ l.length ∧ (l.take i).any (fun y => eqRt x y) = false, fun i => l.length - i, ⟨0, ⟨Nat.zero_le _, rfl⟩, ?_⟩, ?_⟩
  · repeat' (first | apply And.intro | exact True.intro | exact Lf.mk (by with_reducible rfl) | apply Lf.mk)
    all_goals rfl
  · rintro i ⟨g1, g2⟩
    repeat' (first | with_reducible apply andAll_cons | with_reducible apply andAll_nil | (with_reducible apply Cf.mk; kernel_rfl) | apply And.intro | intro _ | exact True.intro | apply Lf.mk)
    all_goals (try simp only [Bool.not_eq_true', Bool.not_eq_false', Bool.not_not, decide_eq_true_eq, decide_eq_false_iff_not, beq_iff_eq, bne_iff_ne, beq_eq_false_iff_ne, bne_eq_false_iff_eq, ne_eq, Bool.and_eq_true, Bool.and_eq_false_iff, Bool.or_eq_true, Bool.or_eq_false_iff, Int.toNat_natCast, Nat.zero_add, Int.ofNat_lt, Int.ofNat_le, List.length_cons, List.length_nil, List.drop_zero, List.take_length] at *)
    all_goals first | omega | skip
    · exact (idxF_hit zR (by assumption) g2 (by assumption)).symm
    · refine ⟨i + 1, ⟨by omega, take_all_false zR (by assumption) g2 (by assumption)⟩, by omega, ?_⟩
      repeat' (first | apply And.intro | exact True.intro | exact Lf.mk (by with_reducible rfl) | apply Lf.mk)
      all_goals (rw [Int.natCast_add]; rfl)
    · rename_i h3
      rw [List.take_of_length_le (by omega)] at g2
      exact (idxF_none g2).symm
end Go.Vx
namespace Go.Vx
open Go Go.Proofs Go.Shelf Go.RowKit Go.Sort
set_option maxRecDepth 100000
set_option linter.unusedSimpArgs false
set_option linter.unusedVariables false

theorem wrap18 {n : Int} (h : -1000000000000000000 ≤ n ∧ n ≤ 1000000000000000000) : IntKind.i64.wrap n = n := by
  simp only [IntKind.wrap, IntKind.bits, IntKind.signed]; simp; omega

set_option maxHeartbeats 1000000 in
theorem cmp_walk (a b c d : Int) (h1 : -1000000000000000000 ≤ a * d ∧ a * d ≤ 1000000000000000000) (h2 : -1000000000000000000 ≤ c * b ∧ c * b ≤ 1000000000000000000) (W : World) :
    Calls Tryz.prog 173 #[.agg #[.int .i64 a, .int .i64 b], .agg #[.int .i64 c, .int .i64 d]] W fun e w' => e = .returned (.int .i64 (sgn (a * d - c * b))) ∧ ∃ q os', w' = grow (W.drewN q) os' := by
  have w1 := wrap18 h1
  have w2 := wrap18 h2
  go_enter Tryz.func173, Tryz.ntmps173
  go_wp2
  go_quiet (fail)
  go_wp2
  · have e : sgn (a * d - c * b) = -1 := by unfold sgn; rw [if_pos (by omega)]
    rw [e]
    go_ret
    exact ⟨rfl, nq, _, by rw [alloc_eq_grow, alloc_eq_grow, grow_grow]; rfl⟩
  · have e : sgn (a * d - c * b) = 1 := by unfold sgn; rw [if_neg (by omega), if_pos (by omega)]
    rw [e]
    go_ret
    exact ⟨rfl, nq, _, by rw [alloc_eq_grow, alloc_eq_grow, grow_grow]; rfl⟩
  · have e : sgn (a * d - c * b) = 0 := by unfold sgn; rw [if_neg (by omega), if_neg (by omega)]
    rw [e]
    go_ret
    exact ⟨rfl, nq, _, by rw [alloc_eq_grow, alloc_eq_grow, grow_grow]; rfl⟩

theorem cmp_lays (x y : GR) (W : World) : Calls Tryz.prog 173 #[.agg (encG x).toArray, .agg (encG y).toArray] W fun e w' => e = .returned (.int .i64 (cmpG x y)) ∧ ∃ q os', w' = grow (W.drewN q) os' := by
  obtain ⟨⟨a, b⟩, hx⟩ := x
  obtain ⟨⟨c, d⟩, hy⟩ := y
  exact cmp_walk a b c d (ratmul hx hy) (ratmul hy hx) W

theorem sort_rat {w : World} {e : TypeId} {v : Value} {xs : List Rt} (hg : Gd xs) (hsz : xs.length ≤ 1000000) (ho : w.ownsRow 0 e 2 v xs.length (flat .rat xs)) :
    Calls Tryz.prog 174 #[v, .func (.func 173) #[] #[]] w fun r w' => r = .returned (.tuple #[]) ∧ ∃ ys : List Rt, ys.Perm xs ∧ (∀ i, i + 1 < ys.length → qR (getA zR ys i) ≤ qR (getA zR ys (i + 1))) ∧
      w'.ownsRow 0 e 2 v ys.length (flat .rat ys) ∧ Kept (fun b => some b = v.ownBlock) w w' :=
  sort_own Tryz.sortRat Tryz.isAgg26 Tryz.sizeOf26 173 (enters_of Tryz.func173 (by kernel_rfl) rfl) cmp_lays hg hsz ho

noncomputable def s_impl_rising : Sig := ⟨102, [.own 26 .rat], [.list 26 .rat], fun ((l : List Rt), _) => ⟨[∀ x ∈ l, goodRt x = true, l.length ≤ 1000000], (putsL [] l, ()), ()⟩⟩
set_option maxHeartbeats 1000000 in
theorem rising_walk (v : Value) (xs : List Rt) (w : World) (hg : Gd xs) (hsz : xs.length ≤ 1000000) (ho : w.ownsRow 0 26 2 v xs.length (flat .rat xs)) :
    Calls Tryz.prog 102 #[v] w fun e w' => ∃ u, e = .returned u ∧ w'.ownsRow 0 26 2 u (putsL [] xs).length (flat .rat (putsL [] xs)) ∧
      (∀ b ∈ u.ownBlock.toList, w.heap.size ≤ b ∨ b ∈ v.ownBlock.toList) ∧ Kept (fun b => b ∈ v.ownBlock.toList) w w' := by
  have c1 := sort_rat hg hsz ho
  have c2 : ∀ (ys : List Rt) (w1 : World), w1.ownsRow 0 26 2 v ys.length (flat .rat ys) → Calls Tryz.prog 175 #[v] w1 fun e w' => ∃ us l, e = .returned (packV us) ∧ RessOk w' [.list 26 .rat] (kpL ys ys.length, ()) us l ∧ l.Nodup ∧ (∀ b ∈ l, w1.heap.size ≤ b ∨ b ∈ v.ownBlock.toList) ∧ True ∧ Kept (fun b => b ∈ ([] : List Nat) ∨ b ∈ v.ownBlock.toList) w1 w' := fun ys w1 h1 => by
    have hn : v.ownBlock.toList.Nodup := by cases v.ownBlock <;> simp
    exact ok_lib_CompactRat (ys, ()) [v] w1 [] [] v.ownBlock.toList ⟨[], v.ownBlock.toList, [], [], ⟨h1, rfl, rfl⟩, ⟨rfl, rfl⟩, rfl, by simp⟩ trivial (by simpa using hn) (fun b _ h => by cases h) trivial
  go_enter Tryz.func102, Tryz.ntmps102
  go_wp2_with fail
  refine c1.mono ?_
  rintro r w1 ⟨rfl, ys, h1, h2, h3, h4⟩
  have c3 := c2 ys w1 h3
  rw [kpL_puts (fun x hx => hg x (h1.mem_iff.1 hx)) h2 h1] at c3
  go_wp2_with fail
  refine c3.mono ?_
  rintro r w2 ⟨us, l, rfl, k1, k2, k3, -, k5⟩
  obtain ⟨u, rfl⟩ : ∃ u, us = [u] := by
    match us, k1 with
    | [u], _ => exact ⟨u, rfl⟩
    | [], h => exact h.elim
    | _ :: _ :: _, ⟨_, _, _, h⟩ => exact h.elim
  obtain ⟨l', q1, q2, q3⟩ := k1
  go_wp2_with fail
  go_ret
  have hl : u.ownBlock.toList = l := by rw [q2, show l' = [] from q3, List.append_nil]
  refine ⟨u, rfl, q1, fun b hb => ?_, ?_⟩
  · rcases k3 b (by rw [← hl]; exact hb) with h | h
    · exact .inl (Nat.le_trans h4.size h)
    · exact .inr h
  · refine (Kept.trans h4 k5).mono fun k _ h => ?_
    rcases h with h | h | h
    · rw [← h]; simp
    · cases h
    · exact h
theorem ok_impl_rising : GSpec Tryz.prog s_impl_rising := by
  intro x vs w rb cb ob hargs hraw hnd hrb hpre
  obtain ⟨(l : List Rt), ⟨⟩⟩ := x
  obtain ⟨h1, h2, _⟩ := hpre
  match vs, hargs with
  | [v], ⟨c1, o1, c2, o2, ⟨g1, g2, g3⟩, ⟨g4, g5⟩, g6, g7⟩ =>
    subst g2 g3 g4 g5
    simp only [List.append_nil, List.nil_append] at g6 g7
    subst g6 g7
    refine (rising_walk v l w h1 h2 g1).mono ?_
    rintro e w' ⟨u, rfl, q1, q2, q3⟩
    refine ⟨[u], u.ownBlock.toList, rfl, ⟨[], q1, by simp, rfl⟩, ?_, q2, trivial, q3.mono fun k _ h => .inr h⟩
    cases u.ownBlock <;> simp
end Go.Vx
