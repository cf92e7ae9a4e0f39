/- Sorting a row of fractions in place, over whatever program bears the library's sort. -/
import Derived.Test.YtfnfbomnijlhcaaVpSo
import Derived.Shelf.SlSortCmp.WholeK
import Derived.Shelf.SlSortCmp.NoneTotal
namespace Go.Vx
open Go Go.Proofs Go.Shelf Go.RowKit Go.Sort
set_option maxRecDepth 100000
set_option linter.unusedSimpArgs false
set_option linter.unusedVariables false

abbrev GR := {r : Rt // goodRt r = true}
instance : Inhabited GR := ⟨⟨⟨0, 1⟩, good_zero⟩⟩
def encG (x : GR) : List Value := valCells .rat x.1
def cmpG (x y : GR) : Int := cmpRt x.1 y.1
theorem encG_len (x : GR) : (encG x).length = 2 := valCells_length .rat x.1
theorem encG_one (x : GR) : ∀ v ∈ encG x, v.oneCell' = true := valCells_one .rat x.1
theorem ltG (x y : GR) : ltOf cmpG x y = lessRt x.1 y.1 := cmp_less x.1 y.1
theorem swoG : SWO (ltOf cmpG) where
  irrefl x := by rw [ltG, less_q_f x.2 x.2]; grind
  trans x y z h1 h2 := by rw [ltG, less_q x.2 y.2] at h1; rw [ltG, less_q y.2 z.2] at h2; rw [ltG, less_q x.2 z.2]; grind
  ntrans x y z h1 h2 := by rw [ltG, less_q_f x.2 y.2] at h1; rw [ltG, less_q_f y.2 z.2] at h2; rw [ltG, less_q_f x.2 z.2]; grind

theorem flatK_list (d : Array GR) : (flatK encG 2 d).toList = flat .rat (d.toList.map (·.1)) := by
  apply List.ext_getElem?
  intro t
  by_cases ht : t < d.size * 2
  · have h1 : (flat .rat (d.toList.map (·.1)))[t / 2 * VK.size .rat + t % 2]? = (valCells .rat ((d.toList.map (·.1)).getD (t / 2) (VK.dflt .rat)))[t % 2]? :=
      flat_get .rat _ (t / 2) (t % 2) (by simp; omega) (Nat.mod_lt _ (by decide))
    have e : t / 2 * VK.size .rat + t % 2 = t := by show t / 2 * 2 + t % 2 = t; omega
    rw [e] at h1
    rw [h1]
    have h2 := get_flatK encG 2 d t ht
    have hs : t < (flatK encG 2 d).size := by rw [size_flatK]; exact ht
    rw [getElem!_pos _ t hs] at h2
    rw [Array.getElem?_toList, Array.getElem?_eq_getElem hs, h2]
    have hd : t / 2 < d.size := by omega
    have e2 : (d.toList.map (·.1)).getD (t / 2) (VK.dflt .rat) = (d[t / 2]!).1 := by
      rw [getElem!_pos d _ hd]
      simp [List.getD, hd]
    have hl : t % 2 < (encG d[t / 2]!).length := by rw [encG_len]; exact Nat.mod_lt _ (by decide)
    rw [e2, getElem!_pos (encG d[t / 2]!) (t % 2) hl]
    exact (List.getElem?_eq_getElem hl).symm
  · rw [List.getElem?_eq_none (by rw [Array.length_toList, size_flatK]; omega), List.getElem?_eq_none (by rw [flat_length]; simp [VK.size]; omega)]

/-- the fractions of a row, as good ones -/
def goodL (xs : List Rt) (h : Gd xs) : List GR := xs.attach.map fun x => ⟨x.1, h x.1 x.2⟩
theorem goodL_val (xs : List Rt) (h : Gd xs) : (goodL xs h).map (·.1) = xs := by
  unfold goodL; simp

theorem pair_of_sorted {d : Array GR} {n : Nat} (hn : n = d.size) (h : SortedIn (ltOf cmpG) 0 n d) : ∀ i, i + 1 < (d.toList.map (·.1)).length → qR (getA zR (d.toList.map (·.1)) i) ≤ qR (getA zR (d.toList.map (·.1)) (i + 1)) := by
  intro i hi
  simp only [List.length_map, Array.length_toList] at hi
  have h1 := h i (i + 1) (by omega) (by omega) (by omega)
  rw [ltG, less_q_f (d[i + 1]!).2 (d[i]!).2] at h1
  have e : ∀ j, j < d.size → getA zR (d.toList.map (·.1)) j = (d[j]!).1 := fun j hj => by
    rw [getA_eq, getElem!_pos d _ hj]; simp [List.getD, hj]
  rw [e i (by omega), e (i + 1) hi]
  exact h1

theorem kept_sort {w : World} {g n : Nat} {F : Array Value} {os : Array Obj} : Kept (fun b => b = g) w (grow (Sort.putRow id (Sort.ahead w n) g 0 F) os) := by
  refine ⟨rfl, rfl, rfl, ?_, fun k hk hne => ?_⟩
  · show w.heap.size ≤ ((w.heap.modify g _) ++ os).size
    rw [Array.size_append, Array.size_modify]; omega
  · show ((w.heap.modify g _) ++ os)[k]? = _
    rw [Array.getElem?_append, if_pos (by rw [Array.size_modify]; exact hk), Array.getElem?_modify, if_neg (Ne.symm hne)]

theorem heap_sort {w : World} {g n : Nat} {F : Array Value} {os : Array Obj} {cur : Array Value} {e : TypeId} {fz : Nat × Nat} (h : w.heap[g]? = some (.cells cur e fz)) :
    (grow (Sort.putRow id (Sort.ahead w n) g 0 F) os).heap[g]? = some (.cells (putCells id 0 F cur) e fz) := by
  have hlt : g < w.heap.size := (Array.getElem?_eq_some_iff.1 h).1
  show ((w.heap.modify g _) ++ os)[g]? = _
  rw [Array.getElem?_append, if_pos (by rw [Array.size_modify]; exact hlt), Array.getElem?_modify, if_pos rfl, h]
  rfl

theorem put_take (F cur : Array Value) (h : F.size ≤ cur.size) : (putCells id 0 F cur).toList.take F.size = F.toList := by
  apply List.ext_getElem?
  intro t
  by_cases ht : t < F.size
  · rw [List.getElem?_take, if_pos ht, Array.getElem?_toList, putCells, Array.getElem?_mapIdx, Array.getElem?_eq_getElem (by omega), Option.map_some, if_pos (by omega), Nat.sub_zero, getElem!_pos F t ht, Array.getElem?_toList, Array.getElem?_eq_getElem ht]
    rfl
  · rw [List.getElem?_eq_none (by rw [List.length_take]; omega), List.getElem?_eq_none (by rw [Array.length_toList]; omega)]

variable {P : Program} {ρ : Shelf.Ren}
/-- A row that is the caller's own, sorted in place. -/
theorem sort_own (L : SlLaysF0.n6 P ρ) (aE : ∀ w, (isAgg (ρ.t 24)).run P w = .ok true w) (zE : ∀ w, (Go.sizeOf (ρ.t 24)).run P w = .ok 2 w) (c : Nat)
    (ec : ∀ args w, (callFunc c args).run P w = .ok (.enter c args) w)
    (hc : ∀ (x y : GR) (W : World), Calls P c #[.agg (encG x).toArray, .agg (encG y).toArray] W fun e w' => e = .returned (.int .i64 (cmpG x y)) ∧ ∃ q os', w' = grow (W.drewN q) os')
    {w : World} {e : TypeId} {v : Value} {xs : List Rt} (hg : Gd xs) (hsz : xs.length ≤ 1000000) (ho : w.ownsRow 0 e 2 v xs.length (flat .rat xs)) :
    Calls P (ρ.f 6) #[v, .func (.func c) #[] #[]] w fun r w' => r = .returned (.tuple #[]) ∧ ∃ ys : List Rt, ys.Perm xs ∧ (∀ i, i + 1 < ys.length → qR (getA zR ys i) ≤ qR (getA zR ys (i + 1))) ∧
      w'.ownsRow 0 e 2 v ys.length (flat .rat ys) ∧ Kept (fun b => some b = v.ownBlock) w w' := by
  have hno : ∀ (p : Option Addr) (cap : Nat), xs = [] → v = .slice p 0 cap → Calls P (ρ.f 6) #[v, .func (.func c) #[] #[]] w fun r w' => r = .returned (.tuple #[]) ∧ ∃ ys : List Rt, ys.Perm xs ∧ (∀ i, i + 1 < ys.length → qR (getA zR ys i) ≤ qR (getA zR ys (i + 1))) ∧
      w'.ownsRow 0 e 2 v ys.length (flat .rat ys) ∧ Kept (fun b => some b = v.ownBlock) w w' := by
    intro p cap hx hv
    rw [hv]
    refine (AnyF.slices_SortFunc_none L p cap _ w).mono ?_
    rintro r w' ⟨rfl, rfl⟩
    refine ⟨rfl, [], by rw [hx], fun i h => by simp at h, ?_, Kept.refl _ _⟩
    rw [hx, hv] at ho
    exact ho
  rcases ho.2 with ⟨hv, hn⟩ | ⟨g, cap, cur, hv, hb, hh, hnc, hcm, hcs, htake⟩
  · exact hno _ _ (List.eq_nil_of_length_eq_zero hn) hv
  · rcases Nat.eq_zero_or_pos xs.length with h0 | hpos
    · exact hno _ _ (List.eq_nil_of_length_eq_zero h0) (by rw [hv, h0])
    · let d : Array GR := (goodL xs hg).toArray
      have hdl : d.toList.map (·.1) = xs := by show (goodL xs hg).map (·.1) = xs; exact goodL_val xs hg
      have hds : d.size = xs.length := by rw [← hdl, List.length_map, Array.length_toList]
      have hfl : (flatK encG 2 d).toList = flat .rat xs := by rw [flatK_list, hdl]
      have hH : HoldsK encG 2 w g 0 d := by
        intro j hj
        rw [size_flatK] at hj
        have hj2 : j < cur.size := by rw [hcs]; omega
        refine ⟨?_, ?_⟩
        · show World.cell? w ⟨g, 0 + j, none⟩ = _
          rw [Nat.zero_add]
          have hs : j < (flatK encG 2 d).size := by rw [size_flatK]; exact hj
          have e1 : (flatK encG 2 d)[j]? = cur[j]? := by
            rw [← Array.getElem?_toList, hfl, ← htake, List.getElem?_take, if_pos (by rw [← hds]; exact hj), Array.getElem?_toList]
          rw [getElem!_pos _ j hs]
          have e2 : cur[j]? = some (flatK encG 2 d)[j] := by rw [← e1, Array.getElem?_eq_getElem hs]
          simp [World.cell?, hh, e2]
        · simp [World.frozen?, hh]
      have hlt : g < w.heap.size := (Array.getElem?_eq_some_iff.1 hh).1
      have hcon := AnyQ.slices_SortFunc L 2 aE zE encG encG_len encG_one cmpG swoG c #[] g 0 cap d w ec (fun _ _ _ _ x y => hc x y _) hH hlt (by rw [hds]; omega)
      rw [hds, ← hv] at hcon
      refine hcon.mono ?_
      rintro r w' ⟨rfl, d', n, os, hp, hs, rfl⟩
      obtain ⟨p1, _, p3⟩ := hp
      have e1 : d'.extract 0 xs.length = d' := by rw [← hds, ← p1]; exact Array.extract_size
      have e0 : d.extract 0 xs.length = d := by rw [← hds]; exact Array.extract_size
      rw [e1, e0] at p3
      have p4 : (d'.toList.map (·.1)).Perm xs := by rw [← hdl]; exact p3.map _
      refine ⟨rfl, d'.toList.map (·.1), p4, pair_of_sorted (by rw [p1, hds]) hs, ?_, ?_⟩
      · have hl : (d'.toList.map (·.1)).length = xs.length := p4.length_eq
        rw [hl]
        refine ⟨by rw [flat_length, hl]; rfl, .inr ⟨g, cap, putCells id 0 (flatK encG 2 d') cur, hv, hb, ?_, hnc, hcm, ?_, ?_⟩⟩
        · exact heap_sort hh
        · rw [← hcs]; simp [putCells]
        · have hF : (flatK encG 2 d').size = xs.length * 2 := by rw [size_flatK, p1, hds]
          rw [← flatK_list, ← hF]
          exact put_take _ _ (by rw [hF, hcs]; exact Nat.mul_le_mul_right _ hnc)
      · refine (kept_sort (w := w) (g := g)).mono fun k _ h => ?_
        rw [h, hv]; rfl
end Go.Vx
