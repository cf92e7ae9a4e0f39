/- strconv.Itoa and strings.Join, by the kit's contracts. -/
import Derived.Test.YtalgocopemmelaaGreatDoorVxLi
import Derived.Test.YtalgocopemmelaaGreatDoorVxTab
import Derived.Test.YtalgocopemmelaaGreatDoorVxJn
import Derived.Lib.ItoaLen
namespace Go.Vx
open Go Go.Proofs Go.Shelf Go.RowKit Go.Sort
set_option maxRecDepth 100000
set_option linter.unusedSimpArgs false
set_option linter.unusedVariables false

theorem tab_is {w : World} {rb : List Nat} (h : TabsOk w rb TABS) : Lib.TabIs Tryz.prog w "internal/strconv.uint64pow10" .u64 Lib.pow10Tab := by
  obtain ⟨⟨_, _, t, fz, h3⟩, _⟩ := h
  have hg : Tryz.prog.globalNamed "internal/strconv.uint64pow10" = some 1 := by kernel_rfl
  unfold Lib.TabIs World.var?
  rw [hg]
  simp only [Option.bind_some]
  rw [h3]
  rfl
theorem kept_grow (w : World) (k : Nat) (os : Array Obj) : Kept (fun _ => False) w (grow (w.drewN k) os) := by
  refine ⟨rfl, rfl, rfl, ?_, fun j hj _ => ?_⟩
  · simp [grow, World.drewN]
  · show (w.heap ++ os)[j]? = w.heap[j]?
    rw [Array.getElem?_append_left hj]

@[irreducible] noncomputable def itoaA (n : Int) : ByteArray := ⟨(Lib.itoa n).toArray⟩
theorem itoaA_eq (n : Int) : itoaA n = ⟨(Lib.itoa n).toArray⟩ := by unfold itoaA; rfl
theorem itoaA_size {n : Int} (h0 : -9223372036854775808 ≤ n) (h1 : n ≤ 9223372036854775807) : (itoaA n).size ≤ 21 := by
  rw [itoaA_eq]; exact Lib.itoa_length_le n h0 h1
noncomputable def s_strconv_Itoa : Sig := ⟨77, [.val (.num .i64)], [.val .str], fun ((n : Int), _) => ⟨[-9223372036854775808 ≤ n, n ≤ 9223372036854775807], (itoaA n, ()), ()⟩⟩
theorem ok_strconv_Itoa : GSpec Tryz.prog s_strconv_Itoa := by
  intro x vs w rb cb ob hargs hraw hnd hrb hpre
  obtain ⟨(n : Int), ⟨⟩⟩ := x
  match vs, hargs with
  | [v], ⟨c1, o1, c2, o2, ⟨g1, g2, g3⟩, ⟨g4, g5⟩, g6, g7⟩ =>
    subst g1 g2 g3 g4 g5
    simp only [List.append_nil] at g6 g7
    subst g6 g7
    refine (Any.strconv_Itoa Tryz.lays171 n hpre.1 hpre.2.1 w (tab_is hraw)).mono ?_
    rintro e w' ⟨rfl, k, os, rfl⟩
    exact ⟨[.string (itoaA n)], [], by rw [itoaA_eq]; rfl, ⟨rfl, rfl⟩, by simp, by simp, trivial, (kept_grow w k os).mono fun _ _ h => h.elim⟩

/-- strings.Join -/
@[irreducible] noncomputable def joinA (xs : List ByteArray) (s : ByteArray) : ByteArray := ⟨(Lib.join (xs.map (·.data.toList)) s.data.toList).toArray⟩
theorem joinA_eq (xs : List ByteArray) (s : ByteArray) : joinA xs s = ⟨(Lib.join (xs.map (·.data.toList)) s.data.toList).toArray⟩ := by unfold joinA; rfl
noncomputable def s_strings_Join : Sig := ⟨57, [.list .str, .val .str], [.val .str], fun ((xs : List ByteArray), (s : ByteArray), _) => ⟨[xs.length ≤ 1000000, (joinA xs s).size ≤ 140737488355328], (joinA xs s, ()), ()⟩⟩
theorem ok_strings_Join : GSpec Tryz.prog s_strings_Join := by
  intro x vs w rb cb ob hargs hraw hnd hrb hpre
  obtain ⟨(xs : List ByteArray), (s : ByteArray), ⟨⟩⟩ := x
  match vs, hargs with
  | [v, u], ⟨c1, o1, c2, o2, ⟨g1, g2, g3⟩, ⟨c3, o3, c4, o4, ⟨g4, g5, g6⟩, ⟨g7, g8⟩, g9, g10⟩, g11, g12⟩ =>
    subst g2 g3 g4 g5 g6 g7 g8
    simp only [List.append_nil] at g9 g10
    subst g9 g10
    simp only [List.append_nil] at g11 g12
    subst g11 g12
    obtain ⟨a, c, hv, hlc, hmx, hcell⟩ := g1
    obtain ⟨h1, h2, _⟩ := hpre
    rw [joinA_eq] at h2
    rw [hv]
    by_cases hn : xs = []
    · subst hn
      refine (Any.strings_Join_none Tryz.lays156 Tryz.bx156 a c s w).mono ?_
      rintro e w' ⟨rfl, hw⟩
      exact ⟨[.string (joinA [] s)], [], by rw [joinA_eq]; rfl, ⟨rfl, rfl⟩, by simp, by simp, trivial, hw ▸ Kept.refl _ _⟩
    · have hpos : 0 < xs.length := List.length_pos_iff.2 hn
      obtain ⟨ad, rfl, hb, hlt, hc⟩ := hcell hpos
      have hg : ∀ (j : Nat) (h : j < xs.length), (flat .str xs)[j]? = some (.string xs[j]) := fun j h => by
        have := flat_get .str xs j 0 h (by decide)
        rw [show j * VK.size .str + 0 = j by simp [VK.size]] at this
        rw [this]
        simp [valCells, VK.enc, List.getD_eq_getElem?_getD, List.getElem?_eq_getElem h]
      obtain ⟨bk, off, sp⟩ := ad
      have hsp : sp = none := by
        have := hc 0 _ (hg 0 hpos)
        cases sp with
        | none => rfl
        | some q =>
          exfalso
          simp only [Addr.add, if_true, World.cell?] at this
          split at this <;> simp at this
      subst hsp
      refine (Any.strings_Join Tryz.lays156 Tryz.bx156 bk off c xs s w (fun j y hj => ?_) hlt (by omega) hlc h2).mono ?_
      · obtain ⟨hj1, rfl⟩ := List.getElem?_eq_some_iff.1 hj
        have := hc j _ (hg j hj1)
        simp only [Addr.add] at this
        split at this
        · rename_i e; subst e; simpa using this
        · exact this
      · rintro e w' ⟨rfl, q⟩
        exact ⟨[.string (joinA xs s)], [], by rw [joinA_eq]; rfl, ⟨rfl, rfl⟩, by simp, by simp, trivial, Kept.of_below q _⟩
end Go.Vx
