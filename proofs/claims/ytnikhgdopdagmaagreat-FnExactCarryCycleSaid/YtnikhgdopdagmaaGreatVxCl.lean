/- The library's copy of a row of fractions. -/
import Derived.Test.YtnikhgdopdagmaaGreatVxRs
import Derived.Shelf.SlicesE.Clone
namespace Go.Vx
open Go Go.Proofs Go.Shelf Go.RowKit
set_option maxRecDepth 100000
set_option linter.unusedSimpArgs false
set_option linter.unusedVariables false

noncomputable def s_lib_CloneRat : Sig := ⟨90, [.list .rat], [.list 42 .rat], fun ((l : List Rt), _) => ⟨[0 < l.length, l.length ≤ 100000], (l, ()), ()⟩⟩
noncomputable def ratI : TypeInfo := (Tryz.prog.info? 42).get (by kernel_rfl)
theorem ok_lib_CloneRat : GSpec Tryz.prog s_lib_CloneRat := by
  intro x vs w rb cb ob hargs hnd hrb hpre
  obtain ⟨(l : List Rt), ⟨⟩⟩ := x
  obtain ⟨h1, h2, _⟩ := hpre
  have h1 : 0 < l.length := h1
  have h2 : l.length ≤ 100000 := h2
  match vs, hargs with
  | [v], ⟨c1, o1, c2, o2, ⟨⟨a, c, g1, g2, g3, g4⟩, k1, k2⟩, ⟨k3, k4⟩, k5, k6⟩ =>
    subst k1 k2 k3 k4
    simp only [List.append_nil] at k5 k6
    subst k5 k6
    obtain ⟨ad, rfl, m1, m2, m3⟩ := g4 h1
    have hfl : (flat .rat l).length = l.length * 2 := flat_length .rat l
    obtain ⟨blk, off, spot⟩ := ad
    have hsp : spot = none := by
      have h0 : 0 < (flat .rat l).length := by omega
      have := m3 0 _ (List.getElem?_eq_getElem h0)
      unfold Addr.add at this
      rw [if_pos rfl] at this
      unfold World.cell? at this
      split at this
      · cases spot with
        | none => rfl
        | some s => simp at this
      · cases this
    subst hsp
    have hc : ∀ j u, (flat .rat l)[j]? = some u → w.cell? ⟨blk, off + j, none⟩ = some u := by
      intro j u hj
      have := m3 j u hj
      unfold Addr.add at this
      split at this
      · rename_i h0; subst h0; exact this
      · exact this
    rw [g1]
    refine (AnyE.slices_Clone Tryz.cloneRat ratI (.agg #[.int .i64 0, .int .i64 0]) 2 16 (by kernel_rfl) (by kernel_rfl) (by kernel_rfl) (by kernel_rfl) rfl (by decide) Tryz.sizeOf42 blk off l.length c (flat .rat l) w hfl g3 (by omega) hc (flat_one .rat l)).mono ?_
    rintro e w' ⟨v', rfl, q1, q2, q3⟩
    refine ⟨[v'], v'.ownBlock.toList, rfl, ⟨[], ?_, by simp, rfl⟩, ?_, ?_, trivial, Kept.of_below q3 _⟩
    · obtain ⟨r1, r2⟩ := q1
      refine ⟨r1, ?_⟩
      rcases r2 with r2 | ⟨g, cap, cur, r3, r4, r5⟩
      · exact .inl r2
      · exact .inr ⟨g, cap, cur, r3, Nat.zero_le _, r5⟩
    · cases v'.ownBlock <;> simp
    · intro b hb
      obtain ⟨r1, r2⟩ := q1
      rcases r2 with ⟨r2, _⟩ | ⟨g, cap, cur, r3, r4, r5⟩
      · rw [r2] at hb; simp [Value.ownBlock] at hb
      · rw [r3] at hb
        simp [Value.ownBlock] at hb
        rw [hb]; exact .inl r4
end Go.Vx
