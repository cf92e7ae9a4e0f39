/- The program's turning of a map by half a turn: the contract. -/
import Derived.Test.YtlknhfldkkjclaaVxBx
import Derived.Test.YtlknhfldkkjclaaVxRf
namespace Go.Vx
open Go Go.Proofs Go.Shelf Go.RowKit
set_option maxRecDepth 100000
set_option linter.unusedSimpArgs false
set_option linter.unusedVariables false

theorem isMap_cb (f : List Pt) (b : Bool) (hb : mapOk f = b) (sv : Value) (W : World) (rb : List Nat) (h : ListOk W rb .pt f sv) : Calls Try.prog 37 #[sv] W fun e w' => e = .returned (.bool b) ∧ Below W.heap.size W w' := by
  have := isMap_c f sv W rb h
  rwa [hb] at this

set_option maxHeartbeats 1000000 in
theorem rfm_no (f : List Pt) (hf : mapOk f = false) (sv : Value) (w : World) (rb : List Nat) (h : ListOk w rb .pt f sv) : Calls Try.prog 36 #[sv] w fun e w' => e = .returned (.tuple #[.slice none 0 0, .bool false]) ∧ Below w.heap.size w w' := by
  have hmw := isMap_cb f false hf sv w rb h
  obtain ⟨aa, c, hsv, _⟩ := h
  subst hsv
  go_enter Try.func36, Try.ntmps36
  go_wp2_with fail
  refine hmw.mono ?_
  rintro e w1 ⟨rfl, k1⟩
  go_wp2_with fail
  refine bodyPost_ret (v := .tuple #[.slice none 0 0, .bool false]) ?_ rfl ⟨rfl, k1⟩
  simp [results, Try.f36, go_sem]

theorem bwG_all {fs : List GP} {f : List Pt} (hf : f = fs.map fun x => x.1) (h0 : 0 < fs.length) : bwG (bwU fs h0 fs.length) = rfL f := by
  subst hf
  have hl : (bwG (bwU fs h0 fs.length)).length = fs.length := by unfold bwG; rw [List.length_map, bwU_length]
  have hr : (rfL (fs.map fun x => x.1)).length = fs.length := by rw [rfL_len, List.length_map]
  apply List.ext_getElem
  · rw [hl, hr]
  · intro i h1 h2
    have hi : i < fs.length := by rw [hl] at h1; exact h1
    have e1 : (rfL (fs.map fun x => x.1))[i] = getA zP (rfL (fs.map fun x => x.1)) i := by rw [getA_eq, List.getD_eq_getElem?_getD, List.getElem?_eq_getElem h2]; rfl
    rw [e1, rfL_get _ (by simpa using hi), getA_eq]
    have hi2 : fs.length - 1 - i < fs.length := by omega
    simp [bwG, bwU, bwEl, List.getD_eq_getElem?_getD, hi2]
theorem sub_all : ∀ {f : List Pt}, (∀ p ∈ f, ptOk p = true) → ∃ fs : List GP, f = fs.map fun x => x.1
  | [], _ => ⟨[], rfl⟩
  | p :: r, h => by
    obtain ⟨fs, e⟩ := sub_all (f := r) fun q hq => h q (List.mem_cons_of_mem _ hq)
    exact ⟨⟨p, h p List.mem_cons_self⟩ :: fs, congrArg (p :: ·) e⟩

theorem rfm_yes (f : List Pt) (hf : mapOk f = true) (sv : Value) (w : World) (rb : List Nat) (h : ListOk w rb .pt f sv) : Calls Try.prog 36 #[sv] w fun e w' => ∃ u, e = .returned (.tuple #[u, .bool true]) ∧ w'.ownsRow w.heap.size 57 4 u (rfL f).length (flat .pt (rfL f)) ∧ Below w.heap.size w w' := by
  have hn := map_len hf
  obtain ⟨fs, hfs⟩ := sub_all (mapOk_iff.1 hf).2.1
  have hfl : fs.length = f.length := by rw [hfs, List.length_map]
  have h' := h
  obtain ⟨aa, c, hsv, hc, hm, hcell⟩ := h'
  obtain ⟨ad, rfl, hadr, hadl, hcl⟩ := hcell (by omega)
  obtain ⟨b, off, sp⟩ := ad
  have hg : ∀ j, (hj : j < fs.length) → ∀ i, (hi : i < 4) → (flat .pt f)[j * 4 + i]? = (valCells .pt fs[j].1)[i]? := fun j hj i hi => by
    have := flat_get .pt f j i (by omega) hi
    rw [show VK.size .pt = 4 from rfl] at this
    rw [this]
    have e : f.getD j (VK.dflt .pt) = fs[j].1 := by
      subst hfs
      simp [List.getD_eq_getElem?_getD, hj]
    rw [e]
  have hsp : sp = none := by
    have h0 := hcl 0 (.int .i64 fs[0].1.x.num) (by have := hg 0 (by omega) 0 (by omega); simpa [valCells] using this)
    cases sp with
    | none => rfl
    | some q =>
      exfalso
      simp only [Addr.add, if_true, World.cell?] at h0
      split at h0 <;> simp at h0
  subst hsp
  have cell : ∀ j u, (flat .pt f)[j]? = some u → w.cell? ⟨b, off + j, none⟩ = some u := fun j u hj => by
    have := hcl j u hj
    simp only [Addr.add] at this
    split at this
    · rename_i e
      subst e
      simpa using this
    · exact this
  have hcs : ∀ j, (h : j < fs.length) → w.cell? ⟨b, off + j * 4, none⟩ = some (.int .i64 fs[j].1.x.num) ∧ w.cell? ⟨b, off + j * 4 + 1, none⟩ = some (.int .i64 fs[j].1.x.den) ∧ w.cell? ⟨b, off + j * 4 + 2, none⟩ = some (.int .i64 fs[j].1.y.num) ∧ w.cell? ⟨b, off + j * 4 + 3, none⟩ = some (.int .i64 fs[j].1.y.den) := fun j hj => by
    refine ⟨?_, ?_, ?_, ?_⟩
    · exact cell (j * 4) _ (by have := hg j hj 0 (by omega); simpa [valCells] using this)
    · exact cell (j * 4 + 1) _ (by have := hg j hj 1 (by omega); simpa [valCells] using this)
    · exact cell (j * 4 + 2) _ (by have := hg j hj 2 (by omega); simpa [valCells] using this)
    · exact cell (j * 4 + 3) _ (by have := hg j hj 3 (by omega); simpa [valCells] using this)
  have h0l : 0 < fs.length := by omega
  have := rfm_walk b off c fs h0l (by omega) w hadl (fun W hW => by
    subst hW
    rw [hfl]
    rw [← hsv]
    exact isMap_cb f true hf sv _ rb h) hcs
  rw [hsv, ← hfl]
  refine this.mono ?_
  rintro e w' ⟨u, rfl, q1, q2⟩
  refine ⟨u, rfl, ?_, q2⟩
  rw [bwG_all hfs h0l] at q1
  rw [rfL_len, ← hfl]
  exact q1

noncomputable def s_impl_ReflectMap : Sig := ⟨36, [.list .pt], [.list 57 .pt, .val .bool], fun ((f : List Pt), _) => ⟨[], ((rfM f).1, (rfM f).2, ()), ()⟩⟩
theorem ok_impl_ReflectMap : GSpec Try.prog s_impl_ReflectMap := by
  intro x vs w rb cb ob hargs hnd hrb hpre
  obtain ⟨(f : List Pt), ⟨⟩⟩ := x
  match vs, hargs with
  | [v], ⟨c1, o1, c2, o2, ⟨g1, g2, g3⟩, ⟨g4, g5⟩, g6, g7⟩ =>
    subst g2 g3 g4 g5
    simp only [List.append_nil] at g6 g7
    subst g6 g7
    cases hm : mapOk f
    · refine (rfm_no f hm v w rb g1).mono ?_
      rintro e w' ⟨rfl, k1⟩
      refine ⟨[.slice none 0 0, .bool false], [], rfl, ?_, List.nodup_nil, (fun _ h => by cases h), trivial, ⟨k1.os, k1.tape, k1.output, k1.size, fun j hj _ => k1.block j hj⟩⟩
      show RessOk w' [.list 57 .pt, .val .bool] ((rfM f).1, (rfM f).2, ()) _ _
      rw [rfM_f hm]
      exact ⟨[], World.ownsRow_nil _ _ _ _, rfl, rfl, rfl⟩
    · refine (rfm_yes f hm v w rb g1).mono ?_
      rintro e w' ⟨u, rfl, q1, k1⟩
      refine ⟨[u, .bool true], u.ownBlock.toList, rfl, ?_, ?_, fun b hb => ?_, trivial, ⟨k1.os, k1.tape, k1.output, k1.size, fun j hj _ => k1.block j hj⟩⟩
      · show RessOk w' [.list 57 .pt, .val .bool] ((rfM f).1, (rfM f).2, ()) _ _
        rw [rfM_t hm]
        exact ⟨[], ownsRow_base q1 (Nat.zero_le _), by simp, rfl, rfl⟩
      · cases u.ownBlock <;> simp
      · rcases q1.2 with ⟨rfl, _⟩ | ⟨g, cap, cur, rfl, hgb, _⟩
        · simp [Value.ownBlock] at hb
        · simp [Value.ownBlock] at hb
          exact .inl (by omega)
end Go.Vx
