/- Following a path down the tree of fractions: the program's function. -/
import Derived.Test.YtfnfbomnijlhcaaDoorVxFp
import Derived.Test.YtfnfbomnijlhcaaDoorVxLt
import Derived.Test.YtfnfbomnijlhcaaDoorVxKt
import Derived.WalkKit
import Derived.BigCall
import Derived.BigQuiet
import Derived.Deep.LoopGhost
import Derived.Deep.RegionWith
import Derived.Lib.OthersKept
namespace Go.Vx
open Go Go.Proofs Go.RowKit
set_option maxRecDepth 100000
set_option linter.unusedSimpArgs false
set_option linter.unusedVariables false

theorem mem_dropWhile {p : UInt8 → Bool} {c : UInt8} : ∀ {l : List UInt8}, c ∈ l → p c = false → c ∈ l.dropWhile p
  | a :: r, h, hp => by
    rw [List.dropWhile_cons]
    split
    · rename_i ha
      rcases List.mem_cons.1 h with e | h
      · subst e; rw [ha] at hp; cases hp
      · exact mem_dropWhile h hp
    · exact h
theorem trim_all {l : List UInt8} (h : ∀ c ∈ l, c = 76 ∨ c = 82) : Lib.trimS l [76, 82] = [] := by
  have h1 : Lib.trimRightS l [76, 82] = [] := by
    unfold Lib.trimRightS
    rw [List.reverse_eq_nil_iff]
    have key : ∀ m : List UInt8, (∀ c ∈ m, c = 76 ∨ c = 82) → m.dropWhile (([76, 82] : List UInt8).contains ·) = [] := by
      intro m
      induction m with
      | nil => intro _; rfl
      | cons a r ih =>
        intro hm
        have ha : ([76, 82] : List UInt8).contains a = true := by rcases hm a (by simp) with e | e <;> subst e <;> decide
        rw [List.dropWhile_cons, if_pos ha]
        exact ih fun c hc => hm c (by simp [hc])
    exact key _ fun c hc => h c (by simpa using hc)
  unfold Lib.trimS
  rw [h1]; rfl
theorem trim_some {l : List UInt8} {c : UInt8} (h : c ∈ l) (h1 : c ≠ 76) (h2 : c ≠ 82) : Lib.trimS l [76, 82] ≠ [] := by
  have hp : ([76, 82] : List UInt8).contains c = false := by simp [h1, h2]
  have k1 : c ∈ Lib.trimRightS l [76, 82] := by
    unfold Lib.trimRightS
    rw [List.mem_reverse]
    exact mem_dropWhile (by simpa using h) hp
  have k2 : c ∈ Lib.trimS l [76, 82] := mem_dropWhile k1 hp
  intro e
  rw [e] at k2
  cases k2
theorem trim_c (s : ByteArray) (w : World) (hs : s.size ≤ 60) : Calls Tryd.prog 43 #[.string s, .string ⟨#[76, 82]⟩] w fun e w' => e = .returned (.string ⟨(Lib.trimS s.data.toList [76, 82]).toArray⟩) ∧ Below w.heap.size w w' :=
  Any.strings_Trim_laid Tryd.lays160 (by kernel_rfl) s ⟨#[76, 82]⟩ w (by omega) (by decide) (ascii_of_all (by decide))

/-- A fact that the walk is not to use. -/
structure Veil (p : Prop) : Prop where
  out : p
theorem frz_at {w : World} {k : Nat} {cs : Array Value} {t : TypeId} (h : w.heap[k]? = some (.cells cs t (0, 0))) (i : Nat) : w.frozen? ⟨k, i, none⟩ = false := by unfold World.frozen?; rw [h]; simp
theorem two_at {W : World} {r t : Nat} {x y u v : Value} (h : W.heap[r]? = some (.cells #[x, y] t (0, 0))) : ((W.setCell ⟨r, 0, none⟩ u).setCell ⟨r, 1, none⟩ v).heap[r]? = some (.cells #[u, v] t (0, 0)) := by
  have h1 := heap_setCell_same W r 0 _ t u h
  have h2 := heap_setCell_same _ r 1 _ t v h1
  exact h2
theorem two_kept {w W : World} {r : Nat} {u v : Value} (h : Kept (fun _ => False) w W) (hr : w.heap.size ≤ r) : Kept (fun _ => False) w ((W.setCell ⟨r, 0, none⟩ u).setCell ⟨r, 1, none⟩ v) :=
  h.to_below (((Below.refl w.heap.size W).setCell (p := ⟨r, 0, none⟩) hr u).setCell (p := ⟨r, 1, none⟩) hr v) (Nat.le_refl _)
theorem ret_rat {tmps : Array Value} {W : World} {r : Nat} {n d : Int} {b : Bool} (hr : W.heap[r]? = some (.cells #[.int .i64 n, .int .i64 d] 24 (0, 0))) (ht : tmps.getD 2 undef = .pointer (some ⟨r, 0, none⟩)) (hu : tmps.getD 3 undef = .bool b) :
    (results Tryd.f9 tmps).run Tryd.prog W = .ok (.tuple #[.agg #[.int .i64 n, .int .i64 d], .bool b]) W := by
  rw [results_cell_tmp rfl, ht, hu]
  have c0 : W.cell? ⟨r, 0, none⟩ = some (.int .i64 n) := cell_at hr 0
  have c1 : W.cell? ⟨r, 1, none⟩ = some (.int .i64 d) := cell_at hr 1
  go_simp
set_option maxHeartbeats 1000000 in
theorem follow_walk (s : ByteArray) (w : World) : Calls Tryd.prog 9 #[.string s] w fun e w' => e = .returned (.tuple #[.agg #[.int .i64 (fpRes s).1.num, .int .i64 (fpRes s).1.den], .bool (fpRes s).2]) ∧ Kept (fun _ => False) w w' := by
  have f1 : ¬ s.size ≤ 60 → fpRes s = (⟨0, 0⟩, false) := fpRes_f
  by_cases hs : s.size ≤ 60
  · by_cases hall : ∀ c ∈ s.data.toList, c = 76 ∨ c = 82
    · have cT := fun W => trim_c s W hs
      rw [trim_all hall] at cT
      go_enter Tryd.func9, Tryd.ntmps9
      have c2 := new_c
      go_wp2_with first | (go_at_call 43; refine (cT _).mono ?_; rintro e W2 ⟨rfl, b2⟩) | (go_at_call 32; refine (c2 _).mono ?_; rintro e W ⟨rfl, rfl⟩)
      have hR2 := (b2.block _ (alloc_lt _ _)).trans (alloc_at _ _)
      have kw : Kept (fun _ => False) w W2 := (Kept.alloc _ _ _).to_below b2 (Nat.le_of_lt (alloc_lt _ _))
      have hlt : w.heap.size < W2.heap.size := Nat.lt_of_lt_of_le (alloc_lt _ _) b2.size
      clear cT c2 f1
      go_loopg [] s.size (fun gk wr => ∃ (pos : Nat) (p : Pt), gk = s.size - pos ∧ pos ≤ s.size ∧ WI p ∧ wr.heap[w.heap.size]? = some (Obj.cells #[.int .i64 0, .int .i64 0] 24 (0, 0)) ∧ wr.heap[W2.heap.size]? = some (.cells (List.toArray (valCells .pt p)) wkT (0, 0)) ∧ wr.heap[W2.heap.size + 1]? = some (.stringIter s pos) ∧ Kept (fun _ => False) w wr ∧ fpG (s.data.toList.drop pos) p = fpRes s)
      case atStart =>
        refine ⟨0, ⟨⟨0, 1⟩, ⟨1, 0⟩⟩, rfl, by omega, WI.start, ?_, ?_, ?_, (kw.no_trans (Kept.alloc _ _ _)).no_trans (Kept.alloc _ _ _), by rw [fpRes_t hs]; rfl⟩
        · exact (alloc_old' _ _ (Nat.lt_trans hlt (alloc_lt _ _))).trans ((alloc_old' _ _ hlt).trans hR2)
        · exact (alloc_old' _ _ (alloc_lt _ _)).trans (alloc_at _ _)
        · have h3 : (W2.alloc (.cells #[.int .i64 0, .int .i64 1, .int .i64 1, .int .i64 0] wkT)).heap.size = W2.heap.size + 1 := by unfold World.alloc; simp
          rw [← h3]
          exact alloc_at _ _
      case round =>
        obtain ⟨pos, p, g1, g2, hP, hR, hk, hit, hK, hF⟩ := hrel
        by_cases hp : pos < s.size
        · have hch : (s[pos]'hp) = 76 ∨ (s[pos]'hp) = 82 := hall _ (by rw [List.mem_iff_getElem?]; exact ⟨pos, Lib.data_getElem? s pos hp⟩)
          have h128 : (s[pos]'hp).toNat < 128 := by rcases hch with e | e <;> rw [e] <;> decide
          have hnx : ∀ ty, (Instr.next (.pointer (some ⟨W2.heap.size + 1, 0, none⟩)) true ty).run Tryd.prog wr = _ := fun ty => Lib.run_next_ascii_at wr (W2.heap.size + 1) s pos ty hit hp h128
          have hR2 : (wr.iterAt (W2.heap.size + 1) s (pos + 1)).heap[w.heap.size]? = _ := (Lib.iterAt_other wr _ _ s (pos + 1) (by omega)).trans hR
          have hk2 : (wr.iterAt (W2.heap.size + 1) s (pos + 1)).heap[W2.heap.size]? = _ := (Lib.iterAt_other wr _ _ s (pos + 1) (by omega)).trans hk
          have hit2 := Lib.iterAt_heap wr (W2.heap.size + 1) s pos (pos + 1) hit
          have hK2 : Kept (fun _ => False) w (wr.iterAt (W2.heap.size + 1) s (pos + 1)) := hK.to_below (Lib.below_iterAt (Below.refl w.heap.size wr) (by omega) s (pos + 1)) (Nat.le_refl _)
          have hdr : s.data.toList.drop pos = (s[pos]'hp) :: s.data.toList.drop (pos + 1) := by
            have h2 : pos < s.data.toList.length := by simpa using hp
            rw [List.drop_eq_getElem_cons h2]
            rfl
          rw [hdr] at hF
          generalize wr.iterAt (W2.heap.size + 1) s (pos + 1) = V at hnx hR2 hk2 hit2 hK2
          generalize hc : (s[pos]'hp) = c at hch h128 hnx hF
          obtain ⟨b, ci, hnx2, hb, hb2⟩ : ∃ (b : Bool) (ci : Int), (∀ ty, (Instr.next (.pointer (some ⟨W2.heap.size + 1, 0, none⟩)) true ty).run Tryd.prog wr = .ok (.tuple #[.bool true, .int .i64 pos, .int .i32 ci]) V) ∧ Veil (b = decide (c = 76)) ∧ (ci == 76) = b := by
            rcases hch with e | e <;> subst e
            · exact ⟨true, 76, hnx, .mk rfl, rfl⟩
            · exact ⟨false, 82, hnx, .mk rfl, rfl⟩
          have cT := turn_c p b W2.heap.size V hk2 hP.small
          have cG := isRat_c (hereP (turnP p b))
          have hF : Veil _ := .mk hF
          have hch : Veil _ := .mk hch
          have hsm : Veil _ := .mk (hP.small2 b)
          clear hall hc h128 hnx
          generalize hg : goodRt (hereP (turnP p b)) = g at cG
          have hg : Veil _ := .mk hg
          have hlw : w.heap.size ≠ W2.heap.size := by omega
          cases g
          all_goals (go_wp2_with first | (go_at_call 37; refine cT.mono ?_; rintro e V2 ⟨rfl, h8, k8⟩; have hR3 := (k8.block _ (Array.getElem?_eq_some_iff.1 hR2).1 hlw).trans hR2; have hit3 := (k8.block _ (Array.getElem?_eq_some_iff.1 hit2).1 (by omega)).trans hit2) | (go_at_call 33; have cH := here_c _ _ V2 h8 hsm.out; refine cH.mono ?_; rintro e V3 ⟨rfl, k9⟩) | (go_at_call 31; refine (cG _).mono ?_; rintro e V4 ⟨rfl, k10⟩; have k11 := k9.no_trans k10; have hR4 := (k11.block _ (Array.getElem?_eq_some_iff.1 hR3).1 (fun h => h)).trans hR3; have hit4 := (k11.block _ (Array.getElem?_eq_some_iff.1 hit3).1 (fun h => h)).trans hit3; have hk4 := (k11.block _ (Array.getElem?_eq_some_iff.1 h8).1 (fun h => h)).trans h8; have c0 := cell_at hR4 0; have c1 := cell_at hR4 1; have z0 := frz_at hR4 0; have z1 := frz_at hR4 1))
          all_goals (have hKw : Kept (fun _ => False) w V4 := ⟨k11.os.trans (k8.os.trans hK2.os), k11.tape.trans (k8.tape.trans hK2.tape), k11.output.trans (k8.output.trans hK2.output), Nat.le_trans hK2.size (Nat.le_trans k8.size k11.size), fun j hj hs => (k11.block j (Nat.lt_of_lt_of_le hj (Nat.le_trans hK2.size k8.size)) hs).trans ((k8.block j (Nat.lt_of_lt_of_le hj hK2.size) (by omega)).trans (hK2.block j hj hs))⟩)
          · refine bodyPost_ret (ret_rat (two_at hR4) rfl rfl) rfl ⟨?_, two_kept hKw (Nat.le_refl _)⟩
            rw [← hF.out, fpG_stop _ _ hb.out hg.out]
          · go_roundg (s.size - (pos + 1))
            case measure => omega
            case rel => exact ⟨pos + 1, turnP p b, rfl, by omega, hP.turn hg.out, hR4, hk4, hit4, hKw, by rw [← hF.out, fpG_step _ _ hch.out hb.out hg.out]⟩
        · have hnx : ∀ ty, (Instr.next (.pointer (some ⟨W2.heap.size + 1, 0, none⟩)) true ty).run Tryd.prog wr = _ := fun ty => Lib.run_next_end_at wr (W2.heap.size + 1) s pos ty hit hp
          have cH : Calls Tryd.prog 33 #[.pointer (some ⟨W2.heap.size, 0, none⟩)] wr fun e w' => e = .returned (.agg #[.int .i64 (hereP p).num, .int .i64 (hereP p).den]) ∧ Kept (fun _ => False) wr w' := here_c p W2.heap.size wr hk hP.small
          generalize hhn : (hereP p).num = hn' at cH
          generalize hhd : (hereP p).den = hd' at cH
          have hhn : Veil _ := .mk hhn
          have hhd : Veil _ := .mk hhd
          have hd : s.data.toList.drop pos = [] := List.drop_eq_nil_of_le (by have : s.data.toList.length = s.size := by simp
                                                                              omega)
          rw [hd, fpG_nil] at hF
          have hF : Veil _ := .mk hF
          clear hall
          go_wp2_with (go_at_call 33; refine cH.mono ?_; rintro e V3 ⟨rfl, k9⟩; have hR4 := (k9.block _ (Array.getElem?_eq_some_iff.1 hR).1 (fun h => h)).trans hR; have c0 := cell_at hR4 0; have c1 := cell_at hR4 1; have z0 := frz_at hR4 0; have z1 := frz_at hR4 1)
          refine bodyPost_ret (ret_rat (two_at hR4) rfl rfl) rfl ⟨?_, two_kept (hK.no_trans k9) (Nat.le_refl _)⟩
          rw [← hF.out, ← hhn.out, ← hhd.out]
    · obtain ⟨c, hc, h1, h2⟩ : ∃ c ∈ s.data.toList, c ≠ 76 ∧ c ≠ 82 := by
        apply Classical.byContradiction
        intro hn
        exact hall fun c hc => by
          by_cases e1 : c = 76
          · exact .inl e1
          · by_cases e2 : c = 82
            · exact .inr e2
            · exact (hn ⟨c, hc, e1, e2⟩).elim
      have hr : fpRes s = (⟨0, 0⟩, false) := by rw [fpRes_t hs]; exact fpG_other _ _ ⟨c, hc, h1, h2⟩
      have hne := trim_some hc h1 h2
      have cT := fun W => trim_c s W hs
      generalize Lib.trimS s.data.toList [76, 82] = t at hne cT
      match t, hne with
      | x :: xs, _ =>
      go_enter Tryd.func9, Tryd.ntmps9
      go_wp2_with (go_at_call 43; refine (cT _).mono ?_; rintro e W2 ⟨rfl, b2⟩; have hR2 := (b2.block _ (alloc_lt _ _)).trans (alloc_at _ _); have c0 := cell_at hR2 0; have c1 := cell_at hR2 1; have z0 := frz_at hR2 0; have z1 := frz_at hR2 1)
      have kw : Kept (fun _ => False) w W2 := (Kept.alloc _ _ _).to_below b2 (Nat.le_of_lt (alloc_lt _ _))
      refine bodyPost_ret (ret_rat (two_at hR2) rfl rfl) rfl ⟨by rw [hr], two_kept kw (Nat.le_refl _)⟩
  · go_enter Tryd.func9, Tryd.ntmps9
    go_wp2_with fail
    refine bodyPost_ret (ret_rat (alloc_at _ _) rfl rfl) rfl ⟨by first | rfl | rw [f1 hs], Kept.alloc _ _ _⟩
noncomputable def s_impl_FollowPath : Sig := ⟨9, [.val .str], [.val .rat, .val .bool], fun ((s : ByteArray), _) => ⟨[], ((fpRes s).1, (fpRes s).2, ()), ()⟩⟩
theorem ok_impl_FollowPath : GSpec Tryd.prog s_impl_FollowPath := by
  intro x vs w rb cb ob hargs hraw hnd hrb hpre
  obtain ⟨(s : ByteArray), ⟨⟩⟩ := x
  match vs, hargs with
  | [v], ⟨c1, o1, c2, o2, ⟨g1, g2, g3⟩, ⟨g4, g5⟩, g6, g7⟩ =>
    subst g1 g2 g3 g4 g5
    simp only [List.append_nil, List.nil_append] at g6 g7
    subst g6 g7
    refine (follow_walk s w).mono ?_
    rintro e w' ⟨rfl, q3⟩
    exact ⟨[.agg #[.int .i64 (fpRes s).1.num, .int .i64 (fpRes s).1.den], .bool (fpRes s).2], [], rfl, ⟨rfl, rfl, rfl⟩, by simp, by simp, trivial, q3.mono fun k _ h => h.elim⟩
end Go.Vx
