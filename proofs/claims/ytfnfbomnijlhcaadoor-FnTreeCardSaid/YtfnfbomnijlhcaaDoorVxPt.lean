/- The path to a fraction: the program's function. -/
import Derived.Test.YtfnfbomnijlhcaaDoorVxKt
import Derived.Test.YtfnfbomnijlhcaaDoorVxLb
import Derived.WalkKit
import Derived.BigCall
import Derived.BigQuiet
import Derived.Deep.LoopGhost
import Derived.Deep.RegionWith
namespace Go.Vx
open Go Go.Proofs Go.RowKit
set_option maxRecDepth 100000
set_option linter.unusedSimpArgs false
set_option linter.unusedVariables false

/-- A builder stands while a block is turned that is neither its own nor a row of bytes. -/
theorem builder_kept {T e B b k t : Nat} {c : Array Value} {fz : Nat × Nat} {bs : List Value} {w w' : World} (h : Lib.IsBuilderF T e B b bs w) (hk : Kept (fun j => j = k) w w') (hc : w.heap[k]? = some (.cells c t fz)) (h1 : t ≠ T) (h2 : t ≠ e) : Lib.IsBuilderF T e B b bs w' := by
  have key : ∀ p, Lib.BuilderAtF T e B b p bs w → Lib.BuilderAtF T e B b p bs w' := by
    rintro p ⟨g1, v, g2, g3, g4⟩
    have blk : ∀ j : Nat, (∃ (cc : Array Value) (ff : Nat × Nat), w.heap[j]? = some (Obj.cells cc T ff)) ∨ (∃ (cc : Array Value) (ff : Nat × Nat), w.heap[j]? = some (Obj.cells cc e ff)) → w'.heap[j]? = w.heap[j]? := by
      intro j hj
      refine hk.block j ?_ ?_
      · rcases hj with ⟨cc, ff, hj⟩ | ⟨cc, ff, hj⟩ <;> exact (Array.getElem?_eq_some_iff.1 hj).1
      · intro hjk
        subst hjk
        rcases hj with ⟨cc, ff, hj⟩ | ⟨cc, ff, hj⟩ <;> rw [hc] at hj <;> cases hj
        · exact h1 rfl
        · exact h2 rfl
    refine ⟨g1, v, by rw [blk b (.inl ⟨_, _, g2⟩)]; exact g2, ⟨g3.1, ?_⟩, g4⟩
    rcases g3.2 with g5 | ⟨g, cap, cur, fz', k1, k2, k3, k4⟩
    · exact .inl g5
    · exact .inr ⟨g, cap, cur, fz', k1, k2, by rw [blk g (.inr ⟨_, _, k3⟩)]; exact k3, k4⟩
  exact h.imp (key _) (key _)
theorem here_d (p : Pt) (k N : Nat) (n d : Int) (W : World) (hN : W.heap[N]? = some (Obj.cells #[.int .i64 n, .int .i64 d] 24 (0, 0))) (hk : W.heap[k]? = some (.cells (List.toArray (valCells .pt p)) wkT (0, 0))) (hp : smallP p) :
    Calls Tryd.prog 33 #[.pointer (some ⟨k, 0, none⟩)] W fun e w' => e = .returned (.agg #[.int .i64 (hereP p).num, .int .i64 (hereP p).den]) ∧ w'.cell? ⟨N, 0, none⟩ = some (.int .i64 n) ∧ w'.cell? ⟨N, 1, none⟩ = some (.int .i64 d) ∧ Kept (fun _ => False) W w' := by
  refine (here_c p k W hk hp).mono ?_
  rintro e w' ⟨rfl, h⟩
  have hN' : w'.heap[N]? = some (Obj.cells #[.int .i64 n, .int .i64 d] 24 (0, 0)) := by rw [h.block _ (Array.getElem?_eq_some_iff.1 hN).1 (fun h => h)]; exact hN
  exact ⟨rfl, cell_at hN' 0, cell_at hN' 1, h⟩
theorem neq_rat (a b c d : Int) (w : World) : (binOp .neq 24 (.agg #[.int .i64 a, .int .i64 b]) (.agg #[.int .i64 c, .int .i64 d])).run Tryd.prog w = .ok (.bool (!eqRt ⟨a, b⟩ ⟨c, d⟩)) w := by
  have h := rat_eq (P := Tryd.prog) (t := 24) (by kernel_rfl) .neq ⟨a, b⟩ ⟨c, d⟩ w (.tmp 0) (.tmp 0) (.inr rfl)
  have vo : ∀ (a b : Int), valOf .rat ⟨a, b⟩ = .agg #[.int .i64 a, .int .i64 b] := fun _ _ => rfl
  rw [vo, vo, Sem.run_bind, run_eqGuard_agg w .neq 24 _ _ _ _ (by kernel_rfl)] at h
  simpa using h
theorem grd_rat (a b c d : Int) (w : World) (x y : Operand) : (eqGuard .neq 24 x y (.agg #[.int .i64 a, .int .i64 b]) (.agg #[.int .i64 c, .int .i64 d])).run Tryd.prog w = .ok () w := run_eqGuard_agg w .neq 24 _ _ _ _ (by kernel_rfl)
theorem path_start (n d : Int) {w W2 : World} (hN : W2.heap[w.heap.size]? = some (Obj.cells #[.int .i64 n, .int .i64 d] 24 (0, 0))) (kw : Kept (fun _ => False) w W2) (hg : goodRt ⟨n, d⟩ = true) (hn : 0 < n) (W : World) (hW : W = (W2.alloc (.cells #[.pointer none, .slice none 0 0] 57)).alloc (.cells #[.int .i64 0, .int .i64 1, .int .i64 1, .int .i64 0] wkT)) :
    ∃ (a b : Int) (p : Pt) (acc : List UInt8), 60 = 60 - acc.length ∧ acc.length ≤ 60 ∧ Lib.IsBuilderF 57 5 W2.heap.size W2.heap.size (Lib.byteCells acc) W ∧ W.heap[w.heap.size]? = some (Obj.cells #[.int .i64 n, .int .i64 d] 24 (0, 0)) ∧ W.heap[W2.heap.size + 1]? = some (.cells (List.toArray (valCells .pt p)) wkT (0, 0)) ∧ Kept (fun _ => False) w W ∧ PI ⟨n, d⟩ a b p ∧ pthF (60 - acc.length) a b acc = pthF 60 n d [] := by
  subst hW
  have h1 := (Array.getElem?_eq_some_iff.1 hN).1
  have h2 := alloc_lt W2 (.cells #[.pointer none, .slice none 0 0] 57)
  refine ⟨n, d, ⟨⟨0, 1⟩, ⟨1, 0⟩⟩, [], rfl, by simp, (Lib.IsBuilderF.of (Lib.fresh_isBuilder _ _ W2)).alloc _, ?_, ?_, (kw.no_trans (Kept.alloc _ _ _)).no_trans (Kept.alloc _ _ _), PI.start hg hn, rfl⟩
  · rw [alloc_old' _ _ (Nat.lt_trans h1 h2), alloc_old' _ _ h1]; exact hN
  · have h3 : (W2.alloc (.cells #[.pointer none, .slice none 0 0] 57)).heap.size = W2.heap.size + 1 := by unfold World.alloc; simp
    rw [← h3]
    exact alloc_at _ _
theorem others_at {w w' : World} {e b k t : Nat} {c : Array Value} {fz : Nat × Nat} (h : Lib.OthersKept e (some b) w w') (hk : w.heap[k]? = some (.cells c t fz)) (hne : k ≠ b) (ht : t ≠ e) : w'.heap[k]? = some (.cells c t fz) :=
  h k _ hk (fun e => hne (Option.some.inj e)) (fun c' fz' e => by injection e with _ e2; exact ht e2)
theorem PI.smallHere {x : Rt} {a b : Int} {p : Pt} (hx : goodRt x = true) (h : PI x a b p) : smallRt (hereP p) = true := by
  have := h.bd
  rw [goodRt_iff] at hx
  have h1 := h.xn; have h2 := h.xd; have h3 := h.yn; have h4 := h.yd
  unfold smallRt hereP
  simp only [decide_eq_true_eq]
  omega
theorem path_next (n d : Int) {a b : Int} {p : Pt} {acc : List UInt8} {w W2 W6 W7 W8 : World} (hsz : w.heap.size ≤ W2.heap.size) (hl : acc.length < 60)
    (hN6 : W6.heap[w.heap.size]? = some (Obj.cells #[.int .i64 n, .int .i64 d] 24 (0, 0))) (kw6 : Kept (fun _ => False) w W6)
    (hP : PI ⟨n, d⟩ a b p) (hF : pthF (60 - acc.length) a b acc = pthF 60 n d []) (hab : ¬ a = b) (left : Bool) (c : UInt8) (hc : left = decide (a < b) ∧ c = bif left then 76 else 82)
    (b7 : Lib.BuilderAtF 57 5 W2.heap.size W2.heap.size (.pointer (some ⟨W2.heap.size, 0, none⟩)) (Lib.byteCells acc ++ [.int .u8 c.toNat]) W7)
    (l7 : Below W2.heap.size W6 W7) (o7 : Lib.OthersKept 5 (some W2.heap.size) W6 W7) (hk7 : W7.heap[W2.heap.size + 1]? = some (.cells (List.toArray (valCells .pt p)) wkT (0, 0)))
    (h8 : W8.heap[W2.heap.size + 1]? = some (.cells (List.toArray (valCells .pt (turnP p left))) wkT (0, 0))) (k8 : Kept (fun j => j = W2.heap.size + 1) W7 W8) (hwN : w.heap.size < W2.heap.size) :
    ∃ (a b : Int) (p : Pt) (acc' : List UInt8), 60 - (acc.length + 1) = 60 - acc'.length ∧ acc'.length ≤ 60 ∧ Lib.IsBuilderF 57 5 W2.heap.size W2.heap.size (Lib.byteCells acc') W8 ∧ W8.heap[w.heap.size]? = some (Obj.cells #[.int .i64 n, .int .i64 d] 24 (0, 0)) ∧ W8.heap[W2.heap.size + 1]? = some (.cells (List.toArray (valCells .pt p)) wkT (0, 0)) ∧ Kept (fun _ => False) w W8 ∧ PI ⟨n, d⟩ a b p ∧ pthF (60 - acc'.length) a b acc' = pthF 60 n d [] := by
  have e5 : 60 - acc.length = (60 - (acc ++ [c]).length) + 1 := by simp; omega
  have hB : Lib.IsBuilderF 57 5 W2.heap.size W2.heap.size (Lib.byteCells (acc ++ [c])) W8 := by
    rw [Lib.byteCells_append]
    exact builder_kept (.inr b7) k8 hk7 (by decide) (by decide)
  have hN8 : W8.heap[w.heap.size]? = some (Obj.cells #[.int .i64 n, .int .i64 d] 24 (0, 0)) := by
    have h7 := others_at o7 hN6 (by omega) (by decide)
    rw [k8.block _ (Array.getElem?_eq_some_iff.1 h7).1 (by omega)]; exact h7
  have hK8 : Kept (fun _ => False) w W8 := by
    have h7 := kw6.to_below l7 (by omega)
    exact ⟨k8.os.trans h7.os, k8.tape.trans h7.tape, k8.output.trans h7.output, Nat.le_trans h7.size k8.size, fun j hj hs => (k8.block j (Nat.lt_of_lt_of_le hj h7.size) (by omega)).trans (h7.block j hj hs)⟩
  obtain ⟨hc1, hc2⟩ := hc
  by_cases hlt : a < b
  · rw [decide_eq_true hlt] at hc1
    subst hc1
    subst hc2
    refine ⟨a, b - a, turnP p true, acc ++ [76], by simp, by simp; omega, hB, hN8, h8, hK8, hP.left hlt, ?_⟩
    rw [← hF, e5, pthF_l _ _ hab hlt]; rfl
  · rw [decide_eq_false hlt] at hc1
    subst hc1
    subst hc2
    refine ⟨a - b, b, turnP p false, acc ++ [82], by simp, by simp; omega, hB, hN8, h8, hK8, hP.right hab hlt, ?_⟩
    rw [← hF, e5, pthF_r _ _ hab hlt]; rfl
set_option maxHeartbeats 4000000 in
theorem path_walk (n d : Int) (w : World) : Calls Tryd.prog 6 #[.agg #[.int .i64 n, .int .i64 d]] w fun e w' => e = .returned (.tuple #[.string (bA (ptRes ⟨n, d⟩).1), .bool (ptRes ⟨n, d⟩).2]) ∧ Kept (fun _ => False) w w' := by
  have c1 := isRat_c ⟨n, d⟩
  go_enter Tryd.func6, Tryd.ntmps6
  go_wp2_with fail
  refine (c1 _).mono ?_
  rintro e W2 ⟨rfl, k2⟩
  have hN : W2.heap[w.heap.size]? = some (Obj.cells #[.int .i64 n, .int .i64 d] 24 (0, 0)) := by exact (k2.block _ (alloc_lt _ _) (fun h => h)).trans (alloc_at _ _)
  have n0 : W2.cell? ⟨w.heap.size, 0, none⟩ = some (.int .i64 n) := cell_at hN 0
  have n1 : W2.cell? ⟨w.heap.size, 1, none⟩ = some (.int .i64 d) := cell_at hN 1
  have kw : Kept (fun _ => False) w W2 := (Kept.trans (Kept.alloc (fun _ => False) w _) k2).mono fun _ _ h => h.elim id id
  have f1 : goodRt ⟨n, d⟩ = false → ptRes ⟨n, d⟩ = ([], false) := ptRes_f1
  have f2 : ¬ 0 < n → ptRes ⟨n, d⟩ = ([], false) := fun h => ptRes_f2 h
  have e0 : bA [] = ⟨#[]⟩ := bA_nil
  generalize hg : goodRt ⟨n, d⟩ = g
  cases g
  · go_wp2_with fail
    go_ret2
    refine ⟨?_, kw⟩
    rw [f1 hg, e0]; rfl
  · have c2 := new_c
    go_wp2_with (go_at_call 32; refine (c2 _).mono ?_; rintro e W ⟨rfl, rfl⟩)
    · rename_i hn
      go_ret2
      refine ⟨?_, kw⟩
      rw [f2 (by omega), e0]; rfl
    · rename_i hn
      have hn : 0 < n := by omega
      have hr := ptRes_t hg hn
      dsimp only at hr
      clear c1 c2 f1 f2
      go_loopg [] 60 (fun gk wr => ∃ (a b : Int) (p : Pt) (acc : List UInt8), gk = 60 - acc.length ∧ acc.length ≤ 60 ∧ Lib.IsBuilderF 57 5 W2.heap.size W2.heap.size (Lib.byteCells acc) wr ∧ wr.heap[w.heap.size]? = some (Obj.cells #[.int .i64 n, .int .i64 d] 24 (0, 0)) ∧ wr.heap[W2.heap.size + 1]? = some (.cells (List.toArray (valCells .pt p)) wkT (0, 0)) ∧ Kept (fun _ => False) w wr ∧ PI ⟨n, d⟩ a b p ∧ pthF (60 - acc.length) a b acc = pthF 60 n d [])
      case atStart =>
        exact path_start n d hN kw hg hn _ rfl
      case round =>
        obtain ⟨a, b, p, acc, g1, g2, hI, hN, hk, hK, hP, hF⟩ := hrel
        have hsm := hP.small hg
        have cN := fun W h1 h2 => here_d p (W2.heap.size + 1) w.heap.size n d W h1 h2 hsm
        have q0 : wr.cell? ⟨w.heap.size, 0, none⟩ = some (.int .i64 n) := cell_at hN 0
        have q1 : wr.cell? ⟨w.heap.size, 1, none⟩ = some (.int .i64 d) := cell_at hN 1
        have qn := neq_rat (hereP p).num (hereP p).den n d
        have qg := grd_rat (hereP p).num (hereP p).den n d
        have qb : eqRt ⟨(hereP p).num, (hereP p).den⟩ ⟨n, d⟩ = decide (a = b) := by
          unfold eqRt
          rw [Bool.eq_iff_iff, decide_eq_true_eq, decide_eq_true_eq]
          exact hP.here
        rw [qb] at qn
        have hB0 : W2.heap.size ≤ wr.heap.size := by have := (Array.getElem?_eq_some_iff.1 hk).1; omega
        by_cases hab : a = b
        · rw [decide_eq_true hab] at qn
          generalize hhn : (hereP p).num = hn' at *
          generalize hhd : (hereP p).den = hd' at *
          go_wp2_with fail
          go_region_with (go_at_call 33; have zz := cN wr.drew hN hk; refine zz.mono ?_; rintro e W3 ⟨rfl, d0, d1, k3⟩)
          all_goals (have k4 : Kept (fun _ => False) wr W3 := ⟨k3.os, k3.tape, k3.output, k3.size, k3.block⟩)
          all_goals (have hI3 := builder_kept hI (k4.no (W2.heap.size + 1)) hk (by decide) (by decide))
          all_goals (have cS := Any.Builder_String_any_k Tryd.lays169 Tryd.bx169 W2.heap.size W2.heap.size acc W3 hI3 (Nat.le_trans hB0 k4.size))
          all_goals (change Calls Tryd.prog 38 _ _ _ at cS)
          all_goals (go_wp2_with (go_at_call 38; refine cS.mono ?_; rintro e W4 ⟨rfl, -, b4, -⟩))
          all_goals go_ret2
          all_goals (refine ⟨?_, ((hK.no_trans k4).to_below b4 kw.size)⟩)
          all_goals (rw [hr, ← hF, pthF_end _ _ hab, bA_eq])
          all_goals rfl
        · rw [decide_eq_false hab] at qn
          have cL : ∀ W, Calls Tryd.prog 35 #[.agg #[.int .i64 n, .int .i64 d], .agg #[.int .i64 (hereP p).num, .int .i64 (hereP p).den]] W fun e w' => e = .returned (.bool (decide (a < b))) ∧ Kept (fun _ => False) W w' := by
            intro W
            have := less_c ⟨n, d⟩ (hereP p) W (small_good hg) (hP.smallHere hg)
            rw [hP.less] at this
            exact this
          generalize hhn : (hereP p).num = hn' at *
          generalize hhd : (hereP p).den = hd' at *
          go_wp2_with fail
          go_region_with (go_at_call 33; have zz := cN wr.drew hN hk; refine zz.mono ?_; rintro e W3 ⟨rfl, d0, d1, k3⟩)
          all_goals (have k4 : Kept (fun _ => False) wr W3 := ⟨k3.os, k3.tape, k3.output, k3.size, k3.block⟩)
          all_goals (have hI3 := builder_kept hI (k4.no (W2.heap.size + 1)) hk (by decide) (by decide))
          all_goals (have cE := Any.Builder_Len_f Tryd.lays170 W2.heap.size W2.heap.size (Lib.byteCells acc) W3 hI3)
          all_goals (rw [Lib.byteCells_length] at cE)
          all_goals (change Calls Tryd.prog 34 _ _ _ at cE)
          all_goals (go_wp2_with (go_at_call 34; refine cE.mono ?_; rintro e W4 ⟨rfl, rfl⟩))
          all_goals first | (rename_i hl; have hl : (acc.length : Int) = 60 := eq_of_beq hl; go_ret2; refine ⟨?_, hK.no_trans k4⟩; rw [hr, ← hF, show 60 - acc.length = 0 by omega, pthF_out _ hab, e0]; rfl; done) | skip
          all_goals (rename_i hl K2 hK2)
          all_goals (have hl : acc.length < 60 := by have := ne_of_beq_false hl; omega)
          all_goals (have hN4 : W4.heap[w.heap.size]? = some (Obj.cells #[.int .i64 n, .int .i64 d] 24 (0, 0)) := by rw [k4.block _ (Array.getElem?_eq_some_iff.1 hN).1 (fun h => h)]; exact hN)
          all_goals (have hk4 : W4.heap[W2.heap.size + 1]? = some (.cells (List.toArray (valCells .pt p)) wkT (0, 0)) := by rw [k4.block _ (Array.getElem?_eq_some_iff.1 hk).1 (fun h => h)]; exact hk)
          all_goals (go_region_with first | (go_at_call 33; have zz := cN W4.drew hN4 hk4; refine zz.mono ?_; rintro e W5 ⟨rfl, d2, d3, k5⟩) | (go_at_call 35; have zz := cL W5; refine zz.mono ?_; rintro e W6 ⟨rfl, k6⟩))
          all_goals (have k7 : Kept (fun _ => False) W4 W6 := (show Kept (fun _ => False) W4 W5 from ⟨k5.os, k5.tape, k5.output, k5.size, k5.block⟩).no_trans k6)
          all_goals (have hI6 := builder_kept hI3 (k7.no (W2.heap.size + 1)) hk4 (by decide) (by decide))
          all_goals (have hN6 : W6.heap[w.heap.size]? = some (Obj.cells #[.int .i64 n, .int .i64 d] 24 (0, 0)) := by rw [k7.block _ (Array.getElem?_eq_some_iff.1 hN4).1 (fun h => h)]; exact hN4)
          all_goals (have hk6 : W6.heap[W2.heap.size + 1]? = some (.cells (List.toArray (valCells .pt p)) wkT (0, 0)) := by rw [k7.block _ (Array.getElem?_eq_some_iff.1 hk4).1 (fun h => h)]; exact hk4)
          all_goals (have hs6 : W2.heap.size ≤ W6.heap.size := Nat.le_trans hB0 (Nat.le_trans k4.size k7.size))
          all_goals (have cW := fun c => Any.Builder_WriteByte_k Tryd.lays167 Tryd.bx167 W2.heap.size W2.heap.size (Lib.byteCells acc) c W6 hI6 (by rw [Lib.byteCells_length]; omega) hs6)
          all_goals (change ∀ c, Calls Tryd.prog 36 _ _ _ at cW)
          all_goals (go_wp2_with first | (go_at_call 36; refine (cW _).mono ?_; rintro e W7 ⟨rfl, b7, l7, o7⟩) | (go_at_call 37; have hk7 := others_at o7 hk6 (by omega) (by decide); refine (turn_c p _ _ W7 hk7 hsm).mono ?_; rintro e W8 ⟨rfl, h8, k8⟩))
          all_goals (have kw6 : Kept (fun _ => False) w W6 := (hK.no_trans k4).no_trans k7)
          all_goals (have hwN := alloc_lt w (.cells #[.int .i64 n, .int .i64 d] 24))
          all_goals (have hwN := Nat.lt_of_lt_of_le hwN k2.size)
          all_goals first | (have xx := path_next n d kw.size hl hN6 kw6 hP hF hab true 76 ⟨(decide_eq_true (by assumption)).symm, rfl⟩ b7 l7 o7 hk7 h8 k8 hwN) | (have xx := path_next n d kw.size hl hN6 kw6 hP hF hab (decide (a < b)) 82 ⟨rfl, by rw [decide_eq_false (by omega)]; rfl⟩ b7 l7 o7 hk7 h8 k8 hwN)
          all_goals (go_roundg (60 - (acc.length + 1)))
          all_goals first | (omega; done) | exact xx | skip
noncomputable def s_impl_PathTo : Sig := ⟨6, [.val .rat], [.val .str, .val .bool], fun ((x : Rt), _) => ⟨[], (bA (ptRes x).1, (ptRes x).2, ()), ()⟩⟩
theorem ok_impl_PathTo : GSpec Tryd.prog s_impl_PathTo := by
  intro x vs w rb cb ob hargs hraw hnd hrb hpre
  obtain ⟨⟨(n : Int), (d : Int)⟩, ⟨⟩⟩ := x
  match vs, hargs with
  | [v], ⟨c1, o1, c2, o2, ⟨g1, g2, g3⟩, ⟨g4, g5⟩, g6, g7⟩ =>
    subst g1 g2 g3 g4 g5
    simp only [List.append_nil, List.nil_append] at g6 g7
    subst g6 g7
    refine (path_walk n d w).mono ?_
    rintro e w' ⟨rfl, q3⟩
    exact ⟨[.string (bA (ptRes ⟨n, d⟩).1), .bool (ptRes ⟨n, d⟩).2], [], rfl, ⟨rfl, rfl, rfl⟩, by simp, by simp, trivial, q3.mono fun k _ h => h.elim⟩
end Go.Vx
