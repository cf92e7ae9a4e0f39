/- The program's turning of a map by half a turn: the function. -/
import Derived.Test.YtlknhfldkkjclaaVxBw
import Derived.Test.YtlknhfldkkjclaaVxMapA
namespace Go.Vx
open Go Go.Proofs Go.Shelf Go.RowKit
set_option maxRecDepth 100000
set_option linter.unusedSimpArgs false
set_option linter.unusedVariables false
attribute [local go_sem] Oper.semAt_some

theorem bwK_t {n₀ Bs : Nat} {sv : Value} {A B C : World} (h : BwK n₀ Bs sv A B) (k : BwK n₀ Bs sv B C) : BwK n₀ Bs sv A C := ⟨h.1.trans k.1, fun x => k.2 (h.2 x)⟩
theorem bwK_b {w : World} {n₀ Bs : Nat} {sv : Value} (hn : n₀ ≤ w.heap.size) (W : World) (l : Nat) (o o' : Obj) (hl : w.heap.size ≤ l) (ho : W.heap[l]? = some o) (hc : o.isCells = false) (hk : o.isWalk = false) : BwK n₀ Bs sv W (W.putObj l o') := by
  refine ⟨belowK_b hn W l o o' hl ho hc hk, fun h => h.kept (grownBy_putObj' W l o') fun e => ?_⟩
  cases e
  have h' : W.heap[Bs]? = some (.cells #[sv] 26 (0, 0)) := h
  rw [h'] at ho
  cases ho
  cases hc

def ratV (x : Rt) : Value := .agg #[.int .i64 x.num, .int .i64 x.den]

theorem isMap_c (f : List Pt) (sv : Value) (W : World) (rb : List Nat) (h : ListOk W rb .pt f sv) : Calls Try.prog 37 #[sv] W fun e w' => e = .returned (.bool (mapOk f)) ∧ Below W.heap.size W w' := by
  refine (ok_impl_isMap (f, ()) [sv] W rb [] [] ⟨[], [], [], [], ⟨h, rfl, rfl⟩, ⟨rfl, rfl⟩, rfl, rfl⟩ (by simp) (by simp) trivial).mono ?_
  rintro e w' ⟨us, l, rfl, h1, _, _, _, h2⟩
  match us, h1 with
  | [u], ⟨h3, _⟩ =>
    subst h3
    exact ⟨rfl, h2.os, h2.tape, h2.output, h2.size, fun k hk => h2.block k hk (by simp)⟩

set_option maxHeartbeats 1000000 in
theorem opp_in (F : Fence) (n : Nat) (h6 : F.fn 79) (hro : F.round = none) (n1 d1 : Int) (hp : coordRt ⟨n1, d1⟩ = true) (w : World) :
    CallsIn F n Try.prog 79 #[.agg #[.int .i64 n1, .int .i64 d1]] w fun e w' => e = .returned (.agg #[.int .i64 (d1 - n1), .int .i64 d1]) ∧ w' = (w.alloc (.cells #[.int .i64 n1, .int .i64 d1] 36)).alloc (.cells #[.int .i64 (d1 - n1), .int .i64 d1] 36) := by
  have hb := coord_iff.1 hp
  dsimp only at hb
  refine callsIn_of_wp Try.func79 rfl h6 ?_ hro
  simp only [Try.ntmps79, List.size_toArray, List.length_cons, List.length_nil, Nat.reduceAdd, Nat.reduceSub, Array.replicate_succ, Array.replicate_zero, List.push_toArray, List.append_toArray, List.nil_append, List.cons_append]
  have hw : IntKind.i64.wrap (d1 - n1) = d1 - n1 := by simp only [IntKind.wrap, IntKind.bits, IntKind.signed]; simp; omega
  gi_wp2
  refine bodyPost_ret (v := .agg #[.int .i64 (d1 - n1), .int .i64 d1]) ?_ rfl ⟨rfl, rfl⟩
  simp [results, Try.f79, go_sem]

def Box4 (W : World) (B : Nat) (p : Pt) : Prop := W.heap[B]? = some (.cells #[.int .i64 p.x.num, .int .i64 p.x.den, .int .i64 p.y.num, .int .i64 p.y.den] 57 (0, 0))
theorem Box4.lt {W : World} {B : Nat} {p : Pt} (h : Box4 W B p) : B < W.heap.size := (Array.getElem?_eq_some_iff.1 h).1
theorem ownsRow_base {w : World} {b1 b2 : Nat} {e : TypeId} {size : Nat} {v : Value} {k : Nat} {xs : List Value} (h : w.ownsRow b1 e size v k xs) (hb : b2 ≤ b1) : w.ownsRow b2 e size v k xs := by
  obtain ⟨h0, h1⟩ := h
  refine ⟨h0, ?_⟩
  rcases h1 with h1 | ⟨g, cap, cur, hv, h2, h3⟩
  · exact .inl h1
  · exact .inr ⟨g, cap, cur, hv, Nat.le_trans hb h2, h3⟩
def bwG (pre : List (Int × GP)) : List Pt := pre.map fun x => mirP x.2.1
theorem bwG_snoc (pre : List (Int × GP)) (x : Int × GP) : bwG (pre ++ [x]) = bwG pre ++ [mirP x.2.1] := by simp [bwG]
theorem infoPt : (Try.prog.info? 57).map (fun i => (i.zero, i.size, i.bytes)) = some (some (.agg #[.int .i64 0, .int .i64 0, .int .i64 0, .int .i64 0]), 4, 32) := by kernel_rfl

/-- what stands while one point is turned -/
structure BwF (W0 W : World) (n₀ Bx : Nat) (p : Pt) (v sv : Value) (pre : List (Int × GP)) : Prop where
  b4 : Box4 W Bx p
  bO : Boxed W n₀ 26 v
  bS : Boxed W (n₀ + 1) 26 sv
  row : W.ownsRow n₀ 57 4 v pre.length (flat .pt (bwG pre))
  sz : n₀ ≤ W.heap.size
  ko : KeepsOthers W0 W
  bl : Below n₀ W0 W
theorem BwF.drew {W0 W : World} {n₀ Bx : Nat} {p : Pt} {v sv : Value} {pre : List (Int × GP)} (h : BwF W0 W n₀ Bx p v sv pre) : BwF W0 W.drew n₀ Bx p v sv pre := ⟨h.b4, h.bO, h.bS, h.row, h.sz, h.ko.trans (KeepsOthers.drew _), h.bl.drew⟩
theorem BwF.alloc {W0 W : World} {n₀ Bx : Nat} {p : Pt} {v sv : Value} {pre : List (Int × GP)} (h : BwF W0 W n₀ Bx p v sv pre) (o : Obj) : BwF W0 (W.alloc o) n₀ Bx p v sv pre :=
  ⟨(show (W.alloc o).heap[Bx]? = _ from ((World.grownBy_alloc W o none).block Bx h.b4.lt (by simp)).trans h.b4), h.bO.alloc _, h.bS.alloc _, h.row.alloc _, by have := h.sz; simp; omega, h.ko.trans (KeepsOthers.alloc _ _), h.bl.alloc h.sz _⟩
/-- what stands when one point has been turned -/
def BwE (W W' : World) (n₀ : Nat) (sv : Value) (k : Nat) (xs : List Value) (a b c d : Int) : Prop :=
  ∃ g cap, Boxed W' n₀ 26 (.slice (some ⟨g, 0, none⟩) (k + 1) cap) ∧ W'.ownsRow n₀ 57 4 (.slice (some ⟨g, 0, none⟩) (k + 1) cap) (k + 1) (xs ++ [.int .i64 (b - a), .int .i64 b, .int .i64 (d - c), .int .i64 d]) ∧
    Boxed W' (n₀ + 1) 26 sv ∧ KeepsOthers W W' ∧ Below n₀ W W'
theorem opp_f (n : Nat) (n1 d1 : Int) (hp : coordRt ⟨n1, d1⟩ = true) {W0 w : World} {n₀ Bx : Nat} {p : Pt} {v sv : Value} {pre : List (Int × GP)} (h : BwF W0 w n₀ Bx p v sv pre) :
    CallsIn Fence.wide n Try.prog 79 #[.agg #[.int .i64 n1, .int .i64 d1]] w fun e w' => e = .returned (.agg #[.int .i64 (d1 - n1), .int .i64 d1]) ∧ BwF W0 w' n₀ Bx p v sv pre ∧
      (w'.cell? ⟨Bx, 0, none⟩ = some (.int .i64 p.x.num) ∧ w'.cell? ⟨Bx, 1, none⟩ = some (.int .i64 p.x.den) ∧ w'.cell? ⟨Bx, 2, none⟩ = some (.int .i64 p.y.num) ∧ w'.cell? ⟨Bx, 3, none⟩ = some (.int .i64 p.y.den)) ∧ w'.cell? ⟨n₀, 0, none⟩ = some v ∧ w'.frozen? ⟨n₀, 0, none⟩ = false :=
  (opp_in Fence.wide n trivial rfl n1 d1 hp w).mono fun e w' ⟨he, hw⟩ => by
    subst hw
    have h2 := (h.alloc (.cells #[.int .i64 n1, .int .i64 d1] 36)).alloc (.cells #[.int .i64 (d1 - n1), .int .i64 d1] 36)
    have hb := h2.b4
    refine ⟨he, h2, ⟨?_, ?_, ?_, ?_⟩, h2.bO.cell, h2.bO.frozen⟩
    all_goals simp only [World.cell?, show World.heap _ = _ from rfl]
    all_goals (rw [show (((w.alloc (.cells #[.int .i64 n1, .int .i64 d1] 36)).alloc (.cells #[.int .i64 (d1 - n1), .int .i64 d1] 36)).heap[Bx]? = _) from hb]; rfl)
/-- append, kept shut -/
def AppHid (ats : Array TypeId) (ty : TypeId) (args : Array Value) : Sem Value := Builtin.append_ ats ty args
theorem builtin_append_hid (ats : Array TypeId) (ty : TypeId) (cs : Array Bool) (args : Array Value) : builtin .append ats ty cs args = (do pure (.value (← AppHid ats ty args))) := rfl
attribute [local go_sem ↓ high] builtin_append_hid
theorem cell4_new (w : World) (a b c d : Value) (t : TypeId) : ∀ j u, [a, b, c, d][j]? = some u → (w.alloc (.cells #[a, b, c, d] t)).cell? ((⟨w.heap.size, 0, none⟩ : Addr).add j) = some u := by
  intro j u hj
  have hn := World.alloc_heap_new w (.cells #[a, b, c, d] t)
  rcases j with _ | _ | _ | _ | j
  all_goals first
    | (simp at hj; done)
    | (simp only [Addr.add, Nat.reduceEqDiff, if_true, if_false, Nat.zero_add, Nat.reduceAdd]
       unfold World.cell?
       dsimp only
       rw [hn]
       simpa using hj)

theorem bw_fin {W w' w1' : World} {n₀ Bx : Nat} {p : Pt} {aa : Option Addr} {cp : Nat} {sv : Value} {pre : List (Int × GP)} {g' cap' : Nat} {a b c d : Int} (hF : BwF W w' n₀ Bx p (.slice aa pre.length cp) sv pre)
    (hown' : w1'.ownsRow n₀ 57 4 (.slice (some ⟨g', 0, none⟩) (pre.length + 1) cap') (pre.length + 1) (flat .pt (bwG pre) ++ [.int .i64 (b - a), .int .i64 b, .int .i64 (d - c), .int .i64 d]))
    (hgrow : (w'.alloc (.cells #[.int .i64 (b - a), .int .i64 b, .int .i64 (d - c), .int .i64 d] 57)).grownBy w1' (Value.slice aa pre.length cp).ownBlock) :
    BwE W (w1'.setCell ⟨n₀, 0, none⟩ (.slice (some ⟨g', 0, none⟩) (pre.length + 1) cap')) n₀ sv pre.length (flat .pt (bwG pre)) a b c d := by
  obtain ⟨hv1, hv2, hr2, hk2, hb2⟩ := hF.bO.appended (by decide) hF.row hF.sz (Nat.le_refl _) hown' hgrow
  have h1 := hF.bS.alloc (.cells #[.int .i64 (b - a), .int .i64 b, .int .i64 (d - c), .int .i64 d] 57)
  have h2 := hF.row.alloc (.cells #[.int .i64 (b - a), .int .i64 b, .int .i64 (d - c), .int .i64 d] 57)
  have h3 := h1.kept hgrow (h1.not_row (by decide) h2)
  exact ⟨g', cap', hv2, hr2, h3.other (by omega) _, hF.ko.trans hk2, hF.bl.trans hb2⟩

set_option maxHeartbeats 40000000 in
theorem rfm_walk (b off cap : Nat) (fs : List GP) (h0l : 0 < fs.length) (hlen : fs.length ≤ 12) (w : World) (hb : b < w.heap.size)
    (hm : ∀ (W : World), W = w → Calls Try.prog 37 #[.slice (some ⟨b, off, none⟩) fs.length cap] W fun e w' => e = .returned (.bool true) ∧ Below W.heap.size W w')
    (hc : ∀ j, (h : j < fs.length) → w.cell? ⟨b, off + j * 4, none⟩ = some (.int .i64 fs[j].1.x.num) ∧ w.cell? ⟨b, off + j * 4 + 1, none⟩ = some (.int .i64 fs[j].1.x.den) ∧ w.cell? ⟨b, off + j * 4 + 2, none⟩ = some (.int .i64 fs[j].1.y.num) ∧ w.cell? ⟨b, off + j * 4 + 3, none⟩ = some (.int .i64 fs[j].1.y.den)) :
    Calls Try.prog 36 #[.slice (some ⟨b, off, none⟩) fs.length cap] w fun e w' => ∃ u, e = .returned (.tuple #[u, .bool true]) ∧ w'.ownsRow w.heap.size 57 4 u fs.length (flat .pt (bwG (bwU fs h0l fs.length))) ∧ Below w.heap.size w w' := by
  obtain ⟨i0, hi, hz0, hz1, hz2⟩ := info_parts infoPt
  have hmw := hm w rfl
  refine (callsIn_wide (n := 6)).1 ?_
  refine callsIn_of_wp_marks Try.func36 rfl trivial ?_ rfl
  simp only [Try.ntmps36, List.size_toArray, List.length_cons, List.length_nil, Nat.reduceAdd, Nat.reduceSub, Array.replicate_succ, Array.replicate_zero, List.push_toArray, List.append_toArray, List.nil_append, List.cons_append]
  gi_wp2_with first
    | (refine ⟨trivial, ?_⟩; gi_at_call 37; refine (callsIn_wide.2 hmw).mono ?_; rintro e w1 ⟨rfl, k1⟩)
    | (refine ⟨trivial, ?_⟩; gi_at_call 78; refine (bw_in Fence.wide _ trivial rfl _ _ _ _).mono ?_; rintro e w2 ⟨rfl, rfl⟩)
  have bO := (Boxed.new w1 26 (.slice none 0 0)).alloc (.cells #[.slice (some ⟨b, off, none⟩) fs.length cap] 26)
  have bS := Boxed.new (w1.alloc (.cells #[.slice none 0 0] 26)) 26 (.slice (some ⟨b, off, none⟩) fs.length cap)
  rw [World.size_alloc] at bS
  have hB0 : Below w1.heap.size w1 ((w1.alloc (.cells #[.slice none 0 0] 26)).alloc (.cells #[.slice (some ⟨b, off, none⟩) fs.length cap] 26)) := ((Below.refl _ w1).alloc (Nat.le_refl _) _).alloc (by simp) _
  have hsz : ((w1.alloc (.cells #[.slice none 0 0] 26)).alloc (.cells #[.slice (some ⟨b, off, none⟩) fs.length cap] 26)).heap.size = w1.heap.size + 2 := by simp
  obtain ⟨W0, hW0⟩ : ∃ W0, (w1.alloc (.cells #[.slice none 0 0] 26)).alloc (.cells #[.slice (some ⟨b, off, none⟩) fs.length cap] 26) = W0 := ⟨_, rfl⟩
  rw [hW0] at bO bS hB0 hsz ⊢
  clear hW0
  have hbw : b < w1.heap.size := Nat.lt_of_lt_of_le hb k1.size
  have up : ∀ {p : Addr} {v : Value}, p.block < w.heap.size → w.cell? p = some v → W0.cell? p = some v := fun hp h => (hB0.cell (Nat.lt_of_lt_of_le hp k1.size)).trans ((k1.cell hp).trans h)
  have hc0 : ∀ j, (h : j < fs.length) → W0.cell? ⟨b, off + j * 4, none⟩ = some (.int .i64 fs[j].1.x.num) ∧ W0.cell? ⟨b, off + j * 4 + 1, none⟩ = some (.int .i64 fs[j].1.x.den) ∧ W0.cell? ⟨b, off + j * 4 + 2, none⟩ = some (.int .i64 fs[j].1.y.num) ∧ W0.cell? ⟨b, off + j * 4 + 3, none⟩ = some (.int .i64 fs[j].1.y.den) := fun j h => by
    obtain ⟨c1, c2, c3, c4⟩ := hc j h
    exact ⟨up hb c1, up hb c2, up hb c3, up hb c4⟩
  refine wpIn_rangeFunc_ownH rfl (by omega) (gf := 103) (lb := #[.pointer (some ⟨w1.heap.size + 1, 0, none⟩)]) rfl trivial (enters_of Try.func103 (by kernel_rfl) rfl)
    (bw_stops Fence.wide _ trivial rfl (by omega) (w1.heap.size + 1) w1.heap.size b off cap fs h0l (by omega) hbw W0 (by omega) bS hc0) bwK_t (bwK_b (by omega)) (Below.refl _ _) (fun _ => rfl)
    (fun pre W => ((∃ v, Boxed W w1.heap.size 26 v ∧ W.ownsRow w1.heap.size 57 4 v pre.length (flat .pt (bwG pre)) ∧ True) ∧ Boxed W (w1.heap.size + 1) 26 (.slice (some ⟨b, off, none⟩) fs.length cap)) ∧ Below w1.heap.size w1 W)
    (fun _ _ _ => False)
    (OwnFrom.and (OwnFrom.and (Own.from (holdsRow_own w1.heap.size w1.heap.size 26 57 4 (fun pre => List.length pre) (fun pre => flat .pt (bwG pre)) (fun _ _ => True)) _) (Own.from (boxed_own _ _ _) _)) (ownFrom_below (Nat.le_refl _) (by omega)))
    (fun _ _ _ _ _ hs _ _ => hs)
    ⟨⟨⟨_, bO, World.ownsRow_nil _ _ _ _, trivial⟩, bS⟩, hB0⟩
    (fun x a' W => ∃ Bx, w1.heap.size + 1 < Bx ∧ Box4 W Bx x.2.1 ∧ a' = { tmps := #[Value.slice (some ⟨b, off, none⟩) fs.length cap, undef, Value.slice none 0 0, Value.bool false, Value.pointer (some ⟨w1.heap.size, 0, none⟩), undef, Value.pointer (some ⟨Bx, 0, none⟩),
          Value.slice (some ⟨b, off, none⟩) fs.length cap, Value.bool true, Value.bool false, Value.slice (some ⟨b, off, none⟩) fs.length cap, Value.func (Fn.func 103) #[] #[Value.pointer (some ⟨w1.heap.size + 1, 0, none⟩)], Value.int .i64 x.1, ptV x.2.1,
          undef, undef, undef, undef, undef, undef, undef, undef, undef, undef, undef], defers := [] })
    (fun x a' _ X Y row hs hg hr => by
      obtain ⟨Bx, h1, h2, h3⟩ := hs
      refine ⟨Bx, h1, (hg.block Bx h2.lt fun e => ?_).trans h2, h3⟩
      obtain ⟨_, o, ho, hc⟩ := hr Bx e.symm
      rw [show X.heap[Bx]? = _ from h2] at ho
      cases ho
      cases hc)
    ?assign ?body ?done ?stop
  case assign =>
    rintro l pre x W K ⟨⟨⟨v, bO1, hr1, _⟩, bS1⟩, hB1⟩ hK
    dsimp only [ptV]
    gi_wp2
    exact hK _ _ ((KeepsOthers.alloc _ _).from _) ⟨(Below.refl _ W).alloc hB1.size _, fun h => h.alloc _⟩ ⟨⟨⟨v, bO1.alloc _, hr1.alloc _, trivial⟩, bS1.alloc _⟩, hB1.alloc hB1.size _⟩ ⟨W.heap.size, bS1.lt, World.alloc_heap_new W _, rfl⟩
  case body =>
    rintro l pre x a' W hl ⟨r, hr⟩ ⟨⟨⟨v, bO1, hr1, _⟩, bS1⟩, hB1⟩ ⟨Bx, hBx, bX, rfl⟩ hlt
    obtain ⟨i, ⟨⟨⟨a, b'⟩, ⟨c, d⟩⟩, hp⟩⟩ := x
    have hp1 := (ptOk_iff.1 hp).1
    have hp2 := (ptOk_iff.1 hp).2
    obtain ⟨aa, cp, rfl⟩ := own_slice (ownsRow_base hr1 (Nat.zero_le _))
    have hcc := bO1.cell
    have hff := bO1.frozen
    have x0 : W.cell? ⟨Bx, 0, none⟩ = some (.int .i64 a) := by simp [World.cell?, show W.heap[Bx]? = _ from bX]
    have x1 : W.cell? ⟨Bx, 1, none⟩ = some (.int .i64 b') := by simp [World.cell?, show W.heap[Bx]? = _ from bX]
    have x2 : W.cell? ⟨Bx, 2, none⟩ = some (.int .i64 c) := by simp [World.cell?, show W.heap[Bx]? = _ from bX]
    have x3 : W.cell? ⟨Bx, 3, none⟩ = some (.int .i64 d) := by simp [World.cell?, show W.heap[Bx]? = _ from bX]
    have hd : 1 ≤ 6 - 1 - 1 := by omega
    have hmx : Try.prog.follows .mixedOrders = true := by kernel_rfl
    dsimp only [ptV]
    gi_wp2
    have hF : BwF W W w1.heap.size Bx ⟨⟨a, b'⟩, ⟨c, d⟩⟩ (.slice aa pre.length cp) (.slice (some ⟨b, off, none⟩) fs.length cap) pre := ⟨bX, bO1, bS1, hr1, hB1.size, KeepsOthers.refl _, Below.refl _ _⟩
    have hpl : pre.length < 12 := by omega
    refine wpIn_mono (Q := fun e _ W' => e = .normal ∧ BwE W W' w1.heap.size (.slice (some ⟨b, off, none⟩) fs.length cap) pre.length (flat .pt (bwG pre)) a b' c d) ?_ ?_
    · rename_i Q1 K1 aK tru Q2
      clear aK Q2 K1 Q1 hm hmw hc up hc0 hlt hr hl hB0 bS bO hbw k1 hsz hb hlen hB1 hBx
      generalize w1.heap.size = n₀ at *
      gi_region_with_o first
        | (refine ⟨trivial, ?_⟩; gi_at_call 79; refine (CallsIn.inRound l (opp_f _ _ _ (by first | exact hp1 | exact hp2) (by first | exact hF1 | exact hF1.drew | exact hF | exact hF.drew))).mono ?_; rintro e w' ⟨rfl, hF1, ⟨y0, y1, y2, y3⟩, y4, y5⟩; dsimp only at y0 y1 y2 y3; have z4 := (hF1.alloc (.cells #[.int .i64 (b' - a), .int .i64 b', .int .i64 (d - c), .int .i64 d] 57)).bO.cell)
        | (obtain ⟨v', w1', hrun, hown', hgrow, -⟩ := run_append_own (P := Try.prog) _ n₀ 26 26 57 i0 (.agg #[.int .i64 0, .int .i64 0, .int .i64 0, .int .i64 0]) 4 32 Try.underlying26 hi hz0 hz1 hz2 rfl (by decide) _ pre.length _ (hF1.row.alloc (.cells #[.int .i64 (b' - a), .int .i64 b', .int .i64 (d - c), .int .i64 d] 57)) ⟨_, 0, none⟩ 1 1 [.int .i64 (b' - a), .int .i64 b', .int .i64 (d - c), .int .i64 d] rfl (cell4_new _ _ _ _ _ _) (by simp [Value.oneCell']) (by simp [maxLen]; omega) (by omega) (by have := hF1.sz; simp; omega); obtain ⟨g', cap', rfl⟩ := ownsRow_succ hown'; obtain ⟨hv1, hv2, hr2, hk2, hb2⟩ := hF1.bO.appended (by decide) hF1.row hF1.sz (Nat.le_refl _) hown' hgrow; have hc1 := hv1.cell; have hf1 := hv1.frozen; unfold AppHid; rw [hrun])
      all_goals exact ⟨rfl, bw_fin hF1 hown' hgrow⟩
    · rintro e a2 W2 ⟨rfl, g', cap', q1, q2, q3, q4, q5⟩
      have er : flat .pt (bwG (pre ++ [(i, ⟨⟨⟨a, b'⟩, ⟨c, d⟩⟩, hp⟩)])) = flat .pt (bwG pre) ++ [.int .i64 (b' - a), .int .i64 b', .int .i64 (d - c), .int .i64 d] := by
        rw [bwG_snoc]; simp only [flat, List.flatMap_append]; rfl
      exact ⟨q4.from _, ⟨q5, fun _ => q3⟩, ⟨⟨_, q1, by rw [er, List.length_append]; exact q2, trivial⟩, q3⟩, hB1.trans q5⟩
  case done =>
    rintro D ys W hD rfl ⟨⟨⟨v, bO1, hr1, _⟩, bS1⟩, hB1⟩ hK
    have hcc := bO1.cell
    gi_wp2
    refine ⟨by simp, .inl ⟨_, _, rfl, run_takeDeferred hK, ?_⟩⟩
    have hr2 := ownsRow_putObj hr1 (.deferred none) hK rfl
    rw [bwU_length] at hr2
    refine ⟨.tuple #[v, .bool true], by simp [results, Try.f36, go_sem], v, rfl, ownsRow_base hr2 k1.size, ?_⟩
    exact (k1.trans ((hB1.trans (belowK_b (w := w1) (Nat.le_refl _) W D _ _ (by omega) hK rfl rfl)).mono k1.size))
  case stop =>
    rintro D c pre W _ _ h _
    exact h.elim
end Go.Vx
