/- Draws whose results are named behind the run: what is known of them is what is said beside them. -/
import Derived.Test.YtalgocopemmelaaGreatDoorVxDet
import Derived.Test.YtalgocopemmelaaGreatDoorVxDr
namespace Go.Vx
open Go Go.Proofs
set_option maxRecDepth 100000
set_option linter.unusedSimpArgs false
set_option linter.unusedVariables false

/-- the cursor has gone on, by at most k -/
structure Adv (k : Nat) (c d : Cur) : Prop where
  r : d.r = c.r
  lo : c.at_ ≤ d.at_
  hi : d.at_ ≤ c.at_ + (k : Int)
theorem Adv.refl (k : Nat) (c : Cur) : Adv k c c := ⟨rfl, Int.le_refl _, by omega⟩
theorem Adv.at_ {k m : Nat} {c d : Cur} (h : Adv k c d) (ha : AtOk (m + k) c) : AtOk m d := ⟨by have := ha.lo; have := h.lo; omega, by have := ha.hi; have := h.hi; omega⟩
theorem Adv.trans {i j k : Nat} {c d e : Cur} (h : Adv i c d) (h2 : Adv j d e) (hk : i + j ≤ k) : Adv k c e := ⟨h2.r.trans h.r, Int.le_trans h.lo h2.lo, by have := h.hi; have := h2.hi; omega⟩
theorem Adv.le {i k : Nat} {c d : Cur} (h : Adv i c d) (hk : i ≤ k) : Adv k c d := ⟨h.r, h.lo, by have := h.hi; omega⟩
/-- of the next draw -/
theorem Adv.of {i k j : Nat} {c d : Cur} {S : Cur → Cur} (h : Adv i c d) (hr : ∀ c, Adv j c (S c)) (hk : i + j ≤ k) : Adv k c (S d) := h.trans (hr d) hk
theorem next_adv (c : Cur) : Adv 1 c (nextS c) := ⟨nextS_r c, by rw [nextS_eq]; show c.at_ ≤ c.at_ + 1; omega, by rw [nextS_eq]; exact Int.le_refl _⟩
theorem pick_adv (c : Cur) (n : Int) : Adv 2 c (pickS c n) := by
  unfold pickS
  split
  · exact Adv.refl _ _
  · split
    · exact (next_adv _).trans (next_adv _) (by decide)
    · exact (next_adv _).le (by decide)
theorem ord_adv (c : Cur) : Adv 4 c (ordS c) := by rw [ordS_eq]; exact (pick_adv _ _).trans (pick_adv _ _) (by decide)
theorem uni_adv (c : Cur) : Adv 6 c (uniS c) := by rw [uniS_eq]; unfold uniS1; exact ((pick_adv _ _).trans (pick_adv _ _) (k := 4) (by decide)).trans (pick_adv _ _) (by decide)
theorem rat_adv (c : Cur) : Adv 12 c (ratS c) := by
  rw [ratS_eq]; unfold ratS1
  exact ((((((pick_adv _ _).trans (pick_adv _ _) (k := 4) (by decide)).trans (pick_adv _ _) (k := 6) (by decide)).trans (pick_adv _ _) (k := 8) (by decide)).trans (pick_adv _ _) (k := 10) (by decide)).trans (pick_adv _ _) (by decide))
theorem any_adv (c : Cur) : Adv 18 c (anyS c) := by
  have h4 : Adv 14 c (pickS (ratS c) 40) := (rat_adv c).trans (pick_adv _ _) (by decide)
  unfold anyS anyS1
  split
  · exact h4.trans (pick_adv _ _) (by decide)
  · split
    · exact h4.trans (pick_adv _ _) (by decide)
    · split
      · exact (h4.trans (pick_adv _ _) (k := 16) (by decide)).trans (pick_adv _ _) (by decide)
      · exact h4.le (by decide)

theorem adv_next {k : Nat} {c d : Cur} (h : Adv k c d) : Adv (k + 1) c (nextS d) := h.trans (next_adv d) (Nat.le_refl _)
theorem adv_pick {k : Nat} {c d : Cur} {n : Int} (h : Adv k c d) : Adv (k + 2) c (pickS d n) := h.trans (pick_adv d n) (Nat.le_refl _)
theorem adv_ord {k : Nat} {c d : Cur} (h : Adv k c d) : Adv (k + 4) c (ordS d) := h.trans (ord_adv d) (Nat.le_refl _)
theorem adv_uni {k : Nat} {c d : Cur} (h : Adv k c d) : Adv (k + 6) c (uniS d) := h.trans (uni_adv d) (Nat.le_refl _)
theorem adv_rat {k : Nat} {c d : Cur} (h : Adv k c d) : Adv (k + 12) c (ratS d) := h.trans (rat_adv d) (Nat.le_refl _)
theorem adv_any {k : Nat} {c d : Cur} (h : Adv k c d) : Adv (k + 18) c (anyS d) := h.trans (any_adv d) (Nat.le_refl _)
theorem rawIn_adv {C : List (Nat × CloE)} {k : Nat} {c d : Cur} (h : Adv k c d) (h2 : RawIn C c.r) : RawIn C d.r := by rw [h.r]; exact h2
/-- a cursor as the evaluator holds it -/
abbrev cuB (c : Cur) : Ob := .box 56 [.raw c.r, .num .i64 c.at_, .num .u64 c.sd]
theorem start_go {α : Type} {Φ F : α → Prop} (x : α) (hf : F x) (h : Φ x) : ∃ x, Φ x ∧ F x := ⟨x, h, hf⟩
theorem round_go {α : Type} {Φ F : α → Prop} {μ : α → Nat} {m : Nat} (x : α) (hf : F x) (hm : μ x < m) (h : Φ x) : ∃ x, Φ x ∧ μ x < m ∧ F x := ⟨x, h, hm, hf⟩
theorem among_rng (c : Cur) {l : List Int} (lo hi : Int) (h : (l.all fun x => decide (lo ≤ x) && decide (x ≤ hi)) = true) (hl : 1 ≤ l.length) : lo ≤ amongV c l ∧ amongV c l ≤ hi :=
  among_all (p := fun x => lo ≤ x ∧ x ≤ hi) (fun x hx => by have := List.all_eq_true.1 h x hx; simpa using this) hl
theorem unit_good_ {x : Rt} (h : unitRt x = true) : goodRt x = true := (unitRt_iff.1 h).1
theorem pk1 {c : Cur} {n a b : Int} (hn : 1 ≤ n) (h : a < b) : a < b + pickV c n := by have := pickV_lt c hn; omega
theorem pk2 {c : Cur} {n a b : Int} (hn : 1 ≤ n) (h : b + n ≤ a) : b + pickV c n ≤ a := by have := pickV_lt c hn; omega
theorem pk3 {c : Cur} {n a b : Int} (hn : 1 ≤ n) (h : a ≤ b) : a ≤ b + pickV c n := by have := pickV_lt c hn; omega
theorem pk4 {c : Cur} {n a : Int} (hn : 1 ≤ n) (h : a < 0) : a < pickV c n := by have := pickV_lt c hn; omega
theorem pk5 {c : Cur} {n a : Int} (hn : 1 ≤ n) (h : n ≤ a) : pickV c n ≤ a := by have := pickV_lt c hn; omega
theorem cz_at (r : Raw) : AtOk 100000 ⟨r, 0, 0⟩ := ⟨by show (0 : Int) ≤ 0; omega, by show (0 : Int) + _ ≤ _; omega⟩
theorem rt_eta_ (x : Rt) : (⟨x.num, x.den⟩ : Rt) = x := rfl
theorem some_end {E : Env} {rv : List ResultVar} {ks : List AK} {rs : List RK} {Q : RKs rs → AKo ks → Prop} {st : St} (res : RKs rs) (out : AKo ks) (h : endK E rv ks rs res out st) (q : Q res out) : ∃ res out, Q res out ∧ endK E rv ks rs res out st := ⟨res, out, q, h⟩

/-- A method of a cursor. -/
theorem some_c {P : Program} {l : List (Nat × Ty)} (ht : tabB P (tabT l) l = true) (hm : P.follows .mixedOrders = true) {Γ : List Sig} (hΓ : Known P Γ) {f t : Nat} {ks : List AK} {rs : List RK} {fn : Func} (hks : (AK.cell t .cur :: ks).length ≤ 50000) (hf : P.funcs[f]? = some fn)
    (K : Nat) (pre : AKs ks → List Prop) (Q : AKs ks → RKs rs → Prop) (hO : ∀ a b : AKo ks, a = b)
    (hv : ∀ (c : Cur) (y : AKs ks), lenOk ks y → AtOk K c → andL (pre y) → vcSome (tabT l) Γ fn (.cell t .cur :: ks) rs (c, y) fun R O => Q y R ∧ Adv K c O.1) :
    ∃ (V : Cur → AKs ks → RKs rs) (S : Cur → AKs ks → Cur), (∀ c y, lenOk ks y → AtOk K c → andL (pre y) → Q y (V c y)) ∧ (∀ c y, Adv K c (S c y)) ∧
      GSpec P ⟨f, .cell t .cur :: ks, rs, fun x => ⟨AtOk K x.1 :: pre x.2, V x.1 x.2, (S x.1 x.2, AKo.dflt ks)⟩⟩ := by
  obtain ⟨R, O, h, g⟩ := fn_some ht hm hΓ (f := f) hks hf (pre := fun x => AtOk K x.1 :: pre x.2) (Q := fun x R O => Q x.2 R ∧ Adv K x.1 O.1) (fun x hl hp => hv x.1 x.2 hl hp.1 hp.2)
  have dec : ∀ (c : Cur) (y : AKs ks), ∃ d, Adv K c d ∧ (lenOk ks y → AtOk K c → andL (pre y) → d = (O (c, y)).1) := by
    intro c y
    by_cases hc : lenOk ks y ∧ AtOk K c ∧ andL (pre y)
    · exact ⟨_, (h (c, y) hc.1 ⟨hc.2.1, hc.2.2⟩).2, fun _ _ _ => rfl⟩
    · exact ⟨c, Adv.refl _ _, fun h1 h2 h3 => (hc ⟨h1, h2, h3⟩).elim⟩
  refine ⟨fun c y => R (c, y), fun c y => Classical.choose (dec c y), fun c y h1 h2 h3 => (h (c, y) h1 ⟨h2, h3⟩).1, fun c y => (Classical.choose_spec (dec c y)).1, ?_⟩
  intro x vs w rb cb ob ha hr hn hb hp
  obtain ⟨c, y⟩ := x
  obtain ⟨_, _, hl, _⟩ := pars_ok (P := P) (i := 0) (ks := .cell t .cur :: ks) (by omega) ha hn
  have h1 := g (c, y) vs w rb cb ob ha hr hn hb hp
  have e : Classical.choose (dec c y) = (O (c, y)).1 := (Classical.choose_spec (dec c y)).2 hl hp.1 hp.2
  have e2 : (Classical.choose (dec c y), AKo.dflt ks) = O (c, y) := by
    rw [e]
    exact Prod.ext rfl (hO _ _)
  dsimp only at h1 ⊢
  rw [e2]
  exact h1
end Go.Vx
