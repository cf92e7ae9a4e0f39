/- The types of this seat's program, for the evaluator. -/
import Derived.Test.YtjiafbjoijffjaaGreatPk10
import Derived.Test.YtjiafbjoijffjaaGreatRows
namespace Go.Vx
set_option linter.unusedSimpArgs false
set_option linter.unusedVariables false
open Go Go.RowKit

def DetS (F : (St → Prop) → Prop) : Prop := ∀ K, F K → ∃ st, K st ∧ ∀ K' : St → Prop, K' st → F K'
def DetX (F : (Exit → St → Prop) → Prop) : Prop := ∀ K, F K → ∃ e st, K e st ∧ ∀ K' : Exit → St → Prop, K' e st → F K'

theorem DetS.comp {F : (St → Prop) → Prop} {G : St → (St → Prop) → Prop} (hF : DetS F) (hG : ∀ st, DetS (G st)) : DetS (fun K => F fun st => G st K) := fun K h => by
  obtain ⟨s1, h1, f1⟩ := hF _ h
  obtain ⟨s2, h2, f2⟩ := hG s1 K h1
  exact ⟨s2, h2, fun K' hk => f1 _ (f2 K' hk)⟩
theorem DetS.no : DetS (fun _ => False) := fun _ h => h.elim
theorem DetS.at_ (st : St) : DetS (fun K => K st) := fun _ h => ⟨st, h, fun _ hk => hk⟩
theorem DetS.ite {b : Bool} {A B : (St → Prop) → Prop} (hA : DetS A) (hB : DetS B) : DetS (fun K => (b = true → A K) ∧ (b = false → B K)) := fun K h => by
  cases b
  · obtain ⟨s, h1, f⟩ := hB K (h.2 rfl)
    exact ⟨s, h1, fun K' hk => ⟨fun e => (by cases e), fun _ => f K' hk⟩⟩
  · obtain ⟨s, h1, f⟩ := hA K (h.1 rfl)
    exact ⟨s, h1, fun K' hk => ⟨fun _ => f K' hk, fun e => (by cases e)⟩⟩
theorem DetS.ite2 {b : Bool} {A B : (St → Prop) → Prop} (hA : DetS A) (hB : DetS B) : DetS (fun K => (b = false → A K) ∧ (b = true → B K)) := fun K h => by
  obtain ⟨s, h1, f⟩ := DetS.ite (b := b) hB hA K ⟨h.2, h.1⟩
  exact ⟨s, h1, fun K' hk => ⟨(f K' hk).2, (f K' hk).1⟩⟩

theorem andAll_mk : ∀ {ps : List Prop} {q : Prop}, andL ps → q → andAll ps q
  | [], _, _, h => h
  | _ :: _, _, hp, h => ⟨⟨hp.1⟩, andAll_mk hp.2 h⟩

theorem det_put (ps : List Prop) (v : SV) (us : List Up) (st : St) (dst : Option Nat) : DetS (fun K => andAll ps (v.force fun v => forceU us fun us => putK st dst v us K)) := by
  intro K h
  simp only [force_v, force_u, putK_eq] at h ⊢
  obtain ⟨h1, h2⟩ := andAll_spec h
  exact ⟨_, h2, fun K' hk => andAll_mk h1 hk⟩

theorem det_op (E : Env) (dst : Option Nat) (op : Op) (st : St) : DetS (fun K => vcOp E dst op K st) := by
  rcases h1 : dstOk E.n dst with _ | _ <;> rcases h2 : act E dst (ev st.fr) st.hp op with _ | ⟨ps, v, us⟩ <;> simp only [vcOp, h1, h2] <;> first
    | exact DetS.no
    | (rcases h3 : (okUps st.ids us && distB (us.map (·.id))) with _ | _ <;> simp only [h3] <;> first
        | exact DetS.no
        | exact det_put ps v us st dst)

theorem det_opF (E : Env) (fp : Fp) (dst : Option Nat) (op : Op) (st : St) : DetS (fun K => vcOpF E fp dst op K st) := by
  rcases h1 : dstOk E.n dst with _ | _ <;> rcases h2 : act E dst (ev st.fr) (restrict st.hp (fp.r ++ fp.w)) op with _ | ⟨ps, v, us⟩ <;> simp only [vcOpF, h1, h2] <;> first
    | exact DetS.no
    | (rcases h3 : (okUps st.ids us && distB (us.map (·.id))) with _ | _ <;> rcases h4 : subB (us.map (·.id)) fp.w with _ | _ <;> simp only [h3, h4] <;> first
        | exact DetS.no
        | exact det_put ps v us st dst)

theorem det_skip (n : Nat) (dst : Option Nat) (st : St) : DetS (fun K => skipK n dst K st) := by
  rcases h1 : dstOk n dst with _ | _ <;> simp only [skipK, h1]
  · exact DetS.no
  · simp only [putK_eq]
    exact DetS.at_ _

theorem det_g2 {n : Nat} {all : List Oper} {guard : Option (Nat × Bool)} {dst : Option Nat} {run : (St → Prop) → St → Prop} (hr : ∀ st, DetS (fun K => run K st)) (st : St) : DetS (fun K => vcG2 n all guard dst run K st) := by
  rcases guard with _ | ⟨j, want⟩
  · exact hr st
  · rcases h1 : gslot all j with _ | g
    · simp only [vcG2, h1]; exact DetS.no
    · obtain ⟨fr, hp, ids⟩ := st
      rcases h2 : fr g with s | cs | vs
      · cases s <;> simp only [vcG2, h1, h2] <;> first
          | exact DetS.no
          | exact det_skip n dst _
          | (rename_i b; cases b <;> cases want <;> first | exact hr _ | exact det_skip n dst _)
          | (cases want <;> first
              | exact DetS.ite (hr _) (det_skip n dst _)
              | exact DetS.ite2 (hr _) (det_skip n dst _))
      · simp only [vcG2, h1, h2]; exact DetS.no
      · simp only [vcG2, h1, h2]; exact DetS.no

theorem det_ops (E : Env) (all : List Oper) : ∀ (l : List Oper) (st : St), DetS (fun K => vcOps E all K l st)
  | [], st => DetS.at_ st
  | ⟨dst, op, ty, pos, after, guard⟩ :: r, st => DetS.comp (F := fun K => vcG2 E.n all guard dst (vcOp E dst op) K st) (det_g2 (fun st => det_op E dst op st) st) (fun st => det_ops E all r st)

theorem det_opsK (E : Env) (all : List Oper) : ∀ (l : List Oper) (kn : List (Nat × Bool)) (fps : List Fp) (st : St), DetS (fun K => vcOpsK E all K l kn fps st)
  | [], _, _, st => DetS.at_ st
  | ⟨_, _, _, _, _, _⟩ :: _, _, [], _ => DetS.no
  | ⟨dst, op, ty, pos, after, guard⟩ :: r, kn, fp :: fps, st => by
    have run : ∀ kn', DetS (fun K => vcOpF E fp dst op (vcOpsK E all K r kn' fps) st) := fun kn' => DetS.comp (F := fun K => vcOpF E fp dst op K st) (det_opF E fp dst op st) (fun st => det_opsK E all r kn' fps st)
    have skip : ∀ kn', DetS (fun K => skipK E.n dst (vcOpsK E all K r kn' fps) st) := fun kn' => DetS.comp (F := fun K => skipK E.n dst K st) (det_skip E.n dst st) (fun st => det_opsK E all r kn' fps st)
    simp only [vcOpsK_cons]
    rcases guard with _ | ⟨j, want⟩
    · exact run _
    · rcases h1 : gslot all j with _ | g
      · simp only [h1]; exact DetS.no
      · rcases h2 : st.fr g with s | cs | vs
        · cases s <;> simp only [h1, h2] <;> first
            | exact DetS.no
            | exact skip _
            | (rename_i b; cases b <;> cases want <;> first | exact run _ | exact skip _)
            | (rcases h3 : lookB g kn with _ | v
               · cases want <;> simp only <;> first
                  | exact DetS.ite (run _) (skip _)
                  | exact DetS.ite2 (run _) (skip _)
               · cases v <;> cases want <;> simp only <;> first
                  | exact run _
                  | exact skip _)
        · simp only [h1, h2]; exact DetS.no
        · simp only [h1, h2]; exact DetS.no

theorem DetX.no : DetX (fun _ => False) := fun _ h => h.elim
theorem DetX.ofS {F : (St → Prop) → Prop} (e : Exit) (h : DetS F) : DetX (fun K => F (K e)) := fun K hk => by
  obtain ⟨s, h1, f⟩ := h _ hk
  exact ⟨e, s, h1, fun K' hk => f _ hk⟩
theorem DetX.ite {b : Bool} {A B : (Exit → St → Prop) → Prop} (hA : DetX A) (hB : DetX B) : DetX (fun K => (b = true → A K) ∧ (b = false → B K)) := fun K h => by
  cases b
  · obtain ⟨e, s, h1, f⟩ := hB K (h.2 rfl)
    exact ⟨e, s, h1, fun K' hk => ⟨fun e => (by cases e), fun _ => f K' hk⟩⟩
  · obtain ⟨e, s, h1, f⟩ := hA K (h.1 rfl)
    exact ⟨e, s, h1, fun K' hk => ⟨fun _ => f K' hk, fun e => (by cases e)⟩⟩

theorem det_loop {E : Env} {c : Code} (ih : ∀ st, DetX (fun K => vc E c K st)) (st : St) : DetX (fun K => vc E (.loop c) K st) := by
  intro K h
  simp only [vc_loop] at h ⊢
  obtain ⟨α, H, Φ, μ, ⟨x0, hx0, hf0⟩, hr⟩ := h
  -- the heads that the run goes through, and where it ends
  have key : ∀ n x, μ x ≤ n → Φ x → ∃ e s, K e s ∧ ∃ S : α → Prop, S x ∧ ∀ y, S y → ∃ e1 s1, (∀ K'' : Exit → St → Prop, K'' e1 s1 → vc E c K'' ((H y).st (dsts c) st)) ∧
      ((e1 = .normal ∧ ∃ y', S y' ∧ μ y' < μ y ∧ (H y').fits (dsts c) st s1) ∨ (e1 ≠ .normal ∧ e1 = e ∧ s1 = s)) := by
    intro n
    induction n with
    | zero =>
      intro x hn hx
      obtain ⟨e1, s1, hk, f⟩ := ih _ _ (hr x hx)
      by_cases he : e1 = .normal
      · subst he
        obtain ⟨x', _, hlt, _⟩ := hk
        omega
      · refine ⟨e1, s1, ?_, fun y => y = x, rfl, fun y hy => ?_⟩
        · cases e1 <;> first | exact hk | exact (he rfl).elim
        · subst hy
          exact ⟨e1, s1, f, .inr ⟨he, rfl, rfl⟩⟩
    | succ n ihn =>
      intro x hn hx
      obtain ⟨e1, s1, hk, f⟩ := ih _ _ (hr x hx)
      by_cases he : e1 = .normal
      · subst he
        obtain ⟨x', hx', hlt, hf⟩ := hk
        obtain ⟨e, s, hke, S, hS, hall⟩ := ihn x' (by omega) hx'
        refine ⟨e, s, hke, fun y => y = x ∨ S y, .inl rfl, fun y hy => ?_⟩
        rcases hy with rfl | hy
        · exact ⟨.normal, s1, f, .inl ⟨rfl, x', .inr hS, hlt, hf⟩⟩
        · obtain ⟨e2, s2, f2, h2⟩ := hall y hy
          refine ⟨e2, s2, f2, ?_⟩
          rcases h2 with ⟨h3, y', hy', hm, hft⟩ | h2
          · exact .inl ⟨h3, y', .inr hy', hm, hft⟩
          · exact .inr h2
      · refine ⟨e1, s1, ?_, fun y => y = x, rfl, fun y hy => ?_⟩
        · cases e1 <;> first | exact hk | exact (he rfl).elim
        · subst hy
          exact ⟨e1, s1, f, .inr ⟨he, rfl, rfl⟩⟩
  obtain ⟨e, s, hke, S, hS, hall⟩ := key (μ x0) x0 (Nat.le_refl _) hx0
  refine ⟨e, s, hke, fun K' hk' => ⟨α, H, S, μ, ⟨x0, hS, hf0⟩, fun y hy => ?_⟩⟩
  obtain ⟨e1, s1, f1, h1⟩ := hall y hy
  refine f1 _ ?_
  rcases h1 with ⟨rfl, h1⟩ | ⟨hne, rfl, rfl⟩
  · exact h1
  · cases e1 <;> first | exact hk' | exact (hne rfl).elim

theorem det_vc (E : Env) : ∀ (c : Code) (st : St), DetX (fun K => vc E c K st) := by
  intro c
  induction c with
  | skip => intro st K h; exact ⟨.normal, st, h, fun K' hk => hk⟩
  | seq x y ihx ihy =>
    intro st K h
    obtain ⟨e1, s1, h1, f1⟩ := ihx st _ h
    cases e1 with
    | normal =>
      obtain ⟨e2, s2, h2, f2⟩ := ihy s1 _ h1
      exact ⟨e2, s2, h2, fun K' hk => f1 _ (f2 K' hk)⟩
    | _ => exact ⟨_, s1, h1, fun K' hk => f1 _ hk⟩
  | region id ops draw =>
    intro st
    cases draw with
    | false => exact DetX.ofS .normal (det_ops E ops.toList ops.toList st)
    | true =>
      intro K h
      simp only [vc_draw] at h ⊢
      obtain ⟨hc, h⟩ := h
      obtain ⟨s, h1, f⟩ := det_opsK E ops.toList ops.toList _ _ st _ h
      exact ⟨.normal, s, h1, fun K' hk => ⟨hc, f _ hk⟩⟩
  | cond c x y ihx ihy =>
    intro st
    simp only [vc_cond]
    rcases h2 : ev st.fr c with s | cs | vs
    · cases s <;> (try simp only) <;> first
        | exact DetX.no
        | exact DetX.ite (ihx st) (ihy st)
        | (rename_i b; cases b <;> first | exact ihx st | exact ihy st)
    · exact DetX.no
    · exact DetX.no
  | block id c ih =>
    intro st K h
    simp only [vc_block] at h ⊢
    obtain ⟨e1, s1, h1, f1⟩ := ih st _ h
    cases e1 with
    | exit i =>
      simp only [exitK] at h1
      rcases hb : Nat.beq i id with _ | _
      · rw [hb] at h1
        exact ⟨.exit i, s1, h1, fun K' hk => f1 _ (by simp only [exitK, hb]; exact hk)⟩
      · rw [hb] at h1
        exact ⟨.normal, s1, h1, fun K' hk => f1 _ (by simp only [exitK, hb]; exact hk)⟩
    | _ => exact ⟨_, s1, h1, fun K' hk => f1 _ hk⟩
  | loop c ih => exact fun st => det_loop ih st
  | exit i => intro st K h; exact ⟨.exit i, st, h, fun K' hk => hk⟩
  | ret => intro st K h; exact ⟨.ret, st, h, fun K' hk => hk⟩
  | _ => intros; exact fun K h => h.elim

theorem putS_at : ∀ (vs : List SV) (fr : Nat → SV) (i : Nat), ∃ fr', ∀ K : (Nat → SV) → Prop, putS fr i vs K = K fr'
  | [], fr, i => ⟨fr, fun _ => rfl⟩
  | v :: r, fr, i => putS_at r (upd fr i v) (i + 1)

theorem initK_at (f : Nat) (ks : List AK) (x : AKs ks) : ∃ st, ∀ K : St → Prop, initK f ks x K = K st := by
  unfold initK
  rcases parsOf 0 ks x with ⟨vs, us⟩
  obtain ⟨fr', h⟩ := putS_at (packS f vs) (fun _ => .sc .und) 0
  exact ⟨⟨fr', updAll (fun _ => none) us, updI (fun _ => false) us⟩, fun K => by simp only [h, force_u, putU_eq]⟩

def finS (E : Env) (rv : List ResultVar) (ks : List AK) (rs : List RK) (Q : RKs rs → AKo ks → Prop) : Exit → St → Prop
  | .normal, st => ∃ res out, Q res out ∧ endK E rv ks rs res out st
  | .ret, st => ∃ res out, Q res out ∧ endK E rv ks rs res out st
  | _, _ => False

/-- A run that ends with some results. -/
def vcSome (T : Nat → Option Ty) (Γ : List Sig) (fn : Func) (f : Nat) (ks : List AK) (rs : List RK) (x : AKs ks) (Q : RKs rs → AKo ks → Prop) : Prop :=
  match fn.body with
  | some c => initK f ks x (vc ⟨T, Γ, fn.ntmps, closOf 0 ks x, none⟩ c (finS ⟨T, Γ, fn.ntmps, closOf 0 ks x, none⟩ fn.results.toList ks rs Q))
  | none => False

theorem vcSome_ok {T : Nat → Option Ty} {Γ : List Sig} {fn : Func} {f : Nat} {ks : List AK} {rs : List RK} {x : AKs ks} {Q : RKs rs → AKo ks → Prop} (h : vcSome T Γ fn f ks rs x Q) :
    ∃ res out, Q res out ∧ ∀ pre, vcFnW none T Γ fn ⟨f, ks, rs, fun _ => ⟨pre, res, out⟩⟩ x := by
  unfold vcSome at h
  split at h
  · rename_i c hb
    obtain ⟨st, hi⟩ := initK_at f ks x
    rw [hi] at h
    obtain ⟨e, s, hk, f⟩ := det_vc _ c st _ h
    have : ∃ res out, Q res out ∧ finK ⟨T, Γ, fn.ntmps, closOf 0 ks x, none⟩ fn.results.toList ks rs res out e s := by
      cases e <;> first | exact hk | exact hk.elim
    obtain ⟨res, out, hq, hk⟩ := this
    refine ⟨res, out, hq, fun pre => ?_⟩
    unfold vcFnW
    rw [hb]
    simp only
    rw [hi]
    exact f _ hk
  · exact h.elim

def RKs.dflt : (rs : List RK) → RKs rs
  | [] => ()
  | .val k :: r => (k.dflt, RKs.dflt r)
  | .skip :: r => ((), RKs.dflt r)
  | .list _ _ :: r => ([], RKs.dflt r)
  | .lift _ _ :: r => ([], RKs.dflt r)
  | .part _ :: r => ([], RKs.dflt r)
def AKo.dflt : (ks : List AK) → AKo ks
  | [] => ()
  | .cell _ k :: r => (k.dflt, AKo.dflt r)
  | .mrow _ _ :: r => ([], AKo.dflt r)
  | .mlift _ _ :: r => ([], AKo.dflt r)
  | .val _ :: r => AKo.dflt r
  | .list _ :: r => AKo.dflt r
  | .lift _ :: r => AKo.dflt r
  | .lcell _ _ :: r => AKo.dflt r
  | .own _ _ :: r => AKo.dflt r
  | .clo _ :: r => AKo.dflt r
  | .cmp _ :: r => AKo.dflt r

theorem vcFnW_congr {wd : Option Nat} {T : Nat → Option Ty} {Γ : List Sig} {fn : Func} {f : Nat} {ks : List AK} {rs : List RK} {eff eff' : AKs ks → Eff ks rs} {x : AKs ks} (h : eff x = eff' x) (hv : vcFnW wd T Γ fn ⟨f, ks, rs, eff⟩ x) : vcFnW wd T Γ fn ⟨f, ks, rs, eff'⟩ x := by
  unfold vcFnW at *
  dsimp only at *
  rw [← h]
  rcases hb : fn.body with _ | c
  · rw [hb] at hv; exact hv
  · rw [hb] at hv
    rcases he : eff x with ⟨a, b, d⟩
    rw [he] at hv
    exact hv

/-- **A function's results, named behind its run.** -/
theorem fn_some {P : Program} {l : List (Nat × Ty)} (ht : tabB P (tabT l) l = true) (hm : P.follows .mixedOrders = true) {Γ : List Sig} (hΓ : Known P Γ) {f : Nat} {ks : List AK} {rs : List RK} {fn : Func} (hks : ks.length ≤ 50000) (hf : P.funcs[f]? = some fn)
    {pre : AKs ks → List Prop} {Q : AKs ks → RKs rs → AKo ks → Prop} (hv : ∀ x, lenOk ks x → andL (pre x) → vcSome (tabT l) Γ fn f ks rs x (Q x)) :
    ∃ (R : AKs ks → RKs rs) (O : AKs ks → AKo ks), (∀ x, lenOk ks x → andL (pre x) → Q x (R x) (O x)) ∧ GSpec P ⟨f, ks, rs, fun x => ⟨pre x, R x, O x⟩⟩ := by
  have h : ∀ x, ∃ p : RKs rs × AKo ks, lenOk ks x → andL (pre x) → Q x p.1 p.2 ∧ ∀ pr, vcFnW none (tabT l) Γ fn ⟨f, ks, rs, fun _ => ⟨pr, p.1, p.2⟩⟩ x := by
    intro x
    by_cases hc : lenOk ks x ∧ andL (pre x)
    · obtain ⟨res, out, hq, hw⟩ := vcSome_ok (hv x hc.1 hc.2)
      exact ⟨(res, out), fun _ _ => ⟨hq, hw⟩⟩
    · exact ⟨(RKs.dflt rs, AKo.dflt ks), fun h1 h2 => (hc ⟨h1, h2⟩).elim⟩
  refine ⟨fun x => (Classical.choose (h x)).1, fun x => (Classical.choose (h x)).2, fun x h1 h2 => (Classical.choose_spec (h x) h1 h2).1, ?_⟩
  refine fn_known ht hm hΓ (s := ⟨f, ks, rs, _⟩) hks hf fun x h1 h2 => ?_
  exact vcFnW_congr rfl ((Classical.choose_spec (h x) h1 h2).2 (pre x))
end Go.Vx
namespace Go.Vx
set_option linter.unusedSimpArgs false
set_option linter.unusedVariables false
open Go Go.RowKit

/-- The code does what the evaluator would say of it. -/
structure VJ (P : Program) (E : Env) (c : Code) (K : Exit → St → Prop) (st : St) : Prop where
  out : ∀ {X : Cx} {Q : Exit → Act → World → Prop} {a : Act} {w : World} {γ : Nat → Gh}, EnvOk P E X → X.n = E.n → P.follows .mixedOrders = true → Rel X st a w γ →
    (∀ e st' a' w' γ', Rel X st' a' w' γ' → Same (dsts c) st st' → K e st' → Q e a' w') → c.wp P Q a w

theorem VJ.of {P : Program} {E : Env} {c : Code} {K : Exit → St → Prop} {st : St} (h : vc E c K st) : VJ P E c K st := ⟨fun hE hX hm R hK => vc_ok hE hX hm c R h hK⟩

theorem same_l {x y : Code} {a b : St} (h : Same (dsts x) a b) : Same (dsts (x.seq y)) a b := fun j hj => h j fun hh => hj (by simp only [dsts, List.mem_append]; exact .inl hh)
theorem same_r {x y : Code} {a b : St} (h : Same (dsts y) a b) : Same (dsts (x.seq y)) a b := fun j hj => h j fun hh => hj (by simp only [dsts, List.mem_append]; exact .inr hh)

theorem VJ.seq {P : Program} {E : Env} {x y : Code} {K : Exit → St → Prop} {st : St} (h : vc E x (seqK (fun s => VJ P E y K s) K) st) : VJ P E (x.seq y) K st := ⟨fun hE hX hm R hK => by
  refine wp_seq (vc_ok hE hX hm x R h fun e st' a' w' γ' R' hS hk => ?_)
  cases e with
  | normal => exact hk.out hE hX hm R' fun e st2 a2 w2 γ2 R2 hS2 hk2 => hK _ _ _ _ _ R2 ((same_l hS).trans (same_r hS2) (fun _ h => h) (fun _ h => h)) hk2
  | _ => exact hK _ _ _ _ _ R' (same_l hS) hk⟩

/-- **A cut behind the first piece.** -/
theorem VJ.cut {P : Program} {E : Env} {x y : Code} {K : Exit → St → Prop} {st : St} (H : Head) (h : vc E x (seqK (fun s => H.fits (dsts x) st s) K) st) (h2 : VJ P E y K (H.st (dsts x) st)) : VJ P E (x.seq y) K st := ⟨fun hE hX hm R hK => by
  have hW0 : ∀ j, ∀ i ∈ idsSV (st.fr j), st.ids i = true := fun j => denV_refs (R.fr j)
  have hfr : Same (dsts x) st (H.st (dsts x) st) := fun j hj => by
    show (match elemB j (dsts x) with | true => _ | false => st.fr j) = st.fr j
    rw [elemB_false.2 hj]
  refine wp_seq (vc_ok hE hX hm x R h fun e st' a' w' γ' R' hS hk => ?_)
  cases e with
  | normal =>
    obtain ⟨γ2, R2⟩ := fits_ok hk hS (fun i hi => (R.base i hi).1) hW0 R'
    exact h2.out hE hX hm R2 fun e st2 a2 w2 γ3 R3 hS2 hk2 => hK _ _ _ _ _ R3 ((same_l hfr).trans (same_r hS2) (fun _ h => h) (fun _ h => h)) hk2
  | _ => exact hK _ _ _ _ _ R' (same_l hS) hk⟩

/-- The first n pieces are run, then the rest is left. -/
def vcU (P : Program) (E : Env) (n : Nat) (c : Code) (K : Exit → St → Prop) (st : St) : Prop :=
  Nat.rec (motive := fun _ => Code → St → Prop) (fun c st => VJ P E c K st)
    (fun _ ih c st => match c with
      | .seq x y => vc E x (seqK (fun s => ih y s) K) st
      | _ => False) n c st
theorem VJ.upto {P : Program} {E : Env} (n : Nat) : ∀ {c : Code} {K : Exit → St → Prop} {st : St}, vcU P E n c K st → VJ P E c K st := by
  induction n with
  | zero => intro c K st h; exact h
  | succ n ih =>
    intro c K st h
    cases c with
    | seq x y =>
      have h : vc E x (seqK (fun s => vcU P E n y K s) K) st := h
      refine ⟨fun hE hX hm R hK => ?_⟩
      refine wp_seq (vc_ok hE hX hm x R h fun e st' a' w' γ' R' hS hk => ?_)
      cases e with
      | normal => exact (ih hk).out hE hX hm R' fun e st2 a2 w2 γ2 R2 hS2 hk2 => hK _ _ _ _ _ R2 ((same_l hS).trans (same_r hS2) (fun _ h => h) (fun _ h => h)) hk2
      | _ => exact hK _ _ _ _ _ R' (same_l hS) hk
    | _ => exact h.elim

def vcFnJ (P : Program) (wd : Option Nat) (T : Nat → Option Ty) (Γ : List Sig) (fn : Func) (s : Sig) (x : AKs s.ks) : Prop :=
  match fn.body, s.eff x with
  | some c, ⟨_, res, out⟩ => initK s.f s.ks x (VJ P ⟨T, Γ, fn.ntmps, closOf 0 s.ks x, wd⟩ c (finK ⟨T, Γ, fn.ntmps, closOf 0 s.ks x, wd⟩ fn.results.toList s.ks s.rs res out))
  | none, _ => False

section
variable {P : Program} {E : Env} {X : Cx} {st : St} {a : Act} {w : World} {γ : Nat → Gh}

/-- **A function keeps its contract**, where its code may be cut. -/
theorem fn_okJ {wd : Option Nat} {T : Nat → Option Ty} {Γ : List Sig} {s : Sig} {fn : Func} (hT : ∀ t ty, T t = some ty → TyOk P T t ty) (hΓ : ∀ s ∈ Γ, GSpec P s ∧ FnOk P s.f) (hm : P.follows .mixedOrders = true) (hks : s.ks.length ≤ 50000) (hf : P.funcs[s.f]? = some fn)
    (hv : ∀ x, lenOk s.ks x → andL (s.eff x).pre → vcFnJ P wd T Γ fn s x) : GSpec P s := by
  intro x vs w rb cb ob hargs hraw hnd hrb hpre
  obtain ⟨γ, hp, hlen, hid, hcells⟩ := pars_ok (P := P) (i := 0) (by omega) hargs hnd
  have h := hv x hlen hpre
  unfold vcFnJ at h
  split at h
  · rename_i c pre res out hb heff
    rw [heff]
    simp only
    unfold initK at h
    split at h
    rename_i svs us hpars
    rw [hpars] at hp hid hcells
    simp only at hp hid hcells
    obtain ⟨fr, h1, _, h3, h4⟩ := putS_get _ _ _ _ h
    rw [force_u, putU_eq] at h1
    have hin : ∀ u ∈ us, updI (fun _ => false) us u.id = true := fun u hu => updI_true.2 (.inr (List.mem_map_of_mem hu))
    obtain ⟨hden, hobs⟩ := hp.den (updI (fun _ => false) us) γ fun u hu => ⟨hin u hu, rfl⟩
    have hden0 := hden
    replace hden := pack_den (f := s.f) hden
    have hl := denVs_length hden
    have hob : ∀ i o, updAll (fun _ => none) us i = some o → ∃ u ∈ us, u.id = i ∧ u.ob = some o := fun i o ho => by
      rcases updAll_mem ho with h | h
      · cases h
      · exact h
    let X : Cx := ⟨w, fun b => b ∈ cb ∨ b ∈ ob, fn.ntmps, updI (fun _ => false) us, γ, rb.filter fun b => decide (b < w.heap.size)⟩
    have hE : EnvOk P ⟨T, Γ, fn.ntmps, closOf 0 s.ks x, wd⟩ X := by
      refine ⟨hT, fun s hs => (hΓ s hs).1, fun s hs => (hΓ s hs).2, fun id e he => ?_, fun b hb => ?_, (rawsTab hraw).to fun b hb hlt => ⟨List.mem_filter.2 ⟨hb, by simpa using hlt⟩, hlt, rfl⟩⟩
      · by_cases hnr : e.isRaw = true
        · cases e with
          | raw r =>
            refine ⟨fun h => (by cases h), ?_⟩
            obtain ⟨aa, c, q1, q2, q3, q4⟩ := closRaw_ok hraw he
            exact ⟨aa, c, q1, q2, q3, fun hp => by obtain ⟨ad, p1, p2, p3, p4⟩ := q4 hp; exact ⟨ad, p1, List.mem_filter.2 ⟨p2, by simpa using p3⟩, p3, p4⟩⟩
          | _ => cases hnr
        have hnr : e.isRaw = false := by simpa using hnr
        obtain ⟨j, v, e1, e2, e3, e4⟩ := clos_ok (i := 0) hargs id e hnr he
        rw [hpars] at e4
        obtain ⟨u, hu, hd⟩ := denVs_get hden0 e4
        rw [e2] at hu
        cases hu
        obtain ⟨hi, hv⟩ := hd
        refine ⟨fun _ => hi, ?_⟩
        show CloF P X e (γ id).v
        rw [← hv]
        cases e with
        | cmp k D p => exact e3
        | raw r => cases hnr
        | clo k D p =>
          obtain ⟨f, caps, q1, q2, q3⟩ := e3
          refine ⟨f, caps, q1, q2, fun w' hw' => q3 w' ⟨hw'.1, fun b hb hlt => hw'.2 b (List.mem_filter.2 ⟨hb, by simpa using hlt⟩) hlt⟩⟩
      · obtain ⟨h1, h2⟩ := List.mem_filter.1 hb
        refine ⟨by simpa using h2, fun h => ?_⟩
        exact hrb b (List.mem_append.2 h) h1
    have R : Rel X ⟨fr, updAll (fun _ => none) us, updI (fun _ => false) us⟩ { tmps := (packA s.f vs).toArray ++ Array.replicate (fn.ntmps - (packA s.f vs).toArray.size) undef, defers := [] } w γ := by
      refine ⟨fun j => ?_, ?_, rfl, ?_, ?_, ?_, ?_, Kept.refl _ _, fun i hi => ⟨hi, rfl⟩⟩
      · rw [Array.getD_eq_getD_getElem?, Array.getElem?_append]
        by_cases hj : j < (packA s.f vs).length
        · obtain ⟨sv, hsv⟩ : ∃ sv, (packS s.f svs)[j]? = some sv := ⟨(packS s.f svs)[j]'(by omega), List.getElem?_eq_getElem (by omega)⟩
          obtain ⟨u, hu, hd⟩ := denVs_get hden hsv
          have hfj := h4 j sv hsv
          rw [Nat.zero_add] at hfj
          simp only [List.size_toArray, hj, if_true, List.getElem?_toArray, hu, Option.getD_some]
          show denV _ _ (fr j) u
          rw [hfj]
          exact hd
        · have hfj := h3 j (by omega)
          simp only [List.size_toArray, hj, if_false]
          show denV _ _ (fr j) _
          rw [hfj]
          show _ = undef
          rw [Array.getElem?_replicate]
          split <;> rfl
      · show fn.ntmps ≤ _
        simp only [Array.size_append, Array.size_replicate, List.size_toArray]
        omega
      · intro i o ho
        obtain ⟨u, hu, rfl, huo⟩ := hob i o ho
        exact hobs u hu o huo
      · intro i o ho
        obtain ⟨u, hu, rfl, huo⟩ := hob i o ho
        exact hin u hu
      · intro i j o p b ho hpp hb1 hb2
        obtain ⟨u, hu, rfl, huo⟩ := hob i o ho
        obtain ⟨u2, hu2, rfl, huo2⟩ := hob j p hpp
        cases hw1 : o.wr <;> cases hw2 : p.wr
        · exact .inr ⟨rfl, rfl⟩
        · exact (hrb b (hp.wr u2 hu2 p b huo2 hw2 hb2) (hp.rd u hu o b huo hw1 hb1)).elim
        · exact (hrb b (hp.wr u hu o b huo hw1 hb1) (hp.rd u2 hu2 p b huo2 hw2 hb2)).elim
        · exact .inl (hp.sep u hu u2 hu2 o p b huo huo2 hw1 hw2 hb1 hb2)
      · intro i o b ho hw hb1
        obtain ⟨u, hu, rfl, huo⟩ := hob i o ho
        exact .inr (by simpa using hp.wr u hu o b huo hw hb1)
    refine calls_of_wp hf hb (h1.out hE rfl hm R fun e st' a' w' γ' R' _ hk => ?_)
    have fin : endK ⟨T, Γ, fn.ntmps, closOf 0 s.ks x, wd⟩ fn.results.toList s.ks s.rs res out st' → a'.defers = [] ∧ ∃ v, (results fn a'.tmps).run P w' = .ok v w' ∧
        ∃ us l, Ending.returned v = .returned (packV us) ∧ RessOk w' s.rs res us l ∧ l.Nodup ∧ (∀ b ∈ l, w.heap.size ≤ b ∨ b ∈ ob) ∧ OutsOk w' s.ks vs out cb ∧ Kept (fun b => b ∈ cb ∨ b ∈ ob) w w' := by
      intro hk
      unfold endK at hk
      split at hk
      · rename_i rvs hrv
        obtain ⟨us', hrun, hd'⟩ := results_ok hE R' hrv
        obtain ⟨l, hl1, hl2, hl3⟩ := ressAre_ok R' hk hd'
        split at hl1
        · rename_i hdist
          have hcells' := hcells γ' fun u hu => (R'.base u.id (hin u hu)).2
          obtain ⟨ho1, ho2⟩ := outsAre_ok R' hl1 hcells'
          refine ⟨R'.df, _, hrun, us', _, rfl, hl3, blks_nodup R' (List.nodup_append.1 (distB_true hdist)).1 (fun i hi => by obtain ⟨o, q1, q2, _⟩ := hl2 i hi; exact ⟨o, q1, q2⟩), fun b hb => ?_, ho1, R'.kept⟩
          obtain ⟨i, hi, hbi⟩ := List.mem_filterMap.1 hb
          obtain ⟨o, q1, q2, q3⟩ := hl2 i hi
          rcases R'.lo i o b q1 q2 hbi with h | h | h
          · exact .inl h
          · obtain ⟨j, p, hj, hpw, hbj, hjc⟩ := ho2 b h
            rcases R'.sep i j o _ b q1 hj hbi hbj with e | ⟨e, _⟩
            · subst e
              rw [q1] at hj
              cases hj
              rcases hjc with ⟨t, cs, e⟩ | hjc
              · exact (q3 t cs e).elim
              · exact ((List.nodup_append.1 (distB_true hdist)).2.2 _ hi _ hjc rfl).elim
            · rw [q2] at e; cases e
          · exact .inr h
        · exact hl1.elim
      · exact hk.elim
    cases e with
    | normal => exact fin hk
    | ret => exact fin hk
    | _ => exact hk.elim
  · exact h.elim

end

theorem fn_knownJ (wd : Option Nat) {P : Program} {l : List (Nat × Ty)} (ht : tabB P (tabT l) l = true) (hm : P.follows .mixedOrders = true) {Γ : List Sig} (hΓ : Known P Γ) {s : Sig} {fn : Func} (hks : s.ks.length ≤ 50000) (hf : P.funcs[s.f]? = some fn)
    (hv : ∀ x, lenOk s.ks x → andL (s.eff x).pre → vcFnJ P wd (tabT l) Γ fn s x) : GSpec P s :=
  fn_okJ (wd := wd) (T := tabT l) (Γ := Γ) (fun t ty h => tabB_ok ht t ty h) (fun s hs => hΓ.sig s hs) hm hks hf hv
end Go.Vx
namespace Go.Vx
open Go

def inB (n lo hi : Int) : Bool := decide (lo ≤ n ∧ n ≤ hi)
/-- by a choice, so that no one computes it -/
noncomputable def goodRt (r : Rt) : Bool := @decide (1 ≤ r.den ∧ r.den ≤ 1000000000 ∧ -1000000000 ≤ r.num ∧ r.num ≤ 1000000000 ∧ (Int.gcd r.num r.den : Int) = 1) (Classical.propDecidable _)
def sgn (n : Int) : Int := if n < 0 then -1 else if 0 < n then 1 else 0
def cmpRt (a b : Rt) : Int := sgn (a.num * b.den - b.num * a.den)
def lessRt (a b : Rt) : Bool := decide (a.num * b.den < b.num * a.den)
def gsgn (n d : Int) : Int := if d < 0 then -(Int.gcd n d : Int) else (Int.gcd n d : Int)
noncomputable def lowRt (n d : Int) : Rt × Bool := match goodRt ⟨n.tdiv (gsgn n d), d.tdiv (gsgn n d)⟩ with
  | true => (⟨n.tdiv (gsgn n d), d.tdiv (gsgn n d)⟩, true)
  | false => (⟨0, 0⟩, false)

theorem gcd_tmod (p q : Int) : Int.gcd q (p.tmod q) = Int.gcd p q := by
  rw [Int.gcd_comm p q, Int.tmod_def, Int.gcd_sub_mul_left_right]
theorem goodRt_iff {r : Rt} : goodRt r = true ↔ (1 ≤ r.den ∧ r.den ≤ 1000000000 ∧ -1000000000 ≤ r.num ∧ r.num ≤ 1000000000 ∧ (Int.gcd r.num r.den : Int) = 1) := by
  simp [goodRt]

theorem mul_bd {a b A B : Int} (h1 : -A ≤ a) (h2 : a ≤ A) (h3 : -B ≤ b) (h4 : b ≤ B) (hA : 0 ≤ A) : -(A * B) ≤ a * b ∧ a * b ≤ A * B := by
  have hB : 0 ≤ B := by omega
  have h5 : (a.natAbs : Int) ≤ A := by omega
  have h6 : (b.natAbs : Int) ≤ B := by omega
  have h7 : ((a * b).natAbs : Int) ≤ A * B := by
    rw [Int.natAbs_mul]
    push_cast
    exact Int.mul_le_mul h5 h6 (by omega) hA
  omega

theorem ratmul {a b : Rt} (ha : goodRt a = true) (hb : goodRt b = true) : -1000000000000000000 ≤ a.num * b.den ∧ a.num * b.den ≤ 1000000000000000000 := by
  rw [goodRt_iff] at ha hb
  have := mul_bd (A := 1000000000) (B := 1000000000) (a := a.num) (b := b.den) (by omega) (by omega) (by omega) (by omega) (by omega)
  simpa using this
theorem denmul {a b : Rt} (ha : goodRt a = true) (hb : goodRt b = true) : 0 < a.den * b.den ∧ a.den * b.den ≤ 1000000000000000000 := by
  rw [goodRt_iff] at ha hb
  have := mul_bd (A := 1000000000) (B := 1000000000) (a := a.den) (b := b.den) (by omega) (by omega) (by omega) (by omega) (by omega)
  have := Int.mul_pos (a := a.den) (b := b.den) (by omega) (by omega)
  omega
theorem nummul {a b : Rt} (ha : goodRt a = true) (hb : goodRt b = true) : -1000000000000000000 ≤ a.num * b.num ∧ a.num * b.num ≤ 1000000000000000000 := by
  rw [goodRt_iff] at ha hb
  have := mul_bd (A := 1000000000) (B := 1000000000) (a := a.num) (b := b.num) (by omega) (by omega) (by omega) (by omega) (by omega)
  simpa using this
end Go.Vx
namespace Go.Vx
open Go
set_option maxRecDepth 100000
set_option linter.unusedSimpArgs false
set_option linter.unusedVariables false

/-- the seed behind a draw, and what is drawn -/
@[irreducible] def nextB (c : Cur) : Int := if c.at_ < (c.r.bs.length : Int) then c.r.bs.getD c.at_.toNat 0 else 0
@[irreducible] def nextSd (c : Cur) : Int := IntKind.u64.wrap (IntKind.u64.wrap (IntKind.u64.wrap (c.sd * 6364136223846793005) + nextB c) + 1442695040888963407)
@[irreducible] def nextV (c : Cur) : Int := if c.at_ < (c.r.bs.length : Int) then nextB c else Go.RowKit.wrap64 (bits BinOp.and IntKind.u64 (nextSd c / 1099511627776) 255)
@[irreducible] def nextS (c : Cur) : Cur := ⟨c.r, c.at_ + 1, nextSd c⟩
theorem nextS_r (c : Cur) : (nextS c).r = c.r := by unfold nextS; rfl
theorem nextS_eq (c : Cur) : nextS c = ⟨c.r, c.at_ + 1, nextSd c⟩ := by unfold nextS; rfl
theorem getD_mem {α : Type} {l : List α} {d : α} {p : α → Prop} (h : ∀ x ∈ l, p x) (hd : p d) (i : Nat) : p (l.getD i d) := by
  rw [List.getD_eq_getElem?_getD]
  rcases Nat.lt_or_ge i l.length with h1 | h1
  · rw [List.getElem?_eq_getElem h1]; exact h _ (List.getElem_mem h1)
  · rw [List.getElem?_eq_none h1]; exact hd
theorem nextV_rng (c : Cur) : 0 ≤ nextV c ∧ nextV c ≤ 255 := by
  unfold nextV
  split
  · unfold nextB
    split
    · exact getD_mem (p := fun (b : Int) => 0 ≤ b ∧ b ≤ 255) c.r.hb ⟨by omega, by omega⟩ _
    · omega
  · have h0 : 0 ≤ nextSd c ∧ nextSd c < 18446744073709551616 := by unfold nextSd; simp only [IntKind.wrap, IntKind.bits, IntKind.signed]; simp; omega
    obtain ⟨n, hn⟩ : ∃ n : Nat, nextSd c / 1099511627776 = n := ⟨(nextSd c / 1099511627776).toNat, by omega⟩
    rw [hn]
    obtain ⟨m, hm, e⟩ : ∃ m : Nat, m ≤ 255 ∧ bits BinOp.and IntKind.u64 (n : Int) 255 = m := by
      have hle : (BitVec.ofInt 64 (n : Int) &&& BitVec.ofInt 64 255).toNat ≤ 255 := by
        rw [BitVec.toNat_and]
        exact Nat.le_trans Nat.and_le_right (by decide)
      refine ⟨_, hle, ?_⟩
      have : bits BinOp.and IntKind.u64 (n : Int) 255 = IntKind.u64.wrap ((BitVec.ofInt 64 (n : Int) &&& BitVec.ofInt 64 255).toNat : Int) := rfl
      rw [this]
      generalize (BitVec.ofInt 64 (n : Int) &&& BitVec.ofInt 64 255).toNat = q at hle
      simp only [IntKind.wrap, IntKind.bits, IntKind.signed]
      simp
      omega
    rw [e]
    unfold Go.RowKit.wrap64
    omega

@[irreducible] def pickV (c : Cur) (n : Int) : Int := if n ≤ 1 then 0 else if 200 < n then (nextV c * 256 + nextV (nextS c)).tmod n else (nextV c).tmod n
@[irreducible] def pickS (c : Cur) (n : Int) : Cur := if n ≤ 1 then c else if 200 < n then nextS (nextS c) else nextS c
theorem pickS_r (c : Cur) (n : Int) : (pickS c n).r = c.r := by
  unfold pickS
  split
  · rfl
  · split
    · rw [nextS_r, nextS_r]
    · rw [nextS_r]
theorem pickV_1 {c : Cur} {n : Int} (h : n ≤ 1) : pickV c n = 0 := by unfold pickV; rw [if_pos h]
theorem pickV_2 {c : Cur} {n : Int} (h : ¬ n ≤ 1) (h2 : 200 < n) : pickV c n = (nextV c * 256 + nextV (nextS c)).tmod n := by unfold pickV; rw [if_neg h, if_pos h2]
theorem pickV_3 {c : Cur} {n : Int} (h : ¬ n ≤ 1) (h2 : ¬ 200 < n) : pickV c n = (nextV c).tmod n := by unfold pickV; rw [if_neg h, if_neg h2]
theorem pickS_1 {c : Cur} {n : Int} (h : n ≤ 1) : pickS c n = c := by unfold pickS; rw [if_pos h]
theorem pickS_2 {c : Cur} {n : Int} (h : ¬ n ≤ 1) (h2 : 200 < n) : pickS c n = nextS (nextS c) := by unfold pickS; rw [if_neg h, if_pos h2]
theorem pickS_3 {c : Cur} {n : Int} (h : ¬ n ≤ 1) (h2 : ¬ 200 < n) : pickS c n = nextS c := by unfold pickS; rw [if_neg h, if_neg h2]
theorem pickV_rng (c : Cur) (n : Int) : 0 ≤ pickV c n ∧ (pickV c n < n ∨ pickV c n = 0) := by
  have h1 := nextV_rng c
  have h2 := nextV_rng (nextS c)
  unfold pickV
  split
  · omega
  · split
    · exact ⟨Int.tmod_nonneg _ (by omega), .inl (Int.tmod_lt_of_pos _ (by omega))⟩
    · exact ⟨Int.tmod_nonneg _ (by omega), .inl (Int.tmod_lt_of_pos _ (by omega))⟩
theorem pickV_lt (c : Cur) {n : Int} (h : 1 ≤ n) : 0 ≤ pickV c n ∧ pickV c n < n := by
  have := pickV_rng c n
  omega

theorem cur_eta (c : Cur) : (⟨c.r, c.at_, c.sd⟩ : Cur) = c := rfl
/-- m draws are left -/
structure AtOk (m : Nat) (c : Cur) : Prop where
  lo : 0 ≤ c.at_
  hi : c.at_ + (m : Int) ≤ 4611686018427387904
theorem AtOk.le {m k : Nat} {c : Cur} (h : AtOk m c) (hk : k ≤ m) : AtOk k c := ⟨h.lo, by have := h.hi; omega⟩
theorem next_at {m : Nat} {c : Cur} (h : AtOk (m + 1) c) : AtOk m (nextS c) := by
  rw [nextS_eq]
  exact ⟨by have := h.lo; show 0 ≤ c.at_ + 1; omega, by have := h.hi; show c.at_ + 1 + (m : Int) ≤ _; omega⟩
theorem pick_at {m : Nat} {c : Cur} {n : Int} (h : AtOk (m + 2) c) : AtOk m (pickS c n) := by
  unfold pickS
  split
  · exact h.le (by omega)
  · split
    · exact next_at (next_at h)
    · exact (next_at h).le (by omega)
/-- an element of a list -/
@[irreducible] def amongV (c : Cur) (l : List Int) : Int := getA 0 l (pickV c l.length).toNat
theorem getA_all {α : Type} {d : α} {p : α → Prop} : ∀ {l : List α} {i : Nat}, (∀ x ∈ l, p x) → i < l.length → p (getA d l i)
  | x :: r, 0, h, _ => h x List.mem_cons_self
  | x :: r, i + 1, h, hi => getA_all (l := r) (i := i) (fun y hy => h y (List.mem_cons_of_mem _ hy)) (by simpa using hi)
  | [], _, _, hi => by simp at hi
theorem among_all {c : Cur} {l : List Int} {p : Int → Prop} (h : ∀ x ∈ l, p x) (hl : 1 ≤ l.length) : p (amongV c l) := by
  have := pickV_lt c (n := (l.length : Int)) (by omega)
  unfold amongV
  exact getA_all h (by omega)

@[irreducible] noncomputable def ordV (c : Cur) : Int := amongV (pickS c 2) [1, 2, 3, 5, 8, 13, 20, amongV c [0, 21]]
@[irreducible] def ordS (c : Cur) : Cur := pickS (pickS c 2) 8
theorem ordS_eq (c : Cur) : ordS c = pickS (pickS c 2) 8 := by unfold ordS; rfl
theorem ordS_r (c : Cur) : (ordS c).r = c.r := by rw [ordS_eq, pickS_r, pickS_r]
theorem ord_at {m : Nat} {c : Cur} (h : AtOk (m + 4) c) : AtOk m (ordS c) := by rw [ordS_eq]; exact pick_at (pick_at h)

@[irreducible] noncomputable def uniD (c : Cur) : Int := amongV (pickS c 60) [1, 2, 3, 4, 5, 7, 8, 12, 16, 1 + pickV c 60]
def uniS1 (c : Cur) : Cur := pickS (pickS c 60) 10
theorem uniS1_r (c : Cur) : (uniS1 c).r = c.r := by unfold uniS1; rw [pickS_r, pickS_r]
@[irreducible] noncomputable def uniV (c : Cur) : Rt := (lowRt (pickV (uniS1 c) (uniD c + 1)) (uniD c)).1
@[irreducible] noncomputable def uniS (c : Cur) : Cur := pickS (uniS1 c) (uniD c + 1)
theorem uniS_eq (c : Cur) : uniS c = pickS (uniS1 c) (uniD c + 1) := by unfold uniS; rfl
theorem uniS_r (c : Cur) : (uniS c).r = c.r := by rw [uniS_eq]; unfold uniS1; rw [pickS_r, pickS_r, pickS_r]
theorem uni_at {m : Nat} {c : Cur} (h : AtOk (m + 6) c) : AtOk m (uniS c) := by rw [uniS_eq]; exact pick_at (pick_at (pick_at h))
theorem uniD_rng (c : Cur) : 1 ≤ uniD c ∧ uniD c ≤ 60 := by
  have := pickV_lt c (n := 60) (by omega)
  unfold uniD
  refine among_all (p := fun x => 1 ≤ x ∧ x ≤ 60) (fun x hx => ?_) (by simp)
  simp only [List.mem_cons, List.not_mem_nil, or_false] at hx
  omega

@[irreducible] noncomputable def griV (c : Cur) (n : Int) : Rt := (lowRt (pickV c (n + 1)) n).1

@[irreducible] noncomputable def ratN (c : Cur) : Int := amongV (pickS (pickS c 41) 2001) [0, 1, 2, 3, -1, -5, pickV c 41 - 20, pickV (pickS c 41) 2001 - 1000, 1000000000, -1000000000]
def ratS1 (c : Cur) : Cur := pickS (pickS (pickS c 41) 2001) 10
theorem ratS1_r (c : Cur) : (ratS1 c).r = c.r := by unfold ratS1; simp only [pickS_r]
@[irreducible] noncomputable def ratE (c : Cur) : Int := amongV (pickS (pickS (ratS1 c) 20) 1000) [1, 2, 3, 4, 8, 7, 1 + pickV (ratS1 c) 20, 1 + pickV (pickS (ratS1 c) 20) 1000, 1000000000, 999999999]
@[irreducible] noncomputable def ratW (c : Cur) : Rt := bif (lowRt (ratN c) (ratE c)).2 then (lowRt (ratN c) (ratE c)).1 else ⟨1, 1⟩
theorem ratW_t {c : Cur} (h : (lowRt (ratN c) (ratE c)).2 = true) : ratW c = (lowRt (ratN c) (ratE c)).1 := by unfold ratW; rw [h]; rfl
theorem ratW_f {c : Cur} (h : (lowRt (ratN c) (ratE c)).2 = false) : ratW c = ⟨1, 1⟩ := by unfold ratW; rw [h]; rfl
@[irreducible] def ratS (c : Cur) : Cur := pickS (pickS (pickS (ratS1 c) 20) 1000) 10
theorem ratS_eq (c : Cur) : ratS c = pickS (pickS (pickS (ratS1 c) 20) 1000) 10 := by unfold ratS; rfl
theorem ratS_r (c : Cur) : (ratS c).r = c.r := by rw [ratS_eq]; unfold ratS1; simp only [pickS_r]
theorem rat_at {m : Nat} {c : Cur} (h : AtOk (m + 12) c) : AtOk m (ratS c) := by rw [ratS_eq]; exact pick_at (pick_at (pick_at (pick_at (pick_at (pick_at h)))))
theorem ratN_rng (c : Cur) : -1000000000 ≤ ratN c ∧ ratN c ≤ 1000000000 := by
  have h1 := pickV_lt c (n := 41) (by omega)
  have h2 := pickV_lt (pickS c 41) (n := 2001) (by omega)
  unfold ratN
  refine among_all (p := fun x => -1000000000 ≤ x ∧ x ≤ 1000000000) (fun x hx => ?_) (by simp)
  simp only [List.mem_cons, List.not_mem_nil, or_false] at hx
  omega
theorem ratE_rng (c : Cur) : 1 ≤ ratE c ∧ ratE c ≤ 1000000000 := by
  have h1 := pickV_lt (ratS1 c) (n := 20) (by omega)
  have h2 := pickV_lt (pickS (ratS1 c) 20) (n := 1000) (by omega)
  unfold ratE
  refine among_all (p := fun x => 1 ≤ x ∧ x ≤ 1000000000) (fun x hx => ?_) (by simp)
  simp only [List.mem_cons, List.not_mem_nil, or_false] at hx
  omega

/-- which way 'anyRat' goes -/
def anyS1 (c : Cur) : Cur := pickS (ratS c) 40
@[irreducible] noncomputable def anyV (c : Cur) : Rt :=
  if pickV (ratS c) 40 = 0 then ⟨(ratW c).num, amongV (anyS1 c) [0, -1, 1000000001]⟩
  else if pickV (ratS c) 40 = 1 then ⟨amongV (anyS1 c) [1000000001, -1000000001, -9223372036854775808], (ratW c).den⟩
  else if pickV (ratS c) 40 = 2 then ⟨amongV (anyS1 c) [2, 0, -4], amongV (pickS (anyS1 c) 3) [2, 4, 6]⟩
  else ratW c
@[irreducible] def anyS (c : Cur) : Cur :=
  if pickV (ratS c) 40 = 0 then pickS (anyS1 c) 3 else if pickV (ratS c) 40 = 1 then pickS (anyS1 c) 3
  else if pickV (ratS c) 40 = 2 then pickS (pickS (anyS1 c) 3) 3 else anyS1 c
theorem anyS1_r (c : Cur) : (anyS1 c).r = c.r := by unfold anyS1; rw [pickS_r, ratS_r]
theorem anyS_r (c : Cur) : (anyS c).r = c.r := by
  unfold anyS
  split
  · rw [pickS_r, anyS1_r]
  · split
    · rw [pickS_r, anyS1_r]
    · split
      · rw [pickS_r, pickS_r, anyS1_r]
      · rw [anyS1_r]
theorem any_at {m : Nat} {c : Cur} (h : AtOk (m + 18) c) : AtOk m (anyS c) := by
  unfold anyS anyS1
  have h4 : AtOk (m + 4) (pickS (ratS c) 40) := pick_at (rat_at h)
  split
  · exact (pick_at h4).le (by omega)
  · split
    · exact (pick_at h4).le (by omega)
    · split
      · exact pick_at (pick_at h4)
      · exact h4.le (by omega)
theorem any_0 {c : Cur} (h : pickV (ratS c) 40 = 0) : anyV c = ⟨(ratW c).num, amongV (anyS1 c) [0, -1, 1000000001]⟩ ∧ anyS c = pickS (anyS1 c) 3 := by unfold anyV anyS; rw [if_pos h, if_pos h]; exact ⟨rfl, rfl⟩
theorem any_1 {c : Cur} (h : pickV (ratS c) 40 = 1) : anyV c = ⟨amongV (anyS1 c) [1000000001, -1000000001, -9223372036854775808], (ratW c).den⟩ ∧ anyS c = pickS (anyS1 c) 3 := by
  have h0 : ¬ pickV (ratS c) 40 = 0 := by omega
  unfold anyV anyS; rw [if_neg h0, if_neg h0, if_pos h, if_pos h]; exact ⟨rfl, rfl⟩
theorem any_2 {c : Cur} (h : pickV (ratS c) 40 = 2) : anyV c = ⟨amongV (anyS1 c) [2, 0, -4], amongV (pickS (anyS1 c) 3) [2, 4, 6]⟩ ∧ anyS c = pickS (pickS (anyS1 c) 3) 3 := by
  have h0 : ¬ pickV (ratS c) 40 = 0 := by omega
  have h1 : ¬ pickV (ratS c) 40 = 1 := by omega
  unfold anyV anyS; rw [if_neg h0, if_neg h0, if_neg h1, if_neg h1, if_pos h, if_pos h]; exact ⟨rfl, rfl⟩
theorem any_3 {c : Cur} (h0 : ¬ pickV (ratS c) 40 = 0) (h1 : ¬ pickV (ratS c) 40 = 1) (h2 : ¬ pickV (ratS c) 40 = 2) : anyV c = ratW c ∧ anyS c = anyS1 c := by
  unfold anyV anyS; rw [if_neg h0, if_neg h0, if_neg h1, if_neg h1, if_neg h2, if_neg h2]; exact ⟨rfl, rfl⟩
end Go.Vx
namespace Go.Vx
open Go Go.Proofs
def ratTy : Ty := ⟨2, 16, true, [.num .i64 0, .num .i64 0], [(0,1),(1,1)], none, some .rat⟩
def ptTy : Ty := ⟨4, 32, true, [.num .i64 0, .num .i64 0, .num .i64 0, .num .i64 0], [(0,2),(2,2)], none, some .pt⟩
def ivTy : Ty := ⟨4, 32, true, [.num .i64 0, .num .i64 0, .num .i64 0, .num .i64 0], [(0,2),(2,2)], none, some .iv⟩
def TL : List (Nat × Ty) := [
  (26, ratTy),
 (47, ratTy),
 (42, ⟨1, 24, false, [.nil], [], some (26, .rat), none⟩),
 (130, ⟨1, 24, false, [.nil], [], some (3, .num .i64), none⟩),
 (85, ⟨1, 1, true, [.lit false], [(0,1)], none, none⟩),
 (49, ivTy),
 (28, ivTy),
 (110, ptTy),
 (107, ptTy),
 (24, ⟨1, 24, false, [.nil], [], some (107, .pt), none⟩),
 (33, ⟨1, 24, false, [.nil], [], some (28, .iv), none⟩),
 (46, ⟨1, 24, false, [.nil], [], some (110, .pt), none⟩),
 (91, ⟨1, 8, false, [.num .u64 0], [], none, some (.num .u64)⟩),
 (22, ⟨1, 24, false, [.nil], [], some (5, .num .u8), none⟩),
 (93, ⟨3, 40, true, [.nil, .num .i64 0, .num .u64 0], [(0,1),(1,1),(2,1)], none, none⟩),
 (5, ⟨1, 1, false, [.num .u8 0], [], none, some (.num .u8)⟩),
 (9, ⟨1, 16, false, [.str ByteArray.empty], [], none, some .str⟩),
  (3, ⟨1, 8, false, [.num .i64 0], [], none, some (.num .i64)⟩),
  (4, ⟨1, 1, false, [.lit false], [], none, some .bool⟩)]
theorem tab_ok : tabB Tryz.prog (tabT TL) TL = true := by kernel_rfl
theorem fol : Tryz.prog.follows .mixedOrders = true := by kernel_rfl
end Go.Vx
