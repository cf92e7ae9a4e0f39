/- The evaluator's run is determined: its continuation is asked at one end alone; so the results of a function may be named behind its run. -/
import Derived.Test.YtalgocopemmelaaGreatDoorVxTypes
namespace Go.Vx
set_option linter.unusedSimpArgs false
set_option linter.unusedVariables false
open Go Go.RowKit

def DetS (F : (St → Prop) → Prop) : Prop := ∀ K, F K → ∃ st, K st ∧ ∀ K' : St → Prop, K' st → F K'
def DetX (F : (Exit → St → Prop) → Prop) : Prop := ∀ K, F K → ∃ e st, K e st ∧ ∀ K' : Exit → St → Prop, K' e st → F K'

theorem DetS.comp {F : (St → Prop) → Prop} {G : St → (St → Prop) → Prop} (hF : DetS F) (hG : ∀ st, DetS (G st)) : DetS (fun K => F fun st => G st K) := fun K h => by
  obtain ⟨s1, h1, f1⟩ := hF _ h
  obtain ⟨s2, h2, f2⟩ := hG s1 K h1
  exact ⟨s2, h2, fun K' hk => f1 _ (f2 K' hk)⟩
theorem DetS.no : DetS (fun _ => False) := fun _ h => h.elim
theorem DetS.at_ (st : St) : DetS (fun K => K st) := fun _ h => ⟨st, h, fun _ hk => hk⟩
theorem DetS.ite {b : Bool} {A B : (St → Prop) → Prop} (hA : DetS A) (hB : DetS B) : DetS (fun K => (b = true → A K) ∧ (b = false → B K)) := fun K h => by
  cases b
  · obtain ⟨s, h1, f⟩ := hB K (h.2 rfl)
    exact ⟨s, h1, fun K' hk => ⟨fun e => (by cases e), fun _ => f K' hk⟩⟩
  · obtain ⟨s, h1, f⟩ := hA K (h.1 rfl)
    exact ⟨s, h1, fun K' hk => ⟨fun _ => f K' hk, fun e => (by cases e)⟩⟩
theorem DetS.ite2 {b : Bool} {A B : (St → Prop) → Prop} (hA : DetS A) (hB : DetS B) : DetS (fun K => (b = false → A K) ∧ (b = true → B K)) := fun K h => by
  obtain ⟨s, h1, f⟩ := DetS.ite (b := b) hB hA K ⟨h.2, h.1⟩
  exact ⟨s, h1, fun K' hk => ⟨(f K' hk).2, (f K' hk).1⟩⟩

theorem andAll_mk : ∀ {ps : List Prop} {q : Prop}, andL ps → q → andAll ps q
  | [], _, _, h => h
  | _ :: _, _, hp, h => ⟨⟨hp.1⟩, andAll_mk hp.2 h⟩

theorem det_put (ps : List Prop) (v : SV) (us : List Up) (st : St) (dst : Option Nat) : DetS (fun K => andAll ps (v.force fun v => forceU us fun us => putK st dst v us K)) := by
  intro K h
  simp only [force_v, force_u, putK_eq] at h ⊢
  obtain ⟨h1, h2⟩ := andAll_spec h
  exact ⟨_, h2, fun K' hk => andAll_mk h1 hk⟩

theorem det_op (E : Env) (dst : Option Nat) (op : Op) (st : St) : DetS (fun K => vcOp E dst op K st) := by
  rcases h1 : dstOk E.n dst with _ | _ <;> rcases h2 : act E dst (ev st.fr) st.hp op with _ | ⟨ps, v, us⟩ <;> simp only [vcOp, h1, h2] <;> first
    | exact DetS.no
    | (rcases h3 : (okUps st.ids us && distB (us.map (·.id))) with _ | _ <;> simp only [h3] <;> first
        | exact DetS.no
        | exact det_put ps v us st dst)

theorem det_opF (E : Env) (fp : Fp) (dst : Option Nat) (op : Op) (st : St) : DetS (fun K => vcOpF E fp dst op K st) := by
  rcases h1 : dstOk E.n dst with _ | _ <;> rcases h2 : act E dst (ev st.fr) (restrict st.hp (fp.r ++ fp.w)) op with _ | ⟨ps, v, us⟩ <;> simp only [vcOpF, h1, h2] <;> first
    | exact DetS.no
    | (rcases h3 : (okUps st.ids us && distB (us.map (·.id))) with _ | _ <;> rcases h4 : subB (us.map (·.id)) fp.w with _ | _ <;> simp only [h3, h4] <;> first
        | exact DetS.no
        | exact det_put ps v us st dst)

theorem det_skip (n : Nat) (dst : Option Nat) (st : St) : DetS (fun K => skipK n dst K st) := by
  rcases h1 : dstOk n dst with _ | _ <;> simp only [skipK, h1]
  · exact DetS.no
  · simp only [putK_eq]
    exact DetS.at_ _

theorem det_g2 {n : Nat} {all : List Oper} {guard : Option (Nat × Bool)} {dst : Option Nat} {run : (St → Prop) → St → Prop} (hr : ∀ st, DetS (fun K => run K st)) (st : St) : DetS (fun K => vcG2 n all guard dst run K st) := by
  rcases guard with _ | ⟨j, want⟩
  · exact hr st
  · rcases h1 : gslot all j with _ | g
    · simp only [vcG2, h1]; exact DetS.no
    · obtain ⟨fr, hp, ids⟩ := st
      rcases h2 : fr g with s | cs | vs
      · cases s <;> simp only [vcG2, h1, h2] <;> first
          | exact DetS.no
          | exact det_skip n dst _
          | (rename_i b; cases b <;> cases want <;> first | exact hr _ | exact det_skip n dst _)
          | (cases want <;> first
              | exact DetS.ite (hr _) (det_skip n dst _)
              | exact DetS.ite2 (hr _) (det_skip n dst _))
      · simp only [vcG2, h1, h2]; exact DetS.no
      · simp only [vcG2, h1, h2]; exact DetS.no

theorem det_ops (E : Env) (all : List Oper) : ∀ (l : List Oper) (st : St), DetS (fun K => vcOps E all K l st)
  | [], st => DetS.at_ st
  | ⟨dst, op, ty, pos, after, guard⟩ :: r, st => DetS.comp (F := fun K => vcG2 E.n all guard dst (vcOp E dst op) K st) (det_g2 (fun st => det_op E dst op st) st) (fun st => det_ops E all r st)

theorem det_opsK (E : Env) (all : List Oper) : ∀ (l : List Oper) (kn : List (Nat × Bool)) (fps : List Fp) (st : St), DetS (fun K => vcOpsK E all K l kn fps st)
  | [], _, _, st => DetS.at_ st
  | ⟨_, _, _, _, _, _⟩ :: _, _, [], _ => DetS.no
  | ⟨dst, op, ty, pos, after, guard⟩ :: r, kn, fp :: fps, st => by
    have run : ∀ kn', DetS (fun K => vcOpF E fp dst op (vcOpsK E all K r kn' fps) st) := fun kn' => DetS.comp (F := fun K => vcOpF E fp dst op K st) (det_opF E fp dst op st) (fun st => det_opsK E all r kn' fps st)
    have skip : ∀ kn', DetS (fun K => skipK E.n dst (vcOpsK E all K r kn' fps) st) := fun kn' => DetS.comp (F := fun K => skipK E.n dst K st) (det_skip E.n dst st) (fun st => det_opsK E all r kn' fps st)
    simp only [vcOpsK_cons]
    rcases guard with _ | ⟨j, want⟩
    · exact run _
    · rcases h1 : gslot all j with _ | g
      · simp only [h1]; exact DetS.no
      · rcases h2 : st.fr g with s | cs | vs
        · cases s <;> simp only [h1, h2] <;> first
            | exact DetS.no
            | exact skip _
            | (rename_i b; cases b <;> cases want <;> first | exact run _ | exact skip _)
            | (rcases h3 : lookB g kn with _ | v
               · cases want <;> simp only <;> first
                  | exact DetS.ite (run _) (skip _)
                  | exact DetS.ite2 (run _) (skip _)
               · cases v <;> cases want <;> simp only <;> first
                  | exact run _
                  | exact skip _)
        · simp only [h1, h2]; exact DetS.no
        · simp only [h1, h2]; exact DetS.no

theorem DetX.no : DetX (fun _ => False) := fun _ h => h.elim
theorem DetX.ofS {F : (St → Prop) → Prop} (e : Exit) (h : DetS F) : DetX (fun K => F (K e)) := fun K hk => by
  obtain ⟨s, h1, f⟩ := h _ hk
  exact ⟨e, s, h1, fun K' hk => f _ hk⟩
theorem DetX.ite {b : Bool} {A B : (Exit → St → Prop) → Prop} (hA : DetX A) (hB : DetX B) : DetX (fun K => (b = true → A K) ∧ (b = false → B K)) := fun K h => by
  cases b
  · obtain ⟨e, s, h1, f⟩ := hB K (h.2 rfl)
    exact ⟨e, s, h1, fun K' hk => ⟨fun e => (by cases e), fun _ => f K' hk⟩⟩
  · obtain ⟨e, s, h1, f⟩ := hA K (h.1 rfl)
    exact ⟨e, s, h1, fun K' hk => ⟨fun _ => f K' hk, fun e => (by cases e)⟩⟩

theorem det_loop {E : Env} {c : Code} (ih : ∀ st, DetX (fun K => vc E c K st)) (st : St) : DetX (fun K => vc E (.loop c) K st) := by
  intro K h
  simp only [vc_loop] at h ⊢
  obtain ⟨α, H, Φ, μ, ⟨x0, hx0, hf0⟩, hr⟩ := h
  -- the heads that the run goes through, and where it ends
  have key : ∀ n x, μ x ≤ n → Φ x → ∃ e s, K e s ∧ ∃ S : α → Prop, S x ∧ ∀ y, S y → ∃ e1 s1, (∀ K'' : Exit → St → Prop, K'' e1 s1 → vc E c K'' ((H y).st (dsts c) st)) ∧
      ((e1 = .normal ∧ ∃ y', S y' ∧ μ y' < μ y ∧ (H y').fits (dsts c) st s1) ∨ (e1 ≠ .normal ∧ e1 = e ∧ s1 = s)) := by
    intro n
    induction n with
    | zero =>
      intro x hn hx
      obtain ⟨e1, s1, hk, f⟩ := ih _ _ (hr x hx)
      by_cases he : e1 = .normal
      · subst he
        obtain ⟨x', _, hlt, _⟩ := hk
        omega
      · refine ⟨e1, s1, ?_, fun y => y = x, rfl, fun y hy => ?_⟩
        · cases e1 <;> first | exact hk | exact (he rfl).elim
        · subst hy
          exact ⟨e1, s1, f, .inr ⟨he, rfl, rfl⟩⟩
    | succ n ihn =>
      intro x hn hx
      obtain ⟨e1, s1, hk, f⟩ := ih _ _ (hr x hx)
      by_cases he : e1 = .normal
      · subst he
        obtain ⟨x', hx', hlt, hf⟩ := hk
        obtain ⟨e, s, hke, S, hS, hall⟩ := ihn x' (by omega) hx'
        refine ⟨e, s, hke, fun y => y = x ∨ S y, .inl rfl, fun y hy => ?_⟩
        rcases hy with rfl | hy
        · exact ⟨.normal, s1, f, .inl ⟨rfl, x', .inr hS, hlt, hf⟩⟩
        · obtain ⟨e2, s2, f2, h2⟩ := hall y hy
          refine ⟨e2, s2, f2, ?_⟩
          rcases h2 with ⟨h3, y', hy', hm, hft⟩ | h2
          · exact .inl ⟨h3, y', .inr hy', hm, hft⟩
          · exact .inr h2
      · refine ⟨e1, s1, ?_, fun y => y = x, rfl, fun y hy => ?_⟩
        · cases e1 <;> first | exact hk | exact (he rfl).elim
        · subst hy
          exact ⟨e1, s1, f, .inr ⟨he, rfl, rfl⟩⟩
  obtain ⟨e, s, hke, S, hS, hall⟩ := key (μ x0) x0 (Nat.le_refl _) hx0
  refine ⟨e, s, hke, fun K' hk' => ⟨α, H, S, μ, ⟨x0, hS, hf0⟩, fun y hy => ?_⟩⟩
  obtain ⟨e1, s1, f1, h1⟩ := hall y hy
  refine f1 _ ?_
  rcases h1 with ⟨rfl, h1⟩ | ⟨hne, rfl, rfl⟩
  · exact h1
  · cases e1 <;> first | exact hk' | exact (hne rfl).elim

theorem det_vc (E : Env) : ∀ (c : Code) (st : St), DetX (fun K => vc E c K st) := by
  intro c
  induction c with
  | skip => intro st K h; exact ⟨.normal, st, h, fun K' hk => hk⟩
  | seq x y ihx ihy =>
    intro st K h
    obtain ⟨e1, s1, h1, f1⟩ := ihx st _ h
    cases e1 with
    | normal =>
      obtain ⟨e2, s2, h2, f2⟩ := ihy s1 _ h1
      exact ⟨e2, s2, h2, fun K' hk => f1 _ (f2 K' hk)⟩
    | _ => exact ⟨_, s1, h1, fun K' hk => f1 _ hk⟩
  | region id ops draw =>
    intro st
    cases draw with
    | false => exact DetX.ofS .normal (det_ops E ops.toList ops.toList st)
    | true =>
      intro K h
      simp only [vc_draw] at h ⊢
      obtain ⟨hc, h⟩ := h
      obtain ⟨s, h1, f⟩ := det_opsK E ops.toList ops.toList _ _ st _ h
      exact ⟨.normal, s, h1, fun K' hk => ⟨hc, f _ hk⟩⟩
  | cond c x y ihx ihy =>
    intro st
    simp only [vc_cond]
    rcases h2 : ev st.fr c with s | cs | vs
    · cases s <;> (try simp only) <;> first
        | exact DetX.no
        | exact DetX.ite (ihx st) (ihy st)
        | (rename_i b; cases b <;> first | exact ihx st | exact ihy st)
    · exact DetX.no
    · exact DetX.no
  | block id c ih =>
    intro st K h
    simp only [vc_block] at h ⊢
    obtain ⟨e1, s1, h1, f1⟩ := ih st _ h
    cases e1 with
    | exit i =>
      simp only [exitK] at h1
      rcases hb : Nat.beq i id with _ | _
      · rw [hb] at h1
        exact ⟨.exit i, s1, h1, fun K' hk => f1 _ (by simp only [exitK, hb]; exact hk)⟩
      · rw [hb] at h1
        exact ⟨.normal, s1, h1, fun K' hk => f1 _ (by simp only [exitK, hb]; exact hk)⟩
    | _ => exact ⟨_, s1, h1, fun K' hk => f1 _ hk⟩
  | loop c ih => exact fun st => det_loop ih st
  | exit i => intro st K h; exact ⟨.exit i, st, h, fun K' hk => hk⟩
  | ret => intro st K h; exact ⟨.ret, st, h, fun K' hk => hk⟩
  | _ => intros; exact fun K h => h.elim

theorem putS_at : ∀ (vs : List SV) (fr : Nat → SV) (i : Nat), ∃ fr', ∀ K : (Nat → SV) → Prop, putS fr i vs K = K fr'
  | [], fr, i => ⟨fr, fun _ => rfl⟩
  | v :: r, fr, i => putS_at r (upd fr i v) (i + 1)

theorem initK_at (ks : List AK) (x : AKs ks) : ∃ st, ∀ K : St → Prop, initK ks x K = K st := by
  unfold initK
  rcases parsOf 0 ks x with ⟨vs, us⟩
  obtain ⟨fr', h⟩ := putS_at vs (fun _ => .sc .und) 0
  exact ⟨⟨fr', updAll (fun _ => none) us, updI (fun _ => false) us⟩, fun K => by simp only [h, force_u, putU_eq]⟩

def finS (E : Env) (rv : List ResultVar) (ks : List AK) (rs : List RK) (Q : RKs rs → AKo ks → Prop) : Exit → St → Prop
  | .normal, st => ∃ res out, Q res out ∧ endK E rv ks rs res out st
  | .ret, st => ∃ res out, Q res out ∧ endK E rv ks rs res out st
  | _, _ => False

/-- A run that ends with some results. -/
def vcSome (T : Nat → Option Ty) (Γ : List Sig) (fn : Func) (ks : List AK) (rs : List RK) (x : AKs ks) (Q : RKs rs → AKo ks → Prop) : Prop :=
  match fn.body with
  | some c => initK ks x (vc ⟨T, Γ, fn.ntmps, closOf 0 ks x, none⟩ c (finS ⟨T, Γ, fn.ntmps, closOf 0 ks x, none⟩ fn.results.toList ks rs Q))
  | none => False

theorem vcSome_ok {T : Nat → Option Ty} {Γ : List Sig} {fn : Func} {ks : List AK} {rs : List RK} {x : AKs ks} {Q : RKs rs → AKo ks → Prop} (h : vcSome T Γ fn ks rs x Q) :
    ∃ res out, Q res out ∧ ∀ f pre, vcFnW none T Γ fn ⟨f, ks, rs, fun _ => ⟨pre, res, out⟩⟩ x := by
  unfold vcSome at h
  split at h
  · rename_i c hb
    obtain ⟨st, hi⟩ := initK_at ks x
    rw [hi] at h
    obtain ⟨e, s, hk, f⟩ := det_vc _ c st _ h
    have : ∃ res out, Q res out ∧ finK ⟨T, Γ, fn.ntmps, closOf 0 ks x, none⟩ fn.results.toList ks rs res out e s := by
      cases e <;> first | exact hk | exact hk.elim
    obtain ⟨res, out, hq, hk⟩ := this
    refine ⟨res, out, hq, fun g pre => ?_⟩
    unfold vcFnW
    rw [hb]
    simp only
    rw [hi]
    exact f _ hk
  · exact h.elim

def RKs.dflt : (rs : List RK) → RKs rs
  | [] => ()
  | .val k :: r => (k.dflt, RKs.dflt r)
  | .list _ _ :: r => ([], RKs.dflt r)
  | .lift _ _ :: r => ([], RKs.dflt r)
def AKo.dflt : (ks : List AK) → AKo ks
  | [] => ()
  | .cell _ k :: r => (k.dflt, AKo.dflt r)
  | .mrow _ _ :: r => ([], AKo.dflt r)
  | .mlift _ _ :: r => ([], AKo.dflt r)
  | .val _ :: r => AKo.dflt r
  | .list _ :: r => AKo.dflt r
  | .lift _ :: r => AKo.dflt r
  | .lcell _ _ :: r => AKo.dflt r
  | .own _ _ :: r => AKo.dflt r
  | .clo _ :: r => AKo.dflt r
  | .cmp _ :: r => AKo.dflt r

theorem vcFnW_congr {wd : Option Nat} {T : Nat → Option Ty} {Γ : List Sig} {fn : Func} {f : Nat} {ks : List AK} {rs : List RK} {eff eff' : AKs ks → Eff ks rs} {x : AKs ks} (h : eff x = eff' x) (hv : vcFnW wd T Γ fn ⟨f, ks, rs, eff⟩ x) : vcFnW wd T Γ fn ⟨f, ks, rs, eff'⟩ x := by
  unfold vcFnW at *
  dsimp only at *
  rw [← h]
  rcases hb : fn.body with _ | c
  · rw [hb] at hv; exact hv
  · rw [hb] at hv
    rcases he : eff x with ⟨a, b, d⟩
    rw [he] at hv
    exact hv

/-- **A function's results, named behind its run.** -/
theorem fn_some {P : Program} {l : List (Nat × Ty)} (ht : tabB P (tabT l) l = true) (hm : P.follows .mixedOrders = true) {Γ : List Sig} (hΓ : Known P Γ) {f : Nat} {ks : List AK} {rs : List RK} {fn : Func} (hks : ks.length ≤ 50000) (hf : P.funcs[f]? = some fn)
    {pre : AKs ks → List Prop} {Q : AKs ks → RKs rs → AKo ks → Prop} (hv : ∀ x, lenOk ks x → andL (pre x) → vcSome (tabT l) Γ fn ks rs x (Q x)) :
    ∃ (R : AKs ks → RKs rs) (O : AKs ks → AKo ks), (∀ x, lenOk ks x → andL (pre x) → Q x (R x) (O x)) ∧ GSpec P ⟨f, ks, rs, fun x => ⟨pre x, R x, O x⟩⟩ := by
  have h : ∀ x, ∃ p : RKs rs × AKo ks, lenOk ks x → andL (pre x) → Q x p.1 p.2 ∧ ∀ g pr, vcFnW none (tabT l) Γ fn ⟨g, ks, rs, fun _ => ⟨pr, p.1, p.2⟩⟩ x := by
    intro x
    by_cases hc : lenOk ks x ∧ andL (pre x)
    · obtain ⟨res, out, hq, hw⟩ := vcSome_ok (hv x hc.1 hc.2)
      exact ⟨(res, out), fun _ _ => ⟨hq, hw⟩⟩
    · exact ⟨(RKs.dflt rs, AKo.dflt ks), fun h1 h2 => (hc ⟨h1, h2⟩).elim⟩
  refine ⟨fun x => (Classical.choose (h x)).1, fun x => (Classical.choose (h x)).2, fun x h1 h2 => (Classical.choose_spec (h x) h1 h2).1, ?_⟩
  refine fn_known ht hm hΓ (s := ⟨f, ks, rs, _⟩) hks hf fun x h1 h2 => ?_
  exact vcFnW_congr rfl ((Classical.choose_spec (h x) h1 h2).2 f (pre x))
end Go.Vx
