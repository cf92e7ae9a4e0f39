/- Continued fractions, in plain arithmetic. -/
import Derived.Test.YtjiafbjoijffjaaGreatPk10
import Derived.Test.YtjiafbjoijffjaaGreatRows
namespace Go.Vx
set_option linter.unusedSimpArgs false
set_option linter.unusedVariables false
open Go Go.RowKit

def DetS (F : (St → Prop) → Prop) : Prop := ∀ K, F K → ∃ st, K st ∧ ∀ K' : St → Prop, K' st → F K'
def DetX (F : (Exit → St → Prop) → Prop) : Prop := ∀ K, F K → ∃ e st, K e st ∧ ∀ K' : Exit → St → Prop, K' e st → F K'

theorem DetS.comp {F : (St → Prop) → Prop} {G : St → (St → Prop) → Prop} (hF : DetS F) (hG : ∀ st, DetS (G st)) : DetS (fun K => F fun st => G st K) := fun K h => by
  obtain ⟨s1, h1, f1⟩ := hF _ h
  obtain ⟨s2, h2, f2⟩ := hG s1 K h1
  exact ⟨s2, h2, fun K' hk => f1 _ (f2 K' hk)⟩
theorem DetS.no : DetS (fun _ => False) := fun _ h => h.elim
theorem DetS.at_ (st : St) : DetS (fun K => K st) := fun _ h => ⟨st, h, fun _ hk => hk⟩
theorem DetS.ite {b : Bool} {A B : (St → Prop) → Prop} (hA : DetS A) (hB : DetS B) : DetS (fun K => (b = true → A K) ∧ (b = false → B K)) := fun K h => by
  cases b
  · obtain ⟨s, h1, f⟩ := hB K (h.2 rfl)
    exact ⟨s, h1, fun K' hk => ⟨fun e => (by cases e), fun _ => f K' hk⟩⟩
  · obtain ⟨s, h1, f⟩ := hA K (h.1 rfl)
    exact ⟨s, h1, fun K' hk => ⟨fun _ => f K' hk, fun e => (by cases e)⟩⟩
theorem DetS.ite2 {b : Bool} {A B : (St → Prop) → Prop} (hA : DetS A) (hB : DetS B) : DetS (fun K => (b = false → A K) ∧ (b = true → B K)) := fun K h => by
  obtain ⟨s, h1, f⟩ := DetS.ite (b := b) hB hA K ⟨h.2, h.1⟩
  exact ⟨s, h1, fun K' hk => ⟨(f K' hk).2, (f K' hk).1⟩⟩

theorem andAll_mk : ∀ {ps : List Prop} {q : Prop}, andL ps → q → andAll ps q
  | [], _, _, h => h
  | _ :: _, _, hp, h => ⟨⟨hp.1⟩, andAll_mk hp.2 h⟩

theorem det_put (ps : List Prop) (v : SV) (us : List Up) (st : St) (dst : Option Nat) : DetS (fun K => andAll ps (v.force fun v => forceU us fun us => putK st dst v us K)) := by
  intro K h
  simp only [force_v, force_u, putK_eq] at h ⊢
  obtain ⟨h1, h2⟩ := andAll_spec h
  exact ⟨_, h2, fun K' hk => andAll_mk h1 hk⟩

theorem det_op (E : Env) (dst : Option Nat) (op : Op) (st : St) : DetS (fun K => vcOp E dst op K st) := by
  rcases h1 : dstOk E.n dst with _ | _ <;> rcases h2 : act E dst (ev st.fr) st.hp op with _ | ⟨ps, v, us⟩ <;> simp only [vcOp, h1, h2] <;> first
    | exact DetS.no
    | (rcases h3 : (okUps st.ids us && distB (us.map (·.id))) with _ | _ <;> simp only [h3] <;> first
        | exact DetS.no
        | exact det_put ps v us st dst)

theorem det_opF (E : Env) (fp : Fp) (dst : Option Nat) (op : Op) (st : St) : DetS (fun K => vcOpF E fp dst op K st) := by
  rcases h1 : dstOk E.n dst with _ | _ <;> rcases h2 : act E dst (ev st.fr) (restrict st.hp (fp.r ++ fp.w)) op with _ | ⟨ps, v, us⟩ <;> simp only [vcOpF, h1, h2] <;> first
    | exact DetS.no
    | (rcases h3 : (okUps st.ids us && distB (us.map (·.id))) with _ | _ <;> rcases h4 : subB (us.map (·.id)) fp.w with _ | _ <;> simp only [h3, h4] <;> first
        | exact DetS.no
        | exact det_put ps v us st dst)

theorem det_skip (n : Nat) (dst : Option Nat) (st : St) : DetS (fun K => skipK n dst K st) := by
  rcases h1 : dstOk n dst with _ | _ <;> simp only [skipK, h1]
  · exact DetS.no
  · simp only [putK_eq]
    exact DetS.at_ _

theorem det_g2 {n : Nat} {all : List Oper} {guard : Option (Nat × Bool)} {dst : Option Nat} {run : (St → Prop) → St → Prop} (hr : ∀ st, DetS (fun K => run K st)) (st : St) : DetS (fun K => vcG2 n all guard dst run K st) := by
  rcases guard with _ | ⟨j, want⟩
  · exact hr st
  · rcases h1 : gslot all j with _ | g
    · simp only [vcG2, h1]; exact DetS.no
    · obtain ⟨fr, hp, ids⟩ := st
      rcases h2 : fr g with s | cs | vs
      · cases s <;> simp only [vcG2, h1, h2] <;> first
          | exact DetS.no
          | exact det_skip n dst _
          | (rename_i b; cases b <;> cases want <;> first | exact hr _ | exact det_skip n dst _)
          | (cases want <;> first
              | exact DetS.ite (hr _) (det_skip n dst _)
              | exact DetS.ite2 (hr _) (det_skip n dst _))
      · simp only [vcG2, h1, h2]; exact DetS.no
      · simp only [vcG2, h1, h2]; exact DetS.no

theorem det_ops (E : Env) (all : List Oper) : ∀ (l : List Oper) (st : St), DetS (fun K => vcOps E all K l st)
  | [], st => DetS.at_ st
  | ⟨dst, op, ty, pos, after, guard⟩ :: r, st => DetS.comp (F := fun K => vcG2 E.n all guard dst (vcOp E dst op) K st) (det_g2 (fun st => det_op E dst op st) st) (fun st => det_ops E all r st)

theorem det_opsK (E : Env) (all : List Oper) : ∀ (l : List Oper) (kn : List (Nat × Bool)) (fps : List Fp) (st : St), DetS (fun K => vcOpsK E all K l kn fps st)
  | [], _, _, st => DetS.at_ st
  | ⟨_, _, _, _, _, _⟩ :: _, _, [], _ => DetS.no
  | ⟨dst, op, ty, pos, after, guard⟩ :: r, kn, fp :: fps, st => by
    have run : ∀ kn', DetS (fun K => vcOpF E fp dst op (vcOpsK E all K r kn' fps) st) := fun kn' => DetS.comp (F := fun K => vcOpF E fp dst op K st) (det_opF E fp dst op st) (fun st => det_opsK E all r kn' fps st)
    have skip : ∀ kn', DetS (fun K => skipK E.n dst (vcOpsK E all K r kn' fps) st) := fun kn' => DetS.comp (F := fun K => skipK E.n dst K st) (det_skip E.n dst st) (fun st => det_opsK E all r kn' fps st)
    simp only [vcOpsK_cons]
    rcases guard with _ | ⟨j, want⟩
    · exact run _
    · rcases h1 : gslot all j with _ | g
      · simp only [h1]; exact DetS.no
      · rcases h2 : st.fr g with s | cs | vs
        · cases s <;> simp only [h1, h2] <;> first
            | exact DetS.no
            | exact skip _
            | (rename_i b; cases b <;> cases want <;> first | exact run _ | exact skip _)
            | (rcases h3 : lookB g kn with _ | v
               · cases want <;> simp only <;> first
                  | exact DetS.ite (run _) (skip _)
                  | exact DetS.ite2 (run _) (skip _)
               · cases v <;> cases want <;> simp only <;> first
                  | exact run _
                  | exact skip _)
        · simp only [h1, h2]; exact DetS.no
        · simp only [h1, h2]; exact DetS.no

theorem DetX.no : DetX (fun _ => False) := fun _ h => h.elim
theorem DetX.ofS {F : (St → Prop) → Prop} (e : Exit) (h : DetS F) : DetX (fun K => F (K e)) := fun K hk => by
  obtain ⟨s, h1, f⟩ := h _ hk
  exact ⟨e, s, h1, fun K' hk => f _ hk⟩
theorem DetX.ite {b : Bool} {A B : (Exit → St → Prop) → Prop} (hA : DetX A) (hB : DetX B) : DetX (fun K => (b = true → A K) ∧ (b = false → B K)) := fun K h => by
  cases b
  · obtain ⟨e, s, h1, f⟩ := hB K (h.2 rfl)
    exact ⟨e, s, h1, fun K' hk => ⟨fun e => (by cases e), fun _ => f K' hk⟩⟩
  · obtain ⟨e, s, h1, f⟩ := hA K (h.1 rfl)
    exact ⟨e, s, h1, fun K' hk => ⟨fun _ => f K' hk, fun e => (by cases e)⟩⟩

theorem det_loop {E : Env} {c : Code} (ih : ∀ st, DetX (fun K => vc E c K st)) (st : St) : DetX (fun K => vc E (.loop c) K st) := by
  intro K h
  simp only [vc_loop] at h ⊢
  obtain ⟨α, H, Φ, μ, ⟨x0, hx0, hf0⟩, hr⟩ := h
  -- the heads that the run goes through, and where it ends
  have key : ∀ n x, μ x ≤ n → Φ x → ∃ e s, K e s ∧ ∃ S : α → Prop, S x ∧ ∀ y, S y → ∃ e1 s1, (∀ K'' : Exit → St → Prop, K'' e1 s1 → vc E c K'' ((H y).st (dsts c) st)) ∧
      ((e1 = .normal ∧ ∃ y', S y' ∧ μ y' < μ y ∧ (H y').fits (dsts c) st s1) ∨ (e1 ≠ .normal ∧ e1 = e ∧ s1 = s)) := by
    intro n
    induction n with
    | zero =>
      intro x hn hx
      obtain ⟨e1, s1, hk, f⟩ := ih _ _ (hr x hx)
      by_cases he : e1 = .normal
      · subst he
        obtain ⟨x', _, hlt, _⟩ := hk
        omega
      · refine ⟨e1, s1, ?_, fun y => y = x, rfl, fun y hy => ?_⟩
        · cases e1 <;> first | exact hk | exact (he rfl).elim
        · subst hy
          exact ⟨e1, s1, f, .inr ⟨he, rfl, rfl⟩⟩
    | succ n ihn =>
      intro x hn hx
      obtain ⟨e1, s1, hk, f⟩ := ih _ _ (hr x hx)
      by_cases he : e1 = .normal
      · subst he
        obtain ⟨x', hx', hlt, hf⟩ := hk
        obtain ⟨e, s, hke, S, hS, hall⟩ := ihn x' (by omega) hx'
        refine ⟨e, s, hke, fun y => y = x ∨ S y, .inl rfl, fun y hy => ?_⟩
        rcases hy with rfl | hy
        · exact ⟨.normal, s1, f, .inl ⟨rfl, x', .inr hS, hlt, hf⟩⟩
        · obtain ⟨e2, s2, f2, h2⟩ := hall y hy
          refine ⟨e2, s2, f2, ?_⟩
          rcases h2 with ⟨h3, y', hy', hm, hft⟩ | h2
          · exact .inl ⟨h3, y', .inr hy', hm, hft⟩
          · exact .inr h2
      · refine ⟨e1, s1, ?_, fun y => y = x, rfl, fun y hy => ?_⟩
        · cases e1 <;> first | exact hk | exact (he rfl).elim
        · subst hy
          exact ⟨e1, s1, f, .inr ⟨he, rfl, rfl⟩⟩
  obtain ⟨e, s, hke, S, hS, hall⟩ := key (μ x0) x0 (Nat.le_refl _) hx0
  refine ⟨e, s, hke, fun K' hk' => ⟨α, H, S, μ, ⟨x0, hS, hf0⟩, fun y hy => ?_⟩⟩
  obtain ⟨e1, s1, f1, h1⟩ := hall y hy
  refine f1 _ ?_
  rcases h1 with ⟨rfl, h1⟩ | ⟨hne, rfl, rfl⟩
  · exact h1
  · cases e1 <;> first | exact hk' | exact (hne rfl).elim

theorem det_vc (E : Env) : ∀ (c : Code) (st : St), DetX (fun K => vc E c K st) := by
  intro c
  induction c with
  | skip => intro st K h; exact ⟨.normal, st, h, fun K' hk => hk⟩
  | seq x y ihx ihy =>
    intro st K h
    obtain ⟨e1, s1, h1, f1⟩ := ihx st _ h
    cases e1 with
    | normal =>
      obtain ⟨e2, s2, h2, f2⟩ := ihy s1 _ h1
      exact ⟨e2, s2, h2, fun K' hk => f1 _ (f2 K' hk)⟩
    | _ => exact ⟨_, s1, h1, fun K' hk => f1 _ hk⟩
  | region id ops draw =>
    intro st
    cases draw with
    | false => exact DetX.ofS .normal (det_ops E ops.toList ops.toList st)
    | true =>
      intro K h
      simp only [vc_draw] at h ⊢
      obtain ⟨hc, h⟩ := h
      obtain ⟨s, h1, f⟩ := det_opsK E ops.toList ops.toList _ _ st _ h
      exact ⟨.normal, s, h1, fun K' hk => ⟨hc, f _ hk⟩⟩
  | cond c x y ihx ihy =>
    intro st
    simp only [vc_cond]
    rcases h2 : ev st.fr c with s | cs | vs
    · cases s <;> (try simp only) <;> first
        | exact DetX.no
        | exact DetX.ite (ihx st) (ihy st)
        | (rename_i b; cases b <;> first | exact ihx st | exact ihy st)
    · exact DetX.no
    · exact DetX.no
  | block id c ih =>
    intro st K h
    simp only [vc_block] at h ⊢
    obtain ⟨e1, s1, h1, f1⟩ := ih st _ h
    cases e1 with
    | exit i =>
      simp only [exitK] at h1
      rcases hb : Nat.beq i id with _ | _
      · rw [hb] at h1
        exact ⟨.exit i, s1, h1, fun K' hk => f1 _ (by simp only [exitK, hb]; exact hk)⟩
      · rw [hb] at h1
        exact ⟨.normal, s1, h1, fun K' hk => f1 _ (by simp only [exitK, hb]; exact hk)⟩
    | _ => exact ⟨_, s1, h1, fun K' hk => f1 _ hk⟩
  | loop c ih => exact fun st => det_loop ih st
  | exit i => intro st K h; exact ⟨.exit i, st, h, fun K' hk => hk⟩
  | ret => intro st K h; exact ⟨.ret, st, h, fun K' hk => hk⟩
  | _ => intros; exact fun K h => h.elim

theorem putS_at : ∀ (vs : List SV) (fr : Nat → SV) (i : Nat), ∃ fr', ∀ K : (Nat → SV) → Prop, putS fr i vs K = K fr'
  | [], fr, i => ⟨fr, fun _ => rfl⟩
  | v :: r, fr, i => putS_at r (upd fr i v) (i + 1)

theorem initK_at (f : Nat) (ks : List AK) (x : AKs ks) : ∃ st, ∀ K : St → Prop, initK f ks x K = K st := by
  unfold initK
  rcases parsOf 0 ks x with ⟨vs, us⟩
  obtain ⟨fr', h⟩ := putS_at (packS f vs) (fun _ => .sc .und) 0
  exact ⟨⟨fr', updAll (fun _ => none) us, updI (fun _ => false) us⟩, fun K => by simp only [h, force_u, putU_eq]⟩

def finS (E : Env) (rv : List ResultVar) (ks : List AK) (rs : List RK) (Q : RKs rs → AKo ks → Prop) : Exit → St → Prop
  | .normal, st => ∃ res out, Q res out ∧ endK E rv ks rs res out st
  | .ret, st => ∃ res out, Q res out ∧ endK E rv ks rs res out st
  | _, _ => False

/-- A run that ends with some results. -/
def vcSome (T : Nat → Option Ty) (Γ : List Sig) (fn : Func) (f : Nat) (ks : List AK) (rs : List RK) (x : AKs ks) (Q : RKs rs → AKo ks → Prop) : Prop :=
  match fn.body with
  | some c => initK f ks x (vc ⟨T, Γ, fn.ntmps, closOf 0 ks x, none⟩ c (finS ⟨T, Γ, fn.ntmps, closOf 0 ks x, none⟩ fn.results.toList ks rs Q))
  | none => False

theorem vcSome_ok {T : Nat → Option Ty} {Γ : List Sig} {fn : Func} {f : Nat} {ks : List AK} {rs : List RK} {x : AKs ks} {Q : RKs rs → AKo ks → Prop} (h : vcSome T Γ fn f ks rs x Q) :
    ∃ res out, Q res out ∧ ∀ pre, vcFnW none T Γ fn ⟨f, ks, rs, fun _ => ⟨pre, res, out⟩⟩ x := by
  unfold vcSome at h
  split at h
  · rename_i c hb
    obtain ⟨st, hi⟩ := initK_at f ks x
    rw [hi] at h
    obtain ⟨e, s, hk, f⟩ := det_vc _ c st _ h
    have : ∃ res out, Q res out ∧ finK ⟨T, Γ, fn.ntmps, closOf 0 ks x, none⟩ fn.results.toList ks rs res out e s := by
      cases e <;> first | exact hk | exact hk.elim
    obtain ⟨res, out, hq, hk⟩ := this
    refine ⟨res, out, hq, fun pre => ?_⟩
    unfold vcFnW
    rw [hb]
    simp only
    rw [hi]
    exact f _ hk
  · exact h.elim

def RKs.dflt : (rs : List RK) → RKs rs
  | [] => ()
  | .val k :: r => (k.dflt, RKs.dflt r)
  | .skip :: r => ((), RKs.dflt r)
  | .list _ _ :: r => ([], RKs.dflt r)
  | .lift _ _ :: r => ([], RKs.dflt r)
def AKo.dflt : (ks : List AK) → AKo ks
  | [] => ()
  | .cell _ k :: r => (k.dflt, AKo.dflt r)
  | .mrow _ _ :: r => ([], AKo.dflt r)
  | .mlift _ _ :: r => ([], AKo.dflt r)
  | .val _ :: r => AKo.dflt r
  | .list _ :: r => AKo.dflt r
  | .lift _ :: r => AKo.dflt r
  | .lcell _ _ :: r => AKo.dflt r
  | .own _ _ :: r => AKo.dflt r
  | .clo _ :: r => AKo.dflt r
  | .cmp _ :: r => AKo.dflt r

theorem vcFnW_congr {wd : Option Nat} {T : Nat → Option Ty} {Γ : List Sig} {fn : Func} {f : Nat} {ks : List AK} {rs : List RK} {eff eff' : AKs ks → Eff ks rs} {x : AKs ks} (h : eff x = eff' x) (hv : vcFnW wd T Γ fn ⟨f, ks, rs, eff⟩ x) : vcFnW wd T Γ fn ⟨f, ks, rs, eff'⟩ x := by
  unfold vcFnW at *
  dsimp only at *
  rw [← h]
  rcases hb : fn.body with _ | c
  · rw [hb] at hv; exact hv
  · rw [hb] at hv
    rcases he : eff x with ⟨a, b, d⟩
    rw [he] at hv
    exact hv

/-- **A function's results, named behind its run.** -/
theorem fn_some {P : Program} {l : List (Nat × Ty)} (ht : tabB P (tabT l) l = true) (hm : P.follows .mixedOrders = true) {Γ : List Sig} (hΓ : Known P Γ) {f : Nat} {ks : List AK} {rs : List RK} {fn : Func} (hks : ks.length ≤ 50000) (hf : P.funcs[f]? = some fn)
    {pre : AKs ks → List Prop} {Q : AKs ks → RKs rs → AKo ks → Prop} (hv : ∀ x, lenOk ks x → andL (pre x) → vcSome (tabT l) Γ fn f ks rs x (Q x)) :
    ∃ (R : AKs ks → RKs rs) (O : AKs ks → AKo ks), (∀ x, lenOk ks x → andL (pre x) → Q x (R x) (O x)) ∧ GSpec P ⟨f, ks, rs, fun x => ⟨pre x, R x, O x⟩⟩ := by
  have h : ∀ x, ∃ p : RKs rs × AKo ks, lenOk ks x → andL (pre x) → Q x p.1 p.2 ∧ ∀ pr, vcFnW none (tabT l) Γ fn ⟨f, ks, rs, fun _ => ⟨pr, p.1, p.2⟩⟩ x := by
    intro x
    by_cases hc : lenOk ks x ∧ andL (pre x)
    · obtain ⟨res, out, hq, hw⟩ := vcSome_ok (hv x hc.1 hc.2)
      exact ⟨(res, out), fun _ _ => ⟨hq, hw⟩⟩
    · exact ⟨(RKs.dflt rs, AKo.dflt ks), fun h1 h2 => (hc ⟨h1, h2⟩).elim⟩
  refine ⟨fun x => (Classical.choose (h x)).1, fun x => (Classical.choose (h x)).2, fun x h1 h2 => (Classical.choose_spec (h x) h1 h2).1, ?_⟩
  refine fn_known ht hm hΓ (s := ⟨f, ks, rs, _⟩) hks hf fun x h1 h2 => ?_
  exact vcFnW_congr rfl ((Classical.choose_spec (h x) h1 h2).2 (pre x))
end Go.Vx
namespace Go.Vx
set_option linter.unusedSimpArgs false
set_option linter.unusedVariables false
open Go Go.RowKit

/-- The code does what the evaluator would say of it. -/
structure VJ (P : Program) (E : Env) (c : Code) (K : Exit → St → Prop) (st : St) : Prop where
  out : ∀ {X : Cx} {Q : Exit → Act → World → Prop} {a : Act} {w : World} {γ : Nat → Gh}, EnvOk P E X → X.n = E.n → P.follows .mixedOrders = true → Rel X st a w γ →
    (∀ e st' a' w' γ', Rel X st' a' w' γ' → Same (dsts c) st st' → K e st' → Q e a' w') → c.wp P Q a w

theorem VJ.of {P : Program} {E : Env} {c : Code} {K : Exit → St → Prop} {st : St} (h : vc E c K st) : VJ P E c K st := ⟨fun hE hX hm R hK => vc_ok hE hX hm c R h hK⟩

theorem same_l {x y : Code} {a b : St} (h : Same (dsts x) a b) : Same (dsts (x.seq y)) a b := fun j hj => h j fun hh => hj (by simp only [dsts, List.mem_append]; exact .inl hh)
theorem same_r {x y : Code} {a b : St} (h : Same (dsts y) a b) : Same (dsts (x.seq y)) a b := fun j hj => h j fun hh => hj (by simp only [dsts, List.mem_append]; exact .inr hh)

theorem VJ.seq {P : Program} {E : Env} {x y : Code} {K : Exit → St → Prop} {st : St} (h : vc E x (seqK (fun s => VJ P E y K s) K) st) : VJ P E (x.seq y) K st := ⟨fun hE hX hm R hK => by
  refine wp_seq (vc_ok hE hX hm x R h fun e st' a' w' γ' R' hS hk => ?_)
  cases e with
  | normal => exact hk.out hE hX hm R' fun e st2 a2 w2 γ2 R2 hS2 hk2 => hK _ _ _ _ _ R2 ((same_l hS).trans (same_r hS2) (fun _ h => h) (fun _ h => h)) hk2
  | _ => exact hK _ _ _ _ _ R' (same_l hS) hk⟩

/-- **A cut behind the first piece.** -/
theorem VJ.cut {P : Program} {E : Env} {x y : Code} {K : Exit → St → Prop} {st : St} (H : Head) (h : vc E x (seqK (fun s => H.fits (dsts x) st s) K) st) (h2 : VJ P E y K (H.st (dsts x) st)) : VJ P E (x.seq y) K st := ⟨fun hE hX hm R hK => by
  have hW0 : ∀ j, ∀ i ∈ idsSV (st.fr j), st.ids i = true := fun j => denV_refs (R.fr j)
  have hfr : Same (dsts x) st (H.st (dsts x) st) := fun j hj => by
    show (match elemB j (dsts x) with | true => _ | false => st.fr j) = st.fr j
    rw [elemB_false.2 hj]
  refine wp_seq (vc_ok hE hX hm x R h fun e st' a' w' γ' R' hS hk => ?_)
  cases e with
  | normal =>
    obtain ⟨γ2, R2⟩ := fits_ok hk hS (fun i hi => (R.base i hi).1) hW0 R'
    exact h2.out hE hX hm R2 fun e st2 a2 w2 γ3 R3 hS2 hk2 => hK _ _ _ _ _ R3 ((same_l hfr).trans (same_r hS2) (fun _ h => h) (fun _ h => h)) hk2
  | _ => exact hK _ _ _ _ _ R' (same_l hS) hk⟩

/-- The first n pieces are run, then the rest is left. -/
def vcU (P : Program) (E : Env) (n : Nat) (c : Code) (K : Exit → St → Prop) (st : St) : Prop :=
  Nat.rec (motive := fun _ => Code → St → Prop) (fun c st => VJ P E c K st)
    (fun _ ih c st => match c with
      | .seq x y => vc E x (seqK (fun s => ih y s) K) st
      | _ => False) n c st
theorem VJ.upto {P : Program} {E : Env} (n : Nat) : ∀ {c : Code} {K : Exit → St → Prop} {st : St}, vcU P E n c K st → VJ P E c K st := by
  induction n with
  | zero => intro c K st h; exact h
  | succ n ih =>
    intro c K st h
    cases c with
    | seq x y =>
      have h : vc E x (seqK (fun s => vcU P E n y K s) K) st := h
      refine ⟨fun hE hX hm R hK => ?_⟩
      refine wp_seq (vc_ok hE hX hm x R h fun e st' a' w' γ' R' hS hk => ?_)
      cases e with
      | normal => exact (ih hk).out hE hX hm R' fun e st2 a2 w2 γ2 R2 hS2 hk2 => hK _ _ _ _ _ R2 ((same_l hS).trans (same_r hS2) (fun _ h => h) (fun _ h => h)) hk2
      | _ => exact hK _ _ _ _ _ R' (same_l hS) hk
    | _ => exact h.elim

def vcFnJ (P : Program) (wd : Option Nat) (T : Nat → Option Ty) (Γ : List Sig) (fn : Func) (s : Sig) (x : AKs s.ks) : Prop :=
  match fn.body, s.eff x with
  | some c, ⟨_, res, out⟩ => initK s.f s.ks x (VJ P ⟨T, Γ, fn.ntmps, closOf 0 s.ks x, wd⟩ c (finK ⟨T, Γ, fn.ntmps, closOf 0 s.ks x, wd⟩ fn.results.toList s.ks s.rs res out))
  | none, _ => False

section
variable {P : Program} {E : Env} {X : Cx} {st : St} {a : Act} {w : World} {γ : Nat → Gh}

/-- **A function keeps its contract**, where its code may be cut. -/
theorem fn_okJ {wd : Option Nat} {T : Nat → Option Ty} {Γ : List Sig} {s : Sig} {fn : Func} (hT : ∀ t ty, T t = some ty → TyOk P T t ty) (hΓ : ∀ s ∈ Γ, GSpec P s ∧ FnOk P s.f) (hm : P.follows .mixedOrders = true) (hks : s.ks.length ≤ 50000) (hf : P.funcs[s.f]? = some fn)
    (hv : ∀ x, lenOk s.ks x → andL (s.eff x).pre → vcFnJ P wd T Γ fn s x) : GSpec P s := by
  intro x vs w rb cb ob hargs hraw hnd hrb hpre
  obtain ⟨γ, hp, hlen, hid, hcells⟩ := pars_ok (P := P) (i := 0) (by omega) hargs hnd
  have h := hv x hlen hpre
  unfold vcFnJ at h
  split at h
  · rename_i c pre res out hb heff
    rw [heff]
    simp only
    unfold initK at h
    split at h
    rename_i svs us hpars
    rw [hpars] at hp hid hcells
    simp only at hp hid hcells
    obtain ⟨fr, h1, _, h3, h4⟩ := putS_get _ _ _ _ h
    rw [force_u, putU_eq] at h1
    have hin : ∀ u ∈ us, updI (fun _ => false) us u.id = true := fun u hu => updI_true.2 (.inr (List.mem_map_of_mem hu))
    obtain ⟨hden, hobs⟩ := hp.den (updI (fun _ => false) us) γ fun u hu => ⟨hin u hu, rfl⟩
    have hden0 := hden
    replace hden := pack_den (f := s.f) hden
    have hl := denVs_length hden
    have hob : ∀ i o, updAll (fun _ => none) us i = some o → ∃ u ∈ us, u.id = i ∧ u.ob = some o := fun i o ho => by
      rcases updAll_mem ho with h | h
      · cases h
      · exact h
    let X : Cx := ⟨w, fun b => b ∈ cb ∨ b ∈ ob, fn.ntmps, updI (fun _ => false) us, γ, rb.filter fun b => decide (b < w.heap.size)⟩
    have hE : EnvOk P ⟨T, Γ, fn.ntmps, closOf 0 s.ks x, wd⟩ X := by
      refine ⟨hT, fun s hs => (hΓ s hs).1, fun s hs => (hΓ s hs).2, fun id e he => ?_, fun b hb => ?_, (rawsTab hraw).to fun b hb hlt => ⟨List.mem_filter.2 ⟨hb, by simpa using hlt⟩, hlt, rfl⟩⟩
      · by_cases hnr : e.isRaw = true
        · cases e with
          | raw r =>
            refine ⟨fun h => (by cases h), ?_⟩
            obtain ⟨aa, c, q1, q2, q3, q4⟩ := closRaw_ok hraw he
            exact ⟨aa, c, q1, q2, q3, fun hp => by obtain ⟨ad, p1, p2, p3, p4⟩ := q4 hp; exact ⟨ad, p1, List.mem_filter.2 ⟨p2, by simpa using p3⟩, p3, p4⟩⟩
          | _ => cases hnr
        have hnr : e.isRaw = false := by simpa using hnr
        obtain ⟨j, v, e1, e2, e3, e4⟩ := clos_ok (i := 0) hargs id e hnr he
        rw [hpars] at e4
        obtain ⟨u, hu, hd⟩ := denVs_get hden0 e4
        rw [e2] at hu
        cases hu
        obtain ⟨hi, hv⟩ := hd
        refine ⟨fun _ => hi, ?_⟩
        show CloF P X e (γ id).v
        rw [← hv]
        cases e with
        | cmp k D p => exact e3
        | raw r => cases hnr
        | clo k D p =>
          obtain ⟨f, caps, q1, q2, q3⟩ := e3
          refine ⟨f, caps, q1, q2, fun w' hw' => q3 w' ⟨hw'.1, fun b hb hlt => hw'.2 b (List.mem_filter.2 ⟨hb, by simpa using hlt⟩) hlt⟩⟩
      · obtain ⟨h1, h2⟩ := List.mem_filter.1 hb
        refine ⟨by simpa using h2, fun h => ?_⟩
        exact hrb b (List.mem_append.2 h) h1
    have R : Rel X ⟨fr, updAll (fun _ => none) us, updI (fun _ => false) us⟩ { tmps := (packA s.f vs).toArray ++ Array.replicate (fn.ntmps - (packA s.f vs).toArray.size) undef, defers := [] } w γ := by
      refine ⟨fun j => ?_, ?_, rfl, ?_, ?_, ?_, ?_, Kept.refl _ _, fun i hi => ⟨hi, rfl⟩⟩
      · rw [Array.getD_eq_getD_getElem?, Array.getElem?_append]
        by_cases hj : j < (packA s.f vs).length
        · obtain ⟨sv, hsv⟩ : ∃ sv, (packS s.f svs)[j]? = some sv := ⟨(packS s.f svs)[j]'(by omega), List.getElem?_eq_getElem (by omega)⟩
          obtain ⟨u, hu, hd⟩ := denVs_get hden hsv
          have hfj := h4 j sv hsv
          rw [Nat.zero_add] at hfj
          simp only [List.size_toArray, hj, if_true, List.getElem?_toArray, hu, Option.getD_some]
          show denV _ _ (fr j) u
          rw [hfj]
          exact hd
        · have hfj := h3 j (by omega)
          simp only [List.size_toArray, hj, if_false]
          show denV _ _ (fr j) _
          rw [hfj]
          show _ = undef
          rw [Array.getElem?_replicate]
          split <;> rfl
      · show fn.ntmps ≤ _
        simp only [Array.size_append, Array.size_replicate, List.size_toArray]
        omega
      · intro i o ho
        obtain ⟨u, hu, rfl, huo⟩ := hob i o ho
        exact hobs u hu o huo
      · intro i o ho
        obtain ⟨u, hu, rfl, huo⟩ := hob i o ho
        exact hin u hu
      · intro i j o p b ho hpp hb1 hb2
        obtain ⟨u, hu, rfl, huo⟩ := hob i o ho
        obtain ⟨u2, hu2, rfl, huo2⟩ := hob j p hpp
        cases hw1 : o.wr <;> cases hw2 : p.wr
        · exact .inr ⟨rfl, rfl⟩
        · exact (hrb b (hp.wr u2 hu2 p b huo2 hw2 hb2) (hp.rd u hu o b huo hw1 hb1)).elim
        · exact (hrb b (hp.wr u hu o b huo hw1 hb1) (hp.rd u2 hu2 p b huo2 hw2 hb2)).elim
        · exact .inl (hp.sep u hu u2 hu2 o p b huo huo2 hw1 hw2 hb1 hb2)
      · intro i o b ho hw hb1
        obtain ⟨u, hu, rfl, huo⟩ := hob i o ho
        exact .inr (by simpa using hp.wr u hu o b huo hw hb1)
    refine calls_of_wp hf hb (h1.out hE rfl hm R fun e st' a' w' γ' R' _ hk => ?_)
    have fin : endK ⟨T, Γ, fn.ntmps, closOf 0 s.ks x, wd⟩ fn.results.toList s.ks s.rs res out st' → a'.defers = [] ∧ ∃ v, (results fn a'.tmps).run P w' = .ok v w' ∧
        ∃ us l, Ending.returned v = .returned (packV us) ∧ RessOk w' s.rs res us l ∧ l.Nodup ∧ (∀ b ∈ l, w.heap.size ≤ b ∨ b ∈ ob) ∧ OutsOk w' s.ks vs out cb ∧ Kept (fun b => b ∈ cb ∨ b ∈ ob) w w' := by
      intro hk
      unfold endK at hk
      split at hk
      · rename_i rvs hrv
        obtain ⟨us', hrun, hd'⟩ := results_ok hE R' hrv
        obtain ⟨l, hl1, hl2, hl3⟩ := ressAre_ok R' hk hd'
        split at hl1
        · rename_i hdist
          have hcells' := hcells γ' fun u hu => (R'.base u.id (hin u hu)).2
          obtain ⟨ho1, ho2⟩ := outsAre_ok R' hl1 hcells'
          refine ⟨R'.df, _, hrun, us', _, rfl, hl3, blks_nodup R' (List.nodup_append.1 (distB_true hdist)).1 (fun i hi => by obtain ⟨o, q1, q2, _⟩ := hl2 i hi; exact ⟨o, q1, q2⟩), fun b hb => ?_, ho1, R'.kept⟩
          obtain ⟨i, hi, hbi⟩ := List.mem_filterMap.1 hb
          obtain ⟨o, q1, q2, q3⟩ := hl2 i hi
          rcases R'.lo i o b q1 q2 hbi with h | h | h
          · exact .inl h
          · obtain ⟨j, p, hj, hpw, hbj, hjc⟩ := ho2 b h
            rcases R'.sep i j o _ b q1 hj hbi hbj with e | ⟨e, _⟩
            · subst e
              rw [q1] at hj
              cases hj
              rcases hjc with ⟨t, cs, e⟩ | hjc
              · exact (q3 t cs e).elim
              · exact ((List.nodup_append.1 (distB_true hdist)).2.2 _ hi _ hjc rfl).elim
            · rw [q2] at e; cases e
          · exact .inr h
        · exact hl1.elim
      · exact hk.elim
    cases e with
    | normal => exact fin hk
    | ret => exact fin hk
    | _ => exact hk.elim
  · exact h.elim

end

theorem fn_knownJ (wd : Option Nat) {P : Program} {l : List (Nat × Ty)} (ht : tabB P (tabT l) l = true) (hm : P.follows .mixedOrders = true) {Γ : List Sig} (hΓ : Known P Γ) {s : Sig} {fn : Func} (hks : s.ks.length ≤ 50000) (hf : P.funcs[s.f]? = some fn)
    (hv : ∀ x, lenOk s.ks x → andL (s.eff x).pre → vcFnJ P wd (tabT l) Γ fn s x) : GSpec P s :=
  fn_okJ (wd := wd) (T := tabT l) (Γ := Γ) (fun t ty h => tabB_ok ht t ty h) (fun s hs => hΓ.sig s hs) hm hks hf hv
end Go.Vx
namespace Go.Vx
open Go Go.Proofs
def ratTy : Ty := ⟨2, 16, true, [.num .i64 0, .num .i64 0], [(0,1),(1,1)], none, some .rat⟩
def ptTy : Ty := ⟨4, 32, true, [.num .i64 0, .num .i64 0, .num .i64 0, .num .i64 0], [(0,2),(2,2)], none, some .pt⟩
def ivTy : Ty := ⟨4, 32, true, [.num .i64 0, .num .i64 0, .num .i64 0, .num .i64 0], [(0,2),(2,2)], none, some .iv⟩
def TL : List (Nat × Ty) := [
  (26, ratTy),
 (47, ratTy),
 (42, ⟨1, 24, false, [.nil], [], some (26, .rat), none⟩),
 (130, ⟨1, 24, false, [.nil], [], some (3, .num .i64), none⟩),
 (85, ⟨1, 1, true, [.lit false], [(0,1)], none, none⟩),
 (49, ivTy),
 (28, ivTy),
 (110, ptTy),
 (107, ptTy),
 (24, ⟨1, 24, false, [.nil], [], some (107, .pt), none⟩),
 (33, ⟨1, 24, false, [.nil], [], some (28, .iv), none⟩),
 (46, ⟨1, 24, false, [.nil], [], some (110, .pt), none⟩),
 (91, ⟨1, 8, false, [.num .u64 0], [], none, some (.num .u64)⟩),
 (22, ⟨1, 24, false, [.nil], [], some (5, .num .u8), none⟩),
 (93, ⟨3, 40, true, [.nil, .num .i64 0, .num .u64 0], [(0,1),(1,1),(2,1)], none, none⟩),
 (5, ⟨1, 1, false, [.num .u8 0], [], none, some (.num .u8)⟩),
 (9, ⟨1, 16, false, [.str ByteArray.empty], [], none, some .str⟩),
  (3, ⟨1, 8, false, [.num .i64 0], [], none, some (.num .i64)⟩),
  (4, ⟨1, 1, false, [.lit false], [], none, some .bool⟩)]
theorem tab_ok : tabB Tryz.prog (tabT TL) TL = true := by kernel_rfl
theorem fol : Tryz.prog.follows .mixedOrders = true := by kernel_rfl
end Go.Vx
namespace Go.Vx
open Go

def inB (n lo hi : Int) : Bool := decide (lo ≤ n ∧ n ≤ hi)
/-- by a choice, so that no one computes it -/
noncomputable def goodRt (r : Rt) : Bool := @decide (1 ≤ r.den ∧ r.den ≤ 1000000000 ∧ -1000000000 ≤ r.num ∧ r.num ≤ 1000000000 ∧ (Int.gcd r.num r.den : Int) = 1) (Classical.propDecidable _)
def sgn (n : Int) : Int := if n < 0 then -1 else if 0 < n then 1 else 0
def cmpRt (a b : Rt) : Int := sgn (a.num * b.den - b.num * a.den)
def lessRt (a b : Rt) : Bool := decide (a.num * b.den < b.num * a.den)
def gsgn (n d : Int) : Int := if d < 0 then -(Int.gcd n d : Int) else (Int.gcd n d : Int)
noncomputable def lowRt (n d : Int) : Rt × Bool := match goodRt ⟨n.tdiv (gsgn n d), d.tdiv (gsgn n d)⟩ with
  | true => (⟨n.tdiv (gsgn n d), d.tdiv (gsgn n d)⟩, true)
  | false => (⟨0, 0⟩, false)

theorem gcd_tmod (p q : Int) : Int.gcd q (p.tmod q) = Int.gcd p q := by
  rw [Int.gcd_comm p q, Int.tmod_def, Int.gcd_sub_mul_left_right]
theorem goodRt_iff {r : Rt} : goodRt r = true ↔ (1 ≤ r.den ∧ r.den ≤ 1000000000 ∧ -1000000000 ≤ r.num ∧ r.num ≤ 1000000000 ∧ (Int.gcd r.num r.den : Int) = 1) := by
  simp [goodRt]

theorem mul_bd {a b A B : Int} (h1 : -A ≤ a) (h2 : a ≤ A) (h3 : -B ≤ b) (h4 : b ≤ B) (hA : 0 ≤ A) : -(A * B) ≤ a * b ∧ a * b ≤ A * B := by
  have hB : 0 ≤ B := by omega
  have h5 : (a.natAbs : Int) ≤ A := by omega
  have h6 : (b.natAbs : Int) ≤ B := by omega
  have h7 : ((a * b).natAbs : Int) ≤ A * B := by
    rw [Int.natAbs_mul]
    push_cast
    exact Int.mul_le_mul h5 h6 (by omega) hA
  omega

theorem ratmul {a b : Rt} (ha : goodRt a = true) (hb : goodRt b = true) : -1000000000000000000 ≤ a.num * b.den ∧ a.num * b.den ≤ 1000000000000000000 := by
  rw [goodRt_iff] at ha hb
  have := mul_bd (A := 1000000000) (B := 1000000000) (a := a.num) (b := b.den) (by omega) (by omega) (by omega) (by omega) (by omega)
  simpa using this
theorem denmul {a b : Rt} (ha : goodRt a = true) (hb : goodRt b = true) : 0 < a.den * b.den ∧ a.den * b.den ≤ 1000000000000000000 := by
  rw [goodRt_iff] at ha hb
  have := mul_bd (A := 1000000000) (B := 1000000000) (a := a.den) (b := b.den) (by omega) (by omega) (by omega) (by omega) (by omega)
  have := Int.mul_pos (a := a.den) (b := b.den) (by omega) (by omega)
  omega
theorem nummul {a b : Rt} (ha : goodRt a = true) (hb : goodRt b = true) : -1000000000000000000 ≤ a.num * b.num ∧ a.num * b.num ≤ 1000000000000000000 := by
  rw [goodRt_iff] at ha hb
  have := mul_bd (A := 1000000000) (B := 1000000000) (a := a.num) (b := b.num) (by omega) (by omega) (by omega) (by omega) (by omega)
  simpa using this
end Go.Vx
namespace Go.Vx
open Go Go.Proofs
set_option maxRecDepth 100000
set_option linter.unusedSimpArgs false
set_option linter.unusedVariables false

abbrev NI : VK := .num .i64
noncomputable def s_impl_abs : Sig := ⟨248, [.val NI], [.val NI], fun ((a : Int), _) => ⟨[-9223372036854775808 < a], ((a.natAbs : Int), ()), ()⟩⟩
noncomputable def s_impl_within : Sig := ⟨87, [.val NI, .val NI, .val NI], [.val .bool], fun ((n : Int), (lo : Int), (hi : Int), _) => ⟨[], (inB n lo hi, ()), ()⟩⟩
noncomputable def s_spec_l1In : Sig := ⟨107, [.val NI, .val NI, .val NI], [.val .bool], fun ((n : Int), (lo : Int), (hi : Int), _) => ⟨[], (inB n lo hi, ()), ()⟩⟩
noncomputable def s_spec_l1Most : Sig := ⟨229, [.val NI, .val NI], [.val NI], fun ((a : Int), (b : Int), _) => ⟨[], ((max a b : Int), ()), ()⟩⟩
noncomputable def s_spec_l1Abs : Sig := ⟨183, [.val NI], [.val NI], fun ((a : Int), _) => ⟨[-9223372036854775808 < a, a ≤ 9223372036854775807], ((a.natAbs : Int), ()), ()⟩⟩
noncomputable def s_spec_l1Sign : Sig := ⟨166, [.val NI], [.val NI], fun ((a : Int), _) => ⟨[], (sgn a, ()), ()⟩⟩
noncomputable def s_impl_greatestDivisor : Sig := ⟨230, [.val NI, .val NI], [.val NI], fun ((a : Int), (b : Int), _) => ⟨[-9223372036854775808 < a, -9223372036854775808 < b, a ≤ 9223372036854775807, b ≤ 9223372036854775807], ((Int.gcd a b : Int), ()), ()⟩⟩
noncomputable def s_spec_raCommon : Sig := ⟨182, [.val NI, .val NI], [.val NI], fun ((a : Int), (b : Int), _) => ⟨[0 ≤ a, 0 ≤ b, a ≤ 9223372036854775807, b ≤ 9223372036854775807], ((Int.gcd a b : Int), ()), ()⟩⟩
noncomputable def s_impl_isRat : Sig := ⟨186, [.val .rat], [.val .bool], fun ((r : Rt), _) => ⟨[], (goodRt r, ()), ()⟩⟩
noncomputable def s_spec_raGood : Sig := ⟨184, [.val .rat], [.val .bool], fun ((r : Rt), _) => ⟨[], (goodRt r, ()), ()⟩⟩
noncomputable def s_impl_compare : Sig := ⟨173, [.val .rat, .val .rat], [.val NI], fun ((a : Rt), (b : Rt), _) => ⟨[goodRt a = true, goodRt b = true], (cmpRt a b, ()), ()⟩⟩
noncomputable def s_spec_raCmp : Sig := ⟨94, [.val .rat, .val .rat], [.val NI], fun ((a : Rt), (b : Rt), _) => ⟨[goodRt a = true, goodRt b = true], (cmpRt a b, ()), ()⟩⟩
noncomputable def s_impl_less : Sig := ⟨101, [.val .rat, .val .rat], [.val .bool], fun ((a : Rt), (b : Rt), _) => ⟨[goodRt a = true, goodRt b = true], (lessRt a b, ()), ()⟩⟩
noncomputable def s_impl_areRats : Sig := ⟨231, [.list .rat], [.val .bool], fun ((l : List Rt), _) => ⟨[], (l.all goodRt, ()), ()⟩⟩

theorem ok_impl_abs : GSpec Tryz.prog s_impl_abs := by
  refine fn_known tab_ok fol Known.nil (by decide) Tryz.func248 ?_
  rintro ⟨(a : Int), ⟨⟩⟩ hl ⟨h1, _⟩
  repeat' (first | with_reducible apply andAll_cons | with_reducible apply andAll_nil | (with_reducible apply Cf.mk; kernel_rfl) | apply And.intro | intro _ | exact True.intro | apply Lf.mk)
  all_goals simp only [decide_eq_true_eq, decide_eq_false_iff_not, inI64] at *
  all_goals (try change @Eq Int _ _)
  all_goals omega

theorem ok_impl_within : GSpec Tryz.prog s_impl_within := by
  refine fn_known tab_ok fol Known.nil (by decide) Tryz.func87 ?_
  rintro ⟨(n : Int), (lo : Int), (hi : Int), ⟨⟩⟩ hl _
  repeat' (first | with_reducible apply andAll_cons | with_reducible apply andAll_nil | (with_reducible apply Cf.mk; kernel_rfl) | apply And.intro | intro _ | exact True.intro | apply Lf.mk)
  all_goals (try change @Eq Bool _ _)
  all_goals simp_all [inB]
  all_goals omega

theorem ok_spec_l1In : GSpec Tryz.prog s_spec_l1In := by
  refine fn_known tab_ok fol Known.nil (by decide) Tryz.func107 ?_
  rintro ⟨(n : Int), (lo : Int), (hi : Int), ⟨⟩⟩ hl _
  repeat' (first | with_reducible apply andAll_cons | with_reducible apply andAll_nil | (with_reducible apply Cf.mk; kernel_rfl) | apply And.intro | intro _ | exact True.intro | apply Lf.mk)
  all_goals (try change @Eq Bool _ _)
  all_goals simp_all [inB]
  all_goals omega

theorem ok_spec_l1Most : GSpec Tryz.prog s_spec_l1Most := by
  refine fn_known tab_ok fol Known.nil (by decide) Tryz.func229 ?_
  rintro ⟨(a : Int), (b : Int), ⟨⟩⟩ hl _
  repeat' (first | with_reducible apply andAll_cons | with_reducible apply andAll_nil | (with_reducible apply Cf.mk; kernel_rfl) | apply And.intro | intro _ | exact True.intro | apply Lf.mk)
  all_goals simp only [decide_eq_true_eq, decide_eq_false_iff_not, inI64] at *
  all_goals (try change @Eq Int _ _)
  all_goals omega

theorem ok_spec_l1Abs : GSpec Tryz.prog s_spec_l1Abs := by
  refine fn_known tab_ok fol (Known.nil.cons ok_spec_l1Most (by kernel_rfl)) (by decide) Tryz.func183 ?_
  rintro ⟨(a : Int), ⟨⟩⟩ hl ⟨h1, h2, _⟩
  repeat' (first | with_reducible apply andAll_cons | with_reducible apply andAll_nil | (with_reducible apply Cf.mk; kernel_rfl) | apply And.intro | intro _ | exact True.intro | apply Lf.mk)
  all_goals (try change @Eq Int _ _)
  all_goals omega

theorem ok_spec_l1Sign : GSpec Tryz.prog s_spec_l1Sign := by
  refine fn_known tab_ok fol Known.nil (by decide) Tryz.func166 ?_
  rintro ⟨(a : Int), ⟨⟩⟩ hl _
  repeat' (first | with_reducible apply andAll_cons | with_reducible apply andAll_nil | (with_reducible apply Cf.mk; kernel_rfl) | apply And.intro | intro _ | exact True.intro | apply Lf.mk)
  all_goals simp only [decide_eq_true_eq, decide_eq_false_iff_not] at *
  all_goals (try change @Eq Int _ _)
  all_goals (unfold sgn; split <;> first | omega | (split <;> omega))

theorem ok_impl_greatestDivisor : GSpec Tryz.prog s_impl_greatestDivisor := by
  refine fn_known tab_ok fol (Known.nil.cons ok_impl_abs (by kernel_rfl)) (by decide) Tryz.func230 ?_
  rintro ⟨(a : Int), (b : Int), ⟨⟩⟩ hl ⟨h1, h2, h3, h4, _⟩
  repeat' (first | with_reducible apply andAll_cons | with_reducible apply andAll_nil | (with_reducible apply Cf.mk; kernel_rfl) | apply And.intro | intro _ | exact True.intro | apply Lf.mk)
  · exact h1
  · exact h2
  · refine ⟨Int × Int, fun x => ⟨[(0, .sc (.num .i64 x.1)), (1, .sc (.num .i64 x.2))], [], []⟩, fun x => 0 ≤ x.1 ∧ 0 ≤ x.2 ∧ Int.gcd x.1 x.2 = Int.gcd a b ∧ x.1 ≤ 9223372036854775807 ∧ x.2 ≤ 9223372036854775807, fun x => x.2.natAbs, ⟨((a.natAbs : Int), (b.natAbs : Int)), ?_, ?_⟩, ?_⟩
    · exact ⟨by dsimp only; omega, by dsimp only; omega, rfl, by dsimp only; omega, by dsimp only; omega⟩
    · repeat' (first | apply And.intro | exact True.intro | exact Lf.mk (by with_reducible rfl) | apply Lf.mk)
      all_goals rfl
    · rintro ⟨p, q⟩ ⟨g1, g2, g3, g4, g5⟩
      repeat' (first | with_reducible apply andAll_cons | with_reducible apply andAll_nil | (with_reducible apply Cf.mk; kernel_rfl) | apply And.intro | intro _ | exact True.intro | apply Lf.mk)
      · simp_all
      · have := Int.tmod_nonneg q g1
        have := Int.tmod_lt_of_pos p (b := q) (by simp only [bne_iff_ne] at *; omega)
        refine ⟨(q, p.tmod q), ?_, ?_, ?_⟩
        · simp only [gcd_tmod] at *
          omega
        · simp only at *
          omega
        · repeat' (first | apply And.intro | exact True.intro | exact Lf.mk (by with_reducible rfl) | apply Lf.mk)
          all_goals rfl
      · change @Eq Int _ _
        simp_all
        omega

theorem ok_spec_raCommon : GSpec Tryz.prog s_spec_raCommon := by
  refine fn_known tab_ok fol Known.nil (by decide) Tryz.func182 ?_
  rintro ⟨(a : Int), (b : Int), ⟨⟩⟩ hl ⟨h1, h2, h3, h4, _⟩
  refine ⟨Int × Int, fun x => ⟨[(0, .sc (.num .i64 x.1)), (1, .sc (.num .i64 x.2))], [], []⟩, fun x => 0 ≤ x.1 ∧ 0 ≤ x.2 ∧ Int.gcd x.1 x.2 = Int.gcd a b ∧ x.1 ≤ 9223372036854775807 ∧ x.2 ≤ 9223372036854775807, fun x => x.2.natAbs, ⟨(a, b), ?_, ?_⟩, ?_⟩
  · exact ⟨h1, h2, rfl, h3, h4⟩
  · repeat' (first | apply And.intro | exact True.intro | exact Lf.mk (by with_reducible rfl) | apply Lf.mk)
    all_goals rfl
  · rintro ⟨p, q⟩ ⟨g1, g2, g3, g4, g5⟩
    repeat' (first | with_reducible apply andAll_cons | with_reducible apply andAll_nil | (with_reducible apply Cf.mk; kernel_rfl) | apply And.intro | intro _ | exact True.intro | apply Lf.mk)
    · simp only [decide_eq_true_eq] at *; omega
    · have h5 : 0 < q := by simp only [decide_eq_true_eq] at *; assumption
      have := Int.tmod_nonneg q g1
      have := Int.tmod_lt_of_pos p h5
      refine ⟨(q, p.tmod q), ?_, ?_, ?_⟩
      · simp only [gcd_tmod] at *
        omega
      · simp only at *
        omega
      · repeat' (first | apply And.intro | exact True.intro | exact Lf.mk (by with_reducible rfl) | apply Lf.mk)
        all_goals rfl
    · change @Eq Int _ _
      simp only [decide_eq_false_iff_not] at *
      have : q = 0 := by omega
      subst this
      rw [← g3]
      simp
      omega

theorem goodT {n d : Int} (h1 : 1 ≤ d ∧ d ≤ 1000000000) (h2 : -1000000000 ≤ n ∧ n ≤ 1000000000) : (((Int.gcd n d : Int)) == 1) = goodRt ⟨n, d⟩ := by
  rw [Bool.eq_iff_iff, goodRt_iff, beq_iff_eq]; dsimp only; omega
theorem goodF {n d : Int} (h : ¬ ((1 ≤ d ∧ d ≤ 1000000000) ∧ (-1000000000 ≤ n ∧ n ≤ 1000000000))) : false = goodRt ⟨n, d⟩ := by
  symm; rw [Bool.eq_false_iff, ne_eq, goodRt_iff]; dsimp only; omega

theorem ok_impl_isRat : GSpec Tryz.prog s_impl_isRat := by
  refine fn_known tab_ok fol ((Known.nil.cons ok_impl_within (by kernel_rfl)).cons ok_impl_greatestDivisor (by kernel_rfl)) (by decide) Tryz.func186 ?_
  rintro ⟨⟨(n : Int), (d : Int)⟩, ⟨⟩⟩ hl _
  repeat' (first | with_reducible apply andAll_cons | with_reducible apply andAll_nil | (with_reducible apply Cf.mk; kernel_rfl) | apply And.intro | intro _ | exact True.intro | apply Lf.mk)
  all_goals simp only [inB, decide_eq_true_eq, decide_eq_false_iff_not] at *
  all_goals first | omega | exact goodT (by omega) (by omega) | exact goodF (by omega)

theorem ok_spec_raGood : GSpec Tryz.prog s_spec_raGood := by
  refine fn_known tab_ok fol (((Known.nil.cons ok_spec_l1In (by kernel_rfl)).cons ok_spec_l1Abs (by kernel_rfl)).cons ok_spec_raCommon (by kernel_rfl)) (by decide) Tryz.func184 ?_
  rintro ⟨⟨(n : Int), (d : Int)⟩, ⟨⟩⟩ hl _
  have hg : Int.gcd ((n.natAbs : Int)) d = Int.gcd n d := by simp [Int.gcd]
  repeat' (first | with_reducible apply andAll_cons | with_reducible apply andAll_nil | (with_reducible apply Cf.mk; kernel_rfl) | apply And.intro | intro _ | exact True.intro | apply Lf.mk)
  all_goals (by_cases h1 : 1 ≤ d ∧ d ≤ 1000000000 <;> by_cases h2 : -1000000000 ≤ n ∧ n ≤ 1000000000)
  all_goals (simp_all only [inB, decide_true, decide_false, cond_true, cond_false, and_self, Bool.false_eq_true, reduceCtorEq])
  all_goals first | omega | exact goodT h1 h2 | exact goodT (by omega) (by omega) | exact goodF (by omega)

def smallRt (r : Rt) : Bool := decide (1 ≤ r.den ∧ r.den ≤ 1000000000 ∧ -1000000000 ≤ r.num ∧ r.num ≤ 1000000000)
theorem small_good {r : Rt} (h : goodRt r = true) : smallRt r = true := by
  rw [goodRt_iff] at h; simp [smallRt]; omega
theorem small_mk {r : Rt} (h : 1 ≤ r.den ∧ r.den ≤ 1000000000 ∧ -1000000000 ≤ r.num ∧ r.num ≤ 1000000000) : smallRt r = true := by simp [smallRt]; omega
theorem smallmul {a b : Rt} (ha : smallRt a = true) (hb : smallRt b = true) : -1000000000000000000 ≤ a.num * b.den ∧ a.num * b.den ≤ 1000000000000000000 := by
  simp only [smallRt, decide_eq_true_eq] at ha hb
  have := mul_bd (A := 1000000000) (B := 1000000000) (a := a.num) (b := b.den) (by omega) (by omega) (by omega) (by omega) (by omega)
  simpa using this
noncomputable def s_impl_compare_ : Sig := ⟨173, [.val .rat, .val .rat], [.val NI], fun ((a : Rt), (b : Rt), _) => ⟨[smallRt a = true, smallRt b = true], (cmpRt a b, ()), ()⟩⟩
noncomputable def s_impl_less_ : Sig := ⟨101, [.val .rat, .val .rat], [.val .bool], fun ((a : Rt), (b : Rt), _) => ⟨[smallRt a = true, smallRt b = true], (lessRt a b, ()), ()⟩⟩

theorem ok_impl_compare_ : GSpec Tryz.prog s_impl_compare_ := by
  refine fn_known tab_ok fol Known.nil (by decide) Tryz.func173 ?_
  rintro ⟨⟨(n : Int), (d : Int)⟩, ⟨(m : Int), (e : Int)⟩, ⟨⟩⟩ hl ⟨h1, h2, _⟩
  have b1 := smallmul h1 h2
  have b2 := smallmul h2 h1
  dsimp only at b1 b2
  repeat' (first | with_reducible apply andAll_cons | with_reducible apply andAll_nil | (with_reducible apply Cf.mk; kernel_rfl) | apply And.intro | intro _ | exact True.intro | apply Lf.mk)
  all_goals first | omega | skip
  all_goals simp only [decide_eq_true_eq, decide_eq_false_iff_not] at *
  · change (-1 : Int) = if n * e - m * d < 0 then -1 else if 0 < n * e - m * d then 1 else 0
    rw [if_pos (by omega)]
  · change (1 : Int) = if n * e - m * d < 0 then -1 else if 0 < n * e - m * d then 1 else 0
    rw [if_neg (by omega), if_pos (by omega)]
  · change (0 : Int) = if n * e - m * d < 0 then -1 else if 0 < n * e - m * d then 1 else 0
    rw [if_neg (by omega), if_neg (by omega)]
theorem ok_impl_compare : GSpec Tryz.prog s_impl_compare :=
  GSpec.imp ok_impl_compare_ fun (_, _, _) ⟨h1, h2, _⟩ => ⟨⟨small_good h1, small_good h2, trivial⟩, rfl, rfl⟩

theorem ok_spec_raCmp : GSpec Tryz.prog s_spec_raCmp := by
  refine fn_known tab_ok fol (Known.nil.cons ok_spec_l1Sign (by kernel_rfl)) (by decide) Tryz.func94 ?_
  rintro ⟨⟨(n : Int), (d : Int)⟩, ⟨(m : Int), (e : Int)⟩, ⟨⟩⟩ hl ⟨h1, h2, _⟩
  have b1 := ratmul h1 h2
  have b2 := ratmul h2 h1
  dsimp only at b1 b2
  repeat' (first | with_reducible apply andAll_cons | with_reducible apply andAll_nil | (with_reducible apply Cf.mk; kernel_rfl) | apply And.intro | intro _ | exact True.intro | apply Lf.mk)
  all_goals first | omega | rfl

theorem sgn_neg {n : Int} : (sgn n < 0) ↔ n < 0 := by
  unfold sgn; split
  · omega
  · split <;> omega

theorem ok_impl_less_ : GSpec Tryz.prog s_impl_less_ := by
  refine fn_known tab_ok fol (Known.nil.cons ok_impl_compare_ (by kernel_rfl)) (by decide) Tryz.func101 ?_
  rintro ⟨⟨(n : Int), (d : Int)⟩, ⟨(m : Int), (e : Int)⟩, ⟨⟩⟩ hl ⟨h1, h2, _⟩
  repeat' (first | with_reducible apply andAll_cons | with_reducible apply andAll_nil | (with_reducible apply Cf.mk; kernel_rfl) | apply And.intro | intro _ | exact True.intro | apply Lf.mk)
  · exact h1
  · exact h2
  · change decide (cmpRt _ _ < 0) = lessRt _ _
    unfold lessRt cmpRt
    rw [Bool.eq_iff_iff, decide_eq_true_eq, decide_eq_true_eq, sgn_neg]
    omega
theorem ok_impl_less : GSpec Tryz.prog s_impl_less :=
  GSpec.imp ok_impl_less_ fun (_, _, _) ⟨h1, h2, _⟩ => ⟨⟨small_good h1, small_good h2, trivial⟩, rfl, rfl⟩

theorem cmp_less (a b : Rt) : decide (cmpRt a b < 0) = lessRt a b := by
  unfold lessRt cmpRt
  rw [Bool.eq_iff_iff, decide_eq_true_eq, decide_eq_true_eq, sgn_neg]
  omega

theorem all_take_succ {α : Type} (p : α → Bool) (d : α) (l : List α) (i : Nat) (h : i < l.length) : (l.take (i + 1)).all p = ((l.take i).all p && p (getA d l i)) := by
  rw [getA_eq, List.take_add_one, List.all_append]
  simp [List.getD, h]
theorem all_false_of {α : Type} (p : α → Bool) (d : α) (l : List α) (i : Nat) (h : i < l.length) (hp : p (getA d l i) = false) : l.all p = false := by
  rw [getA_eq] at hp
  rw [List.all_eq_false]
  exact ⟨l[i], List.getElem_mem h, by simp [List.getD, h] at hp; simp [hp]⟩

theorem ok_impl_areRats : GSpec Tryz.prog s_impl_areRats := by
  refine fn_known tab_ok fol (Known.nil.cons ok_impl_isRat (by kernel_rfl)) (by decide) Tryz.func231 ?_
  rintro ⟨(l : List Rt), ⟨⟩⟩ ⟨hl, _⟩ _
  have hl : l.length ≤ 9223372036854775807 := hl
  refine ⟨Nat, fun i => ⟨[(7, .sc (.num .i64 i))], [100000], []⟩, fun i => i ≤ l.length ∧ (l.take i).all goodRt = true, fun i => l.length - i, ⟨0, ?_, ?_⟩, ?_⟩
  · exact ⟨Nat.zero_le _, rfl⟩
  · repeat' (first | apply And.intro | exact True.intro | exact Lf.mk (by with_reducible rfl) | apply Lf.mk)
    all_goals rfl
  · rintro i ⟨g1, g2⟩
    repeat' (first | with_reducible apply andAll_cons | with_reducible apply andAll_nil | (with_reducible apply Cf.mk; kernel_rfl) | apply And.intro | intro _ | exact True.intro | apply Lf.mk)
    all_goals simp only [Int.toNat_natCast, Nat.zero_add, decide_eq_true_eq, decide_eq_false_iff_not, Int.ofNat_lt] at *
    all_goals first | omega | skip
    · rename_i h3 h4
      symm
      exact all_false_of goodRt (VK.dflt .rat) l i h3 (by rw [Bool.not_eq_true'] at h4; exact h4)
    · rename_i h3 h4
      have h3 : i < l.length := h3
      have h4 : goodRt (getA (VK.dflt .rat) l i) = true := by rw [Bool.not_eq_false'] at h4; exact h4
      refine ⟨i + 1, ⟨by omega, ?_⟩, by omega, ?_⟩
      · rw [all_take_succ goodRt (VK.dflt .rat) l i h3, g2, h4]; rfl
      · repeat' (first | apply And.intro | exact True.intro | exact Lf.mk (by with_reducible rfl) | apply Lf.mk)
        all_goals rfl
    · rename_i h3
      have h3 : ¬ i < l.length := h3
      change true = l.all goodRt
      rw [List.take_of_length_le (by omega)] at g2
      exact g2.symm
end Go.Vx
namespace Go.Vx
open Go Go.Proofs
set_option maxRecDepth 100000
set_option linter.unusedSimpArgs false
set_option linter.unusedVariables false

theorem lowRt_t {n d : Int} (h : goodRt ⟨n.tdiv (gsgn n d), d.tdiv (gsgn n d)⟩ = true) : lowRt n d = (⟨n.tdiv (gsgn n d), d.tdiv (gsgn n d)⟩, true) := by
  unfold lowRt; rw [h]
theorem lowRt_f {n d : Int} (h : goodRt ⟨n.tdiv (gsgn n d), d.tdiv (gsgn n d)⟩ = false) : lowRt n d = (⟨0, 0⟩, false) := by
  unfold lowRt; rw [h]
theorem lowRt_zero {n : Int} : lowRt n 0 = (⟨0, 0⟩, false) := by
  apply lowRt_f
  rw [Bool.eq_false_iff, ne_eq, goodRt_iff]
  simp
theorem tdiv_bd {n g : Int} : (n.tdiv g).natAbs ≤ n.natAbs := by
  rw [Int.natAbs_tdiv]; exact Nat.div_le_self _ _
theorem tdiv_in {n g : Int} (h : -9223372036854775808 < n) (h' : n ≤ 9223372036854775807) : inI64 (n.tdiv g) := by
  have := @tdiv_bd n g
  constructor <;> omega
theorem gsgn_ne {n d : Int} (h : d ≠ 0) : gsgn n d ≠ 0 := by
  have : Int.gcd n d ≠ 0 := by intro h2; exact h (Int.gcd_eq_zero_iff.1 h2).2
  unfold gsgn; split <;> omega
theorem gcd_nn (a b : Int) : Int.gcd (a.natAbs : Int) (b.natAbs : Int) = Int.gcd a b := by simp [Int.gcd]
theorem gcd_bd {n d : Int} (h : d ≠ 0) : (Int.gcd n d : Int) ≤ d.natAbs := by
  have := Nat.le_of_dvd (Int.natAbs_pos.2 h) (Nat.gcd_dvd_right n.natAbs d.natAbs)
  exact Int.ofNat_le.2 this

noncomputable def s_impl_lowest : Sig := ⟨232, [.val NI, .val NI], [.val .rat, .val .bool], fun ((n : Int), (d : Int), _) => ⟨[d ≠ 0, -9223372036854775808 < n, n ≤ 9223372036854775807, -9223372036854775808 < d, d ≤ 9223372036854775807], ((lowRt n d).1, (lowRt n d).2, ()), ()⟩⟩
noncomputable def s_spec_raMake : Sig := ⟨108, [.val NI, .val NI], [.val .rat, .val .bool], fun ((n : Int), (d : Int), _) => ⟨[-9223372036854775808 < n, n ≤ 9223372036854775807, -9223372036854775808 < d, d ≤ 9223372036854775807], ((lowRt n d).1, (lowRt n d).2, ()), ()⟩⟩

theorem gsgn_neg {n d : Int} (h : d < 0) : gsgn n d = 0 - (Int.gcd n d : Int) := by unfold gsgn; rw [if_pos h]; omega
theorem gsgn_pos {n d : Int} (h : ¬ d < 0) : gsgn n d = (Int.gcd n d : Int) := by unfold gsgn; rw [if_neg h]

theorem ok_impl_lowest : GSpec Tryz.prog s_impl_lowest := by
  refine fn_known tab_ok fol ((Known.nil.cons ok_impl_greatestDivisor (by kernel_rfl)).cons ok_impl_isRat (by kernel_rfl)) (by decide) Tryz.func232 ?_
  rintro ⟨(n : Int), (d : Int), ⟨⟩⟩ hl ⟨h1, h2, h3, h4, h5, _⟩
  have h6 := gcd_bd (n := n) h1
  have h7 := gsgn_ne (n := n) h1
  repeat' (first | with_reducible apply andAll_cons | with_reducible apply andAll_nil | (with_reducible apply Cf.mk; kernel_rfl) | apply And.intro | intro _ | exact True.intro | apply Lf.mk)
  all_goals (try simp only [Bool.not_eq_true', Bool.not_eq_false', Bool.not_not, decide_eq_true_eq, decide_eq_false_iff_not, beq_iff_eq, bne_iff_ne, beq_eq_false_iff_ne, bne_eq_false_iff_eq, ne_eq, Bool.and_eq_true, Bool.and_eq_false_iff, Bool.or_eq_true, Bool.or_eq_false_iff, Int.toNat_natCast, Nat.zero_add, Int.ofNat_lt, Int.ofNat_le, List.length_cons, List.length_nil, List.drop_zero, List.take_length] at *)
  all_goals first
    | omega
    | exact (tdiv_in h2 h3).1 | exact (tdiv_in h2 h3).2 | exact (tdiv_in h4 h5).1 | exact (tdiv_in h4 h5).2
    | exact h7 (by rw [gsgn_neg (by assumption)]; assumption) | exact h7 (by rw [gsgn_pos (by assumption)]; assumption)
    | rw [lowRt_f (by rw [gsgn_neg (by assumption)]; assumption)]
    | rw [lowRt_f (by rw [gsgn_pos (by assumption)]; assumption)]
    | (rw [lowRt_t (by rw [gsgn_neg (by assumption)]; assumption)]; rw [gsgn_neg (by assumption)])
    | (rw [lowRt_t (by rw [gsgn_pos (by assumption)]; assumption)]; rw [gsgn_pos (by assumption)])
    | rw [lowRt_t (by rw [gsgn_neg (by assumption)]; assumption)]
    | rw [lowRt_t (by rw [gsgn_pos (by assumption)]; assumption)]

theorem ok_spec_raMake : GSpec Tryz.prog s_spec_raMake := by
  refine fn_known tab_ok fol (((Known.nil.cons ok_spec_raCommon (by kernel_rfl)).cons ok_spec_l1Abs (by kernel_rfl)).cons ok_spec_raGood (by kernel_rfl)) (by decide) Tryz.func108 ?_
  rintro ⟨(n : Int), (d : Int), ⟨⟩⟩ hl ⟨h1, h2, h3, h4, _⟩
  have h6 := fun h => gcd_bd (n := n) (d := d) h
  have h7 := fun h => gsgn_ne (n := n) (d := d) h
  have h8 := gcd_nn n d
  repeat' (first | with_reducible apply andAll_cons | with_reducible apply andAll_nil | (with_reducible apply Cf.mk; kernel_rfl) | apply And.intro | intro _ | exact True.intro | apply Lf.mk)
  all_goals (try simp only [Bool.not_eq_true', Bool.not_eq_false', Bool.not_not, decide_eq_true_eq, decide_eq_false_iff_not, beq_iff_eq, bne_iff_ne, beq_eq_false_iff_ne, bne_eq_false_iff_eq, ne_eq, Bool.and_eq_true, Bool.and_eq_false_iff, Bool.or_eq_true, Bool.or_eq_false_iff, Int.toNat_natCast, Nat.zero_add, Int.ofNat_lt, Int.ofNat_le, List.length_cons, List.length_nil, List.drop_zero, List.take_length] at *)
  all_goals (try rw [h8] at *)
  all_goals first
    | omega
    | exact (tdiv_in h1 h2).1 | exact (tdiv_in h1 h2).2 | exact (tdiv_in h3 h4).1 | exact (tdiv_in h3 h4).2
    | (rename_i h8; rw [h8, lowRt_zero])
    | exact h7 (by assumption) (by rw [gsgn_neg (by assumption)]; assumption) | exact h7 (by assumption) (by rw [gsgn_pos (by assumption)]; assumption)
    | rw [lowRt_f (by rw [gsgn_neg (by assumption)]; assumption)]
    | rw [lowRt_f (by rw [gsgn_pos (by assumption)]; assumption)]
    | (rw [lowRt_t (by rw [gsgn_neg (by assumption)]; assumption)]; rw [gsgn_neg (by assumption)])
    | (rw [lowRt_t (by rw [gsgn_pos (by assumption)]; assumption)]; rw [gsgn_pos (by assumption)])
    | rw [lowRt_t (by rw [gsgn_neg (by assumption)]; assumption)]
    | rw [lowRt_t (by rw [gsgn_pos (by assumption)]; assumption)]
end Go.Vx
namespace Go.Vx
open Go

def cfA : Nat → Int → Int → List Int
  | 0, _, _ => []
  | f + 1, n, d => if d = 0 then [] else n / d :: cfA f d (n % d)
def cf (n d : Int) : List Int := cfA (d.toNat + 1) n d

theorem cfA_more : ∀ (f g : Nat) (n d : Int), 0 ≤ d → d.toNat < f → d.toNat < g → cfA f n d = cfA g n d
  | 0, _, _, _, _, h, _ => by omega
  | _, 0, _, _, _, _, h => by omega
  | f + 1, g + 1, n, d, h0, h1, h2 => by
    simp only [cfA]
    by_cases hd : d = 0
    · rw [if_pos hd, if_pos hd]
    · have := Int.emod_nonneg n hd
      have := Int.emod_lt_of_pos n (b := d) (by omega)
      rw [if_neg hd, if_neg hd, cfA_more f g d (n % d) (by omega) (by omega) (by omega)]
theorem cf_zero (n : Int) : cf n 0 = [] := by simp [cf, cfA]
theorem cf_pos {n d : Int} (h : 0 < d) : cf n d = n / d :: cf d (n % d) := by
  have h1 := Int.emod_nonneg n (show d ≠ 0 by omega)
  have h2 := Int.emod_lt_of_pos n h
  unfold cf
  rw [cfA, if_neg (by omega), cfA_more d.toNat ((n % d).toNat + 1) d (n % d) h1 (by omega) (by omega)]
theorem cfA_length : ∀ (f : Nat) (n d : Int), (cfA f n d).length ≤ f
  | 0, _, _ => by simp [cfA]
  | f + 1, n, d => by
    simp only [cfA]
    split
    · simp
    · simp [cfA_length f]
theorem cf_length (n d : Int) : (cf n d).length ≤ d.toNat + 1 := cfA_length _ _ _

theorem floor_eq {a b : Int} (h : 0 < b) : (if a.tmod b < 0 then a.tdiv b - 1 else a.tdiv b) = a / b := by
  have h1 := Int.tmod_add_mul_tdiv a b
  have h2 := Int.tmod_lt_of_pos a h
  have h3 : -b < a.tmod b := by
    have h4 := Int.tmod_lt_of_pos (-a) h
    rw [Int.neg_tmod] at h4
    omega
  generalize a.tmod b = r at *
  generalize a.tdiv b = q at *
  split
  · symm
    apply ((Int.ediv_emod_unique h).2 ⟨?_, (show 0 ≤ r + b by omega), by omega⟩).1
    rw [Int.mul_sub]
    omega
  · symm
    apply ((Int.ediv_emod_unique h).2 ⟨?_, (show 0 ≤ r by omega), h2⟩).1
    omega
theorem floor_lt {a b : Int} (h : 0 < b) (h2 : a.tmod b < 0) : a.tdiv b - 1 = a / b := by rw [← floor_eq h, if_pos h2]
theorem floor_ge {a b : Int} (h : 0 < b) (h2 : ¬ a.tmod b < 0) : a.tdiv b = a / b := by rw [← floor_eq h, if_neg h2]
theorem ediv_mul (a b : Int) : a / b * b = a - a % b := by
  have := Int.emod_add_mul_ediv a b
  rw [Int.mul_comm]; omega
theorem ediv_bd {a b : Int} (h : 0 < b) {M : Int} (h1 : -M ≤ a) (h2 : a ≤ M) (h0 : 0 ≤ M) : -M ≤ a / b ∧ a / b ≤ M := by
  constructor
  · rw [Int.le_ediv_iff_mul_le h]
    have := Int.mul_le_mul_of_nonneg_left (show 1 ≤ b by omega) h0
    have e : -M * b = -(M * b) := Int.neg_mul M b
    omega
  · apply Int.ediv_le_of_le_mul h
    have := Int.mul_le_mul_of_nonneg_left (show 1 ≤ b by omega) h0
    omega
end Go.Vx
