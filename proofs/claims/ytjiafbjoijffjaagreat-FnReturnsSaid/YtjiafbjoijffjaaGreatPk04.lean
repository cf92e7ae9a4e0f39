/- A call, by its contract, as a step. -/
import Derived.Test.YtjiafbjoijffjaaGreatPk03
namespace Go.Vx
set_option linter.unusedSimpArgs false
set_option linter.unusedVariables false
open Go Go.RowKit

section
variable {P : Program} {Γ : List Sig} {C : List (Nat × CloE)} {X : Cx} {st : St} {a : Act} {w : World} {γ : Nat → Gh} {hr : Nat → Option Ob}

theorem andL_append : ∀ {l r : List Prop}, andL (l ++ r) ↔ andL l ∧ andL r
  | [], r => by simp [andL]
  | p :: l, r => by simp only [List.cons_append, andL, andL_append (l := l), and_assoc]

theorem outs_perm : ∀ {ks : List AK} {svs : List SV} {o : AKo ks}, ((outsOf ks svs o).map (·.id)).Perm (cIs ks svs ++ oIs ks svs)
  | [], _, _ => by simp [outsOf, cIs, oIs]
  | k :: ks, [], o => by cases k <;> simp [outsOf, cIs, oIs]
  | k :: ks, v :: vs, o => by
    cases k
    case cell t k =>
      obtain ⟨o, o'⟩ := o
      have ih := outs_perm (ks := ks) (svs := vs) (o := o')
      simp only [outsOf, cIs, oIs]
      split
      · simpa [cI, oI] using ih
      · rename_i h1
        have : cI (.cell t k) v = [] := by
          cases v with
          | sc s => cases s <;> first | rfl | exact (h1 _ _ rfl).elim
          | _ => rfl
        simpa [this, oI] using ih
    case mrow e k =>
      obtain ⟨o, o'⟩ := o
      have ih := outs_perm (ks := ks) (svs := vs) (o := o')
      simp only [outsOf, cIs, oIs]
      split
      · simpa [cI, oI] using ih
      · rename_i h1
        have : cI (.mrow e k) v = [] := by
          cases v with
          | sc s => cases s <;> first | rfl | exact (h1 _ rfl).elim
          | _ => rfl
        simpa [this, oI] using ih
    case mlift e k =>
      obtain ⟨o, o'⟩ := o
      have ih := outs_perm (ks := ks) (svs := vs) (o := o')
      simp only [outsOf, cIs, oIs]
      split
      · simpa [cI, oI] using ih
      · rename_i h1
        have : cI (.mlift e k) v = [] := by
          unfold cI
          split
          · rename_i hh; cases hh
          · rename_i hh; cases hh
          · exact (h1 _ rfl).elim
          · rfl
        simpa [this, oI] using ih
    case own e k =>
      have ih := outs_perm (ks := ks) (svs := vs) (o := o)
      simp only [outsOf, cIs, oIs]
      split
      · rename_i id
        simp only [List.map_cons, cI, oI, List.nil_append, List.cons_append]
        exact (List.Perm.cons _ ih).trans List.perm_middle.symm
      · rename_i h1
        have : oI (.own e k) v = [] := by
          unfold oI
          split
          · exact (h1 _ rfl).elim
          · rfl
        simpa [this, cI] using ih
    all_goals
      have ih := outs_perm (ks := ks) (svs := vs) (o := o)
      simpa [outsOf, cIs, oIs, cI, oI] using ih

theorem own_slice {w : World} {e size n : Nat} {v : Value} {xs : List Value} (h : w.ownsRow 0 e size v n xs) : ∃ a c, v = .slice a n c := by
  rcases h.2 with ⟨rfl, rfl⟩ | ⟨g, cap, cur, rfl, _⟩
  · exact ⟨_, _, rfl⟩
  · exact ⟨_, _, rfl⟩

/-- What the objects hold that were handed in to be written. -/
theorem outs_obs (R : Rel X st a w γ) (hs : ∀ i o, hr i = some o → st.hp i = some o) {w' : World} : ∀ {ks : List AK} {svs : List SV} {x : AKs ks} {vs : List Value} {o : AKo ks} {cb : List Nat}, argsOf Γ C hr ks svs = some x → denVs st.ids γ svs vs → cb = (cIs ks svs).filterMap (blk γ) →
    OutsOk w' ks vs o cb → ∀ u ∈ outsOf ks svs o, ∀ ob, u.ob = some ob → (∀ ids γ', γ' u.id = γ u.id → ObOk ids γ' w' u.id ob) ∧ ob.wr = true ∧ ∀ b, blk γ u.id = some b → b ∈ cb
  | [], _, _, _, _, _, _, _, _, _, u, hu, _, _ => by simp [outsOf] at hu
  | k :: ks, [], _, _, _, _, h, _, _, _, _, _, _, _ => by cases h
  | k :: ks, sv :: svs, _, [], _, _, _, hd, _, _, _, _, _, _ => hd.elim
  | k :: ks, sv :: svs, z, v :: vs, o, cb, h, hd, hcb, hO, u, hu, ob, hob => by
    simp only [argsOf] at h
    split at h
    · rename_i x y hx hy
      cases h
      cases k
      case cell t k _ =>
        obtain ⟨o, o'⟩ := o
        simp only [argOf] at hx
        split at hx
        · rename_i t' cs hbox
          unfold boxOf at hbox
          split at hbox
          · rename_i id
            split at hbox
            · rename_i t2 cs2 hq
              obtain ⟨b, vs', ha, hh, _⟩ := R.ob _ _ (hs _ _ hq)
              have hb : blk γ id = some b := sub_blk ha
              simp only [cIs, cI, List.cons_append, List.nil_append, List.filterMap_cons, hb] at hcb
              subst hcb
              obtain ⟨h1, h2⟩ := hO
              simp only [outsOf, List.mem_cons] at hu
              rcases hu with rfl | hu
              · cases hob
                refine ⟨fun ids γ' hg => ⟨b, _, by rw [hg]; exact ha, h1, denL_enc k o⟩, rfl, fun b' hb' => ?_⟩
                rw [hb] at hb'
                cases hb'
                exact List.mem_cons_self
              · obtain ⟨q1, q2, q3⟩ := outs_obs R hs hy hd.2 rfl h2 u hu ob hob
                exact ⟨q1, q2, fun b' hb' => List.mem_cons_of_mem _ (q3 b' hb')⟩
            · cases hbox
          · cases hbox
        · cases hx
      case mrow e k _ =>
        obtain ⟨o, o'⟩ := o
        obtain ⟨c2, hc2, ho, hO2⟩ := hO
        simp only [argOf] at hx
        simp only [outsOf] at hu
        split at hx
        · have hv : v = .slice none 0 0 := hd.1
          subst hv
          simp only [cIs, cI, List.nil_append] at hcb
          simp only [Value.ownBlock, Option.toList, List.nil_append] at hc2
          rw [hc2] at hcb
          subst hcb
          subst hc2
          exact outs_obs R hs hy hd.2 rfl hO2 u hu ob hob
        · rename_i id
          split at hx
          · rename_i e' k' xs hq
            split at hx
            · rename_i he
              have hc := hx
              have he := Nat.eq_of_beq_eq_true he
              subst he
              obtain ⟨hf, hl, hk⟩ := castL_flat hc
              subst hk
              obtain ⟨_, hv⟩ := hd.1
              obtain ⟨hsz, hn, _⟩ := R.ob _ _ (hs _ _ hq)
              have hvb : v.ownBlock.toList = (blk γ id).toList := by
                rw [hv]
                cases ha : (γ id).a <;> simp [blk, ha, Value.ownBlock]
              have hcb2 : cb = (blk γ id).toList ++ (cIs ks svs).filterMap (blk γ) := by
                rw [hcb]
                simp only [cIs, cI, List.cons_append, List.nil_append, List.filterMap_cons]
                cases blk γ id <;> rfl
              have h2 : c2 = (cIs ks svs).filterMap (blk γ) := by
                rw [hc2, hvb] at hcb2
                exact List.append_cancel_left hcb2
              rcases List.mem_cons.1 hu with rfl | hu
              · cases hob
                obtain ⟨a', c', hs'⟩ := own_slice ho
                have hnl : (γ id).n = o.length := by
                  rw [hv] at hs'
                  injection hs'
                refine ⟨fun ids γ' hg => ⟨by rw [hg]; exact hsz, by rw [hg]; exact hnl, ?_⟩, rfl, fun b hb => ?_⟩
                · rw [hg, ← hv]
                  exact ho
                · rw [hcb2, hb]
                  simp
              · obtain ⟨q1, q2, q3⟩ := outs_obs R hs hy hd.2 h2 hO2 u hu ob hob
                exact ⟨q1, q2, fun b' hb' => by rw [hc2]; exact List.mem_append.2 (.inr (q3 b' hb'))⟩
            · cases hx
          · cases hx
        · cases hx
      case mlift e k _ =>
        obtain ⟨o, o'⟩ := o
        obtain ⟨u0, c2, hv0, hc2, ho, hO2⟩ := hO
        simp only [argOf] at hx
        simp only [outsOf] at hu
        split at hx
        · obtain ⟨us, hv1, hL⟩ := hd.1
          match us, hL with
          | [u1], hL =>
            have hv : u1 = .slice none 0 0 := hL.1
            subst hv
            rw [hv1] at hv0
            have e0 : Value.slice none 0 0 = u0 := by injection hv0 with h; injection h with h; injection h
            subst e0
            simp only [cIs, cI, List.nil_append] at hcb
            simp only [Value.ownBlock, Option.toList, List.nil_append] at hc2
            rw [hc2] at hcb
            subst hcb
            subst hc2
            exact outs_obs R hs hy hd.2 rfl hO2 u hu ob hob
        · rename_i id
          obtain ⟨us, hv1, hL⟩ := hd.1
          match us, hL with
          | [u1], hL =>
            rw [hv1] at hv0
            have e0 : u1 = u0 := by injection hv0 with h; injection h with h; injection h
            subst e0
            split at hx
            · rename_i e' k' xs hq
              split at hx
              · rename_i he
                have hc := hx
                have he := Nat.eq_of_beq_eq_true he
                subst he
                obtain ⟨hf, hl, hk⟩ := castL_flat hc
                subst hk
                obtain ⟨_, hv⟩ := hL.1
                obtain ⟨hsz, hn, _⟩ := R.ob _ _ (hs _ _ hq)
                have hvb : u1.ownBlock.toList = (blk γ id).toList := by
                  rw [hv]
                  cases ha : (γ id).a <;> simp [blk, ha, Value.ownBlock]
                have hcb2 : cb = (blk γ id).toList ++ (cIs ks svs).filterMap (blk γ) := by
                  rw [hcb]
                  simp only [cIs, cI, List.cons_append, List.nil_append, List.filterMap_cons]
                  cases blk γ id <;> rfl
                have h2 : c2 = (cIs ks svs).filterMap (blk γ) := by
                  rw [hc2, hvb] at hcb2
                  exact List.append_cancel_left hcb2
                rcases List.mem_cons.1 hu with rfl | hu
                · cases hob
                  obtain ⟨a', c', hs'⟩ := own_slice ho
                  have hnl : (γ id).n = o.length := by
                    rw [hv] at hs'
                    injection hs'
                  refine ⟨fun ids γ' hg => ⟨by rw [hg]; exact hsz, by rw [hg]; exact hnl, ?_⟩, rfl, fun b hb => ?_⟩
                  · rw [hg, ← hv]
                    exact ho
                  · rw [hcb2, hb]
                    simp
                · obtain ⟨q1, q2, q3⟩ := outs_obs R hs hy hd.2 h2 hO2 u hu ob hob
                  exact ⟨q1, q2, fun b' hb' => by rw [hc2]; exact List.mem_append.2 (.inr (q3 b' hb'))⟩
              · cases hx
            · cases hx
        · cases hx
      case own e k =>
        simp only [cIs, cI, List.nil_append] at hcb
        simp only [outsOf] at hu
        split at hu
        · rcases List.mem_cons.1 hu with rfl | hu
          · cases hob
          · exact outs_obs R hs hy hd.2 hcb hO u hu ob hob
        · exact outs_obs R hs hy hd.2 hcb hO u hu ob hob
      all_goals
        simp only [cIs, cI, List.nil_append] at hcb
        simp only [outsOf] at hu
        exact outs_obs R hs hy hd.2 hcb hO u hu ob hob
    · cases h

def ghOf (k : VK) : Value → Gh
  | .slice a n c => ⟨a, n, c, k.size, undef⟩
  | _ => ⟨none, 0, 0, 0, undef⟩

/-- A list that is handed back, as a part of one's own. -/
theorem part_ok {w : World} {rb : List Nat} {k : VK} {xs : List k.ty} {v : Value} (h : ListOk w rb k xs v) : ∃ g : Gh, xs.length ≤ 9223372036854775807 ∧ (∀ ad, g.a = some ad → ad.block ∈ rb) ∧
    ∀ (ids : Nat → Bool) (γ' : Nat → Gh) i, ids i = true → γ' i = g → den ids γ' (.vw i 0 xs.length) v ∧ ObOk ids γ' w i (.part k xs) := by
  obtain ⟨a, c, rfl, hc, hm, hcell⟩ := h
  have hm' : xs.length ≤ 9223372036854775807 := hm
  by_cases h0 : 0 < xs.length
  · obtain ⟨ad, ha, hrb, hlt, hcl⟩ := hcell h0
    subst ha
    refine ⟨⟨some ad, xs.length, c, k.size, undef⟩, hm', (fun ad' h => by cases h; exact hrb), fun ids γ' i hi hg => ?_⟩
    have h00 : ad.add (0 * k.size) = ad := by rw [Nat.zero_mul]; unfold Addr.add; cases ad with | mk b o p => cases p <;> simp
    refine ⟨⟨hi, by rw [hg]; simp, _, c, rfl, ⟨hc, fun _ ad' had => by rw [hg] at had; cases had; exact ⟨rfl, by rw [hg]⟩⟩, fun _ => ⟨ad, by rw [hg], by rw [hg, h00], fun _ => by rw [hg]⟩⟩, by rw [hg], by rw [hg], hm, fun ad' ha => ?_, fun _ => ⟨ad, by rw [hg], hcl⟩⟩
    rw [hg] at ha
    cases ha
    exact hlt
  · refine ⟨⟨none, xs.length, c, k.size, undef⟩, hm', (fun ad' h => by cases h), fun ids γ' i hi hg => ?_⟩
    refine ⟨⟨hi, by rw [hg]; simp, a, c, rfl, ⟨hc, fun _ ad' had => by rw [hg] at had; cases had⟩, fun h => (h0 h).elim⟩, by rw [hg], by rw [hg], hm, fun ad' ha => ?_, fun h => (h0 h).elim⟩
    rw [hg] at ha
    cases ha

/-- The results as values and objects. -/
theorem ress_ok {ids : Nat → Bool} {w' : World} : ∀ {rs : List RK} (γ : Nat → Gh) {b : Nat} {res : RKs rs} {vals : List Value} {l : List Nat} {svs : List (Bool × List Sc)} {us : List Up}, resOf b rs res = (svs, us) → RessOk w' rs res vals l →
    (∀ u ∈ us, ids u.id = true) → ∃ γ', (∀ i, (∀ u ∈ us, u.id ≠ i) → γ' i = γ i) ∧ denT ids γ' svs vals ∧ (∀ u ∈ us, b ≤ u.id) ∧
      (∀ u ∈ us, ∀ o, u.ob = some o → ObOk ids γ' w' u.id o ∧ o.wr = true ∧ ∀ c, blk γ' u.id = some c → c ∈ l) ∧
      (l.Nodup → ∀ u ∈ us, ∀ u2 ∈ us, ∀ c, blk γ' u.id = some c → blk γ' u2.id = some c → u.id = u2.id)
  | [], γ, b, res, [], l, svs, us, h, hr, _ => by
    cases h
    exact ⟨γ, (fun _ _ => rfl), trivial, (fun _ h => by cases h), (fun _ h => by cases h), (fun _ _ h => by cases h)⟩
  | [], _, _, _, _ :: _, _, _, _, _, hr, _ => hr.elim
  | k :: rs, _, _, _, [], _, _, _, _, hr, _ => by cases k <;> exact hr.elim
  | .val k :: rs, γ, b, (x, y), v :: vals, l, svs, us, h, hr, hid => by
    simp only [resOf] at h
    cases hq : resOf (b + 1) rs y with
    | mk svs' us' =>
      rw [hq] at h
      cases h
      obtain ⟨hv, hr'⟩ := hr
      obtain ⟨γ', g1, g2, g3, g4, g5⟩ := ress_ok γ hq hr' hid
      exact ⟨γ', g1, ⟨⟨_, hv, denL_enc k x⟩, g2⟩, (fun u hu => Nat.le_of_succ_le (g3 u hu)), g4, g5⟩
  | .skip :: rs, γ, b, (x, y), v :: vals, l, svs, us, h, hr, hid => by
    simp only [resOf] at h
    cases hq : resOf (b + 1) rs y with
    | mk svs' us' =>
      rw [hq] at h
      cases h
      obtain ⟨γ', g1, g2, g3, g4, g5⟩ := ress_ok γ hq hr hid
      exact ⟨γ', g1, ⟨⟨[v], rfl, ⟨trivial, trivial⟩⟩, g2⟩, (fun u hu => Nat.le_of_succ_le (g3 u hu)), g4, g5⟩
  | .list e k :: rs, γ, b, (x, y), v :: vals, l, svs, us, h, hr, hid => by
    simp only [resOf] at h
    cases hq : resOf (b + 1) rs y with
    | mk svs' us' =>
      rw [hq] at h
      cases h
      obtain ⟨l', ho, hl, hr'⟩ := hr
      obtain ⟨aa, c, hv⟩ := own_slice ho
      subst hv
      obtain ⟨γ', g1, g2, g3, g4, g5⟩ := ress_ok (upd γ b (ghOf k (.slice aa x.length c))) hq hr' (fun u hu => hid u (List.mem_cons_of_mem _ hu))
      have hne : ∀ u ∈ us', u.id ≠ b := fun u hu e => by have := g3 u hu; omega
      have hgb : γ' b = ⟨aa, x.length, c, k.size, undef⟩ := by rw [g1 b hne, upd_same]; rfl
      have hbo : ∀ c', blk γ' b = some c' → c' ∈ (Value.slice aa x.length c).ownBlock.toList := by
        intro c' hc'
        simp only [blk, hgb] at hc'
        cases aa with
        | none => cases hc'
        | some ad => simp at hc'; simp [Value.ownBlock, hc']
      refine ⟨γ', fun i hi => ?_, ⟨⟨[.slice aa x.length c], rfl, ⟨hid _ List.mem_cons_self, by rw [hgb]⟩, trivial⟩, g2⟩, fun u hu => ?_, fun u hu o hob => ?_, fun hn u hu u2 hu2 c' h1 h2 => ?_⟩
      · rw [g1 i fun u hu => hi u (List.mem_cons_of_mem _ hu), upd_ne _ _ (Ne.symm (hi _ List.mem_cons_self))]
      · rcases List.mem_cons.1 hu with rfl | hu
        · exact Nat.le_refl _
        · exact Nat.le_of_succ_le (g3 u hu)
      · rcases List.mem_cons.1 hu with rfl | hu
        · cases hob
          refine ⟨⟨by rw [hgb], by rw [hgb], by rw [hgb]; exact ho⟩, rfl, fun c' hc' => ?_⟩
          rw [hl]
          exact List.mem_append.2 (.inl (hbo c' hc'))
        · obtain ⟨q1, q2, q3⟩ := g4 u hu o hob
          exact ⟨q1, q2, fun c' hc' => by rw [hl]; exact List.mem_append.2 (.inr (q3 c' hc'))⟩
      · rw [hl] at hn
        have hdis := (List.nodup_append.1 hn).2.2
        have later : ∀ u ∈ us', blk γ' u.id = some c' → c' ∈ l' := fun u hu hb => by
          -- each of the later ones is an object
          have : ∀ {rs : List RK} {b : Nat} {res : RKs rs} {svs us}, resOf b rs res = (svs, us) → ∀ u ∈ us, ∃ o, u.ob = some o := by
            intro rs
            induction rs with
            | nil => intro b res svs us h u hu; cases h; cases hu
            | cons k rs ih =>
              intro b res svs us h u hu
              obtain ⟨x, y⟩ := res
              cases k <;> simp only [resOf] at h
              all_goals
                cases hq : resOf (b + 1) rs y with
                | mk svs' us' =>
                  rw [hq] at h
                  cases h
                  first
                    | exact ih hq u hu
                    | (rcases List.mem_cons.1 hu with rfl | hu
                       · exact ⟨_, rfl⟩
                       · exact ih hq u hu)
          obtain ⟨o, ho⟩ := this hq u hu
          exact (g4 u hu o ho).2.2 c' hb
        rcases List.mem_cons.1 hu with rfl | hu <;> rcases List.mem_cons.1 hu2 with rfl | hu2
        · rfl
        · exact (hdis _ (hbo c' h1) _ (later u2 hu2 h2) rfl).elim
        · exact (hdis _ (hbo c' h2) _ (later u hu h1) rfl).elim
        · exact g5 (List.nodup_append.1 hn).2.1 u hu u2 hu2 c' h1 h2
  | .lift e k :: rs, γ, b, (x, y), v :: vals, l, svs, us, h, hr, hid => by
    simp only [resOf] at h
    cases hq : resOf (b + 1) rs y with
    | mk svs' us' =>
      rw [hq] at h
      cases h
      obtain ⟨l', v0, hv0, ho, hl, hr'⟩ := hr
      obtain ⟨aa, c, hv⟩ := own_slice ho
      subst hv
      subst hv0
      obtain ⟨γ', g1, g2, g3, g4, g5⟩ := ress_ok (upd γ b (ghOf k (.slice aa x.length c))) hq hr' (fun u hu => hid u (List.mem_cons_of_mem _ hu))
      have hne : ∀ u ∈ us', u.id ≠ b := fun u hu e => by have := g3 u hu; omega
      have hgb : γ' b = ⟨aa, x.length, c, k.size, undef⟩ := by rw [g1 b hne, upd_same]; rfl
      have hbo : ∀ c', blk γ' b = some c' → c' ∈ (Value.slice aa x.length c).ownBlock.toList := by
        intro c' hc'
        simp only [blk, hgb] at hc'
        cases aa with
        | none => cases hc'
        | some ad => simp at hc'; simp [Value.ownBlock, hc']
      refine ⟨γ', fun i hi => ?_, ⟨⟨[.slice aa x.length c], rfl, ⟨hid _ List.mem_cons_self, by rw [hgb]⟩, trivial⟩, g2⟩, fun u hu => ?_, fun u hu o hob => ?_, fun hn u hu u2 hu2 c' h1 h2 => ?_⟩
      · rw [g1 i fun u hu => hi u (List.mem_cons_of_mem _ hu), upd_ne _ _ (Ne.symm (hi _ List.mem_cons_self))]
      · rcases List.mem_cons.1 hu with rfl | hu
        · exact Nat.le_refl _
        · exact Nat.le_of_succ_le (g3 u hu)
      · rcases List.mem_cons.1 hu with rfl | hu
        · cases hob
          refine ⟨⟨by rw [hgb], by rw [hgb], by rw [hgb]; exact ho⟩, rfl, fun c' hc' => ?_⟩
          rw [hl]
          exact List.mem_append.2 (.inl (hbo c' hc'))
        · obtain ⟨q1, q2, q3⟩ := g4 u hu o hob
          exact ⟨q1, q2, fun c' hc' => by rw [hl]; exact List.mem_append.2 (.inr (q3 c' hc'))⟩
      · rw [hl] at hn
        have hdis := (List.nodup_append.1 hn).2.2
        have later : ∀ u ∈ us', blk γ' u.id = some c' → c' ∈ l' := fun u hu hb => by
          have : ∀ {rs : List RK} {b : Nat} {res : RKs rs} {svs us}, resOf b rs res = (svs, us) → ∀ u ∈ us, ∃ o, u.ob = some o := by
            intro rs
            induction rs with
            | nil => intro b res svs us h u hu; cases h; cases hu
            | cons k rs ih =>
              intro b res svs us h u hu
              obtain ⟨x, y⟩ := res
              cases k <;> simp only [resOf] at h
              all_goals
                cases hq : resOf (b + 1) rs y with
                | mk svs' us' =>
                  rw [hq] at h
                  cases h
                  first
                    | exact ih hq u hu
                    | (rcases List.mem_cons.1 hu with rfl | hu
                       · exact ⟨_, rfl⟩
                       · exact ih hq u hu)
          obtain ⟨o, ho⟩ := this hq u hu
          exact (g4 u hu o ho).2.2 c' hb
        rcases List.mem_cons.1 hu with rfl | hu <;> rcases List.mem_cons.1 hu2 with rfl | hu2
        · rfl
        · exact (hdis _ (hbo c' h1) _ (later u2 hu2 h2) rfl).elim
        · exact (hdis _ (hbo c' h2) _ (later u hu h1) rfl).elim
        · exact g5 (List.nodup_append.1 hn).2.1 u hu u2 hu2 c' h1 h2
  | .part k :: rs, γ, b, (x, y), v :: vals, l, svs, us, h, hr, hid => by
    simp only [resOf] at h
    cases hq : resOf (b + 1) rs y with
    | mk svs' us' =>
      rw [hq] at h
      cases h
      obtain ⟨l1, l', ho, hl, hr'⟩ := hr
      obtain ⟨g, hm, hgl, hgo⟩ := part_ok ho
      obtain ⟨γ', g1, g2, g3, g4, g5⟩ := ress_ok (upd γ b g) hq hr' (fun u hu => hid u (List.mem_cons_of_mem _ hu))
      have hne : ∀ u ∈ us', u.id ≠ b := fun u hu e => by have := g3 u hu; omega
      have hgb : γ' b = g := by rw [g1 b hne, upd_same]
      have hbo : ∀ c', blk γ' b = some c' → c' ∈ l1 := by
        intro c' hc'
        simp only [blk, hgb] at hc'
        cases ha : g.a with
        | none => rw [ha] at hc'; cases hc'
        | some ad => rw [ha] at hc'; simp at hc'; rw [← hc']; exact hgl ad ha
      obtain ⟨q8, q9⟩ := hgo ids γ' b (hid _ List.mem_cons_self) hgb
      refine ⟨γ', fun i hi => ?_, ⟨⟨[v], rfl, q8, trivial⟩, g2⟩, fun u hu => ?_, fun u hu o hob => ?_, fun hn u hu u2 hu2 c' h1 h2 => ?_⟩
      · rw [g1 i fun u hu => hi u (List.mem_cons_of_mem _ hu), upd_ne _ _ (Ne.symm (hi _ List.mem_cons_self))]
      · rcases List.mem_cons.1 hu with rfl | hu
        · exact Nat.le_refl _
        · exact Nat.le_of_succ_le (g3 u hu)
      · rcases List.mem_cons.1 hu with rfl | hu
        · cases hob
          refine ⟨q9, rfl, fun c' hc' => ?_⟩
          rw [hl]
          exact List.mem_append.2 (.inl (hbo c' hc'))
        · obtain ⟨q1, q2, q3⟩ := g4 u hu o hob
          exact ⟨q1, q2, fun c' hc' => by rw [hl]; exact List.mem_append.2 (.inr (q3 c' hc'))⟩
      · rw [hl] at hn
        have hdis := (List.nodup_append.1 hn).2.2
        have later : ∀ u ∈ us', blk γ' u.id = some c' → c' ∈ l' := fun u hu hb => by
          -- each of the later ones is an object
          have : ∀ {rs : List RK} {b : Nat} {res : RKs rs} {svs us}, resOf b rs res = (svs, us) → ∀ u ∈ us, ∃ o, u.ob = some o := by
            intro rs
            induction rs with
            | nil => intro b res svs us h u hu; cases h; cases hu
            | cons k rs ih =>
              intro b res svs us h u hu
              obtain ⟨x, y⟩ := res
              cases k <;> simp only [resOf] at h
              all_goals
                cases hq : resOf (b + 1) rs y with
                | mk svs' us' =>
                  rw [hq] at h
                  cases h
                  first
                    | exact ih hq u hu
                    | (rcases List.mem_cons.1 hu with rfl | hu
                       · exact ⟨_, rfl⟩
                       · exact ih hq u hu)
          obtain ⟨o, ho⟩ := this hq u hu
          exact (g4 u hu o ho).2.2 c' hb
        rcases List.mem_cons.1 hu with rfl | hu <;> rcases List.mem_cons.1 hu2 with rfl | hu2
        · rfl
        · exact (hdis _ (hbo c' h1) _ (later u2 hu2 h2) rfl).elim
        · exact (hdis _ (hbo c' h2) _ (later u hu h1) rfl).elim
        · exact g5 (List.nodup_append.1 hn).2.1 u hu u2 hu2 c' h1 h2

theorem pack_ok {ids : Nat → Bool} {svs : List (Bool × List Sc)} {vals : List Value} (h : denT ids γ svs vals) : denV ids γ (pack svs) (packV vals) := by
  match svs, vals, h with
  | [], [], _ => exact ⟨[], rfl, trivial⟩
  | [(ag, cs)], [v], ⟨⟨vs, hv, hd⟩, _⟩ =>
    simp only [pack, packV]
    cases ag with
    | true => exact ⟨vs, hv, hd⟩
    | false =>
      match cs, vs, hd with
      | [], [], _ => exact trivial
      | [s], [u], hd => rw [hv]; exact hd.1
      | _ :: _ :: _, _ :: _ :: _, _ => exact trivial
      | [_], [], hd => exact hd.elim
      | [_], _ :: _ :: _, hd => exact hd.2.elim
      | _ :: _ :: _, [_], hd => exact hd.2.elim
      | _ :: _ :: _, [], hd => exact hd.elim
  | a :: b :: r, u :: v :: t, h => exact ⟨_, rfl, h⟩
  | [_], _ :: _ :: _, h => exact h.2.elim
  | _ :: _ :: _, [_], h => exact h.2.elim

/-- A call by its contract. -/
theorem call_ok (hΓ : KnowOk P X Γ C) (R : Rel X st a w γ) (hs : ∀ i o, hr i = some o → st.hp i = some o) {d : Option Nat} {f : Nat} {svs : List SV} {ps : List Prop} {v : SV} {us : List Up} {vs : List Value}
    (h : callAct Γ C d f hr svs = some (ps, v, us)) (hd : denVs st.ids γ svs vs) (hps : andL ps) (hok : okUps st.ids us = true) (hn : (us.map (·.id)).Nodup) :
    Calls P f vs.toArray w fun e w' => ∃ v' γ', e = .returned v' ∧ StepOk st w γ v us v' w' γ' := by
  unfold callAct at h
  split at h
  · rename_i f' ks rs eff svs' hf hunp
    obtain ⟨hm, hff⟩ := findSig_mem hf
    have hg := hΓ.sig _ hm
    simp only at hff
    subst hff
    obtain ⟨vs0, hd0, hpk⟩ := unp_den hunp hd
    rw [← hpk]
    clear hpk hd
    clear hunp
    clear svs vs
    revert hd0 h
    generalize svs' = svs
    generalize vs0 = vs
    intro h hd
    split at h
    · rename_i x hx
      split at h
      rename_i pre res out heff
      split at h
      rename_i rsv rus hres
      split at h
      · rename_i hdj
        cases h
        have hdj := disjB_true hdj
        have hnI : ((outsOf ks svs out).map (·.id)).Nodup := (List.nodup_append.1 (by simpa using hn)).1
        have hperm := outs_perm (ks := ks) (svs := svs) (o := out)
        have hnC : (cIs ks svs ++ oIs ks svs).Nodup := hperm.nodup_iff.1 hnI
        obtain ⟨cb, ob, hA, hcb, hob, hwr⟩ := argsOf_ok hΓ R hs (rb := ((rdIds hr ks svs).filter fun i => (st.hp i).isSome).filterMap (blk γ) ++ X.rc) (fun b hb => List.mem_append.2 (.inr hb)) hx hd
          (fun i hi o b ho hb => List.mem_append.2 (.inl (List.mem_filterMap.2 ⟨i, List.mem_filter.2 ⟨hi, by simp [ho]⟩, hb⟩)))
        have hbn : (cb ++ ob).Nodup := by
          rw [hcb, hob, ← List.filterMap_append]
          exact blks_nodup R hnC hwr
        have hmemI : ∀ b ∈ cb ++ ob, ∃ i ∈ cIs ks svs ++ oIs ks svs, blk γ i = some b := by
          intro b hb
          rw [hcb, hob, ← List.filterMap_append] at hb
          obtain ⟨i, hi, hb⟩ := List.mem_filterMap.1 hb
          exact ⟨i, hi, hb⟩
        have hrb : ∀ b ∈ cb ++ ob, b ∉ ((rdIds hr ks svs).filter fun i => (st.hp i).isSome).filterMap (blk γ) ++ X.rc := by
          intro b hb hr'
          obtain ⟨i, hi, hib⟩ := hmemI b hb
          rcases List.mem_append.1 hr' with hr' | hr'
          rotate_left
          · obtain ⟨o, ho, hw⟩ := hwr i hi
            obtain ⟨h1, h2⟩ := hΓ.rc b hr'
            rcases R.lo i o b ho hw hib with h3 | h3
            · omega
            · exact h2 h3
          obtain ⟨j, hj, hjb⟩ := List.mem_filterMap.1 hr'
          obtain ⟨hj1, hj2⟩ := List.mem_filter.1 hj
          obtain ⟨o, ho, hw⟩ := hwr i hi
          obtain ⟨p, hp⟩ := Option.isSome_iff_exists.1 hj2
          rcases R.sep i j o p b ho hp hib hjb with e | ⟨e, _⟩
          · exact hdj i (hperm.mem_iff.2 hi) (e ▸ hj1)
          · rw [hw] at e; cases e
        have hC := hg x vs w _ cb ob hA (raws_ok hΓ R (fun b hb => List.mem_append.2 (.inr hb)) (andL_append.1 hps).1) hbn hrb (by show andL (eff x).pre; rw [heff]; exact (andL_append.1 hps).2)
        refine hC.mono ?_
        rintro e w' ⟨vals, l, he, hR, hln, hl, hO, hK⟩
        simp only [heff] at hR hO
        have hall := okUps_spec hok hn
        obtain ⟨γ', g1, g2, g3, g4, g5⟩ := ress_ok (ids := updI st.ids (outsOf ks svs out ++ rus)) γ hres hR (fun u hu => updI_true.2 (.inr (List.mem_map_of_mem (List.mem_append.2 (.inr hu)))))
        -- the results' objects are new
        have hnew : ∀ {rs : List RK} {b : Nat} {res : RKs rs} {svs us}, resOf b rs res = (svs, us) → ∀ u ∈ us, u.new = true := by
          intro rs
          induction rs with
          | nil => intro b res svs us h u hu; cases h; cases hu
          | cons k rs ih =>
            intro b res svs us h u hu
            obtain ⟨x, y⟩ := res
            cases k <;> simp only [resOf] at h
            all_goals
              cases hq : resOf (b + 1) rs y with
              | mk svs' us' =>
                rw [hq] at h
                cases h
                first
                  | exact ih hq u hu
                  | (rcases List.mem_cons.1 hu with rfl | hu
                     · rfl
                     · exact ih hq u hu)
        have hgh : ∀ i, st.ids i = true → γ' i = γ i := fun i hi => g1 i fun u hu e => by
          have := (hall u (List.mem_append.2 (.inr hu))).1 (hnew hres u hu)
          rw [e, hi] at this
          cases this
        have hidC : ∀ i ∈ cIs ks svs ++ oIs ks svs, st.ids i = true := fun i hi => by
          obtain ⟨o, ho, _⟩ := hwr i hi
          exact R.id i o ho
        have hblkC : ∀ i ∈ cIs ks svs ++ oIs ks svs, blk γ' i = blk γ i := fun i hi => by unfold blk; rw [hgh i (hidC i hi)]
        have hmemU : ∀ i ∈ cIs ks svs ++ oIs ks svs, ∃ u ∈ outsOf ks svs out ++ rus, u.id = i := fun i hi => by
          obtain ⟨u, hu, e⟩ := List.mem_map.1 (hperm.mem_iff.2 hi)
          exact ⟨u, List.mem_append.2 (.inl hu), e⟩
        have hUmem : ∀ u ∈ outsOf ks svs out, u.id ∈ cIs ks svs ++ oIs ks svs := fun u hu => hperm.mem_iff.1 (List.mem_map_of_mem hu)
        refine ⟨_, γ', he, pack_ok g2, hgh, ?_, ?_, ?_, ?_⟩
        · refine hK.mono fun b hb hS => ?_
          obtain ⟨i, hi, hib⟩ := hmemI b (List.mem_append.2 hS)
          obtain ⟨u, hu, rfl⟩ := hmemU i hi
          exact ⟨u, hu, hib, hwr _ hi⟩
        · intro u hu o hob
          rcases List.mem_append.1 hu with hu | hu
          · obtain ⟨q1, q2, _⟩ := outs_obs R hs hx hd hcb hO u hu o hob
            exact ⟨q1 _ _ (hgh _ (hidC _ (hUmem u hu))), q2⟩
          · exact ⟨(g4 u hu o hob).1, (g4 u hu o hob).2.1⟩
        · intro u hu o b hob hb
          rcases List.mem_append.1 hu with hu | hu
          · refine .inr ⟨u, List.mem_append.2 (.inl hu), ?_, hwr _ (hUmem u hu)⟩
            rw [← hblkC _ (hUmem u hu)]
            exact hb
          · rcases hl b ((g4 u hu o hob).2.2 b hb) with h1 | h1
            · exact .inl h1
            · obtain ⟨i, hi, hib⟩ := hmemI b (List.mem_append.2 (.inr h1))
              obtain ⟨u2, hu2, rfl⟩ := hmemU i hi
              exact .inr ⟨u2, hu2, hib, hwr _ hi⟩
        · -- a cell's object and a result's
          have mixed : ∀ u ∈ outsOf ks svs out, ∀ u2 ∈ rus, ∀ o p b, u.ob = some o → u2.ob = some p → blk γ' u.id = some b → blk γ' u2.id = some b → False := by
            intro u hu u2 hu2 o p b ho hp h1 h2
            obtain ⟨_, _, hbc⟩ := outs_obs R hs hx hd hcb hO u hu o ho
            rw [hblkC _ (hUmem u hu)] at h1
            rcases hl b ((g4 u2 hu2 p hp).2.2 b h2) with h3 | h3
            · have : b < w.heap.size := by
                obtain ⟨q, hq, _⟩ := hwr _ (hUmem u hu)
                exact (R.ob _ _ hq).blk_lt h1
              omega
            · exact (List.nodup_append.1 hbn).2.2 _ (hbc b h1) _ h3 rfl
          intro u hu u2 hu2 o p b ho hp h1 h2
          rcases List.mem_append.1 hu with hu | hu <;> rcases List.mem_append.1 hu2 with hu2 | hu2
          · rw [hblkC _ (hUmem u hu)] at h1
            rw [hblkC _ (hUmem u2 hu2)] at h2
            obtain ⟨q1, hq1, hw1⟩ := hwr _ (hUmem u hu)
            obtain ⟨q2, hq2, _⟩ := hwr _ (hUmem u2 hu2)
            rcases R.sep _ _ q1 q2 b hq1 hq2 h1 h2 with e | ⟨e, _⟩
            · exact e
            · rw [hw1] at e; cases e
          · exact (mixed u hu u2 hu2 o p b ho hp h1 h2).elim
          · exact (mixed u2 hu2 u hu p o b hp ho h2 h1).elim
          · exact g5 hln u hu u2 hu2 b h1 h2
      · cases h
    · cases h
  · cases h
end
end Go.Vx
