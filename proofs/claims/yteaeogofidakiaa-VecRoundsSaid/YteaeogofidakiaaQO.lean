/- Steps, regions in the order of the text. -/
import Derived.Test.YteaeogofidakiaaQN
set_option linter.unusedVariables false
set_option linter.unusedSimpArgs false
namespace Go.Qv
open Go.RowKit

structure RS (c : Ctx) (st : S) (β : Nat → Option Value) (F : Nat → Prop) (a : Act) (w : World) : Prop where
  rel : Rel c (lk st.env) (lk st.heap) (· < st.next) β F a w
  nt : st.nt = a.tmps.size
  gds : ∀ t g x, lk st.env t = some (some g, x) → g.1 ∈ st.gds

section
variable {P : Program} {tb : Tb} {orc : Orc} {c : Ctx} {st : S} {β : Nat → Option Value} {F : Nat → Prop} {a : Act} {w : World}

def Holds (a : Act) (g : Nat × Bool) : Prop := a.tmps[g.1]? = some (.bool g.2)
theorem gmem_true : ∀ {l : List (Nat × Bool)} {d : Nat} {b : Bool}, gmem d b l = true → (d, b) ∈ l
  | [], d, b, h => by simp [gmem] at h
  | (m, e) :: l, d, b, h => by
    unfold gmem at h
    split at h
    · rename_i hh
      simp only [Bool.and_eq_true, beq_iff_eq] at hh
      rw [Nat.eq_of_beq_eq_true hh.1, hh.2]
      exact List.mem_cons_self
    · exact List.mem_cons_of_mem _ (gmem_true h)
theorem undef_ne (b : Bool) : some undef ≠ some (Value.bool b) := by simp [undef]
/-- A guarded entry whose temporary holds a bool has its guard. -/
theorem TR.guard {tmps : Array Value} {t : Nat} {g : Nat × Bool} {x : AV} {b : Bool} (h : TR β F w tmps t (some g) x) (ht : tmps[t]? = some (.bool b)) : tmps[g.1]? = some (.bool g.2) := by
  obtain ⟨d, e⟩ := g
  by_cases hh : tmps[d]? = some (.bool e)
  · exact hh
  · have := h.2 hh
    rw [ht] at this
    exact absurd this.symm (undef_ne b)
theorem TR.val {tmps : Array Value} {t : Nat} {g : Gd} {x : AV} (h : TR β F w tmps t g x) (hg : ∀ p, g = some p → tmps[p.1]? = some (.bool p.2)) : ∃ v, tmps[t]? = some v ∧ VR β F w v x := by
  cases g with
  | none => exact h
  | some p => exact h.1 (hg p rfl)
theorem chain_ok {env : Env} {T : Nat → Prop} (he : ∀ t, T t → ∀ g x, lk env t = some (g, x) → TR β F w a.tmps t g x) : ∀ (f : Nat) (g : Gd), (∀ q ∈ chain env f g, T q.1) → (∀ p, g = some p → Holds a p) → ∀ q ∈ chain env f g, Holds a q
  | _, none, _, _, q, hq => by unfold chain at hq; simp at hq
  | 0, some g, _, h, q, hq => by
    unfold chain at hq
    simp at hq
    subst hq
    exact h _ rfl
  | f + 1, some g, hT, h, q, hq => by
    unfold chain at hq hT
    rcases List.mem_cons.1 hq with rfl | hq
    · exact h _ rfl
    · split at hq
      · rename_i g' x hl
        rw [hl] at hT
        refine chain_ok he f g' (fun q hq => hT q (List.mem_cons_of_mem _ hq)) (fun p hp => ?_) q hq
        subst hp
        exact (he _ (hT g List.mem_cons_self) _ _ hl).guard (h g rfl)
      · simp at hq
theorem val_ok {env : Env} {T : Nat → Prop} (he : ∀ t, T t → ∀ g x, lk env t = some (g, x) → TR β F w a.tmps t g x) {ch : List (Nat × Bool)} (hc : ∀ q ∈ ch, Holds a q) {y : Operand} {x : AV} (hT : ∀ t, y = .tmp t → T t) (h : val env ch y = some x) : VR β F w (a.eval y) x := by
  unfold val at h
  split at h
  · rename_i t
    split at h
    · rename_i g x' hl
      split at h
      · rename_i hg
        injection h with h
        subst h
        obtain ⟨v, h1, h2⟩ := (he _ (hT t rfl) _ _ hl).val (fun p hp => by
          subst hp
          obtain ⟨d, b⟩ := p
          exact hc (d, b) (gmem_true hg))
        simp only [Act.eval, Array.getD_eq_getD_getElem?, h1, Option.getD_some]
        exact h2
      · cases h
    · cases h
  · exact cval_ok h
  · injection h with h
    subst h
    exact .fn _ _ _ rfl (fun j v x hv => by simp at hv)
  · cases h
theorem vals_ok {env : Env} {T : Nat → Prop} (he : ∀ t, T t → ∀ g x, lk env t = some (g, x) → TR β F w a.tmps t g x) {ch : List (Nat × Bool)} (hc : ∀ q ∈ ch, Holds a q) : ∀ {ys : List Operand} {xs : List AV}, (∀ y ∈ ys, ∀ t, y = .tmp t → T t) → vals env ch ys = some xs →
    xs.length = ys.length ∧ ∀ (j : Nat) (y : Operand) (z : AV), ys[j]? = some y → xs[j]? = some z → VR β F w (a.eval y) z
  | [], xs, _, h => by simp [vals] at h; subst h; exact ⟨rfl, by simp⟩
  | y :: ys, xs, hT, h => by
    simp only [vals] at h
    split at h
    · rename_i z zs h1 h2
      injection h with h
      subst h
      obtain ⟨h3, h4⟩ := vals_ok he hc (fun y hy => hT y (List.mem_cons_of_mem _ hy)) h2
      refine ⟨by simp [h3], fun j y' z' hy hz => ?_⟩
      match j, hy, hz with
      | 0, hy, hz => simp at hy hz; subst hy; subst hz; exact val_ok he hc (hT _ List.mem_cons_self) h1
      | j + 1, hy, hz => simp at hy hz; exact h4 j y' z' hy hz
    · cases h
theorem pcs_ok {env : Env} {T : Nat → Prop} (he : ∀ t, T t → ∀ g x, lk env t = some (g, x) → TR β F w a.tmps t g x) : ∀ (f : Nat) (g : Gd) (l : List (Bool × Bool)), (∀ q ∈ chain env f g, T q.1) → pcs env f g = some l → (∀ p, g = some p → Holds a p) → ∀ q ∈ l, q.1 = q.2
  | _, none, l, _, h, _, q, hq => by unfold pcs at h; simp at h; subst h; simp at hq
  | 0, some g, l, _, h, _, q, hq => by unfold pcs at h; cases h
  | f + 1, some (d, b), l, hT, h, hh, q, hq => by
    unfold pcs at h
    unfold chain at hT
    split at h
    · rename_i g x hl
      rw [show lk env (d, b).1 = some (g, .bool x) from hl] at hT
      split at h
      · rename_i l' hl'
        injection h with h
        subst h
        have ht := hh (d, b) rfl
        have hTd : T d := hT (d, b) List.mem_cons_self
        have hg : ∀ p, g = some p → Holds a p := fun p hp => by subst hp; exact (he _ hTd _ _ hl).guard ht
        rcases List.mem_cons.1 hq with rfl | hq
        · obtain ⟨v, h1, h2⟩ := (he _ hTd _ _ hl).val hg
          have h3 : a.tmps[d]? = some (.bool b) := ht
          rw [h3] at h1
          injection h1 with h1
          subst h1
          cases h2
          rfl
        · exact pcs_ok he f g l' (fun q hq => hT q (List.mem_cons_of_mem _ hq)) hl' hg q hq
      · cases h
    · cases h
theorem imp_ok : ∀ {l : List (Bool × Bool)} {p : DP}, (imp l p).p → (∀ q ∈ l, q.1 = q.2) → p.p
  | [], p, h, _ => h
  | (x, b) :: l, p, h, hq => imp_ok (h (hq (x, b) List.mem_cons_self)) (fun q hq' => hq q (List.mem_cons_of_mem _ hq'))
theorem bind_sat {α γ : Type} {Q : γ → Prop} {f : α → T γ} : ∀ {t : T α}, (t.bind f).sat Q → t.sat fun x => (f x).sat Q
  | .leaf _, h => h
  | .ite _ _ _, h => ⟨fun hb => bind_sat (h.1 hb), fun hb => bind_sat (h.2 hb)⟩
  | .both _ _ _ _, h => ⟨fun hb => bind_sat (h.1 hb), fun hb => bind_sat (h.2 hb)⟩
  | .req _ _, h => ⟨h.1, bind_sat h.2⟩
  | .stuck _, h => h.elim
theorem sat_mono {α : Type} {Q Q' : α → Prop} (hq : ∀ x, Q x → Q' x) : ∀ {t : T α}, t.sat Q → t.sat Q'
  | .leaf _, h => hq _ h
  | .ite _ _ _, h => ⟨fun hb => sat_mono hq (h.1 hb), fun hb => sat_mono hq (h.2 hb)⟩
  | .both _ _ _ _, h => ⟨fun hb => sat_mono hq (h.1 hb), fun hb => sat_mono hq (h.2 hb)⟩
  | .req _ _, h => ⟨h.1, sat_mono hq h.2⟩
  | .stuck _, h => h.elim
theorem lin_sat {α : Type} {Q : α → Prop} : ∀ {t : T α} {q : DP} {x : α}, t.lin = some (q, x) → q.p → Q x → t.sat Q
  | .leaf _, q, x, h, hq, hx => by simp [T.lin] at h; obtain ⟨_, rfl⟩ := h; exact hx
  | .req p t, q, x, h, hq, hx => by
    simp only [T.lin] at h
    split at h
    · rename_i q' x' ht
      injection h with h
      injection h with h1 h2
      subst h1
      subst h2
      exact ⟨hq.1, lin_sat ht hq.2 hx⟩
    · cases h
  | .ite _ _ _, q, x, h, hq, hx => by simp [T.lin] at h
  | .both _ _ _ _, q, x, h, hq, hx => by simp [T.lin] at h
  | .stuck _, q, x, h, hq, hx => by simp [T.lin] at h

theorem find_mem {h : List (Nat × HObj)} : ∀ {ids : List Nat} {p : Nat × HObj}, p ∈ find h ids → lk h p.1 = some p.2
  | [], p, hp => by simp [find] at hp
  | i :: r, p, hp => by
    unfold find at hp
    split at hp
    · rename_i x hx
      rcases List.mem_cons.1 hp with rfl | hp
      · exact hx
      · exact find_mem hp
    · exact find_mem hp
theorem reach_mem {h : List (Nat × HObj)} : ∀ {f : Nat} {ids : List Nat} {acc : List (Nat × HObj)} {p : Nat × HObj}, p ∈ reach h f ids acc → p ∈ acc ∨ lk h p.1 = some p.2
  | 0, _, _, _, hp => .inl hp
  | _ + 1, [], _, _, hp => .inl hp
  | f + 1, i :: r, acc, p, hp => by
    unfold reach at hp
    split at hp
    · exact reach_mem hp
    · split at hp
      · rename_i ob hob
        rcases reach_mem hp with h1 | h1
        · rcases List.mem_append.1 h1 with h1 | h1
          · exact .inl h1
          · simp at h1; subst h1; exact .inr hob
        · exact .inr h1
      · exact reach_mem hp
theorem gather_mem {h : List (Nat × HObj)} {op : Op} {ids : List Nat} {p : Nat × HObj} (hp : p ∈ gather h op ids) : lk h p.1 = some p.2 := by
  unfold gather at hp
  split at hp
  · rcases reach_mem hp with hp | hp
    · simp at hp
    · exact hp
  · exact find_mem hp
theorem Rel.pre {γ : Nat → Option (Gd × AV)} {η : Nat → Option HObj} {δ : Nat → Prop} {hs : List (Nat × HObj)} {nx : Nat} (h : Rel c γ η δ β F a w) (hhs : ∀ p ∈ hs, η p.1 = some p.2) (hnx : ∀ id, nx ≤ id → id < nx + 64 → ¬ δ id) : Pre hs nx β F w where
  hn id hid hid2 := by
    cases hb : β id with
    | none => rfl
    | some v => exact absurd (h.dom _ _ hb) (hnx id hid hid2)
  hF := h.Flt
  hh p hp := ⟨h.heap _ _ (hhs p hp), fun v b hv hb => (h.own _ _ _ _ (hhs p hp) hv hb).1⟩
  hsep p hp q hq hne x y b hx hy hbx hby := h.sep _ _ _ _ _ _ _ (hhs p hp) (hhs q hq) hne hx hy hbx hby

theorem chain_fst (env : Env) (f d : Nat) (b b' : Bool) : (chain env f (some (d, b))).map (·.1) = (chain env f (some (d, b'))).map (·.1) := by
  cases f <;> simp [chain]
/-- 'pick', or what evo_ok says. -/
theorem opT_ok (htb : TbOk P tb) (horc : OrcOk P orc c.C) {m : Bool} {x : Oper} {γ : Nat → Option (Gd × AV)} {η : Nat → Option HObj} {δ : Nat → Prop} (h : Rel c γ η δ β F a w) {ch : List (Nat × Bool)} (hc : ∀ q ∈ ch, Holds a q) {K : Act → World → Prop} {Q : Exit → Act → World → Prop} {R : Eff → Prop}
    (he : ∀ t ∈ rdOf st.env ch x.op, ∀ g x, lk st.env t = some (g, x) → TR β F w a.tmps t g x) (hη : ∀ p : Nat × HObj, p.1 ∈ hsOf st ch x.op → lk st.heap p.1 = some p.2 → η p.1 = some p.2) (hnx : ∀ id, st.next ≤ id → id < st.next + 64 → ¬ δ id)
    (hR : ∀ E hs, R E → (∀ p ∈ hs, η p.1 = some p.2) → ∀ v' β' F' w', Post hs st.next E β F w v' β' F' w' → K (a.put x.dst v') w')
    (hs : (opT O.real tb orc m st ch x.op).sat R) : x.wp P a w K Q := by
  have hT1 : ∀ y ∈ x.op.operands.toList, ∀ t, y = .tmp t → t ∈ rdOf st.env ch x.op := by
    rintro y hy t rfl
    unfold rdOf
    exact List.mem_append_left _ (List.mem_append_left _ (List.mem_filterMap.2 ⟨.tmp t, hy, rfl⟩))
  unfold opT at hs
  split at hs
  · rename_i cc y1 y2 hop
    rw [hop] at hT1
    have hT2 : ∀ y, y = cc ∨ y = y1 ∨ y = y2 → ∀ t, y = .tmp t → t ∈ rdOf st.env ch (.pick cc y1 y2) := fun y hy => hT1 y (by simp [Op.operands]; exact hy)
    rw [hop] at he
    unfold pickT at hs
    split at hs
    · rename_i d b hv
      have hcv := (val_ok he hc (hT2 _ (.inl rfl)) hv).bool_inv
      have run : ∀ (hb : (Value.bool b) = a.eval (.tmp d)), (execOp a.eval x).run P w = .ok (.value (if b then a.eval y1 else a.eval y2)) w := by
        intro hb
        unfold execOp
        simp only [hop]
        rw [← hb]
        simp [asBool]
      have hpre := h.pre (hs := []) (nx := st.next) (by simp) hnx
      have fin : ∀ {z : AV}, (pure1 z).sat R → VR β F w (if b then a.eval y1 else a.eval y2) z → x.wp P a w K Q := fun hk hz =>
        wp_val (run hcv.symm) (hR _ [] hk (by simp) _ _ _ _ (Post.pure hpre hz))
      have htd : a.tmps[d]? = some (.bool b) := by
        unfold val at hv
        simp only at hv
        split at hv
        · rename_i g x' hl
          split at hv
          · rename_i hg
            injection hv with hv
            subst hv
            obtain ⟨v, h1, h2⟩ := (he _ (hT2 _ (.inl rfl) d rfl) _ _ hl).val (fun p hp => by subst hp; obtain ⟨d', b'⟩ := p; exact hc (d', b') (gmem_true hg))
            cases h2
            exact h1
          · cases hv
        · cases hv
      have hch : ∀ e : Bool, b = e → ∀ q ∈ chain st.env 8 (some (d, e)) ++ ch, Holds a q := by
        intro e hbe q hq
        rcases List.mem_append.1 hq with hq | hq
        · exact chain_ok he 8 _ (fun q hq => by
            unfold rdOf
            refine List.mem_append_right _ ?_
            simp only
            rw [chain_fst st.env 8 d true e]
            exact List.mem_map.2 ⟨q, hq, rfl⟩) (fun p hp => by injection hp with hp; subst hp; subst hbe; exact htd) q hq
        · exact hc q hq
      cases m with
      | true =>
        simp only at hs
        cases b with
        | true =>
          simp only at hs
          split at hs
          · rename_i y hv2
            exact fin hs (by simpa using val_ok he hc (hT2 _ (.inr (.inl rfl))) hv2)
          · exact hs.elim
        | false =>
          simp only at hs
          split at hs
          · rename_i y hv2
            exact fin hs (by simpa using val_ok he hc (hT2 _ (.inr (.inr rfl))) hv2)
          · exact hs.elim
      | false =>
        simp only at hs
        split at hs
        · rename_i y hv2
          refine fin hs ?_
          cases b with
          | true => exact .bool true
          | false =>
            have := (val_ok he (hch false rfl) (hT2 _ (.inr (.inr rfl))) hv2).bool_inv
            simp only [Bool.false_eq_true, if_false, this]
            exact .bool _
        · rename_i y _ hv1 _
          refine fin hs ?_
          cases b with
          | true =>
            have := (val_ok he (hch true rfl) (hT2 _ (.inr (.inl rfl))) hv1).bool_inv
            simp only [if_true, this]
            exact .bool _
          | false => exact .bool false
        · rename_i y z _ _ hv1 hv2
          refine fin hs ?_
          cases b with
          | true =>
            have := (val_ok he (hch true rfl) (hT2 _ (.inr (.inl rfl))) hv1).bool_inv
            simp only [if_true, this]
            exact .bool _
          | false =>
            have := (val_ok he (hch false rfl) (hT2 _ (.inr (.inr rfl))) hv2).bool_inv
            simp only [Bool.false_eq_true, if_false, this]
            exact .bool _
        · exact hs.elim
    · exact hs.elim
  · rename_i hnp
    split at hs
    · rename_i xs hv
      obtain ⟨h1, h2⟩ := vals_ok he hc hT1 hv
      have hg : ∀ p ∈ gather st.heap x.op (need x.op xs), η p.1 = some p.2 := fun p hp => hη p (by unfold hsOf; rw [hv]; exact List.mem_map.2 ⟨p, hp, rfl⟩) (gather_mem hp)
      exact evo_ok htb horc (h.pre hg hnx) h.cls h1 h2 (sat_mono (fun E hE => hR E _ hE hg) hs)
    · exact hs.elim

theorem known_ok {env : Env} {T : Nat → Prop} (he : ∀ t, T t → ∀ g x, lk env t = some (g, x) → TR β F w a.tmps t g x) : ∀ (f : Nat) (g : Nat × Bool) (r : Bool), (∀ q ∈ chain env f (some g), T q.1) → known env f g = some r → (r = true → Holds a g) ∧ (r = false → ¬ Holds a g)
  | 0, _, _, _, h => by simp [known] at h
  | f + 1, (d, b), r, hT, h => by
    unfold known at h
    unfold chain at hT
    have hd : T d := hT (d, b) List.mem_cons_self
    split at h
    · rename_i x hl
      injection h with h
      obtain ⟨v, h1, h2⟩ := he d hd _ _ hl
      cases h2
      unfold Holds
      simp only
      rw [h1]
      cases x <;> cases b <;> simp_all
    · rename_i g' x hl
      rw [show lk env (d, b).1 = some (some g', x) from hl] at hT
      split at h
      · rename_i hk
        injection h with h
        subst h
        have := (known_ok he f g' false (fun q hq => hT q (List.mem_cons_of_mem _ hq)) hk).2 rfl
        refine ⟨fun hr => (by cases hr), fun _ hh => this ?_⟩
        exact TR.guard (he d hd _ _ hl) hh
      · cases h
    · cases h
end
end Go.Qv
