/- The state's relation; one step keeps it. -/
import Derived.Test.YteaeogofidakiaaQM
set_option linter.unusedVariables false
set_option linter.unusedSimpArgs false
namespace Go.Qv
open Go.RowKit

structure Ctx where
  w0 : World
  M : Nat → Prop
  C : World → Prop
  F0 : Nat → Prop
  B0 : Nat → Option Value
  n0 : Nat
  stable : ∀ w w', C w → (∀ b, F0 b → w'.heap[b]? = w.heap[b]?) → C w'

def TR (β : Nat → Option Value) (F : Nat → Prop) (w : World) (tmps : Array Value) (t : Nat) : Gd → AV → Prop
  | none, x => ∃ v, tmps[t]? = some v ∧ VR β F w v x
  | some (d, b), x => (tmps[d]? = some (.bool b) → ∃ v, tmps[t]? = some v ∧ VR β F w v x) ∧ (tmps[d]? ≠ some (.bool b) → tmps[t]? = some undef)

structure Rel (c : Ctx) (γ : Nat → Option (Gd × AV)) (η : Nat → Option HObj) (δ : Nat → Prop) (β : Nat → Option Value) (F : Nat → Prop) (a : Act) (w : World) : Prop where
  env : ∀ t g x, γ t = some (g, x) → TR β F w a.tmps t g x
  heap : ∀ id ob, η id = some ob → OR β F w id ob
  own : ∀ id ob v b, η id = some ob → β id = some v → blkOf v = some b → ¬ F b ∧ (c.w0.heap.size ≤ b ∨ c.M b)
  sep : ∀ id id' ob ob' v v' b, η id = some ob → η id' = some ob' → id ≠ id' → β id = some v → β id' = some v' → blkOf v = some b → blkOf v' = some b → False
  Flt : ∀ b, F b → b < w.heap.size
  Fbnd : ∀ b, F b → c.F0 b ∨ c.w0.heap.size ≤ b ∨ c.M b
  F0F : ∀ b, c.F0 b → F b
  cls : c.C w
  dom : ∀ id v, β id = some v → δ id
  os : w.os = c.w0.os
  tape : w.tape = c.w0.tape
  output : w.output = c.w0.output
  size : c.w0.heap.size ≤ w.heap.size
  frame : ∀ b, b < c.w0.heap.size → ¬ c.M b → w.heap[b]? = c.w0.heap[b]?
  defers : a.defers = []
  Bext : ∀ id x, c.B0 id = some x → β id = some x
  Blow : ∀ id x, id < c.n0 → β id = some x → c.B0 id = some x
  n0δ : ∀ id, id < c.n0 → δ id

def updF (η : Nat → Option HObj) : List (Nat × Option HObj) → Nat → Option HObj
  | [] => η
  | (i, ob) :: r => updF (fun j => if j = i then ob else η j) r
theorem updF_some : ∀ {l : List (Nat × Option HObj)} {η : Nat → Option HObj} {id : Nat} {ob : HObj}, updF η l id = some ob → (id, some ob) ∈ l ∨ (η id = some ob ∧ ∀ p ∈ l, p.1 ≠ id)
  | [], _, _, _, h => .inr ⟨h, by simp⟩
  | (i, o) :: r, η, id, ob, h => by
    simp only [updF] at h
    rcases updF_some h with h | ⟨h1, h2⟩
    · exact .inl (List.mem_cons_of_mem _ h)
    · by_cases e : id = i
      · subst e
        rw [if_pos rfl] at h1
        subst h1
        exact .inl List.mem_cons_self
      · rw [if_neg e] at h1
        refine .inr ⟨h1, fun p hp => ?_⟩
        rcases List.mem_cons.1 hp with rfl | hp
        · exact fun e' => e e'.symm
        · exact h2 p hp
def newF (n : Nat) (l : List HObj) (η : Nat → Option HObj) : Nat → Option HObj := fun id => if n ≤ id ∧ id < n + l.length then l[id - n]? else η id
theorem lk_filter {α : Type} (h : List (Nat × α)) (i id : Nat) : lk (h.filter fun p => !Nat.beq p.1 i) id = if id = i then none else lk h id := by
  induction h with
  | nil => simp [lk]
  | cons p h ih =>
    obtain ⟨j, x⟩ := p
    by_cases hj : j = i
    · subst hj
      rw [List.filter_cons_of_neg (by simp [Nat.beq_refl])]
      rw [ih]
      by_cases e : id = j
      · simp [e]
      · rw [if_neg e, if_neg e]
        unfold lk
        have : Nat.beq id j = false := by cases hb : Nat.beq id j with | false => rfl | true => exact absurd (Nat.eq_of_beq_eq_true hb) e
        rw [this]
        cases h <;> rfl
    · have hb : Nat.beq j i = false := by cases hb : Nat.beq j i with | false => rfl | true => exact absurd (Nat.eq_of_beq_eq_true hb) hj
      rw [List.filter_cons_of_pos (by simp [hb])]
      unfold lk
      by_cases e : id = j
      · subst e
        simp [Nat.beq_refl, hj]
      · have : Nat.beq id j = false := by cases hb : Nat.beq id j with | false => rfl | true => exact absurd (Nat.eq_of_beq_eq_true hb) e
        rw [this]
        exact ih
theorem lk_cons {α : Type} (j : Nat) (x : α) (l : List (Nat × α)) (i : Nat) : lk ((j, x) :: l) i = if i = j then some x else lk l i := by
  show (match Nat.beq i j with | true => some x | false => lk l i) = _
  by_cases e : i = j
  · subst e; simp [Nat.beq_refl]
  · have : Nat.beq i j = false := by cases hb : Nat.beq i j with | false => rfl | true => exact absurd (Nat.eq_of_beq_eq_true hb) e
    simp [this, e]
theorem updF_same : ∀ {l : List (Nat × Option HObj)} {η : Nat → Option HObj}, (∀ p ∈ l, p.2 = η p.1) → updF η l = η
  | [], _, _ => rfl
  | (i, ob) :: r, η, h => by
    have e : (fun j => if j = i then ob else η j) = η := by
      funext j
      split
      · rename_i hj; subst hj; exact h (j, ob) List.mem_cons_self
      · rfl
    simp only [updF, e]
    exact updF_same fun p hp => h p (List.mem_cons_of_mem _ hp)
theorem lk_upd : ∀ (l : List (Nat × Option HObj)) (h : List (Nat × HObj)) (id : Nat), lk (upd h l) id = updF (lk h) l id
  | [], h, id => rfl
  | (i, some ob) :: r, h, id => by
    simp only [upd, updF]
    rw [lk_upd r]
    congr 1
    funext j
    rw [lk_cons, lk_filter]
    by_cases e : j = i <;> simp [e]
  | (i, none) :: r, h, id => by
    simp only [upd, updF]
    rw [lk_upd r]
    congr 1
    funext j
    rw [lk_filter]
theorem lk_named : ∀ (l : List HObj) (n : Nat) (h : List (Nat × HObj)) (id : Nat), lk (named n l ++ h) id = newF n l (lk h) id
  | [], n, h, id => by
    simp only [named, List.nil_append, newF, List.length_nil]
    rw [if_neg (by omega)]
  | ob :: r, n, h, id => by
    simp only [named, List.cons_append]
    rw [lk_cons, lk_named r (n + 1) h id]
    unfold newF
    simp only [List.length_cons]
    by_cases e : id = n
    · subst e
      rw [if_pos rfl, if_pos (by omega)]
      simp
    · rw [if_neg e]
      by_cases h1 : n + 1 ≤ id ∧ id < n + 1 + r.length
      · rw [if_pos h1, if_pos (by omega)]
        have : id - n = (id - (n + 1)) + 1 := by omega
        rw [this, List.getElem?_cons_succ]
      · rw [if_neg h1, if_neg (by omega)]

def putF (γ : Nat → Option (Gd × AV)) (dst : Option Nat) (g : Gd) (x : AV) : Nat → Option (Gd × AV) := fun t => if dst = some t then some (g, x) else γ t

section
variable {c : Ctx} {γ : Nat → Option (Gd × AV)} {η : Nat → Option HObj} {δ : Nat → Prop} {β : Nat → Option Value} {F : Nat → Prop} {a : Act} {w : World}
theorem put_tmps (a : Act) (dst : Option Nat) (v : Value) (t : Nat) : (a.put dst v).tmps[t]? = if dst = some t ∧ t < a.tmps.size then some v else a.tmps[t]? := by
  cases dst with
  | none => simp [Act.put]
  | some d =>
    simp only [Act.put, Array.getElem?_setIfInBounds, Option.some.injEq]
    by_cases e : d = t
    · subst e
      by_cases h : d < a.tmps.size <;> simp [h]
    · simp [e]
theorem put_defers (a : Act) (dst : Option Nat) (v : Value) : (a.put dst v).defers = a.defers := by cases dst <;> rfl
/-- What an operation leaves behind, the relation behind it. -/
theorem Rel.step {hs : List (Nat × HObj)} {nx : Nat} {E : Eff} {dst : Option Nat} {g : Gd} {v' : Value} {β' : Nat → Option Value} {F' : Nat → Prop} {w' : World} (h : Rel c γ η δ β F a w) (hhs : ∀ p ∈ hs, η p.1 = some p.2)
    (p : Post hs nx E β F w v' β' F' w') (hd : ∀ d, dst = some d → d < a.tmps.size) (hg : ∀ t g x, γ t = some (some g, x) → dst ≠ some g.1) (hnx : ∀ id, nx ≤ id → id < nx + E.new.length → ¬ δ id)
    (hgd : ∀ d b, g = some (d, b) → a.tmps[d]? = some (.bool b) ∧ dst ≠ some d) :
    Rel c (putF γ dst g E.v) (newF nx E.new (updF η E.hw)) (fun id => δ id ∨ (nx ≤ id ∧ id < nx + E.new.length)) β' F' (a.put dst v') w' := by
  have hη : ∀ q ∈ E.hw, ∃ ob, η q.1 = some ob := fun q hq => by
    obtain ⟨ob, hob⟩ := p.known q hq
    exact ⟨ob, hhs _ hob⟩
  -- a block that is not one of those that are written stays
  have keepF : ∀ b, F b → w'.heap[b]? = w.heap[b]? := fun b hb => p.frame b (h.Flt b hb) (fun q hq x hx hbx => by
    obtain ⟨ob, hob⟩ := hη q hq
    exact (h.own _ _ _ _ hob hx hbx).1 hb)
  have keepO : ∀ id ob, η id = some ob → (∀ q ∈ E.hw, q.1 ≠ id) → ∀ x b, β id = some x → blkOf x = some b → w'.heap[b]? = w.heap[b]? := fun id ob hob hne x b hx hbx =>
    p.frame b ((h.heap _ _ hob).lt hx hbx) (fun q hq y hy hby => by
      obtain ⟨ob', hob'⟩ := hη q hq
      exact h.sep _ _ _ _ _ _ _ hob' hob (hne q hq) hy hx hby hbx)
  -- what is known of an object that lives on
  have old : ∀ id ob, updF η E.hw id = some ob → ∃ ob0, η id = some ob0 ∧ (id, none) ∉ E.hw ∧ OR β' F' w' id ob := by
    intro id ob hob
    rcases updF_some hob with h1 | ⟨h1, h2⟩
    · obtain ⟨ob0, h3⟩ := hη _ h1
      exact ⟨ob0, h3, p.nd _ _ h1, p.live _ _ h1⟩
    · exact ⟨ob, h1, fun hm => h2 _ hm rfl, (h.heap _ _ h1).mono p.βext p.Fext keepF (fun x b hx hb => keepO id ob h1 h2 x b hx hb)⟩
  have bold : ∀ id x, β' id = some x → δ id → β id = some x := fun id x hx hdl => by
    rcases p.βnew id x hx with h1 | h1
    · exact h1
    · exact absurd hdl (hnx id h1.1 h1.2)
  have dold : ∀ id ob, η id = some ob → ∃ x, β id = some x ∧ δ id := fun id ob hob => by
    have := h.heap id ob hob
    cases ob with
    | cells l => obtain ⟨b, o, cur, e, h1, _⟩ := this; exact ⟨_, h1, h.dom _ _ h1⟩
    | arr e cc => obtain ⟨v, cvs, h1, _⟩ := this; exact ⟨_, h1, h.dom _ _ h1⟩
    | map c bs ps => obtain ⟨r, es, h1, _⟩ := this; exact ⟨_, h1, h.dom _ _ h1⟩
  have isNew : ∀ id ob, newF nx E.new (updF η E.hw) id = some ob → (∃ j, id = nx + j ∧ j < E.new.length ∧ E.new[j]? = some ob) ∨ (updF η E.hw id = some ob) := by
    intro id ob hob
    unfold newF at hob
    split at hob
    · rename_i hr
      exact .inl ⟨id - nx, by omega, by omega, hob⟩
    · exact .inr hob
  have ownOld : ∀ id ob x b, updF η E.hw id = some ob → β' id = some x → blkOf x = some b → ¬ F' b ∧ (c.w0.heap.size ≤ b ∨ c.M b) ∧ b < w.heap.size := by
    intro id ob x b hob hx hb
    obtain ⟨ob0, h1, h2, h3⟩ := old id ob hob
    obtain ⟨x0, h4, h5⟩ := dold id ob0 h1
    have hx0 := bold id x hx h5
    obtain ⟨o1, o2⟩ := h.own _ _ _ _ h1 hx0 hb
    have hlt := (h.heap _ _ h1).lt hx0 hb
    refine ⟨fun hf => ?_, o2, hlt⟩
    rcases p.Fnew b hf with hf | hf | ⟨id2, hid2, hm, y, hy, hby⟩
    · exact o1 hf
    · omega
    · obtain ⟨ob2, hob2⟩ := hη _ hm
      exact h.sep id id2 _ _ _ _ b h1 hob2 (fun e => h2 (e ▸ hm)) hx0 hy hb hby
  constructor
  · intro t g' x hx
    unfold putF at hx
    have mono : ∀ {v x}, VR β F w v x → VR β' F' w' v x := fun h => h.mono p.βext p.Fext keepF
    split at hx
    · rename_i hdt
      injection hx with hx
      injection hx with hx1 hx2
      subst hx1
      subst hx2
      have hlt := hd t hdt
      cases g with
      | none => exact ⟨v', by rw [put_tmps, if_pos ⟨hdt, hlt⟩], p.vr⟩
      | some g =>
        obtain ⟨d, b⟩ := g
        obtain ⟨hgt, hgn⟩ := hgd d b rfl
        have : (a.put dst v').tmps[d]? = some (.bool b) := by rw [put_tmps, if_neg (fun hh => hgn hh.1)]; exact hgt
        exact ⟨fun _ => ⟨v', by rw [put_tmps, if_pos ⟨hdt, hlt⟩], p.vr⟩, fun hh => absurd this hh⟩
    · rename_i hdt
      have := h.env t g' x hx
      cases g' with
      | none =>
        obtain ⟨u, h1, h2⟩ := this
        exact ⟨u, by rw [put_tmps, if_neg (fun hh => hdt hh.1)]; exact h1, mono h2⟩
      | some g' =>
        obtain ⟨d, b⟩ := g'
        have hgn := hg t _ x hx
        have e1 : (a.put dst v').tmps[d]? = a.tmps[d]? := by rw [put_tmps, if_neg (fun hh => hgn hh.1)]
        have e2 : (a.put dst v').tmps[t]? = a.tmps[t]? := by rw [put_tmps, if_neg (fun hh => hdt hh.1)]
        refine ⟨fun hh => ?_, fun hh => ?_⟩
        · rw [e1] at hh
          obtain ⟨u, h1, h2⟩ := this.1 hh
          exact ⟨u, e2.trans h1, mono h2⟩
        · rw [e1] at hh
          exact e2.trans (this.2 hh)
  · intro id ob hob
    rcases isNew id ob hob with ⟨j, rfl, hj, hnew⟩ | hob
    · exact p.news j ob hnew
    · exact (old id ob hob).choose_spec.2.2
  · intro id ob x b hob hx hb
    rcases isNew id ob hob with ⟨j, rfl, hj, hnew⟩ | hob
    · obtain ⟨h1, h2⟩ := p.newb j x b hj hx hb
      refine ⟨h1, ?_⟩
      rcases h2 with h2 | ⟨id2, hm, y, hy, hby⟩
      · have := h.size; exact .inl (by omega)
      · obtain ⟨ob2, hob2⟩ := hη _ hm
        exact (h.own _ _ _ _ hob2 hy hby).2
    · obtain ⟨h1, h2, _⟩ := ownOld id ob x b hob hx hb
      exact ⟨h1, h2⟩
  · intro id id' ob ob' x x' b hob hob' hne hx hx' hb hb'
    have newOld : ∀ j id' ob' x x', j < E.new.length → updF η E.hw id' = some ob' → β' (nx + j) = some x → β' id' = some x' → blkOf x = some b → blkOf x' = some b → False := by
      intro j id' ob' x x' hj hob' hx hx' hb hb'
      obtain ⟨ob0, h1, h2, h3⟩ := old id' ob' hob'
      obtain ⟨x0, h4, h5⟩ := dold id' ob0 h1
      have hx0 := bold id' x' hx' h5
      have hlt := (h.heap _ _ h1).lt hx0 hb'
      obtain ⟨_, h6⟩ := p.newb j x b hj hx hb
      rcases h6 with h6 | ⟨id2, hm, y, hy, hby⟩
      · omega
      · obtain ⟨ob2, hob2⟩ := hη _ hm
        exact h.sep id' id2 _ _ _ _ b h1 hob2 (fun e => h2 (e ▸ hm)) hx0 hy hb' hby
    rcases isNew id ob hob with ⟨j, rfl, hj, hnew⟩ | hob <;> rcases isNew id' ob' hob' with ⟨j', rfl, hj', hnew'⟩ | hob'
    · exact p.newsep j j' x x' b hj hj' (fun e => hne (by rw [e])) hx hx' hb hb'
    · exact newOld j id' ob' x x' hj hob' hx hx' hb hb'
    · exact newOld j' id ob x' x hj' hob hx' hx hb' hb
    · obtain ⟨ob0, h1, h2, h3⟩ := old id ob hob
      obtain ⟨ob0', h1', h2', h3'⟩ := old id' ob' hob'
      obtain ⟨_, _, h5⟩ := dold id ob0 h1
      obtain ⟨_, _, h5'⟩ := dold id' ob0' h1'
      exact h.sep id id' _ _ _ _ b h1 h1' hne (bold _ _ hx h5) (bold _ _ hx' h5') hb hb'
  · exact p.Flt
  · intro b hb
    rcases p.Fnew b hb with h1 | h1 | ⟨id, _, hm, x, hx, hbx⟩
    · exact h.Fbnd b h1
    · have := h.size; exact .inr (.inl (by omega))
    · obtain ⟨ob, hob⟩ := hη _ hm
      exact .inr (h.own _ _ _ _ hob hx hbx).2
  · exact fun b hb => p.Fext b (h.F0F b hb)
  · exact c.stable w w' h.cls (fun b hb => keepF b (h.F0F b hb))
  · intro id x hx
    rcases p.βnew id x hx with h1 | h1
    · exact .inl (h.dom _ _ h1)
    · exact .inr h1
  · exact p.os.trans h.os
  · exact p.tape.trans h.tape
  · exact p.output.trans h.output
  · exact Nat.le_trans h.size p.size
  · intro b hb hM
    refine (p.frame b (Nat.lt_of_lt_of_le hb h.size) (fun q hq x hx hbx => ?_)).trans (h.frame b hb hM)
    obtain ⟨ob, hob⟩ := hη q hq
    rcases (h.own _ _ _ _ hob hx hbx).2 with h1 | h1
    · omega
    · exact hM h1
  · rw [put_defers]; exact h.defers
  · intro id x hx; exact p.βext id x (h.Bext id x hx)
  · intro id x hid hx
    rcases p.βnew id x hx with h1 | h1
    · exact h.Blow id x hid h1
    · exact absurd (h.n0δ id hid) (hnx id h1.1 h1.2)
  · intro id hid; exact .inl (h.n0δ id hid)
end
end Go.Qv
