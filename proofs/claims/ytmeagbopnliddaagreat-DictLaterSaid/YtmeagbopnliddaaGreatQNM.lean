/- The state's relation; one step keeps it. -/
import Derived.Test.YtmeagbopnliddaaGreatQM
import Derived.TacticsIn
import Derived.OrdersIn
set_option linter.unusedVariables false
set_option linter.unusedSimpArgs false
namespace Go.Qv
open Go.RowKit

structure Ctx where
  w0 : World
  M : Nat → Prop
  C : World → Prop
  F0 : Nat → Prop
  B0 : Nat → Option Value
  n0 : Nat
  md : Bool := true
  stable : ∀ w w', C w → (∀ b, F0 b → w'.heap[b]? = w.heap[b]?) → C w'

def TR (β : Nat → Option Value) (F : Nat → Prop) (w : World) (tmps : Array Value) (t : Nat) : Gd → AV → Prop
  | none, x => ∃ v, tmps[t]? = some v ∧ VR β F w v x
  | some (d, b), x => (tmps[d]? = some (.bool b) → ∃ v, tmps[t]? = some v ∧ VR β F w v x) ∧ (tmps[d]? ≠ some (.bool b) → tmps[t]? = some undef)

/-- The mark that a range over a function leaves among the deferred calls. -/
def mark (D : Nat) : Deferred := { target := .collected D, args := #[] }
def Marks (c : Ctx) (F : Nat → Prop) (w : World) (ds : List Deferred) : Prop :=
  ∃ Ds : List Nat, ds = Ds.map mark ∧ Ds.Nodup ∧ (c.md = false → Ds = []) ∧ ∀ D ∈ Ds, F D ∧ c.w0.heap.size ≤ D ∧ w.heap[D]? = some (.deferred (some []))
theorem Marks.nil {c : Ctx} {F : Nat → Prop} {w : World} : Marks c F w [] := ⟨[], rfl, List.nodup_nil, fun _ => rfl, by simp⟩
theorem Marks.mono {c : Ctx} {F F' : Nat → Prop} {w w' : World} {ds : List Deferred} (h : Marks c F w ds) (hF : ∀ b, F b → F' b) (hk : ∀ b, F b → w'.heap[b]? = w.heap[b]?) : Marks c F' w' ds := by
  obtain ⟨Ds, h1, h2, h4, h3⟩ := h
  exact ⟨Ds, h1, h2, h4, fun D hD => let ⟨a, b, c⟩ := h3 D hD; ⟨hF D a, b, (hk D a).trans c⟩⟩
theorem Marks.none {c : Ctx} {F : Nat → Prop} {w : World} {ds : List Deferred} (h : Marks c F w ds) (hm : c.md = false) : ds = [] := by
  obtain ⟨Ds, h1, _, h3, _⟩ := h
  rw [h1, h3 hm]; rfl
structure Rel (c : Ctx) (γ : Nat → Option (Gd × AV)) (η : Nat → Option HObj) (δ : Nat → Prop) (β : Nat → Option Value) (F : Nat → Prop) (a : Act) (w : World) : Prop where
  env : ∀ t g x, γ t = some (g, x) → TR β F w a.tmps t g x
  heap : ∀ id ob, η id = some ob → OR β F w id ob
  own : ∀ id ob v b, η id = some ob → β id = some v → blkOf v = some b → ¬ F b ∧ (c.w0.heap.size ≤ b ∨ c.M b)
  sep : ∀ id id' ob ob' v v' b, η id = some ob → η id' = some ob' → id ≠ id' → β id = some v → β id' = some v' → blkOf v = some b → blkOf v' = some b → False
  Flt : ∀ b, F b → b < w.heap.size
  Fbnd : ∀ b, F b → c.F0 b ∨ c.w0.heap.size ≤ b ∨ c.M b
  F0F : ∀ b, c.F0 b → F b
  cls : c.C w
  dom : ∀ id v, β id = some v → δ id
  os : w.os = c.w0.os
  tape : w.tape = c.w0.tape
  output : w.output = c.w0.output
  size : c.w0.heap.size ≤ w.heap.size
  frame : ∀ b, b < c.w0.heap.size → ¬ c.M b → w.heap[b]? = c.w0.heap[b]?
  defers : Marks c F w a.defers
  Bext : ∀ id x, c.B0 id = some x → β id = some x
  Blow : ∀ id x, id < c.n0 → β id = some x → c.B0 id = some x
  n0δ : ∀ id, id < c.n0 → δ id

def updF (η : Nat → Option HObj) : List (Nat × Option HObj) → Nat → Option HObj
  | [] => η
  | (i, ob) :: r => updF (fun j => if j = i then ob else η j) r
theorem updF_some : ∀ {l : List (Nat × Option HObj)} {η : Nat → Option HObj} {id : Nat} {ob : HObj}, updF η l id = some ob → (id, some ob) ∈ l ∨ (η id = some ob ∧ ∀ p ∈ l, p.1 ≠ id)
  | [], _, _, _, h => .inr ⟨h, by simp⟩
  | (i, o) :: r, η, id, ob, h => by
    simp only [updF] at h
    rcases updF_some h with h | ⟨h1, h2⟩
    · exact .inl (List.mem_cons_of_mem _ h)
    · by_cases e : id = i
      · subst e
        rw [if_pos rfl] at h1
        subst h1
        exact .inl List.mem_cons_self
      · rw [if_neg e] at h1
        refine .inr ⟨h1, fun p hp => ?_⟩
        rcases List.mem_cons.1 hp with rfl | hp
        · exact fun e' => e e'.symm
        · exact h2 p hp
def newF (n : Nat) (l : List HObj) (η : Nat → Option HObj) : Nat → Option HObj := fun id => if n ≤ id ∧ id < n + l.length then l[id - n]? else η id
theorem lk_filter {α : Type} (h : List (Nat × α)) (i id : Nat) : lk (h.filter fun p => !Nat.beq p.1 i) id = if id = i then none else lk h id := by
  induction h with
  | nil => simp [lk]
  | cons p h ih =>
    obtain ⟨j, x⟩ := p
    by_cases hj : j = i
    · subst hj
      rw [List.filter_cons_of_neg (by simp [Nat.beq_refl])]
      rw [ih]
      by_cases e : id = j
      · simp [e]
      · rw [if_neg e, if_neg e]
        unfold lk
        have : Nat.beq id j = false := by cases hb : Nat.beq id j with | false => rfl | true => exact absurd (Nat.eq_of_beq_eq_true hb) e
        rw [this]
        cases h <;> rfl
    · have hb : Nat.beq j i = false := by cases hb : Nat.beq j i with | false => rfl | true => exact absurd (Nat.eq_of_beq_eq_true hb) hj
      rw [List.filter_cons_of_pos (by simp [hb])]
      unfold lk
      by_cases e : id = j
      · subst e
        simp [Nat.beq_refl, hj]
      · have : Nat.beq id j = false := by cases hb : Nat.beq id j with | false => rfl | true => exact absurd (Nat.eq_of_beq_eq_true hb) e
        rw [this]
        exact ih
theorem lk_cons {α : Type} (j : Nat) (x : α) (l : List (Nat × α)) (i : Nat) : lk ((j, x) :: l) i = if i = j then some x else lk l i := by
  show (match Nat.beq i j with | true => some x | false => lk l i) = _
  by_cases e : i = j
  · subst e; simp [Nat.beq_refl]
  · have : Nat.beq i j = false := by cases hb : Nat.beq i j with | false => rfl | true => exact absurd (Nat.eq_of_beq_eq_true hb) e
    simp [this, e]
theorem updF_same : ∀ {l : List (Nat × Option HObj)} {η : Nat → Option HObj}, (∀ p ∈ l, p.2 = η p.1) → updF η l = η
  | [], _, _ => rfl
  | (i, ob) :: r, η, h => by
    have e : (fun j => if j = i then ob else η j) = η := by
      funext j
      split
      · rename_i hj; subst hj; exact h (j, ob) List.mem_cons_self
      · rfl
    simp only [updF, e]
    exact updF_same fun p hp => h p (List.mem_cons_of_mem _ hp)
theorem lk_upd : ∀ (l : List (Nat × Option HObj)) (h : List (Nat × HObj)) (id : Nat), lk (upd h l) id = updF (lk h) l id
  | [], h, id => rfl
  | (i, some ob) :: r, h, id => by
    simp only [upd, updF]
    rw [lk_upd r]
    congr 1
    funext j
    rw [lk_cons, lk_filter]
    by_cases e : j = i <;> simp [e]
  | (i, none) :: r, h, id => by
    simp only [upd, updF]
    rw [lk_upd r]
    congr 1
    funext j
    rw [lk_filter]
theorem lk_named : ∀ (l : List HObj) (n : Nat) (h : List (Nat × HObj)) (id : Nat), lk (named n l ++ h) id = newF n l (lk h) id
  | [], n, h, id => by
    simp only [named, List.nil_append, newF, List.length_nil]
    rw [if_neg (by omega)]
  | ob :: r, n, h, id => by
    simp only [named, List.cons_append]
    rw [lk_cons, lk_named r (n + 1) h id]
    unfold newF
    simp only [List.length_cons]
    by_cases e : id = n
    · subst e
      rw [if_pos rfl, if_pos (by omega)]
      simp
    · rw [if_neg e]
      by_cases h1 : n + 1 ≤ id ∧ id < n + 1 + r.length
      · rw [if_pos h1, if_pos (by omega)]
        have : id - n = (id - (n + 1)) + 1 := by omega
        rw [this, List.getElem?_cons_succ]
      · rw [if_neg h1, if_neg (by omega)]

def putF (γ : Nat → Option (Gd × AV)) (dst : Option Nat) (g : Gd) (x : AV) : Nat → Option (Gd × AV) := fun t => if dst = some t then some (g, x) else γ t

section
variable {c : Ctx} {γ : Nat → Option (Gd × AV)} {η : Nat → Option HObj} {δ : Nat → Prop} {β : Nat → Option Value} {F : Nat → Prop} {a : Act} {w : World}
theorem put_tmps (a : Act) (dst : Option Nat) (v : Value) (t : Nat) : (a.put dst v).tmps[t]? = if dst = some t ∧ t < a.tmps.size then some v else a.tmps[t]? := by
  cases dst with
  | none => simp [Act.put]
  | some d =>
    simp only [Act.put, Array.getElem?_setIfInBounds, Option.some.injEq]
    by_cases e : d = t
    · subst e
      by_cases h : d < a.tmps.size <;> simp [h]
    · simp [e]
theorem put_defers (a : Act) (dst : Option Nat) (v : Value) : (a.put dst v).defers = a.defers := by cases dst <;> rfl
/-- What an operation leaves behind, the relation behind it. -/
theorem Rel.step {hs : List (Nat × HObj)} {nx : Nat} {E : Eff} {dst : Option Nat} {g : Gd} {v' : Value} {β' : Nat → Option Value} {F' : Nat → Prop} {w' : World} (h : Rel c γ η δ β F a w) (hhs : ∀ p ∈ hs, η p.1 = some p.2)
    (p : Post hs nx E β F w v' β' F' w') (hd : ∀ d, dst = some d → d < a.tmps.size) (hg : ∀ t g x, γ t = some (some g, x) → dst ≠ some g.1) (hnx : ∀ id, nx ≤ id → id < nx + E.new.length → ¬ δ id)
    (hgd : ∀ d b, g = some (d, b) → a.tmps[d]? = some (.bool b) ∧ dst ≠ some d) :
    Rel c (putF γ dst g E.v) (newF nx E.new (updF η E.hw)) (fun id => δ id ∨ (nx ≤ id ∧ id < nx + E.new.length)) β' F' (a.put dst v') w' := by
  have hη : ∀ q ∈ E.hw, ∃ ob, η q.1 = some ob := fun q hq => by
    obtain ⟨ob, hob⟩ := p.known q hq
    exact ⟨ob, hhs _ hob⟩
  -- a block that is not one of those that are written stays
  have keepF : ∀ b, F b → w'.heap[b]? = w.heap[b]? := fun b hb => p.frame b (h.Flt b hb) (fun q hq x hx hbx => by
    obtain ⟨ob, hob⟩ := hη q hq
    exact (h.own _ _ _ _ hob hx hbx).1 hb)
  have keepO : ∀ id ob, η id = some ob → (∀ q ∈ E.hw, q.1 ≠ id) → ∀ x b, β id = some x → blkOf x = some b → w'.heap[b]? = w.heap[b]? := fun id ob hob hne x b hx hbx =>
    p.frame b ((h.heap _ _ hob).lt hx hbx) (fun q hq y hy hby => by
      obtain ⟨ob', hob'⟩ := hη q hq
      exact h.sep _ _ _ _ _ _ _ hob' hob (hne q hq) hy hx hby hbx)
  -- what is known of an object that lives on
  have old : ∀ id ob, updF η E.hw id = some ob → ∃ ob0, η id = some ob0 ∧ (id, none) ∉ E.hw ∧ OR β' F' w' id ob := by
    intro id ob hob
    rcases updF_some hob with h1 | ⟨h1, h2⟩
    · obtain ⟨ob0, h3⟩ := hη _ h1
      exact ⟨ob0, h3, p.nd _ _ h1, p.live _ _ h1⟩
    · exact ⟨ob, h1, fun hm => h2 _ hm rfl, (h.heap _ _ h1).mono p.βext p.Fext keepF (fun x b hx hb => keepO id ob h1 h2 x b hx hb)⟩
  have bold : ∀ id x, β' id = some x → δ id → β id = some x := fun id x hx hdl => by
    rcases p.βnew id x hx with h1 | h1
    · exact h1
    · exact absurd hdl (hnx id h1.1 h1.2)
  have dold : ∀ id ob, η id = some ob → ∃ x, β id = some x ∧ δ id := fun id ob hob => by
    have := h.heap id ob hob
    cases ob with
    | cells l => obtain ⟨b, o, cur, e, h1, _⟩ := this; exact ⟨_, h1, h.dom _ _ h1⟩
    | arr e cc => obtain ⟨v, cvs, h1, _⟩ := this; exact ⟨_, h1, h.dom _ _ h1⟩
    | map c bs ps => obtain ⟨r, es, h1, _⟩ := this; exact ⟨_, h1, h.dom _ _ h1⟩
    | sset l => obtain ⟨c, bs, r, es, h1, _⟩ := this; exact ⟨_, h1, h.dom _ _ h1⟩
  have isNew : ∀ id ob, newF nx E.new (updF η E.hw) id = some ob → (∃ j, id = nx + j ∧ j < E.new.length ∧ E.new[j]? = some ob) ∨ (updF η E.hw id = some ob) := by
    intro id ob hob
    unfold newF at hob
    split at hob
    · rename_i hr
      exact .inl ⟨id - nx, by omega, by omega, hob⟩
    · exact .inr hob
  have ownOld : ∀ id ob x b, updF η E.hw id = some ob → β' id = some x → blkOf x = some b → ¬ F' b ∧ (c.w0.heap.size ≤ b ∨ c.M b) ∧ b < w.heap.size := by
    intro id ob x b hob hx hb
    obtain ⟨ob0, h1, h2, h3⟩ := old id ob hob
    obtain ⟨x0, h4, h5⟩ := dold id ob0 h1
    have hx0 := bold id x hx h5
    obtain ⟨o1, o2⟩ := h.own _ _ _ _ h1 hx0 hb
    have hlt := (h.heap _ _ h1).lt hx0 hb
    refine ⟨fun hf => ?_, o2, hlt⟩
    rcases p.Fnew b hf with hf | hf | ⟨id2, hid2, hm, y, hy, hby⟩
    · exact o1 hf
    · omega
    · obtain ⟨ob2, hob2⟩ := hη _ hm
      exact h.sep id id2 _ _ _ _ b h1 hob2 (fun e => h2 (e ▸ hm)) hx0 hy hb hby
  constructor
  · intro t g' x hx
    unfold putF at hx
    have mono : ∀ {v x}, VR β F w v x → VR β' F' w' v x := fun h => h.mono p.βext p.Fext keepF
    split at hx
    · rename_i hdt
      injection hx with hx
      injection hx with hx1 hx2
      subst hx1
      subst hx2
      have hlt := hd t hdt
      cases g with
      | none => exact ⟨v', by rw [put_tmps, if_pos ⟨hdt, hlt⟩], p.vr⟩
      | some g =>
        obtain ⟨d, b⟩ := g
        obtain ⟨hgt, hgn⟩ := hgd d b rfl
        have : (a.put dst v').tmps[d]? = some (.bool b) := by rw [put_tmps, if_neg (fun hh => hgn hh.1)]; exact hgt
        exact ⟨fun _ => ⟨v', by rw [put_tmps, if_pos ⟨hdt, hlt⟩], p.vr⟩, fun hh => absurd this hh⟩
    · rename_i hdt
      have := h.env t g' x hx
      cases g' with
      | none =>
        obtain ⟨u, h1, h2⟩ := this
        exact ⟨u, by rw [put_tmps, if_neg (fun hh => hdt hh.1)]; exact h1, mono h2⟩
      | some g' =>
        obtain ⟨d, b⟩ := g'
        have hgn := hg t _ x hx
        have e1 : (a.put dst v').tmps[d]? = a.tmps[d]? := by rw [put_tmps, if_neg (fun hh => hgn hh.1)]
        have e2 : (a.put dst v').tmps[t]? = a.tmps[t]? := by rw [put_tmps, if_neg (fun hh => hdt hh.1)]
        refine ⟨fun hh => ?_, fun hh => ?_⟩
        · rw [e1] at hh
          obtain ⟨u, h1, h2⟩ := this.1 hh
          exact ⟨u, e2.trans h1, mono h2⟩
        · rw [e1] at hh
          exact e2.trans (this.2 hh)
  · intro id ob hob
    rcases isNew id ob hob with ⟨j, rfl, hj, hnew⟩ | hob
    · exact p.news j ob hnew
    · exact (old id ob hob).choose_spec.2.2
  · intro id ob x b hob hx hb
    rcases isNew id ob hob with ⟨j, rfl, hj, hnew⟩ | hob
    · obtain ⟨h1, h2⟩ := p.newb j x b hj hx hb
      refine ⟨h1, ?_⟩
      rcases h2 with h2 | ⟨id2, hm, y, hy, hby⟩
      · have := h.size; exact .inl (by omega)
      · obtain ⟨ob2, hob2⟩ := hη _ hm
        exact (h.own _ _ _ _ hob2 hy hby).2
    · obtain ⟨h1, h2, _⟩ := ownOld id ob x b hob hx hb
      exact ⟨h1, h2⟩
  · intro id id' ob ob' x x' b hob hob' hne hx hx' hb hb'
    have newOld : ∀ j id' ob' x x', j < E.new.length → updF η E.hw id' = some ob' → β' (nx + j) = some x → β' id' = some x' → blkOf x = some b → blkOf x' = some b → False := by
      intro j id' ob' x x' hj hob' hx hx' hb hb'
      obtain ⟨ob0, h1, h2, h3⟩ := old id' ob' hob'
      obtain ⟨x0, h4, h5⟩ := dold id' ob0 h1
      have hx0 := bold id' x' hx' h5
      have hlt := (h.heap _ _ h1).lt hx0 hb'
      obtain ⟨_, h6⟩ := p.newb j x b hj hx hb
      rcases h6 with h6 | ⟨id2, hm, y, hy, hby⟩
      · omega
      · obtain ⟨ob2, hob2⟩ := hη _ hm
        exact h.sep id' id2 _ _ _ _ b h1 hob2 (fun e => h2 (e ▸ hm)) hx0 hy hb' hby
    rcases isNew id ob hob with ⟨j, rfl, hj, hnew⟩ | hob <;> rcases isNew id' ob' hob' with ⟨j', rfl, hj', hnew'⟩ | hob'
    · exact p.newsep j j' x x' b hj hj' (fun e => hne (by rw [e])) hx hx' hb hb'
    · exact newOld j id' ob' x x' hj hob' hx hx' hb hb'
    · exact newOld j' id ob x' x hj' hob hx' hx hb' hb
    · obtain ⟨ob0, h1, h2, h3⟩ := old id ob hob
      obtain ⟨ob0', h1', h2', h3'⟩ := old id' ob' hob'
      obtain ⟨_, _, h5⟩ := dold id ob0 h1
      obtain ⟨_, _, h5'⟩ := dold id' ob0' h1'
      exact h.sep id id' _ _ _ _ b h1 h1' hne (bold _ _ hx h5) (bold _ _ hx' h5') hb hb'
  · exact p.Flt
  · intro b hb
    rcases p.Fnew b hb with h1 | h1 | ⟨id, _, hm, x, hx, hbx⟩
    · exact h.Fbnd b h1
    · have := h.size; exact .inr (.inl (by omega))
    · obtain ⟨ob, hob⟩ := hη _ hm
      exact .inr (h.own _ _ _ _ hob hx hbx).2
  · exact fun b hb => p.Fext b (h.F0F b hb)
  · exact c.stable w w' h.cls (fun b hb => keepF b (h.F0F b hb))
  · intro id x hx
    rcases p.βnew id x hx with h1 | h1
    · exact .inl (h.dom _ _ h1)
    · exact .inr h1
  · exact p.os.trans h.os
  · exact p.tape.trans h.tape
  · exact p.output.trans h.output
  · exact Nat.le_trans h.size p.size
  · intro b hb hM
    refine (p.frame b (Nat.lt_of_lt_of_le hb h.size) (fun q hq x hx hbx => ?_)).trans (h.frame b hb hM)
    obtain ⟨ob, hob⟩ := hη q hq
    rcases (h.own _ _ _ _ hob hx hbx).2 with h1 | h1
    · omega
    · exact hM h1
  · rw [put_defers]; exact h.defers.mono p.Fext keepF
  · intro id x hx; exact p.βext id x (h.Bext id x hx)
  · intro id x hid hx
    rcases p.βnew id x hx with h1 | h1
    · exact h.Blow id x hid h1
    · exact absurd (h.n0δ id hid) (hnx id h1.1 h1.2)
  · intro id hid; exact .inl (h.n0δ id hid)
end
end Go.Qv
/- Steps, regions in the order of the text. -/
set_option linter.unusedVariables false
set_option linter.unusedSimpArgs false
namespace Go.Qv
open Go.RowKit

structure RS (c : Ctx) (st : S) (β : Nat → Option Value) (F : Nat → Prop) (a : Act) (w : World) : Prop where
  rel : Rel c (lk st.env) (lk st.heap) (· < st.next) β F a w
  nt : st.nt = a.tmps.size
  gds : ∀ t g x, lk st.env t = some (some g, x) → g.1 ∈ st.gds

section
variable {P : Program} {tb : Tb} {orc : Orc} {c : Ctx} {st : S} {β : Nat → Option Value} {F : Nat → Prop} {a : Act} {w : World}

def Holds (a : Act) (g : Nat × Bool) : Prop := a.tmps[g.1]? = some (.bool g.2)
theorem gmem_true : ∀ {l : List (Nat × Bool)} {d : Nat} {b : Bool}, gmem d b l = true → (d, b) ∈ l
  | [], d, b, h => by simp [gmem] at h
  | (m, e) :: l, d, b, h => by
    unfold gmem at h
    split at h
    · rename_i hh
      simp only [Bool.and_eq_true, beq_iff_eq] at hh
      rw [Nat.eq_of_beq_eq_true hh.1, hh.2]
      exact List.mem_cons_self
    · exact List.mem_cons_of_mem _ (gmem_true h)
theorem undef_ne (b : Bool) : some undef ≠ some (Value.bool b) := by simp [undef]
/-- A guarded entry whose temporary holds a bool has its guard. -/
theorem TR.guard {tmps : Array Value} {t : Nat} {g : Nat × Bool} {x : AV} {b : Bool} (h : TR β F w tmps t (some g) x) (ht : tmps[t]? = some (.bool b)) : tmps[g.1]? = some (.bool g.2) := by
  obtain ⟨d, e⟩ := g
  by_cases hh : tmps[d]? = some (.bool e)
  · exact hh
  · have := h.2 hh
    rw [ht] at this
    exact absurd this.symm (undef_ne b)
theorem TR.val {tmps : Array Value} {t : Nat} {g : Gd} {x : AV} (h : TR β F w tmps t g x) (hg : ∀ p, g = some p → tmps[p.1]? = some (.bool p.2)) : ∃ v, tmps[t]? = some v ∧ VR β F w v x := by
  cases g with
  | none => exact h
  | some p => exact h.1 (hg p rfl)
theorem chain_ok {env : Env} {T : Nat → Prop} (he : ∀ t, T t → ∀ g x, lk env t = some (g, x) → TR β F w a.tmps t g x) : ∀ (f : Nat) (g : Gd), (∀ q ∈ chain env f g, T q.1) → (∀ p, g = some p → Holds a p) → ∀ q ∈ chain env f g, Holds a q
  | _, none, _, _, q, hq => by unfold chain at hq; simp at hq
  | 0, some g, _, h, q, hq => by
    unfold chain at hq
    simp at hq
    subst hq
    exact h _ rfl
  | f + 1, some g, hT, h, q, hq => by
    unfold chain at hq hT
    rcases List.mem_cons.1 hq with rfl | hq
    · exact h _ rfl
    · split at hq
      · rename_i g' x hl
        rw [hl] at hT
        refine chain_ok he f g' (fun q hq => hT q (List.mem_cons_of_mem _ hq)) (fun p hp => ?_) q hq
        subst hp
        exact (he _ (hT g List.mem_cons_self) _ _ hl).guard (h g rfl)
      · simp at hq
theorem val_ok {env : Env} {T : Nat → Prop} (he : ∀ t, T t → ∀ g x, lk env t = some (g, x) → TR β F w a.tmps t g x) {ch : List (Nat × Bool)} (hc : ∀ q ∈ ch, Holds a q) {y : Operand} {x : AV} (hT : ∀ t, y = .tmp t → T t) (h : val env ch y = some x) : VR β F w (a.eval y) x := by
  unfold val at h
  split at h
  · rename_i t
    split at h
    · rename_i g x' hl
      split at h
      · rename_i hg
        injection h with h
        subst h
        obtain ⟨v, h1, h2⟩ := (he _ (hT t rfl) _ _ hl).val (fun p hp => by
          subst hp
          obtain ⟨d, b⟩ := p
          exact hc (d, b) (gmem_true hg))
        simp only [Act.eval, Array.getD_eq_getD_getElem?, h1, Option.getD_some]
        exact h2
      · cases h
    · cases h
  · exact cval_ok h
  · injection h with h
    subst h
    exact .fn _ _ _ rfl (fun j v x hv => by simp at hv)
  · cases h
theorem vals_ok {env : Env} {T : Nat → Prop} (he : ∀ t, T t → ∀ g x, lk env t = some (g, x) → TR β F w a.tmps t g x) {ch : List (Nat × Bool)} (hc : ∀ q ∈ ch, Holds a q) : ∀ {ys : List Operand} {xs : List AV}, (∀ y ∈ ys, ∀ t, y = .tmp t → T t) → vals env ch ys = some xs →
    xs.length = ys.length ∧ ∀ (j : Nat) (y : Operand) (z : AV), ys[j]? = some y → xs[j]? = some z → VR β F w (a.eval y) z
  | [], xs, _, h => by simp [vals] at h; subst h; exact ⟨rfl, by simp⟩
  | y :: ys, xs, hT, h => by
    simp only [vals] at h
    split at h
    · rename_i z zs h1 h2
      injection h with h
      subst h
      obtain ⟨h3, h4⟩ := vals_ok he hc (fun y hy => hT y (List.mem_cons_of_mem _ hy)) h2
      refine ⟨by simp [h3], fun j y' z' hy hz => ?_⟩
      match j, hy, hz with
      | 0, hy, hz => simp at hy hz; subst hy; subst hz; exact val_ok he hc (hT _ List.mem_cons_self) h1
      | j + 1, hy, hz => simp at hy hz; exact h4 j y' z' hy hz
    · cases h
theorem pcs_ok {env : Env} {T : Nat → Prop} (he : ∀ t, T t → ∀ g x, lk env t = some (g, x) → TR β F w a.tmps t g x) : ∀ (f : Nat) (g : Gd) (l : List (Bool × Bool)), (∀ q ∈ chain env f g, T q.1) → pcs env f g = some l → (∀ p, g = some p → Holds a p) → ∀ q ∈ l, q.1 = q.2
  | _, none, l, _, h, _, q, hq => by unfold pcs at h; simp at h; subst h; simp at hq
  | 0, some g, l, _, h, _, q, hq => by unfold pcs at h; cases h
  | f + 1, some (d, b), l, hT, h, hh, q, hq => by
    unfold pcs at h
    unfold chain at hT
    split at h
    · rename_i g x hl
      rw [show lk env (d, b).1 = some (g, .bool x) from hl] at hT
      split at h
      · rename_i l' hl'
        injection h with h
        subst h
        have ht := hh (d, b) rfl
        have hTd : T d := hT (d, b) List.mem_cons_self
        have hg : ∀ p, g = some p → Holds a p := fun p hp => by subst hp; exact (he _ hTd _ _ hl).guard ht
        rcases List.mem_cons.1 hq with rfl | hq
        · obtain ⟨v, h1, h2⟩ := (he _ hTd _ _ hl).val hg
          have h3 : a.tmps[d]? = some (.bool b) := ht
          rw [h3] at h1
          injection h1 with h1
          subst h1
          cases h2
          rfl
        · exact pcs_ok he f g l' (fun q hq => hT q (List.mem_cons_of_mem _ hq)) hl' hg q hq
      · cases h
    · cases h
theorem imp_ok : ∀ {l : List (Bool × Bool)} {p : DP}, (imp l p).p → (∀ q ∈ l, q.1 = q.2) → p.p
  | [], p, h, _ => h
  | (x, b) :: l, p, h, hq => imp_ok (h (hq (x, b) List.mem_cons_self)) (fun q hq' => hq q (List.mem_cons_of_mem _ hq'))
theorem bind_sat {α γ : Type} {Q : γ → Prop} {f : α → T γ} : ∀ {t : T α}, (t.bind f).sat Q → t.sat fun x => (f x).sat Q
  | .leaf _, h => h
  | .ite _ _ _, h => ⟨fun hb => bind_sat (h.1 hb), fun hb => bind_sat (h.2 hb)⟩
  | .both _ _ _ _, h => ⟨fun hb => bind_sat (h.1 hb), fun hb => bind_sat (h.2 hb)⟩
  | .req _ _, h => ⟨h.1, bind_sat h.2⟩
  | .stuck _, h => h.elim
theorem sat_mono {α : Type} {Q Q' : α → Prop} (hq : ∀ x, Q x → Q' x) : ∀ {t : T α}, t.sat Q → t.sat Q'
  | .leaf _, h => hq _ h
  | .ite _ _ _, h => ⟨fun hb => sat_mono hq (h.1 hb), fun hb => sat_mono hq (h.2 hb)⟩
  | .both _ _ _ _, h => ⟨fun hb => sat_mono hq (h.1 hb), fun hb => sat_mono hq (h.2 hb)⟩
  | .req _ _, h => ⟨h.1, sat_mono hq h.2⟩
  | .stuck _, h => h.elim
theorem lin_sat {α : Type} {Q : α → Prop} : ∀ {t : T α} {q : DP} {x : α}, t.lin = some (q, x) → q.p → Q x → t.sat Q
  | .leaf _, q, x, h, hq, hx => by simp [T.lin] at h; obtain ⟨_, rfl⟩ := h; exact hx
  | .req p t, q, x, h, hq, hx => by
    simp only [T.lin] at h
    split at h
    · rename_i q' x' ht
      injection h with h
      injection h with h1 h2
      subst h1
      subst h2
      exact ⟨hq.1, lin_sat ht hq.2 hx⟩
    · cases h
  | .ite _ _ _, q, x, h, hq, hx => by simp [T.lin] at h
  | .both _ _ _ _, q, x, h, hq, hx => by simp [T.lin] at h
  | .stuck _, q, x, h, hq, hx => by simp [T.lin] at h

theorem find_mem {h : List (Nat × HObj)} : ∀ {ids : List Nat} {p : Nat × HObj}, p ∈ find h ids → lk h p.1 = some p.2
  | [], p, hp => by simp [find] at hp
  | i :: r, p, hp => by
    unfold find at hp
    split at hp
    · rename_i x hx
      rcases List.mem_cons.1 hp with rfl | hp
      · exact hx
      · exact find_mem hp
    · exact find_mem hp
theorem reach_mem {h : List (Nat × HObj)} : ∀ {f : Nat} {ids : List Nat} {acc : List (Nat × HObj)} {p : Nat × HObj}, p ∈ reach h f ids acc → p ∈ acc ∨ lk h p.1 = some p.2
  | 0, _, _, _, hp => .inl hp
  | _ + 1, [], _, _, hp => .inl hp
  | f + 1, i :: r, acc, p, hp => by
    unfold reach at hp
    split at hp
    · exact reach_mem hp
    · split at hp
      · rename_i ob hob
        rcases reach_mem hp with h1 | h1
        · rcases List.mem_append.1 h1 with h1 | h1
          · exact .inl h1
          · simp at h1; subst h1; exact .inr hob
        · exact .inr h1
      · exact reach_mem hp
theorem gather_mem {h : List (Nat × HObj)} {op : Op} {ids : List Nat} {p : Nat × HObj} (hp : p ∈ gather h op ids) : lk h p.1 = some p.2 := by
  unfold gather at hp
  split at hp
  · rcases reach_mem hp with hp | hp
    · simp at hp
    · exact hp
  · exact find_mem hp
theorem Rel.pre {γ : Nat → Option (Gd × AV)} {η : Nat → Option HObj} {δ : Nat → Prop} {hs : List (Nat × HObj)} {nx : Nat} (h : Rel c γ η δ β F a w) (hhs : ∀ p ∈ hs, η p.1 = some p.2) (hnx : ∀ id, nx ≤ id → id < nx + 64 → ¬ δ id) : Pre hs nx β F w where
  hn id hid hid2 := by
    cases hb : β id with
    | none => rfl
    | some v => exact absurd (h.dom _ _ hb) (hnx id hid hid2)
  hF := h.Flt
  hh p hp := ⟨h.heap _ _ (hhs p hp), fun v b hv hb => (h.own _ _ _ _ (hhs p hp) hv hb).1⟩
  hsep p hp q hq hne x y b hx hy hbx hby := h.sep _ _ _ _ _ _ _ (hhs p hp) (hhs q hq) hne hx hy hbx hby

theorem chain_fst (env : Env) (f d : Nat) (b b' : Bool) : (chain env f (some (d, b))).map (·.1) = (chain env f (some (d, b'))).map (·.1) := by
  cases f <;> simp [chain]
/-- Everything is let in; in a round, or not. -/
def FrR (rn : Option Nat) : Fence := { fn := fun _ => True, depth := none, alive := false, round := rn }
theorem fencedR {rn : Option Nat} (P : Program) (m : Machine) : m.fenced P (FrR rn) := fenced_wide P m
theorem opR {rn : Option Nat} {x : Oper} {a : Act} {w : World} {K : Act → World → Prop} {Q : Exit → Act → World → Prop} (hd : ∀ c, x.op ≠ .defer c) (h : x.wp P a w K Q) : x.wpIn (FrR rn) 0 P a w K Q := by
  unfold Oper.wp at h
  refine ⟨fun _ _ => trivial, ?_⟩
  rw [Oper.semAt_eq _ _ _ hd]
  generalize (execOp a.eval x).run P w = res at h ⊢
  cases res with
  | ok y w' =>
    cases y with
    | value v => exact h
    | skip => exact h
    | defer d => exact h
    | enter f args => exact ⟨fun hh => by simp [FrR] at hh, (callsIn_wide (n := 0 - 1)).2 h⟩
    | row row args => exact ⟨fun hh => by simp [FrR] at hh, fun c cs _ => let ⟨v, w', r, s⟩ := h c cs; ⟨v, w', r, stepsIn_wide.2 s⟩⟩
    | _ => exact h.elim
  | halt y w' => cases y <;> exact h
/-- 'pick', or what evo_ok says. -/
theorem opT_ok (htb : TbOk P tb) (horc : OrcOk P orc c.C) {m : Bool} {x : Oper} {γ : Nat → Option (Gd × AV)} {η : Nat → Option HObj} {δ : Nat → Prop} (h : Rel c γ η δ β F a w) {ch : List (Nat × Bool)} (hc : ∀ q ∈ ch, Holds a q) {K : Act → World → Prop} {Q : Exit → Act → World → Prop} {R : Eff → Prop}
    (he : ∀ t ∈ rdOf st.env ch x.op, ∀ g x, lk st.env t = some (g, x) → TR β F w a.tmps t g x) (hη : ∀ p : Nat × HObj, p.1 ∈ hsOf st ch x.op → lk st.heap p.1 = some p.2 → η p.1 = some p.2) (hnx : ∀ id, st.next ≤ id → id < st.next + 64 → ¬ δ id)
    (hR : ∀ E hs, R E → (∀ p ∈ hs, η p.1 = some p.2) → ∀ v' β' F' w', Post hs st.next E β F w v' β' F' w' → K (a.put x.dst v') w')
    (hs : (opT O.real tb orc m st ch x.op).sat R) : x.wp P a w K Q := by
  have hT1 : ∀ y ∈ x.op.operands.toList, ∀ t, y = .tmp t → t ∈ rdOf st.env ch x.op := by
    rintro y hy t rfl
    unfold rdOf
    exact List.mem_append_left _ (List.mem_append_left _ (List.mem_filterMap.2 ⟨.tmp t, hy, rfl⟩))
  unfold opT at hs
  split at hs
  · rename_i cc y1 y2 hop
    rw [hop] at hT1
    have hT2 : ∀ y, y = cc ∨ y = y1 ∨ y = y2 → ∀ t, y = .tmp t → t ∈ rdOf st.env ch (.pick cc y1 y2) := fun y hy => hT1 y (by simp [Op.operands]; exact hy)
    rw [hop] at he
    unfold pickT at hs
    split at hs
    · rename_i d b hv
      have hcv := (val_ok he hc (hT2 _ (.inl rfl)) hv).bool_inv
      have run : ∀ (hb : (Value.bool b) = a.eval (.tmp d)), (execOp a.eval x).run P w = .ok (.value (if b then a.eval y1 else a.eval y2)) w := by
        intro hb
        unfold execOp
        simp only [hop]
        rw [← hb]
        simp [asBool]
      have hpre := h.pre (hs := []) (nx := st.next) (by simp) hnx
      have fin : ∀ {z : AV}, (pure1 z).sat R → VR β F w (if b then a.eval y1 else a.eval y2) z → x.wp P a w K Q := fun hk hz =>
        wp_val (run hcv.symm) (hR _ [] hk (by simp) _ _ _ _ (Post.pure hpre hz))
      have htd : a.tmps[d]? = some (.bool b) := by
        unfold val at hv
        simp only at hv
        split at hv
        · rename_i g x' hl
          split at hv
          · rename_i hg
            injection hv with hv
            subst hv
            obtain ⟨v, h1, h2⟩ := (he _ (hT2 _ (.inl rfl) d rfl) _ _ hl).val (fun p hp => by subst hp; obtain ⟨d', b'⟩ := p; exact hc (d', b') (gmem_true hg))
            cases h2
            exact h1
          · cases hv
        · cases hv
      have hch : ∀ e : Bool, b = e → ∀ q ∈ chain st.env 8 (some (d, e)) ++ ch, Holds a q := by
        intro e hbe q hq
        rcases List.mem_append.1 hq with hq | hq
        · exact chain_ok he 8 _ (fun q hq => by
            unfold rdOf
            refine List.mem_append_right _ ?_
            simp only
            rw [chain_fst st.env 8 d true e]
            exact List.mem_map.2 ⟨q, hq, rfl⟩) (fun p hp => by injection hp with hp; subst hp; subst hbe; exact htd) q hq
        · exact hc q hq
      cases m with
      | true =>
        simp only at hs
        cases b with
        | true =>
          simp only at hs
          split at hs
          · rename_i y hv2
            exact fin hs (by simpa using val_ok he hc (hT2 _ (.inr (.inl rfl))) hv2)
          · exact hs.elim
        | false =>
          simp only at hs
          split at hs
          · rename_i y hv2
            exact fin hs (by simpa using val_ok he hc (hT2 _ (.inr (.inr rfl))) hv2)
          · exact hs.elim
      | false =>
        simp only at hs
        split at hs
        · rename_i y hv2
          refine fin hs ?_
          cases b with
          | true => exact .bool true
          | false =>
            have := (val_ok he (hch false rfl) (hT2 _ (.inr (.inr rfl))) hv2).bool_inv
            simp only [Bool.false_eq_true, if_false, this]
            exact .bool _
        · rename_i y _ hv1 _
          refine fin hs ?_
          cases b with
          | true =>
            have := (val_ok he (hch true rfl) (hT2 _ (.inr (.inl rfl))) hv1).bool_inv
            simp only [if_true, this]
            exact .bool _
          | false => exact .bool false
        · rename_i y z _ _ hv1 hv2
          refine fin hs ?_
          cases b with
          | true =>
            have := (val_ok he (hch true rfl) (hT2 _ (.inr (.inl rfl))) hv1).bool_inv
            simp only [if_true, this]
            exact .bool _
          | false =>
            have := (val_ok he (hch false rfl) (hT2 _ (.inr (.inr rfl))) hv2).bool_inv
            simp only [Bool.false_eq_true, if_false, this]
            exact .bool _
        · exact hs.elim
    · exact hs.elim
  · rename_i hnp
    split at hs
    · rename_i xs hv
      obtain ⟨h1, h2⟩ := vals_ok he hc hT1 hv
      have hg : ∀ p ∈ gather st.heap x.op (need x.op xs), η p.1 = some p.2 := fun p hp => hη p (by unfold hsOf; rw [hv]; exact List.mem_map.2 ⟨p, hp, rfl⟩) (gather_mem hp)
      exact evo_ok htb horc (h.pre hg hnx) h.cls h1 h2 (sat_mono (fun E hE => hR E _ hE hg) hs)
    · exact hs.elim

theorem known_ok {env : Env} {T : Nat → Prop} (he : ∀ t, T t → ∀ g x, lk env t = some (g, x) → TR β F w a.tmps t g x) : ∀ (f : Nat) (g : Nat × Bool) (r : Bool), (∀ q ∈ chain env f (some g), T q.1) → known env f g = some r → (r = true → Holds a g) ∧ (r = false → ¬ Holds a g)
  | 0, _, _, _, h => by simp [known] at h
  | f + 1, (d, b), r, hT, h => by
    unfold known at h
    unfold chain at hT
    have hd : T d := hT (d, b) List.mem_cons_self
    split at h
    · rename_i x hl
      injection h with h
      obtain ⟨v, h1, h2⟩ := he d hd _ _ hl
      cases h2
      unfold Holds
      simp only
      rw [h1]
      cases x <;> cases b <;> simp_all
    · rename_i g' x hl
      rw [show lk env (d, b).1 = some (some g', x) from hl] at hT
      split at h
      · rename_i hk
        injection h with h
        subst h
        have := (known_ok he f g' false (fun q hq => hT q (List.mem_cons_of_mem _ hq)) hk).2 rfl
        refine ⟨fun hr => (by cases hr), fun _ hh => this ?_⟩
        exact TR.guard (he d hd _ _ hl) hh
      · cases h
    · cases h
theorem opT_nd {m : Bool} {op : Op} {ch : List (Nat × Bool)} {R : Eff → Prop} (hs : (opT O.real tb orc m st ch op).sat R) : ∀ c, op ≠ .defer c := by
  rintro c rfl
  unfold opT at hs
  simp only at hs
  split at hs
  · unfold evo at hs; exact hs.elim
  · exact hs.elim
theorem opT_okR {rn : Option Nat} (htb : TbOk P tb) (horc : OrcOk P orc c.C) {m : Bool} {x : Oper} {γ : Nat → Option (Gd × AV)} {η : Nat → Option HObj} {δ : Nat → Prop} (h : Rel c γ η δ β F a w) {ch : List (Nat × Bool)} (hc : ∀ q ∈ ch, Holds a q) {K : Act → World → Prop} {Q : Exit → Act → World → Prop} {R : Eff → Prop}
    (he : ∀ t ∈ rdOf st.env ch x.op, ∀ g x, lk st.env t = some (g, x) → TR β F w a.tmps t g x) (hη : ∀ p : Nat × HObj, p.1 ∈ hsOf st ch x.op → lk st.heap p.1 = some p.2 → η p.1 = some p.2) (hnx : ∀ id, st.next ≤ id → id < st.next + 64 → ¬ δ id)
    (hR : ∀ E hs, R E → (∀ p ∈ hs, η p.1 = some p.2) → ∀ v' β' F' w', Post hs st.next E β F w v' β' F' w' → K (a.put x.dst v') w')
    (hs : (opT O.real tb orc m st ch x.op).sat R) : x.wpIn (FrR rn) 0 P a w K Q := opR (opT_nd hs) (opT_ok htb horc h hc he hη hnx hR hs)
end
end Go.Qv
/- Regions in the order of the text; code. -/
set_option linter.unusedVariables false
set_option linter.unusedSimpArgs false
namespace Go.Qv
open Go.RowKit
section
variable {P : Program} {tb : Tb} {orc : Orc} {c : Ctx} {st : S} {β : Nat → Option Value} {F : Nat → Prop} {a : Act} {w : World}

theorem newF_nil (n : Nat) (η : Nat → Option HObj) : newF n [] η = η := by
  funext id; unfold newF; rw [if_neg (by rw [List.length_nil]; omega)]
theorem lk_putEnv (env : Env) (g : Gd) (x : AV) (dst : Option Nat) : lk (putEnv env g x dst) = putF (lk env) dst g x := by
  funext t
  unfold putF
  cases dst with
  | none => simp [putEnv]
  | some d =>
    simp only [putEnv, lk_cons]
    by_cases e : t = d
    · subst e; simp
    · rw [if_neg e, if_neg (by intro hh; injection hh with hh; exact e hh.symm)]
theorem addGd_mem {l : List Nat} {g : Gd} {n : Nat} (h : n ∈ l ∨ ∃ b, g = some (n, b)) : n ∈ addGd l g := by
  cases g with
  | none => rcases h with h | ⟨b, h⟩ <;> first | exact h | cases h
  | some p =>
    obtain ⟨d, b⟩ := p
    have e : addGd l (some (d, b)) = if mem d l = true then l else d :: l := by
      unfold addGd; cases hm : mem d l <;> simp [hm]
    rw [e]
    split
    · rename_i hm
      rcases h with h | ⟨b', h⟩
      · exact h
      · injection h with h; injection h with h1 h2; subst h1; exact mem_true.1 hm
    · rcases h with h | ⟨b', h⟩
      · exact List.mem_cons_of_mem _ h
      · injection h with h; injection h with h1 h2; subst h1; exact List.mem_cons_self
theorem dstOk_lt {dst : Option Nat} (h : dstOk st dst = true) : ∀ d, dst = some d → d < st.nt ∧ d ∉ st.gds := by
  rintro d rfl
  simp only [dstOk, Bool.and_eq_true, Bool.not_eq_true'] at h
  exact ⟨by have := Nat.le_of_ble_eq_true h.1; omega, fun hm => by rw [mem_true.2 hm] at h; exact absurd h.2 (by simp)⟩
theorem eqO_false {a b : Option Nat} {d : Nat} (h : eqO a (some d) = false) : a ≠ some d := by
  rintro rfl; simp [eqO, Nat.beq_refl] at h
/-- Behind an operation that was carried out. -/
theorem RS.put {hs : List (Nat × HObj)} {E : Eff} {dst : Option Nat} {g : Gd} {v' : Value} {β' : Nat → Option Value} {F' : Nat → Prop} {w' : World} (h : RS c st β F a w) (hhs : ∀ p ∈ hs, lk st.heap p.1 = some p.2)
    (p : Post hs st.next E β F w v' β' F' w') (h8 : E.new.length ≤ 64) (hd : dstOk st dst = true) (hgd : ∀ p, g = some p → Holds a p) (hgn : gdDst dst g = false) : RS c (Qv.put st dst g E) β' F' (a.put dst v') w' := by
  have hd' := dstOk_lt hd
  have hs := h.rel.step (dst := dst) (g := g) hhs p (fun d hdd => by rw [← h.nt]; exact (hd' d hdd).1) (fun t g x hx e => by
      have := h.gds t g x hx
      exact (hd' _ e).2 this) (fun id h1 h2 => Nat.not_lt.2 h1) (fun d b hg => by
      subst hg
      exact ⟨hgd _ rfl, eqO_false (b := some d) hgn⟩)
  refine ⟨?_, ?_, ?_⟩
  · have e1 : lk (Qv.put st dst g E).env = putF (lk st.env) dst g E.v := lk_putEnv _ _ _ _
    have e2 : lk (Qv.put st dst g E).heap = newF st.next E.new (updF (lk st.heap) E.hw) := by
      funext id
      show lk (named st.next E.new ++ upd st.heap E.hw) id = _
      rw [lk_named]
      congr 1
      funext j
      exact lk_upd _ _ _
    rw [e1, e2]
    have hdom : ∀ id v, β' id = some v → id < (Qv.put st dst g E).next := fun id v hv => by
      show id < st.next + 64
      rcases hs.dom id v hv with h1 | h1
      · exact Nat.lt_of_lt_of_le h1 (Nat.le_add_right _ _)
      · omega
    exact { hs with dom := hdom, n0δ := fun id hid => by show id < st.next + 64; have := h.rel.n0δ id hid; omega }
  · show st.nt = (a.put dst v').tmps.size
    rw [h.nt]
    cases dst <;> simp [Act.put]
  · intro t g' x hx
    have : lk (Qv.put st dst g E).env t = putF (lk st.env) dst g E.v t := congrFun (lk_putEnv _ _ _ _) t
    rw [this] at hx
    unfold putF at hx
    split at hx
    · injection hx with hx
      injection hx with hx1 hx2
      obtain ⟨d, b⟩ := g'
      exact addGd_mem (.inr ⟨b, hx1⟩)
    · exact addGd_mem (.inl (h.gds t g' x hx))
/-- Behind an operation that was passed over. -/
theorem RS.skip {dst : Option Nat} {g : Nat × Bool} {v : AV} (h : RS c st β F a w) (hd : dstOk st dst = true) (hng : ¬ Holds a g) (hgn : gdDst dst (some g) = false) :
    RS c (Qv.put st dst (some g) ⟨v, [], [], []⟩) β F (a.put dst undef) w := by
  have hd' := dstOk_lt hd
  have hgne : dst ≠ some g.1 := by obtain ⟨d, b⟩ := g; exact eqO_false (b := some d) hgn
  have henv : lk (Qv.put st dst (some g) ⟨v, [], [], []⟩).env = putF (lk st.env) dst (some g) v := lk_putEnv _ _ _ _
  refine ⟨?_, by show st.nt = (a.put dst undef).tmps.size; rw [h.nt]; cases dst <;> simp [Act.put], ?_⟩
  · rw [henv]
    show Rel c _ (lk (named st.next [] ++ upd st.heap [])) (fun id => id < st.next + 64) β F _ w
    have r := h.rel
    refine ⟨fun t g' x hx => ?_, r.heap, r.own, r.sep, r.Flt, r.Fbnd, r.F0F, r.cls, fun id v hv => Nat.lt_of_lt_of_le (r.dom id v hv) (Nat.le_add_right _ _), r.os, r.tape, r.output, r.size, r.frame, by rw [put_defers]; exact r.defers, r.Bext, r.Blow, fun id hid => Nat.lt_of_lt_of_le (r.n0δ id hid) (Nat.le_add_right _ _)⟩
    unfold putF at hx
    split at hx
    · rename_i hdt
      injection hx with hx
      injection hx with hx1 hx2
      subst hx1
      have hlt := (hd' t hdt).1
      rw [h.nt] at hlt
      obtain ⟨d, b⟩ := g
      have e1 : (a.put dst undef).tmps[d]? = a.tmps[d]? := by rw [put_tmps, if_neg (fun hh => hgne hh.1)]
      refine ⟨fun hh => ?_, fun _ => by rw [put_tmps, if_pos ⟨hdt, hlt⟩]⟩
      rw [e1] at hh
      exact absurd hh hng
    · rename_i hdt
      have ht := r.env t g' x hx
      cases g' with
      | none =>
        obtain ⟨u, h1, h2⟩ := ht
        exact ⟨u, by rw [put_tmps, if_neg (fun hh => hdt hh.1)]; exact h1, h2⟩
      | some g' =>
        obtain ⟨d, b⟩ := g'
        have hgn' : dst ≠ some d := fun e => (hd' d e).2 (h.gds t _ x hx)
        have e1 : (a.put dst undef).tmps[d]? = a.tmps[d]? := by rw [put_tmps, if_neg (fun hh => hgn' hh.1)]
        have e2 : (a.put dst undef).tmps[t]? = a.tmps[t]? := by rw [put_tmps, if_neg (fun hh => hdt hh.1)]
        refine ⟨fun hh => ?_, fun hh => ?_⟩
        · rw [e1] at hh
          obtain ⟨u, h1, h2⟩ := ht.1 hh
          exact ⟨u, e2.trans h1, h2⟩
        · rw [e1] at hh
          exact e2.trans (ht.2 hh)
  · intro t g' x hx
    rw [henv] at hx
    unfold putF at hx
    split at hx
    · injection hx with hx
      injection hx with hx1 hx2
      obtain ⟨d, b⟩ := g'
      exact addGd_mem (.inr ⟨b, hx1⟩)
    · exact addGd_mem (g := some g) (.inl (h.gds t g' x hx))

theorem RS.skipE {dst : Option Nat} {g : Nat × Bool} {E : Eff} (h : RS c st β F a w) (hd : dstOk st dst = true) (hng : ¬ Holds a g) (hgn : gdDst dst (some g) = false) (hs : softOk st.heap E = true) :
    RS c (Qv.put st dst (some g) E) β F (a.put dst undef) w := by
  obtain ⟨e1, e2, e3⟩ := softOk_ok hs
  have h0 := h.skip (v := E.v) hd hng hgn
  have hh : lk (Qv.put st dst (some g) E).heap = lk (Qv.put st dst (some g) ⟨E.v, [], [], []⟩).heap := by
    show lk (named st.next E.new ++ upd st.heap E.hw) = lk (named st.next [] ++ upd st.heap [])
    rw [e2]
    funext id
    simp only [named, List.nil_append]
    rw [lk_upd, updF_same e3]
    rfl
  refine ⟨?_, h0.nt, h0.gds⟩
  rw [hh]
  exact h0.rel

theorem wanted_some {ops : Array Oper} {x : Oper} {tmps : Array Value} {g : Nat × Bool} (h : gdOf (ops.toList.map (·.dst)) x.guard = some (some g)) : Region.wanted x (yielded ops tmps) = true ↔ tmps[g.1]? = some (.bool g.2) := by
  unfold gdOf at h
  split at h
  · injection h with h; cases h
  · rename_i j b hg
    split at h
    · rename_i d hd
      injection h with h
      injection h with h
      subst h
      simp only [List.getElem?_map] at hd
      obtain ⟨o, ho, hod⟩ := Option.map_eq_some_iff.1 hd
      have ho' : ops[j]? = some o := by simpa using ho
      unfold Region.wanted
      simp only [hg]
      have : yielded ops tmps j = match tmps[d]? with | some (.bool b) => some b | _ => none := by
        unfold yielded
        simp only [ho', Option.bind_some, hod]
        rfl
      rw [this]
      constructor
      · intro hh
        split at hh
        · rename_i b' hb'
          simp at hh
          subst hh
          exact hb'
        · simp at hh
      · intro hh
        have hh' : tmps[d]? = some (.bool b) := hh
        rw [hh']
        simp
    · cases h
theorem wanted_none {ops : Array Oper} {x : Oper} {tmps : Array Value} {ds : List (Option Nat)} (h : gdOf ds x.guard = some none) : Region.wanted x (yielded ops tmps) = true := by
  unfold gdOf at h
  split at h
  · rename_i hg; unfold Region.wanted; simp [hg]
  · split at h <;> simp at h

theorem RS.he (h : RS c st β F a w) {T : Nat → Prop} : ∀ t, T t → ∀ g x, lk st.env t = some (g, x) → TR β F w a.tmps t g x := fun t _ g x hx => h.rel.env t g x hx
theorem stepT_ok {rn : Option Nat} (htb : TbOk P tb) (horc : OrcOk P orc c.C) {m : Bool} {ops : Array Oper} {x : Oper} (h : RS c st β F a w) {K : Act → World → Prop} {Q : Exit → Act → World → Prop} {R : S → Prop}
    (hR : ∀ st' β' F' a' w', RS c st' β' F' a' w' → R st' → K a' w') (hs : (stepT O.real tb orc m (ops.toList.map (·.dst)) st x).sat R) :
    if Region.wanted x (yielded ops a.tmps) then x.wpIn (FrR rn) 0 P a w K Q else (∀ f, x.about P w a.eval = some f → (FrR rn).fn f) ∧ K (a.put x.dst undef) w := by
  have hnx : ∀ id, st.next ≤ id → id < st.next + 64 → ¬ id < st.next := fun id h1 _ => Nat.not_lt.2 h1
  unfold stepT at hs
  split at hs
  · rename_i hd hg
    rw [if_pos (wanted_none hg)]
    refine opT_okR htb horc h.rel (ch := []) (by simp) h.he (fun p _ hp => hp) hnx (fun E hs' hE hhs v' β' F' w' hp => ?_) (bind_sat hs)
    split at hE
    · rename_i h8
      exact hR _ _ _ _ _ (h.put (g := none) hhs hp (Nat.le_of_ble_eq_true h8) hd (by simp) rfl) hE
    · exact hE.elim
  · rename_i g hd hg
    split at hs
    · rename_i hk
      have hw : Holds a g := (known_ok (T := fun _ => True) h.he 12 g true (fun _ _ => trivial) (by unfold kn at hk; cases m <;> simp_all)).1 rfl
      rw [if_pos ((wanted_some hg).2 hw)]
      refine opT_okR htb horc h.rel (ch := []) (by simp) h.he (fun p _ hp => hp) hnx (fun E hs' hE hhs v' β' F' w' hp => ?_) (bind_sat hs)
      split at hE
      · rename_i h8
        exact hR _ _ _ _ _ (h.put (g := none) hhs hp (Nat.le_of_ble_eq_true h8) hd (by simp) rfl) hE
      · exact hE.elim
    · rename_i hk
      have hw : ¬ Holds a g := (known_ok (T := fun _ => True) h.he 12 g false (fun _ _ => trivial) (by unfold kn at hk; cases m <;> simp_all)).2 rfl
      split at hs
      · rename_i hgn
        rw [if_neg (fun hh => hw ((wanted_some hg).1 hh))]
        exact ⟨fun _ _ => trivial, hR _ _ _ _ _ (h.skipE hd hw hgn rfl) hs⟩
      · exact hs.elim
    ·
      split at hs
      · rename_i pc q E0 hgn hpc hlin
        obtain ⟨hsoft, hs⟩ := hs
        have hsoft : softOk st.heap E0 = true := hsoft
        by_cases hw : Holds a g
        · rw [if_pos ((wanted_some hg).2 hw)]
          have hgd : ∀ p, some g = some p → Holds a p := fun p hp => by injection hp with hp; subst hp; exact hw
          have hq := imp_ok hs.1 (pcs_ok (T := fun _ => True) h.he 12 _ pc (fun _ _ => trivial) hpc hgd)
          exact opT_okR htb horc h.rel (R := fun E => E = E0) (chain_ok (T := fun _ => True) h.he 12 _ (fun _ _ => trivial) hgd) h.he (fun p _ hp => hp) hnx (fun E hs' hE hhs v' β' F' w' hp => by
            subst hE
            exact hR _ _ _ _ _ (h.put (g := some g) hhs hp (by rw [(softOk_ok hsoft).2.1]; simp) hd hgd hgn) hs.2) (lin_sat hlin hq rfl)
        · rw [if_neg (fun hh => hw ((wanted_some hg).1 hh))]
          exact ⟨fun _ _ => trivial, hR _ _ _ _ _ (h.skipE hd hw hgn hsoft) hs.2⟩
      · exact hs.elim
  · exact hs.elim
theorem seqT_ok {rn : Option Nat} (htb : TbOk P tb) (horc : OrcOk P orc c.C) {m : Bool} {ops : Array Oper} {Q : Exit → Act → World → Prop} {R : S → Prop}
    (hR : ∀ st' β' F' a' w', RS c st' β' F' a' w' → R st' → Q .normal a' w') : ∀ {l : List Oper} {st : S} {β : Nat → Option Value} {F : Nat → Prop} {a : Act} {w : World}, RS c st β F a w →
    (seqT O.real tb orc m (ops.toList.map (·.dst)) l st).sat R → wpListIn (FrR rn) 0 P ops Q l a w
  | [], st, β, F, a, w, h, hs => hR _ _ _ _ _ h hs
  | x :: l, st, β, F, a, w, h, hs => by
    have hs' := bind_sat hs
    refine wpListIn_step fun K hK => ?_
    exact stepT_ok htb horc h (fun st' β' F' a' w' h' hr => hK _ _ (seqT_ok htb horc hR h' hr)) hs'
end
end Go.Qv
