/- Code: from the evaluator's tree to the program's code. -/
import Derived.Test.YtmeagbopnliddaaGreatQR
set_option linter.unusedVariables false
set_option linter.unusedSimpArgs false
namespace Go.Qv
open Go.RowKit

section
variable {P : Program} {tb : Tb} {orc : Orc} {c : Ctx}

theorem VR.world {β F w w' v x} (h : VR β F w v x) (hw : w'.heap = w.heap) : VR β F w' v x := h.mono (fun _ _ h => h) (fun _ h => h) (fun b _ => by rw [hw])
theorem OR.world {β F w w' id ob} (h : OR β F w id ob) (hw : w'.heap = w.heap) : OR β F w' id ob := h.mono (fun _ _ h => h) (fun _ h => h) (fun b _ => by rw [hw]) (fun _ b _ _ => by rw [hw])
theorem TR.world {β F w w' tmps t g x} (h : TR β F w tmps t g x) (hw : w'.heap = w.heap) : TR β F w' tmps t g x := by
  cases g with
  | none => obtain ⟨v, h1, h2⟩ := h; exact ⟨v, h1, h2.world hw⟩
  | some g => obtain ⟨d, b⟩ := g; exact ⟨fun hh => by obtain ⟨v, h1, h2⟩ := h.1 hh; exact ⟨v, h1, h2.world hw⟩, h.2⟩
theorem RS.drawn {st : S} {β F a w} (h : RS c st β F a w) : RS c st β F a { w with drawn := w.drawn + 1 } := by
  refine ⟨?_, h.nt, h.gds⟩
  have r := h.rel
  exact ⟨fun t g x hx => (r.env t g x hx).world rfl, fun id ob hob => (r.heap id ob hob).world rfl, r.own, r.sep, r.Flt, r.Fbnd, r.F0F, c.stable w _ r.cls (fun _ _ => rfl), r.dom, r.os, r.tape, r.output, r.size, r.frame, r.defers, r.Bext, r.Blow, r.n0δ⟩

/-- A loop whose round has come to its end. -/
def LoopGo (rn : Option Nat) (P : Program) (c : Code) (Q : Exit → Act → World → Prop) (a : Act) (w : World) : Prop :=
  ∀ (b : Frame) (k : List Item) (cs : List Frame), b.roundOf = rn → ∃ e a' w', Q e a' w' ∧ ArrivesIn (Machine.fenced P (FrR rn)) P (lone (b.atR a (.inLoop c :: k)) cs w) b k cs e a' w'
/-- Code that ends well, in a round or not. -/
abbrev wpR (rn : Option Nat) (P : Program) (c : Code) (Q : Exit → Act → World → Prop) (a : Act) (w : World) : Prop := c.wpIn (FrR rn) 0 P Q a w
theorem roomR {rn : Option Nat} (n : Nat) : (FrR rn).room n := fun _ h => by simp [FrR] at h
section
variable {rn : Option Nat}
theorem loopGo {P : Program} {c : Code} {Q : Exit → Act → World → Prop} {a : Act} {w : World} (h : wpR rn P c (Exit.then (LoopGo rn P c Q) Q) a w) :
    ∀ (b : Frame) (k : List Item) (cs : List Frame), b.roundOf = rn → ∃ e a' w', Q e a' w' ∧ ArrivesIn (Machine.fenced P (FrR rn)) P (lone (b.atR a (.code c :: .inLoop c :: k)) cs w) b k cs e a' w' := by
  intro b k cs hb
  obtain ⟨e, a₁, w₁, hq, harr⟩ := h b (.inLoop c :: k) cs hb trivial (roomR _)
  cases e with
  | normal =>
    obtain ⟨e₂, a₂, w₂, hq₂, harr₂⟩ := hq b k cs hb
    exact ⟨e₂, a₂, w₂, hq₂, .of_steps harr harr₂⟩
  | exit id => exact ⟨_, a₁, w₁, hq, .pass (x := .inLoop c) rfl (fun _ _ => .inl (by simp)) harr⟩
  | goto l => exact ⟨_, a₁, w₁, hq, .pass (x := .inLoop c) rfl (fun _ _ => .inl (by simp)) harr⟩
  | ret => exact ⟨_, a₁, w₁, hq, .pass (x := .inLoop c) rfl (fun _ _ => .inl (by simp)) harr⟩
  | panic ch => exact ⟨_, a₁, w₁, hq, .pass (x := .inLoop c) rfl (fun _ _ => .inl (by simp)) harr⟩
  | outgrown => exact ⟨_, a₁, w₁, hq, .pass (x := .inLoop c) rfl (fun _ _ => .inl (by simp)) harr⟩
theorem loopGo_of {P : Program} {c : Code} {Q : Exit → Act → World → Prop} {a : Act} {w : World} (h : wpR rn P c (Exit.then (LoopGo rn P c Q) Q) a w) : LoopGo rn P c Q a w :=
  fun b k cs hb => let ⟨e, a', w', q, r⟩ := loopGo h b k cs hb; ⟨e, a', w', q, .of_steps (.one (fencedR P _) stepR_inLoop) r⟩
theorem wp_loop_of {P : Program} {c : Code} {Q : Exit → Act → World → Prop} {a : Act} {w : World} (h : wpR rn P c (Exit.then (LoopGo rn P c Q) Q) a w) : wpR rn P (Code.loop c) Q a w :=
  fun b k cs hb _ _ => let ⟨e, a', w', q, r⟩ := loopGo h b k cs hb; ⟨e, a', w', q, .of_steps (.one (fencedR P _) stepR_loop) r⟩
end

/-- The code that is still to come, as what must hold where the code ahead of it leaves. -/
def PostI (rn : Option Nat) (P : Program) (H : Nat → Act → World → Prop) (Q : Exit → Act → World → Prop) : List It → Exit → Act → World → Prop
  | [] => Q
  | .code x :: r => Exit.then (fun a w => wpR rn P x (PostI rn P H Q r) a w) (PostI rn P H Q r)
  | .blk id :: r => Exit.inBlock id (PostI rn P H Q r)
  | .again n :: r => Exit.then (H n) (PostI rn P H Q r)
  | .rep b :: r => Exit.then (LoopGo rn P b (PostI rn P H Q r)) (PostI rn P H Q r)
variable {rn : Option Nat} {H : Nat → Act → World → Prop} {Q : Exit → Act → World → Prop}
theorem unwind_ok {id : Nat} {a : Act} {w : World} : ∀ {l r : List It}, unwind id l = some r → PostI rn P H Q r .normal a w → PostI rn P H Q l (.exit id) a w
  | [], r, h, _ => by simp [unwind] at h
  | .code x :: l, r, h, hp => by
    unfold unwind at h
    exact unwind_ok (l := l) h hp
  | .again n :: l, r, h, hp => by
    unfold unwind at h
    exact unwind_ok (l := l) h hp
  | .rep b :: l, r, h, hp => by
    unfold unwind at h
    exact unwind_ok (l := l) h hp
  | .blk i :: l, r, h, hp => by
    unfold unwind at h
    unfold PostI Exit.inBlock
    simp only
    split at h
    · rename_i he
      have := Nat.eq_of_beq_eq_true he
      subst this
      injection h with h
      subst h
      rw [if_pos rfl]
      exact hp
    · rename_i he
      rw [if_neg (fun e => by subst e; simp [Nat.beq_refl] at he)]
      exact unwind_ok (l := l) h hp
theorem unwind_no {id : Nat} {a : Act} {w : World} : ∀ {l : List It}, unwind id l = none → Q (.exit id) a w → PostI rn P H Q l (.exit id) a w
  | [], _, h => h
  | .code x :: l, hu, h => by unfold unwind at hu; exact unwind_no (l := l) hu h
  | .again n :: l, hu, h => by unfold unwind at hu; exact unwind_no (l := l) hu h
  | .rep b :: l, hu, h => by unfold unwind at hu; exact unwind_no (l := l) hu h
  | .blk i :: l, hu, h => by
    unfold unwind at hu
    split at hu
    · cases hu
    · rename_i he
      unfold PostI Exit.inBlock
      simp only
      rw [if_neg (fun e => by subst e; simp [Nat.beq_refl] at he)]
      exact unwind_no (l := l) hu h
theorem unwind_ret {a : Act} {w : World} : ∀ {l : List It}, Q .ret a w → PostI rn P H Q l .ret a w
  | [], h => h
  | .code x :: l, h => unwind_ret (l := l) h
  | .again n :: l, h => unwind_ret (l := l) h
  | .rep b :: l, h => unwind_ret (l := l) h
  | .blk i :: l, h => unwind_ret (l := l) h

/-- In whatever act and world the state lies, the code that is still to come ends well. -/
def AW (rn : Option Nat) (P : Program) (H : Nat → Act → World → Prop) (Q : Exit → Act → World → Prop) (c : Ctx) (l : List It) (st : S) : Prop :=
  ∀ β F a w, RS c st β F a w → PostI rn P H Q l .normal a w
def Leaf (rn : Option Nat) (P : Program) (H : Nat → Act → World → Prop) (Q : Exit → Act → World → Prop) (c : Ctx) : Stop → Prop
  | .done st => ∀ β F a w, RS c st β F a w → Q .normal a w
  | .ret st => ∀ β F a w, RS c st β F a w → Q .ret a w
  | .exit id st => ∀ β F a w, RS c st β F a w → Q (.exit id) a w
  | .again n st => ∀ β F a w, RS c st β F a w → H n a w
  | .loop b r st => AW rn P H Q c (.code (.loop b) :: r) st
  | .rfunc f ps asg b r st => AW rn P H Q c (.code (.rangeFunc f ps asg b) :: r) st
  | .more l st => AW rn P H Q c l st

theorem gts_mem : ∀ {env : Env} {t : Nat} {g : Nat × Bool} {x : AV}, (t, some g, x) ∈ env → t ∈ gts env
  | [], _, _, _, h => by simp at h
  | (d, g', y) :: l, t, g, x, h => by
    unfold gts
    rcases List.mem_cons.1 h with h | h
    · injection h with h1 h
      injection h with h2 h3
      subst h1
      subst h2
      exact List.mem_cons_self
    · have := gts_mem h
      split
      · exact List.mem_cons_of_mem _ this
      · exact this
theorem lk_clr {z : List Nat} : ∀ {env : Env} {t : Nat} {g : Gd} {x : AV}, (∀ t g x, (t, some g, x) ∈ env → t ∈ z) → lk (env.filter (fun p => !isGd p.2.1 && !mem p.1 z)) t = some (g, x) → g = none ∧ lk env t = some (g, x)
  | [], t, g, x, _, h => by simp [lk] at h
  | (d, g', y) :: l, t, g, x, hz, h => by
    have hz' : ∀ t g x, (t, some g, x) ∈ l → t ∈ z := fun t g x hm => hz t g x (List.mem_cons_of_mem _ hm)
    by_cases hk : (!isGd g' && !mem d z) = true
    · rw [List.filter_cons_of_pos (by simpa using hk)] at h
      rw [lk_cons] at h ⊢
      split at h
      · rename_i e
        injection h with h
        injection h with h1 h2
        subst h1
        subst h2
        simp only [Bool.and_eq_true, Bool.not_eq_true'] at hk
        refine ⟨?_, by rw [if_pos e]⟩
        cases g' with
        | none => rfl
        | some g => simp [isGd] at hk
      · rename_i e
        rw [if_neg e]
        exact lk_clr hz' h
    · rw [List.filter_cons_of_neg (by simpa using hk)] at h
      obtain ⟨h1, h2⟩ := lk_clr hz' h
      refine ⟨h1, ?_⟩
      rw [lk_cons]
      split
      · rename_i e
        subst e
        exfalso
        have ht : t ∈ z := by
          cases hm : mem t z with
          | true => exact mem_true.1 hm
          | false =>
            cases g' with
            | none => simp [isGd, hm] at hk
            | some g' => exact hz t g' y List.mem_cons_self
        -- an entry of a name that is struck is struck
        have : ∀ {l : Env}, lk (l.filter (fun p => !isGd p.2.1 && !mem p.1 z)) t = none := by
          intro l
          induction l with
          | nil => rfl
          | cons p l ih =>
            obtain ⟨d, g', y⟩ := p
            by_cases hk : (!isGd g' && !mem d z) = true
            · rw [List.filter_cons_of_pos (by simpa using hk), lk_cons, if_neg (fun e => by
                subst e
                rw [mem_true.2 ht] at hk
                simp at hk)]
              exact ih
            · rw [List.filter_cons_of_neg (by simpa using hk)]
              exact ih
        rw [this] at h
        cases h
      · exact h2
theorem RS.clr {st : S} {β F a w} (h : RS c st β F a w) : RS c (Qv.clr st) β F a w := by
  unfold Qv.clr
  split
  · exact h
  · have hz : ∀ t g x, (t, some g, x) ∈ st.env → t ∈ gts st.env := fun t g x hm => gts_mem hm
    have r := h.rel
    refine ⟨⟨fun t g x hx => r.env t g x (lk_clr hz hx).2, r.heap, r.own, r.sep, r.Flt, r.Fbnd, r.F0F, r.cls, r.dom, r.os, r.tape, r.output, r.size, r.frame, r.defers, r.Bext, r.Blow, r.n0δ⟩, h.nt, fun t g x hx => ?_⟩
    have := (lk_clr hz hx).1
    cases this

theorem run_ok (hm : P.follows .mixedOrders = true) (htb : TbOk P tb) (horc : OrcOk P orc c.C) {m : Bool} {bk : List Nat} : ∀ (f : Nat) (l : List It) (st : S), (run O.real tb orc m bk f l st).sat (Leaf rn P H Q c) → AW rn P H Q c l st
  | 0, _, _, h => h.elim
  | f + 1, [], st, h => fun β F a w hs => h β F a w hs
  | f + 1, .again n :: r, st, h => fun β F a w hs => h β F a w hs
  | f + 1, .rep b :: r, st, h => fun β F a w hs => loopGo_of (run_ok hm htb horc f (.code b :: .rep b :: r) st h β F a w hs)
  | f + 1, .blk id :: r, st, h => fun β F a w hs => run_ok hm htb horc f r st h β F a w hs
  | f + 1, .code x :: r, st, h => by
    intro β F a w hs
    show wpR rn P x (PostI rn P H Q r) a w
    unfold run at h
    split at h
    · exact wpIn_skip (run_ok hm htb horc f r st h β F a w hs)
    · split at h
      · exact h β F a w hs
      · exact drawT_ok hm htb horc hs.drawn (fun st' β' F' a' w' h' hr => run_ok hm htb horc f r _ hr β' F' a' w' h'.clr) (bind_sat h)
      · exact wpIn_region_list (seqT_ok htb horc (fun st' β' F' a' w' h' hr => run_ok hm htb horc f r _ hr β' F' a' w' h'.clr) hs (bind_sat h))
    · rename_i y z
      exact wpIn_seq (run_ok hm htb horc f (.code y :: .code z :: r) st h β F a w hs)
    · rename_i cc y z
      split at h
      · rename_i b hv
        have hcv := (val_ok (hs.he (T := fun _ => True)) (ch := []) (by simp) (fun _ _ => trivial) hv).bool_inv
        cases m with
        | false =>
          refine wpIn_cond_split hcv (fun hb => ?_) (fun hb => ?_)
          · exact run_ok hm htb horc f (.code y :: r) st (h.1 hb) β F a w hs
          · exact run_ok hm htb horc f (.code z :: r) st (h.2 hb) β F a w hs
        | true =>
          refine wpIn_cond_split hcv (fun hb => ?_) (fun hb => ?_)
          · subst hb; exact run_ok hm htb horc f (.code y :: r) st h β F a w hs
          · subst hb; exact run_ok hm htb horc f (.code z :: r) st h β F a w hs
      · exact h.elim
    · rename_i id y
      exact wpIn_block (run_ok hm htb horc f (.code y :: .blk id :: r) st h β F a w hs)
    · rename_i y
      cases m with
      | false => exact h β F a w hs
      | true => exact wp_loop_of (run_ok hm htb horc f (.code y :: .rep y :: r) st h β F a w hs)
    · exact h β F a w hs
    · split at h
      · rename_i r' hu
        exact wpIn_exit (unwind_ok hu (run_ok hm htb horc f r' st h β F a w hs))
      · rename_i hu
        exact wpIn_exit (unwind_no hu (h β F a w hs))
    · exact wpIn_ret (unwind_ret (h β F a w hs))
    · exact h.elim
end
end Go.Qv
