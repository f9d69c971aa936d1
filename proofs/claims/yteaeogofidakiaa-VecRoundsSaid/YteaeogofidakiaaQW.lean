/- Tables by number. -/
import Derived.Test.YteaeogofidakiaaQV
namespace Go.Qv
/-- A tree all of whose leaves are as asked, as far as can be decided. -/
def T.okB {α : Type} : T α → (α → Bool) → Bool
  | .leaf a, Q => Q a
  | .ite b t e, Q => (match b with | true => t.okB Q | false => e.okB Q)
  | .both _ t _ e, Q => t.okB Q && e.okB Q
  | .req p t, Q => (match p.d with | .isTrue _ => t.okB Q | .isFalse _ => false)
  | .stuck _, _ => false
theorem T.okB_sat {α : Type} {Q : α → Bool} {t : T α} (h : t.okB Q = true) : t.sat (fun a => Q a = true) := by
  induction t with
  | leaf a => exact h
  | ite b t e ih1 ih2 =>
    cases b with
    | true => exact ⟨fun _ => ih1 h, fun hb => (by cases hb)⟩
    | false => exact ⟨fun hb => (by cases hb), fun _ => ih2 h⟩
  | both p t q e ih1 ih2 =>
    simp only [T.okB, Bool.and_eq_true] at h
    exact ⟨fun _ => ih1 h.1, fun _ => ih2 h.2⟩
  | req p t ih =>
    obtain ⟨p, d⟩ := p
    cases d with
    | isTrue hp => exact ⟨hp, ih h⟩
    | isFalse hp => cases h
  | stuck _ => cases h
inductive BT (α : Type) where
  | nil
  | leaf (k : Nat) (v : α)
  | node (m : Nat) (l r : BT α)
def BT.get {α : Type} : BT α → Nat → Option α
  | .nil, _ => none
  | .leaf k v, t => match Nat.beq t k with | true => some v | false => none
  | .node m l r, t => match Nat.blt t m with | true => l.get t | false => r.get t
def BT.all {α : Type} (p : Nat → α → Bool) : BT α → Bool
  | .nil => true
  | .leaf k v => p k v
  | .node _ l r => l.all p && r.all p
def BT.AllP {α : Type} (p : Nat → α → Prop) : BT α → Prop
  | .nil => True
  | .leaf k v => p k v
  | .node _ l r => l.AllP p ∧ r.AllP p
theorem BT.get_all {α : Type} {p : Nat → α → Bool} {t : Nat} {v : α} : ∀ {b : BT α}, b.all p = true → b.get t = some v → p t v = true
  | .nil, _, h => by cases h
  | .leaf k u, ha, h => by
    simp only [BT.get] at h
    split at h
    · rename_i hk; injection h with h; subst h; rw [Nat.eq_of_beq_eq_true hk]; exact ha
    · cases h
  | .node m l r, ha, h => by
    simp only [BT.all, Bool.and_eq_true] at ha
    simp only [BT.get] at h
    split at h
    · exact BT.get_all ha.1 h
    · exact BT.get_all ha.2 h
theorem BT.get_allP {α : Type} {p : Nat → α → Prop} {t : Nat} {v : α} : ∀ {b : BT α}, b.AllP p → b.get t = some v → p t v
  | .nil, _, h => by cases h
  | .leaf k u, ha, h => by
    simp only [BT.get] at h
    split at h
    · rename_i hk; injection h with h; subst h; rw [Nat.eq_of_beq_eq_true hk]; exact ha
    · cases h
  | .node m l r, ha, h => by
    simp only [BT.get] at h
    split at h
    · exact BT.get_allP ha.1 h
    · exact BT.get_allP ha.2 h

/-! ### a call that runs to its end by reckoning -/
def noOrc : Orc := fun _ _ _ _ => .stuck "contract"
def noKnown : FuncId → Bool := fun _ => false
def shutM : FuncId → Bool := fun _ => true
def isT (E : Eff) : Bool := match E.v with | .bool b => b | _ => false
theorem noOrc_ok (P : Program) (C : World → Prop) : OrcOk P noOrc C := fun _ _ _ _ _ _ _ _ _ _ _ _ _ h => h.elim
theorem closed_call {P : Program} {tb : Tb} {fns : FuncId → Option Func} (hm : P.follows .mixedOrders = true) (htb : TbOk P tb) (hfn : FnsOk P fns) {sp : Orc} (hsp : OrcOk P sp (fun _ => True)) {kn : FuncId → Bool} {fuel n : Nat} {f : FuncId} {fn : Func} (hf : fns f = some fn) {F : Nat → Prop} {w : World} (hF : ∀ b, F b → b < w.heap.size)
    {cs : Array Value} {xs : List AV} (hl : cs.size = xs.length) (hv : ∀ (j : Nat) (v : Value) (x : AV), cs[j]? = some v → xs[j]? = some x → VR (fun _ => none) F w v x)
    {md : FuncId → Bool} (hk : (inl O.real tb fns sp kn md fuel n f 0 xs []).okB isT = true) : Calls P f cs w fun e w' => e = .returned (.bool true) ∧ Go.RowKit.Below w.heap.size w w' := by
  have hp : Pre [] 0 (fun _ => none) F w := ⟨fun _ _ _ => rfl, hF, by simp, by simp⟩
  have h := inl_ok hm htb hfn hsp (known := kn) (md := md) (fuel := fuel) n f 0 xs [] (fun _ => none) F w cs (fun v w' => v = .bool true ∧ Go.RowKit.Below w.heap.size w w') trivial hp hl hv
    (sat_mono (fun E hE v' β' F' w' p => by
      have hE : isT E = true := hE
      have hvr := p.vr
      refine ⟨?_, p.os, p.tape, p.output, p.size, fun k hk => p.frame k hk (fun q hq => ?_)⟩
      · unfold isT at hE
        split at hE
        · rename_i b hb
          rw [hb] at hvr
          subst hE
          cases hvr
          rfl
        · cases hE
      · obtain ⟨ob, ho⟩ := p.known q hq
        simp at ho) (T.okB_sat hk))
  obtain ⟨h1, h2, h3⟩ := hfn f fn hf
  obtain ⟨c, hc⟩ := Option.isSome_iff_exists.1 h3
  have hgo : (callFunc f cs).run P w = .ok (.enter f cs) w := by
    simp [callFunc, Sem.run_bind, h1, h2, hc]
  unfold Goes at h
  rw [hgo] at h
  exact h.mono fun e w'' ⟨v, hv, hk⟩ => by subst hv; exact ⟨by rw [hk.1], hk.2⟩
end Go.Qv
