/- Trees: what can be decided is decided by reckoning, the rest is left to be shown. Walks in pieces. -/
import Derived.Test.YteaeogofidakiaaQY
set_option linter.unusedVariables false
set_option linter.unusedSimpArgs false
namespace Go.Qv
open Go.RowKit

/-- How a tree is gone through: n nodes that are decided, then one that is left to be shown. -/
inductive G where
  | E
  | D (n : Nat) (k : G)
  | S (a : G)
  | B (a b : G)
def T.adv {α : Type} : Nat → T α → T α
  | 0, t => t
  | n + 1, .ite b t e => match b with | true => T.adv n t | false => T.adv n e
  | n + 1, .req p t => match p.d with | .isTrue _ => T.adv n t | .isFalse _ => .stuck "adv"
  | _ + 1, .leaf a => .leaf a
  | _ + 1, .both p t q e => .both p t q e
  | _ + 1, .stuck y => .stuck y
def T.ob {α : Type} (B : α → Bool) (Q : α → Prop) : G → T α → Prop
  | .E, t => t.okB B = true
  | .D n k, t => T.ob B Q k (t.adv n)
  | .S k, t => match t with
    | .leaf a => Q a
    | .req p t => p.p ∧ T.ob B Q k t
    | .ite b t e => False
    | .both _ _ _ _ => False
    | .stuck _ => False
  | .B a b, t => match t with
    | .ite x t e => (x = true → T.ob B Q a t) ∧ (x = false → T.ob B Q b e)
    | .both p t q e => (p → T.ob B Q a t) ∧ (q → T.ob B Q b e)
    | .leaf _ => False
    | .req _ _ => False
    | .stuck _ => False
theorem adv_sat {α : Type} {Q : α → Prop} : ∀ {n : Nat} {t : T α}, (t.adv n).sat Q → t.sat Q
  | 0, t, h => h
  | n + 1, .leaf a, h => h
  | n + 1, .both p t q e, h => h
  | n + 1, .stuck y, h => h
  | n + 1, .ite b t e, h => by
    cases b with
    | true => exact ⟨fun _ => adv_sat h, fun h' => (by cases h')⟩
    | false => exact ⟨fun h' => (by cases h'), fun _ => adv_sat h⟩
  | n + 1, .req p t, h => by
    obtain ⟨p, d⟩ := p
    cases d with
    | isTrue hp => exact ⟨hp, adv_sat h⟩
    | isFalse hp => exact h.elim
theorem ob_sat {α : Type} {B : α → Bool} {Q : α → Prop} (hBQ : ∀ a, B a = true → Q a) : ∀ {g : G} {t : T α}, T.ob B Q g t → t.sat Q
  | .E, t, h => sat_mono hBQ (T.okB_sat h)
  | .D n k, t, h => adv_sat (ob_sat hBQ (g := k) h)
  | .S k, t, h => by
    cases t with
    | leaf a => exact h
    | req p t => exact ⟨h.1, ob_sat hBQ (g := k) h.2⟩
    | ite b t e => exact h.elim
    | both p t q e => exact h.elim
    | stuck y => exact h.elim
  | .B a b, t, h => by
    cases t with
    | leaf a => exact h.elim
    | req p t => exact h.elim
    | ite x t e => exact ⟨fun hx => ob_sat hBQ (g := a) (h.1 hx), fun hx => ob_sat hBQ (g := b) (h.2 hx)⟩
    | both p t q e => exact ⟨fun hx => ob_sat hBQ (g := a) (h.1 hx), fun hx => ob_sat hBQ (g := b) (h.2 hx)⟩
    | stuck y => exact h.elim
/-- What is left to be shown is this. -/
theorem ob_of {α : Type} {B : α → Bool} {Q : α → Prop} (hBQ : ∀ a, B a = true → Q a) (g : G) {t : T α} (p : Prop) (he : T.ob B Q g t = p) (hp : p) : t.sat Q := ob_sat hBQ (g := g) (he ▸ hp)
def noB {α : Type} : α → Bool := fun _ => false
theorem noB_ok {α : Type} {Q : α → Prop} : ∀ a, noB a = true → Q a := fun _ h => by cases h

/-! ### walks in pieces -/
/-- Where a piece ends: a pause or a loop (the state an instance of J, the code that is to come), a round's end (likewise), the call's end. -/
noncomputable def endT (tb : Tb) (nx : Nat) (rs : Array ResultVar) (hs : List (Nat × HObj)) (J : S) (l0 : List It) : Stop → T (Option Eff)
  | .more l st => .req ⟨l = l0, Classical.propDecidable _⟩ ((subN nx J st).bind fun _ => .leaf none)
  | .loop b r st => .req ⟨.code (.loop b) :: r = l0, Classical.propDecidable _⟩ ((subN nx J st).bind fun _ => .leaf none)
  | .ret st => (fin tb nx rs hs st).bind fun E => .leaf (some E)
  | .done st => (fin tb nx rs hs st).bind fun E => .leaf (some E)
  | _ => .stuck "end"
noncomputable def endA (tb : Tb) (nx : Nat) (rs : Array ResultVar) (hs : List (Nat × HObj)) (J : S) (k : Nat) : Stop → T (Option Eff)
  | .again n st => (match Nat.beq n k with | true => (subN nx J st).bind fun _ => .leaf none | false => .stuck "endA: which")
  | .ret st => (fin tb nx rs hs st).bind fun E => .leaf (some E)
  | .done st => (fin tb nx rs hs st).bind fun E => .leaf (some E)
  | _ => .stuck "endA"
def itsOf : T Stop → List It
  | .leaf (.more l _) => l
  | .leaf (.loop b r _) => .code (.loop b) :: r
  | .req p t => itsOf t
  | .ite b t e => match b with | true => itsOf t | false => itsOf e
  | _ => []
section
variable {P : Program} {tb : Tb} {orc : Orc} {hs : List (Nat × HObj)} {nx : Nat} {β : Nat → Option Value} {F : Nat → Prop} {w : World} {fn : Func} {R : Value → World → Prop} {H : Nat → Act → World → Prop}
theorem callCtx_B0 (id : Nat) (h : (callCtx hs nx β F w).n0 ≤ id) : (callCtx hs nx β F w).B0 id = none := by
  have h : nx ≤ id := h
  show (if _ then _ else _) = _
  rw [if_neg (by omega)]
abbrev Qx (P : Program) (fn : Func) (R : Value → World → Prop) := bodyPost P fn fun e w'' => ∃ v, e = .returned v ∧ R v w''
/-- What a piece's end must give: the call's end, or that what follows may be gone on with. -/
def PieceQ (hs : List (Nat × HObj)) (nx : Nat) (β : Nat → Option Value) (F : Nat → Prop) (w : World) (R : Value → World → Prop) (nxt : Prop) : Option Eff → Prop
  | some E => ∀ v' β' F' w', Post hs nx E β F w v' β' F' w' → R v' w'
  | none => nxt
theorem sub_none {J st : S} {Qp : Option Eff → Prop} (h : ((subN nx J st).bind fun _ => (.leaf none : T (Option Eff))).sat Qp) : (subN nx J st).sat fun _ => Qp none := sat_mono (fun _ h => h) (bind_sat h)
theorem fin_some {st : S} {Qp : Option Eff → Prop} (h : ((fin tb nx fn.results hs st).bind fun E => (.leaf (some E) : T (Option Eff))).sat Qp) : (fin tb nx fn.results hs st).sat fun E => Qp (some E) := sat_mono (fun _ h => h) (bind_sat h)
theorem piece (hm : P.follows .mixedOrders = true) (htb : TbOk P tb) (horc : OrcOk P orc (fun _ => True)) (hp : Pre hs nx β F w) (hlt : ∀ p ∈ hs, p.1 < nx) (m : Bool) (bk : List Nat) (fuel : Nat) {l : List It} {st : S} (J : S) (l0 : List It)
    (h : ((run O.real tb orc m bk fuel l st).bind (endT tb nx fn.results hs J l0)).sat (PieceQ hs nx β F w R (AW P H (Qx P fn R) (callCtx hs nx β F w) l0 J))) : AW P H (Qx P fn R) (callCtx hs nx β F w) l st := by
  refine run_ok hm htb horc fuel l st (sat_mono (fun s hst => ?_) (bind_sat h))
  cases s with
  | done st => exact (fin_leaf htb hp hlt (fin_some hst)).2
  | ret st => exact (fin_leaf htb hp hlt (fin_some hst)).1
  | exit id st => exact hst.elim
  | again n st => exact hst.elim
  | loop b r st =>
    obtain ⟨he, hst⟩ := hst
    have he : .code (.loop b) :: r = l0 := he
    subst he
    exact AW_sub callCtx_B0 (sub_none hst)
  | rfunc f ps asg b r st => exact hst.elim
  | more l st =>
    obtain ⟨he, hst⟩ := hst
    have he : l = l0 := he
    subst he
    exact AW_sub callCtx_B0 (sub_none hst)
/-- A round's last piece. -/
theorem pieceA (hm : P.follows .mixedOrders = true) (htb : TbOk P tb) (horc : OrcOk P orc (fun _ => True)) (hp : Pre hs nx β F w) (hlt : ∀ p ∈ hs, p.1 < nx) (m : Bool) (bk : List Nat) (fuel : Nat) {l : List It} {st : S} (J : S) (k : Nat)
    (h : ((run O.real tb orc m bk fuel l st).bind (endA tb nx fn.results hs J k)).sat (PieceQ hs nx β F w R (∀ β' F' a' w', RS (callCtx hs nx β F w) J β' F' a' w' → H k a' w'))) : AW P H (Qx P fn R) (callCtx hs nx β F w) l st := by
  refine run_ok hm htb horc fuel l st (sat_mono (fun s hst => ?_) (bind_sat h))
  cases s with
  | done st => exact (fin_leaf htb hp hlt (fin_some hst)).2
  | ret st => exact (fin_leaf htb hp hlt (fin_some hst)).1
  | exit id st => exact hst.elim
  | again n st =>
    simp only [endA] at hst
    split at hst
    · rename_i hb
      have := Nat.eq_of_beq_eq_true hb
      subst this
      intro β' F' a' w' hs'
      obtain ⟨h1, β2, h2⟩ := subN_ok callCtx_B0 hs' (sub_none hst)
      exact h1 β2 F' a' w' h2
    · exact hst.elim
  | loop b r st => exact hst.elim
  | rfunc f ps asg b r st => exact hst.elim
  | more l st => exact hst.elim
end
end Go.Qv
