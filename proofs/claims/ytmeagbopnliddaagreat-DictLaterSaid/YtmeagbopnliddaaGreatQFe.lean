/- Calls that change what they are lent: a function's walk in pieces as its contract. No condition. -/
import Derived.Test.YtmeagbopnliddaaGreatQTmM
set_option linter.unusedVariables false
set_option linter.unusedSimpArgs false
namespace Go.Qv
open Go.RowKit

/-- One function's contract, in one set of names: what it is lent has the names 0 .., what it makes has the names 64 .. . -/
def Eff1 (P : Program) (f : FuncId) (s : List AV → List (Nat × HObj) → T Eff) : Prop :=
  ∀ (xs : List AV) (hs : List (Nat × HObj)) (β : Nat → Option Value) (F : Nat → Prop) (w : World) (cs : Array Value) (R : Value → World → Prop),
    Pre hs 64 β F w → cs.size = xs.length → (∀ (j : Nat) (v : Value) (x : AV), cs[j]? = some v → xs[j]? = some x → VR β F w v x) →
    (s xs hs).sat (fun E => ∀ v' β' F' w', Post hs 64 E β F w v' β' F' w' → R v' w') → Goes P f cs w R
abbrev ES := FuncId → List AV → List (Nat × HObj) → T Eff
def EffOk (P : Program) (se : ES) : Prop := ∀ f, Eff1 P f (se f)
def ES.none : ES := fun _ _ _ => .stuck "contract"
def ES.also (f0 : FuncId) (s : List AV → List (Nat × HObj) → T Eff) (r : ES) : ES := fun f xs hs => match Nat.beq f f0 with | true => s xs hs | false => r f xs hs
theorem EffOk.none (P : Program) : EffOk P ES.none := fun _ _ _ _ _ _ _ _ _ _ _ h => h.elim
theorem EffOk.also {P : Program} {f0 : FuncId} {s : List AV → List (Nat × HObj) → T Eff} {r : ES} (h : Eff1 P f0 s) (hr : EffOk P r) : EffOk P (ES.also f0 s r) := by
  intro f xs hs β F w cs R hp hl hv h1
  unfold ES.also at h1
  split at h1
  · rename_i hb; have := Nat.eq_of_beq_eq_true hb; subst this; exact h xs hs β F w cs R hp hl hv h1
  · exact hr f xs hs β F w cs R hp hl hv h1
/-- Some functions by contracts that change, the others by those that do not. -/
def effOrc (k : FuncId → Bool) (se : ES) (sp : PS) : Orc := fun f nx xs hs => match k f with | true => canon se f nx xs hs | false => pureOrc sp f nx xs hs
theorem effOrc_ok {P : Program} {k : FuncId → Bool} {se : ES} {sp : PS} (h1 : EffOk P se) (h2 : PureOk P sp) : OrcOk P (effOrc k se sp) (fun _ => True) := by
  intro f nx xs hs β F w cs R hi hp hl hv h
  unfold effOrc at h
  split at h
  · exact canon_ok (sp0 := se) (fun f xs hs β F w cs R => h1 f xs hs β F w cs R) f nx xs hs β F w cs R hi hp hl hv h
  · exact pureOrc_ok h2 f nx xs hs β F w cs R hi hp hl hv h
theorem FS.imp' {step : Nat × List Lf → T Gt} {Q Q' : Eff → Prop} (hq : ∀ E, Q E → Q' E) : ∀ {n g}, FS step Q n g → FS step Q' n g := fun h => flow_pure.FS.imp hq h
section
variable {P : Program} {hs : List (Nat × HObj)} {β : Nat → Option Value} {F : Nat → Prop} {w : World}
theorem flow_eff {tb : Tb} {orc : Orc} {fns : FuncId → Option Func} (hm : P.follows .mixedOrders = true) (htb : TbOk P tb) (horc : OrcOk P orc (fun _ => True)) (hfn : FnsOk P fns) {f : FuncId} {fn : Func} (hf : fns f = some fn)
    {cuts : List Cut} (hok : cutsOk cuts = true) {e0 : Nat} {c0 : Cut} (hc0 : findCut e0 cuts = some c0) (hpre : c0.pre = [.code (bodyOf fn)]) {xs ys : List AV} {hs' : List (Nat × HObj)} {ρ : List Lf}
    (hys : renL (renF (sig0 64) 5) xs = some ys) (hhs : renHs (sig0 64) hs = some hs')
    (hin : c0.tm.inst ρ = ⟨zipArgs 0 ys, [], hs', 64, fn.ntmps⟩) (hnt : Nat.ble xs.length fn.ntmps = true)
    {cs : Array Value} {R : Value → World → Prop} (hp : Pre hs 64 β F w) (hlen : cs.size = xs.length) (hvr : ∀ (j : Nat) (v : Value) (x : AV), cs[j]? = some v → xs[j]? = some x → VR β F w v x)
    {K : Eff → Prop} (hr : Rh (stepX O.real tb orc fn.results hs 64 cuts) K (e0, ρ)) (hK : ∀ E, K E → ∀ v' β' F' w', Post hs 64 E β F w v' β' F' w' → R v' w') : Goes P f cs w R := by
  obtain ⟨n, hfs⟩ := hr
  have hlt : ∀ p ∈ hs, p.1 < 64 := fun p hp' => by
    obtain ⟨q1, q2⟩ := renHs_ok hhs
    obtain ⟨j, hj⟩ := q2 p hp'
    exact (sig0_ok hj).1
  refine walk_goes (md := true) hfn hf hp hlen hvr hys hhs hnt ?_
  obtain ⟨c, h1, h2⟩ := flow_cut (fn := fn) (R := R) hm htb horc hp hlt hok n _ (FS.imp' (fun E h => hK E h) hfs)
  rw [hc0] at h1
  injection h1 with h1
  subst h1
  intro β2 F2 a2 w2 h3
  rw [← hin] at h3
  have h4 := (h2 β2 F2 a2 w2 h3).post
  rw [hpre] at h4
  have e : PostI none P (HofC none P (Qx P fn R) cuts) (Qx P fn R) [.code (bodyOf fn)] = PostI none P (fun _ _ _ => False) (Qx P fn R) [.code (bodyOf fn)] := PostI_marks (by simp [marksOf])
  rw [e] at h4
  exact h4
end
end Go.Qv
