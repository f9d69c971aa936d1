/- What live() answers, its loops over functions run round by round. No condition. -/
import Derived.Test.YtpbjikomdljphaaGreatQWfM
import Derived.Test.YtpbjikomdljphaaGreatQRlM
import Derived.Laws.Externs
import Derived.Laws.StandIn
import Derived.Test.YtpbjikomdljphaaGreatQPe
set_option linter.unusedVariables false
set_option linter.unusedSimpArgs false
set_option maxRecDepth 100000
namespace Go.Qv
open Go Go.RowKit Go.Proofs
instance (v : VT) : Decidable (tame v) := inferInstanceAs (Decidable (_ ≤ _))
instance (l : List VT) : Decidable (tames l) := inferInstanceAs (Decidable (_ ≤ _))
instance (v : VT) : Decidable (flat9 v) := inferInstanceAs (Decidable (_ ∧ _))
instance (l : List VT) : Decidable (cols l) := inferInstanceAs (Decidable (∀ x ∈ l, ∀ c ∈ x.l, flat9 c))
instance (v : VT) : Decidable (ok2 v) := inferInstanceAs (Decidable (_ ∧ _))
def itr : Itr where
  gf := 49
  dom v := ⟨tame v ∧ ok2 v ∧ rCount v ≤ 9223372036854775807, inferInstance⟩
  cnt v := (rCount v).toNat
  els := elsV
theorem itr_ok : ItrOk Tryz.prog itr := ⟨fun v k => rfl, fun t n s l h => each49 h.1 h.2.1 h.2.2⟩
/-! ### contracts that can be decided -/
def whenD {α : Type} (p : Prop) [Decidable p] (t : T α) : T α := .req ⟨p, inferInstance⟩ t
theorem Pure1.of {P : Program} {f : FuncId} {s s' : List AV → T AV} (h : Pure1 P f s) (hs : ∀ xs (Q : AV → Prop), (s' xs).sat Q → (s xs).sat Q) : Pure1 P f s' :=
  fun xs F w cs R ha h1 => h xs F w cs R ha (hs xs _ h1)
def cdClone := onV fun a => whenD (tame a) (.leaf (vcl a))
def cdOf := onVs fun l => whenD (tames l) (.leaf (vcl (ofV l)))
def cdAt := onVn fun a i => whenD (tame a) (whenD (ok2 a) (.leaf (.tup [vcl (atV a i), .int .i64 (atE a i)])))
def cdEach := onV fun a => whenD (tame a) (.leaf (.fn 49 [.rp [.int .i64 a.t, .sl (.i .i64 a.n), .sl (.s a.s), .sl (.v a.l)]]))
theorem cdEach_of : ∀ xs (Q : AV → Prop), (cdEach xs).sat Q → (sp29 xs).sat Q := fun xs Q h => by
  unfold cdEach onV at h; unfold sp29 onV
  split at h
  · split at h <;> exact h
  · exact h
theorem cdClone_of : ∀ xs (Q : AV → Prop), (cdClone xs).sat Q → ((onV fun a => when_ (tame a) (.leaf (vcl a))) xs).sat Q := fun xs Q h => by
  unfold cdClone onV at h; unfold onV
  split at h
  · split at h <;> exact h
  · exact h
theorem cdOf_of : ∀ xs (Q : AV → Prop), (cdOf xs).sat Q → ((onVs fun l => when_ (tames l) (.leaf (vcl (ofV l)))) xs).sat Q := fun xs Q h => by
  unfold cdOf onVs at h; unfold onVs
  split at h
  · split at h <;> exact h
  · exact h
theorem cdAt_of : ∀ xs (Q : AV → Prop), (cdAt xs).sat Q → ((onVn fun a i => when_ (tame a) (when_ (ok2 a) (.leaf (.tup [vcl (atV a i), .int .i64 (atE a i)])))) xs).sat Q := fun xs Q h => by
  unfold cdAt onVn at h; unfold onVn
  split at h
  · split at h <;> exact h
  · exact h
/-- The byte's place. -/
def cdIdx : List AV → T AV
  | [.str s, .int .u8 c] => .leaf (.int .i64 (firstIdx s c.toNat.toUInt8))
  | _ => .stuck "index"
theorem okIdx : Pure1 Tryz.prog 145 cdIdx := by
  intro xs F w cs R ha h
  unfold cdIdx at h
  split at h
  · rename_i s c
    obtain ⟨hF, hl, hv⟩ := ha
    have hcs : cs = #[.string s, .int .u8 c] := by
      apply Array.ext
      · simpa using hl
      · intro i h1 h2
        match i, h2 with
        | 0, _ =>
          have := hv 0 _ _ (Array.getElem?_eq_getElem h1) rfl
          generalize cs[0] = v at this
          cases this; rfl
        | 1, _ =>
          have := hv 1 _ _ (Array.getElem?_eq_getElem h1) rfl
          generalize cs[1] = v at this
          cases this; rfl
    subst hcs
    have hf : Tryz.prog.funcs[145]? = some Tryz.f145 := Tryz.func145
    have := run_callFunc_indexByte (P := Tryz.prog) (f := 145) hf (by rfl) (by rfl) (by rfl) (by rfl) #[.string s, .int .u8 c] w
    unfold Goes
    rw [this, run_indexByte_string]
    exact h _ F w ⟨.int _ _, fun _ h => h, hF, fun _ h => .inl h, fun _ _ => rfl, rfl, rfl, rfl, Nat.le_refl _⟩
  · exact h.elim
noncomputable def lvP : PS := PS.also 145 cdIdx <| PS.also 29 cdEach (PS.also 48 cdClone (PS.also 81 cdClone (PS.also 87 cdOf (PS.also 109 cdOf (PS.also 34 cdAt (PS.also 52 cdAt PS.none))))))
theorem lvP_ok : PureOk Tryz.prog lvP := PureOk.also okIdx <| PureOk.also (ok29.of cdEach_of) (PureOk.also (ok48.of cdClone_of) (PureOk.also (ok81.of cdClone_of) (PureOk.also (ok87.of cdOf_of) (PureOk.also (ok109.of cdOf_of) (PureOk.also (ok34.of cdAt_of) (PureOk.also (ok52.of cdAt_of) (PureOk.none _)))))))
def lvK : FuncId → Bool := fun f => Nat.beq f 145 || Nat.beq f 29 || Nat.beq f 48 || Nat.beq f 81 || Nat.beq f 87 || Nat.beq f 109 || Nat.beq f 34 || Nat.beq f 52
noncomputable def closedL : Orc := inlL itr O.real tb fns (pureOrc lvP) lvK shutM 3000 14
theorem closedL_ok : OrcOk Tryz.prog closedL (fun _ => True) := inlL_ok (fng := Tryz.f49) mixed tbOk fnsOk itr_ok (by kernel_rfl) (pureOrc_ok lvP_ok) 14
end Go.Qv
/- live() answers true. No condition. -/
set_option linter.unusedVariables false
set_option maxRecDepth 100000
namespace Go.Qv
open Go Go.RowKit Go.Proofs
theorem live7 : (closedL 7 0 [] []).okB (fun E => isT E && E.hw.isEmpty && E.frz.isEmpty && E.new.isEmpty) = true := by kernel_rfl
theorem okLive : Pure1 Tryz.prog 7 spLive := ok_live closedL_ok live7
end Go.Qv
