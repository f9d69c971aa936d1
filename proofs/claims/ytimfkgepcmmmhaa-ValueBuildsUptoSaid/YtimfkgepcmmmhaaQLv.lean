/- strings.IndexByte's stand-in; the live value. No condition. -/
import Derived.Test.YtimfkgepcmmmhaaQWfM
import Derived.Laws.Externs
import Derived.Laws.StandIn
set_option linter.unusedVariables false
set_option linter.unusedSimpArgs false
set_option maxRecDepth 100000
namespace Go.Qv
open Go Go.RowKit Go.Proofs

def sp188 : List AV → T AV
  | [.str s, .int .u8 c] => .leaf (.int .i64 (firstIdx s c.toNat.toUInt8))
  | _ => .stuck "188"
theorem ok188 : Pure1 Try.prog 188 sp188 := by
  intro xs F w cs R ha h
  unfold sp188 at h
  split at h
  · rename_i s c
    obtain ⟨hF, hl, hv⟩ := ha
    have hcs : cs = #[.string s, .int .u8 c] := by
      apply Array.ext
      · simpa using hl
      · intro i h1 h2
        match i, h2 with
        | 0, _ =>
          have := hv 0 _ _ (Array.getElem?_eq_getElem h1) rfl
          generalize cs[0] = v at this
          cases this; rfl
        | 1, _ =>
          have := hv 1 _ _ (Array.getElem?_eq_getElem h1) rfl
          generalize cs[1] = v at this
          cases this; rfl
    subst hcs
    have hf : Try.prog.funcs[188]? = some Try.f188 := Try.func188
    have := run_callFunc_indexByte (P := Try.prog) (f := 188) hf (by rfl) (by rfl) (by rfl) (by rfl) #[.string s, .int .u8 c] w
    unfold Goes
    rw [this, run_indexByte_string]
    exact h _ F w ⟨.int _ _, fun _ h => h, hF, fun _ h => .inl h, fun _ _ => rfl, rfl, rfl, rfl, Nat.le_refl _⟩
  · exact h.elim
noncomputable def closedF : Orc := inl O.real tbF fns (pureOrc (PS.also 188 sp188 PS.none)) (fun f => Nat.beq f 188) shutM 300 14
theorem closedF_ok : OrcOk Try.prog closedF (fun _ => True) := inl_ok mixed tbF_ok fnsOk (pureOrc_ok (PureOk.also ok188 (PureOk.none _))) 14
noncomputable def lvP : PS := PS.also 188 sp188 (PS.also 54 (runP closedF 54) (PS.also 107 (runP closedF 107) PS.none))
theorem lvP_ok : PureOk Try.prog lvP := PureOk.also ok188 (PureOk.also (runP_ok closedF_ok 54) (PureOk.also (runP_ok closedF_ok 107) (PureOk.none _)))
def lvK : FuncId → Bool := fun f => Nat.beq f 188 || Nat.beq f 54 || Nat.beq f 107
noncomputable def closedL : Orc := inl O.real tbF fns (pureOrc lvP) lvK shutM 300 14
theorem closedL_ok : OrcOk Try.prog closedL (fun _ => True) := inl_ok mixed tbF_ok fnsOk (pureOrc_ok lvP_ok) 14
theorem live47 : (closedL 47 0 [] []).okB (fun E => isT E && E.hw.isEmpty && E.frz.isEmpty && E.new.isEmpty) = true := by kernel_rfl
theorem ok47 : Pure1 Try.prog 47 spLive := ok_live closedL_ok live47
end Go.Qv
