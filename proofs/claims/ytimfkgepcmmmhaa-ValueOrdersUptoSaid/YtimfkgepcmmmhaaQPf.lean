/- strings.IndexByte's stand-in; the live value. No condition. -/
import Derived.Test.YtimfkgepcmmmhaaQPe
import Derived.Laws.Externs
import Derived.Laws.StandIn
set_option linter.unusedVariables false
set_option linter.unusedSimpArgs false
set_option maxRecDepth 100000
namespace Go.Qv
open Go Go.RowKit Go.Proofs

def sp188 : List AV → T AV
  | [.str s, .int .u8 c] => .leaf (.int .i64 (firstIdx s c.toNat.toUInt8))
  | _ => .stuck "188"
theorem ok188 : Pure1 Try.prog 188 sp188 := by
  intro xs F w cs R ha h
  unfold sp188 at h
  split at h
  · rename_i s c
    obtain ⟨hF, hl, hv⟩ := ha
    have hcs : cs = #[.string s, .int .u8 c] := by
      apply Array.ext
      · simpa using hl
      · intro i h1 h2
        match i, h2 with
        | 0, _ =>
          have := hv 0 _ _ (Array.getElem?_eq_getElem h1) rfl
          generalize cs[0] = v at this
          cases this; rfl
        | 1, _ =>
          have := hv 1 _ _ (Array.getElem?_eq_getElem h1) rfl
          generalize cs[1] = v at this
          cases this; rfl
    subst hcs
    have hf : Try.prog.funcs[188]? = some Try.f188 := Try.func188
    have := run_callFunc_indexByte (P := Try.prog) (f := 188) hf (by rfl) (by rfl) (by rfl) (by rfl) #[.string s, .int .u8 c] w
    unfold Goes
    rw [this, run_indexByte_string]
    exact h _ F w ⟨.int _ _, fun _ h => h, hF, fun _ h => .inl h, fun _ _ => rfl, rfl, rfl, rfl, Nat.le_refl _⟩
  · exact h.elim
/-- A function that is walked at the call, its answer frozen. -/
def runP (orc : Orc) (f : FuncId) : List AV → T AV := fun xs => (orc f 0 xs []).bind fun E => match resE E with | some y => .leaf y | none => .stuck "answer"
theorem runP_ok {orc : Orc} (h : OrcOk Try.prog orc (fun _ => True)) (f : FuncId) : Pure1 Try.prog f (runP orc f) := by
  intro xs F w cs R ha h1
  obtain ⟨hF, hl, hv⟩ := ha
  refine h f 0 xs [] noβ F w cs R trivial (pre0 hF) hl hv (sat_mono (fun E hE v' β' F' w' p => ?_) (bind_sat h1))
  split at hE
  · rename_i y hy
    obtain ⟨F'', q⟩ := resE_ok hy p
    exact hE v' F'' w' q
  · exact hE.elim
/-- The tables, slices of a literal let go at once. -/
def tbF : Tb := fun t => match tb t with | some d => some { d with fz := true } | none => none
theorem tbF_some {t : TypeId} {d : TyD} (h : tbF t = some d) : ∃ d0, tb t = some d0 ∧ d = { d0 with fz := true } := by
  unfold tbF at h
  split at h
  · rename_i d0 h0; injection h with h; exact ⟨d0, h0, h.symm⟩
  · cases h
theorem tbF_ok : TbOk Try.prog tbF := by
  refine ⟨fun t d h => ?_, fun t d kt et ag ks h hk => ?_, fun t d h hne => ?_, fun t d h p hp => ?_⟩
  all_goals obtain ⟨d0, h0, rfl⟩ := tbF_some h
  · exact tbOk.1 t d0 h0
  · exact tbOk.2.1 t d0 kt et ag ks h0 hk
  · exact tbOk.2.2.1 t d0 h0 hne
  · exact tbOk.2.2.2 t d0 h0 p hp
noncomputable def closedF : Orc := inl O.real tbF fns (pureOrc (PS.also 188 sp188 PS.none)) (fun f => Nat.beq f 188) shutM 300 14
theorem closedF_ok : OrcOk Try.prog closedF (fun _ => True) := inl_ok mixed tbF_ok fnsOk (pureOrc_ok (PureOk.also ok188 (PureOk.none _))) 14
noncomputable def lvP : PS := PS.also 188 sp188 (PS.also 54 (runP closedF 54) (PS.also 107 (runP closedF 107) PS.none))
theorem lvP_ok : PureOk Try.prog lvP := PureOk.also ok188 (PureOk.also (runP_ok closedF_ok 54) (PureOk.also (runP_ok closedF_ok 107) (PureOk.none _)))
def lvK : FuncId → Bool := fun f => Nat.beq f 188 || Nat.beq f 54 || Nat.beq f 107
noncomputable def closedL : Orc := inl O.real tbF fns (pureOrc lvP) lvK shutM 300 14
theorem closedL_ok : OrcOk Try.prog closedL (fun _ => True) := inl_ok mixed tbF_ok fnsOk (pureOrc_ok lvP_ok) 14
theorem live47 : (closedL 47 0 [] []).okB (fun E => isT E && E.hw.isEmpty && E.frz.isEmpty && E.new.isEmpty) = true := by kernel_rfl
def spLive : List AV → T AV
  | [] => .leaf (.bool true)
  | _ => .stuck "live"
theorem ok_live {orc : Orc} (horc : OrcOk Try.prog orc (fun _ => True)) {f : FuncId} (hl : (orc f 0 [] []).okB (fun E => isT E && E.hw.isEmpty && E.frz.isEmpty && E.new.isEmpty) = true) : Pure1 Try.prog f spLive := by
  intro xs F w cs R ha h
  unfold spLive at h
  split at h
  · obtain ⟨hF, hlen, hv⟩ := ha
    refine horc f 0 [] [] noβ F w cs R trivial (pre0 hF) hlen hv (sat_mono (fun E hE v' β' F' w' p => ?_) (T.okB_sat hl))
    have hE : (isT E && E.hw.isEmpty && E.frz.isEmpty && E.new.isEmpty) = true := hE
    simp only [Bool.and_eq_true, List.isEmpty_iff] at hE
    obtain ⟨v, hw, frz, nw⟩ := E
    obtain ⟨⟨⟨h1, h2⟩, h3⟩, h4⟩ := hE
    simp only at h2 h3 h4
    subst h2; subst h3; subst h4
    have hy : resE ⟨v, [], [], []⟩ = some (.bool true) := by
      unfold isT at h1
      split at h1
      · rename_i b hb; subst h1; simp only at hb; subst hb; rfl
      · cases h1
    obtain ⟨F'', q⟩ := resE_ok hy p
    exact h v' F'' w' q
  · exact h.elim
theorem ok47 : Pure1 Try.prog 47 spLive := ok_live closedL_ok live47
end Go.Qv
