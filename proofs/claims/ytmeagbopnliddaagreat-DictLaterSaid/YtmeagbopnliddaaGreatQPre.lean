/- How a contract is won from a run; a closed function's. No condition. -/
import Derived.Test.YtmeagbopnliddaaGreatQSp
import Derived.Test.YtmeagbopnliddaaGreatQTabM
set_option linter.unusedVariables false
set_option linter.unusedSimpArgs false
set_option maxRecDepth 100000
namespace Go.Qv
open Go Go.RowKit Go.Proofs
theorem mixed : Tryz.prog.follows .mixedOrders = true := by rfl
noncomputable def when_ {α : Type} (p : Prop) (t : T α) : T α := .req ⟨p, Classical.propDecidable _⟩ t
/-- A contract out of a run. -/
theorem contract {orc : Orc} (horc : OrcOk Tryz.prog orc (fun _ => True)) {f : FuncId} {fn : Func} (hf : fns f = some fn) {cuts : List Cut} (hok : cutsOk cuts = true) {c0 : Cut} {xs : List AV} {ρ : List Lf}
    (hc0 : findCut 9999 cuts = some c0) (hpre : c0.pre = [.code (bodyOf fn)]) (hys : renL (renF (sig0 0) 5) xs = some xs) (hin : c0.tm.inst ρ = ⟨zipArgs 0 xs, [], [], 0, fn.ntmps⟩) (hnt : Nat.ble xs.length fn.ntmps = true)
    {cs : Array Value} {F : Nat → Prop} {w : World} {R : Value → World → Prop} {y : AV} (ha : Args F w cs xs) (hr : Rh (stepX O.real tb orc fn.results [] 0 cuts) (Ret y) (9999, ρ))
    (hK : ∀ v' F' w', PPost F w y v' F' w' → R v' w') : Goes Tryz.prog f cs w R := by
  obtain ⟨n, hn⟩ := hr
  refine flow_pure mixed tbOk horc fnsOk hf hok hc0 hpre hys hin hnt ha (K := fun z => z = y) (n := n) ?_ (fun z hz => by subst hz; exact hK)
  exact flow_pure.FS.imp (fun E hE => ⟨y, hE, rfl⟩) hn
theorem walked {sp : PS} (h : PureOk Tryz.prog sp) {kn md : FuncId → Bool} (n : Nat) : OrcOk Tryz.prog (inl O.real tb fns (pureOrc sp) kn md 300 n) (fun _ => True) := inl_ok mixed tbOk fnsOk (pureOrc_ok h) n
theorem walked0 {kn md : FuncId → Bool} (n : Nat) : OrcOk Tryz.prog (inl O.real tb fns noOrc kn md 300 n) (fun _ => True) := inl_ok mixed tbOk fnsOk (noOrc_ok _ _) n
/-- A function that is walked at the call, its answer frozen. -/
def runP (orc : Orc) (f : FuncId) : List AV → T AV := fun xs => (orc f 0 xs []).bind fun E => match resE E with | some y => .leaf y | none => .stuck "answer"
theorem runP_ok {orc : Orc} (h : OrcOk Tryz.prog orc (fun _ => True)) (f : FuncId) : Pure1 Tryz.prog f (runP orc f) := by
  intro xs F w cs R ha h1
  obtain ⟨hF, hl, hv⟩ := ha
  refine h f 0 xs [] noβ F w cs R trivial (pre0 hF) hl hv (sat_mono (fun E hE v' β' F' w' p => ?_) (bind_sat h1))
  split at hE
  · rename_i y hy
    obtain ⟨F'', q⟩ := resE_ok hy p
    exact hE v' F'' w' q
  · exact hE.elim
/-- The tables, slices of a literal let go at once. -/
def tbF : Tb := fun t => match tb t with | some d => some { d with fz := true } | none => none
theorem tbF_some {t : TypeId} {d : TyD} (h : tbF t = some d) : ∃ d0, tb t = some d0 ∧ d = { d0 with fz := true } := by
  unfold tbF at h
  split at h
  · rename_i d0 h0; injection h with h; exact ⟨d0, h0, h.symm⟩
  · cases h
theorem tbF_ok : TbOk Tryz.prog tbF := by
  refine ⟨fun t d h => ?_, fun t d kt et ag ks h hk => ?_, fun t d h hne => ?_, fun t d h p hp => ?_⟩
  all_goals obtain ⟨d0, h0, rfl⟩ := tbF_some h
  · exact tbOk.1 t d0 h0
  · exact tbOk.2.1 t d0 kt et ag ks h0 hk
  · exact tbOk.2.2.1 t d0 h0 hne
  · exact tbOk.2.2.2 t d0 h0 p hp
/-- The tables, no list asked whether it has an element. -/
def tbS : Tb := fun t => match tb t with | some d => some { d with cl := false } | none => none
theorem tbS_some {t : TypeId} {d : TyD} (h : tbS t = some d) : ∃ d0, tb t = some d0 ∧ d = { d0 with cl := false } := by
  unfold tbS at h
  split at h
  · rename_i d0 h0; injection h with h; exact ⟨d0, h0, h.symm⟩
  · cases h
theorem tbS_ok : TbOk Tryz.prog tbS := by
  refine ⟨fun t d h => ?_, fun t d kt et ag ks h hk => ?_, fun t d h hne => ?_, fun t d h p hp => ?_⟩
  all_goals obtain ⟨d0, h0, rfl⟩ := tbS_some h
  · exact tbOk.1 t d0 h0
  · exact tbOk.2.1 t d0 kt et ag ks h0 hk
  · exact tbOk.2.2.1 t d0 h0 hne
  · exact tbOk.2.2.2 t d0 h0 p hp
def nzV (d : TyD) : Bool := match d.kd with | .slice _ .v => true | _ => false
/-- Where a list of values is compared with nil it has an element (that is to be shown). -/
def tbN : Tb := fun t => match tb t with | some d => some { d with cl := false, fz := nzV d } | none => none
theorem tbN_some {t : TypeId} {d : TyD} (h : tbN t = some d) : ∃ d0, tb t = some d0 ∧ d = { d0 with cl := false, fz := nzV d0 } := by
  unfold tbN at h
  split at h
  · rename_i d0 h0; injection h with h; exact ⟨d0, h0, h.symm⟩
  · cases h
theorem tbN_ok : TbOk Tryz.prog tbN := by
  refine ⟨fun t d h => ?_, fun t d kt et ag ks h hk => ?_, fun t d h hne => ?_, fun t d h p hp => ?_⟩
  all_goals obtain ⟨d0, h0, rfl⟩ := tbN_some h
  · exact tbOk.1 t d0 h0
  · exact tbOk.2.1 t d0 kt et ag ks h0 hk
  · exact tbOk.2.2.1 t d0 h0 hne
  · exact tbOk.2.2.2 t d0 h0 p hp
theorem walkedS {sp : PS} (h : PureOk Tryz.prog sp) {kn md : FuncId → Bool} (n : Nat) : OrcOk Tryz.prog (inl O.real tbS fns (pureOrc sp) kn md 300 n) (fun _ => True) := inl_ok mixed tbS_ok fnsOk (pureOrc_ok h) n
theorem walkedN {sp : PS} (h : PureOk Tryz.prog sp) {kn md : FuncId → Bool} (n : Nat) : OrcOk Tryz.prog (inl O.real tbN fns (pureOrc sp) kn md 300 n) (fun _ => True) := inl_ok mixed tbN_ok fnsOk (pureOrc_ok h) n
/-- A contract out of a run over other tables. -/
theorem contractS {tb : Tb} (htb : TbOk Tryz.prog tb) {orc : Orc} (horc : OrcOk Tryz.prog orc (fun _ => True)) {f : FuncId} {fn : Func} (hf : fns f = some fn) {cuts : List Cut} (hok : cutsOk cuts = true) {c0 : Cut} {xs : List AV} {ρ : List Lf}
    (hc0 : findCut 9999 cuts = some c0) (hpre : c0.pre = [.code (bodyOf fn)]) (hys : renL (renF (sig0 0) 5) xs = some xs) (hin : c0.tm.inst ρ = ⟨zipArgs 0 xs, [], [], 0, fn.ntmps⟩) (hnt : Nat.ble xs.length fn.ntmps = true)
    {cs : Array Value} {F : Nat → Prop} {w : World} {R : Value → World → Prop} {K : AV → Prop} (ha : Args F w cs xs) (hr : Rh (stepX O.real tb orc fn.results [] 0 cuts) (fun E => ∃ y, resE E = some y ∧ K y) (9999, ρ))
    (hK : ∀ y, K y → ∀ v' F' w', PPost F w y v' F' w' → R v' w') : Goes Tryz.prog f cs w R := by
  obtain ⟨n, hn⟩ := hr
  exact flow_pure mixed htb horc fnsOk hf hok hc0 hpre hys hin hnt ha (K := K) (n := n) hn hK
def spLive : List AV → T AV
  | [] => .leaf (.bool true)
  | _ => .stuck "live"
theorem ok_live {orc : Orc} (horc : OrcOk Tryz.prog orc (fun _ => True)) {f : FuncId} (hl : (orc f 0 [] []).okB (fun E => isT E && E.hw.isEmpty && E.frz.isEmpty && E.new.isEmpty) = true) : Pure1 Tryz.prog f spLive := by
  intro xs F w cs R ha h
  unfold spLive at h
  split at h
  · obtain ⟨hF, hlen, hv⟩ := ha
    refine horc f 0 [] [] noβ F w cs R trivial (pre0 hF) hlen hv (sat_mono (fun E hE v' β' F' w' p => ?_) (T.okB_sat hl))
    have hE : (isT E && E.hw.isEmpty && E.frz.isEmpty && E.new.isEmpty) = true := hE
    simp only [Bool.and_eq_true, List.isEmpty_iff] at hE
    obtain ⟨v, hw, frz, nw⟩ := E
    obtain ⟨⟨⟨h1, h2⟩, h3⟩, h4⟩ := hE
    simp only at h2 h3 h4
    subst h2; subst h3; subst h4
    have hy : resE ⟨v, [], [], []⟩ = some (.bool true) := by
      unfold isT at h1
      split at h1
      · rename_i b hb; subst h1; simp only at hb; subst hb; rfl
      · cases h1
    obtain ⟨F'', q⟩ := resE_ok hy p
    exact h v' F'' w' q
  · exact h.elim
end Go.Qv
