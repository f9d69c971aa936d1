/- quiverlaw03.ValueOrders, WHERE WHAT IT READS IS OF BULK AT MOST 1048576. -/
import Derived.Test.YtimfkgepcmmmhaaQVp
import Derived.Test.YtimfkgepcmmmhaaQBk
import Derived.JoinedCond
import Derived.WalkKit
import Derived.ProofKit
import Derived.OpenShut
set_option linter.unusedVariables false
set_option linter.unusedSimpArgs false
set_option maxRecDepth 100000
namespace Go.Proofs.Ytimfkgepcmmmhaa
open Go Go.ChangeShapes Go.WideShapes Go.ChangeAt Go.RowKit Go.Qv
open Rows (uptoBulk uptoBulkAll)
theorem w8orc : OrcOk Try.prog (inl O.real Go.Qv.tb Go.Qv.fns (pureOrc (PS.also 45 sp45 (PS.also 105 sp105f (PS.also 78 sp78f (PS.also 47 spLive (PS.also 48 sp48f (PS.also 49 sp49f (PS.also 50 sp50f (PS.also 21 sp21f PS.none))))))))) (fun f => Nat.beq f 45 || Nat.beq f 105 || Nat.beq f 78 || Nat.beq f 47 || Nat.beq f 48 || Nat.beq f 49 || Nat.beq f 50 || Nat.beq f 21) (fun _ => false) 300 14) (fun _ => True) :=
  walked (PureOk.also ok45 (PureOk.also ok105 (PureOk.also ok78 (PureOk.also ok47 (PureOk.also ok48 (PureOk.also ok49 (PureOk.also ok50 (PureOk.also ok21 (PureOk.none _))))))))) 14
theorem tryV : VTypes Try.prog 37 3 33 2 34 9 35 where
  uV := ⟨_, Try.underlying37, by kernel_rfl⟩
  uInt := Try.underlying3
  uN := Try.underlying33
  uI := Try.underlying2
  uS := Try.underlying34
  uStr := Try.underlying9
  uL := Try.underlying35
  cV := by kernel_rfl
  cInt := by kernel_rfl
  cN := by kernel_rfl
  cI := by kernel_rfl
  cS := by kernel_rfl
  cStr := by kernel_rfl
  cL := by kernel_rfl
theorem Try.own : ownKnob Try.prog.godebug = none := by kernel_rfl
theorem Try.laidOut : laidOutB Try.prog = true := by kernel_rfl
theorem fn8 : Qv.fns 8 = some Try.f8 := by kernel_rfl
/-- An argument of the type: a tree. -/
theorem open_arg {H : Type} {enc : TypeId × Value → H} {W : World} {base : Nat} {v : Value} {d : DataW H} {p : List MemPlace} {F : Nat → Prop} (hF : ∀ b, b < W.heap.size → F b)
    (hv : Value.okWide Try.prog W .any base 37 v) (h : DataW.Trod enc Try.prog W 0 (fun _ => true) true 37 v d p) :
    ∃ (cs : Array Value) (x : VT), v = .agg cs ∧ x.Fine ∧ x.sz ≤ uptoBulk d ∧ VR noβ F W (.agg cs) (.agg x.cells) := by
  obtain ⟨cs, rfl⟩ : ∃ cs, v = .agg cs := by
    unfold Value.okWide at hv
    rw [Try.underlying37] at hv
    obtain ⟨cs, rfl, _⟩ := hv
    exact ⟨cs, rfl⟩
  obtain ⟨fuel, h⟩ := h
  obtain ⟨x, h1, h2, h3, h4⟩ := open_Vb tryV (β := noβ) (F := F) hF fuel _ _ h
  have h3 : cs.size = 4 := h3
  refine ⟨cs, x, rfl, h1, Nat.le_trans (sz_bk x) h2, .agg _ _ h3 ?_ fun j c y hc hy => h4 j c y (by simpa [Value.cells] using hc) hy⟩
  intro y hy
  simp only [VT.cells, List.mem_cons, List.not_mem_nil, or_false] at hy
  rcases hy with rfl | rfl | rfl | rfl <;> rfl
theorem orders_any (a b c : VT) (fa : a.Fine) (fb : b.Fine) (fc : c.Fine) (ha : a.sz ≤ 1048576) (hb : b.sz ≤ 1048576) (hc : c.sz ≤ 1048576) (W : World) (x y z : Value)
    (hx : VR noβ (fun b => b < W.heap.size) W x (.agg a.cells)) (hy : VR noβ (fun b => b < W.heap.size) W y (.agg b.cells)) (hz : VR noβ (fun b => b < W.heap.size) W z (.agg c.cells)) :
    Calls Try.prog 8 #[x, y, z] W fun e w' => e = .returned (.bool true) ∧ Below W.heap.size W w' := by
  obtain ⟨t, n, s, l⟩ := a
  obtain ⟨t', n', s', l'⟩ := b
  obtain ⟨t'', n'', s'', l''⟩ := c
  refine flow_law (xs := [.agg (VT.mk t n s l).cells, .agg (VT.mk t' n' s' l').cells, .agg (VT.mk t'' n'' s'' l'').cells]) (ys := [.agg (VT.mk t n s l).cells, .agg (VT.mk t' n' s' l').cells, .agg (VT.mk t'' n'' s'' l'').cells])
    (ρ := [.int t, .is n, .ss s, .vs l, .int t', .is n', .ss s', .vs l', .int t'', .is n'', .ss s'', .vs l'']) (F := fun b => b < W.heap.size) (e0 := 9999) mixed tbOk w8orc fnsOk fn8 w8C_ok (by rfl) (by rfl) (by rfl) (by rfl) (by rfl) ⟨fun _ h => h, rfl, fun j v u hv hu => ?_⟩
    (orders _ _ _ fa fb fc ha hb hc t n s l t' n' s' l' t'' n'' s'' l'' rfl rfl rfl)
  match j, hv, hu with
  | 0, hv, hu => simp at hv hu; subst hv; subst hu; exact hx
  | 1, hv, hu => simp at hv hu; subst hv; subst hu; exact hy
  | 2, hv, hu => simp at hv hu; subst hv; subst hu; exact hz
  | j + 3, hv, hu => simp at hu
theorem valueOrders_contract (H : Type) (enc : TypeId × Value → H) (W : World) (base : Nat) (args : Array Value) (ds gs : List (DataW H)) (before : List MemPlace)
    (hval : ∀ (j : Nat) t v, Try.f8.params[j]? = some t → args[j]? = some v → Value.okWide Try.prog W .any base t v)
    (hW : DataW.Whole enc Try.prog Try.f8.params.toList Rows.valueOrdersSpec.vars false W args.toList ds gs before) (hk : Rows.uptoSmall H (ds ++ gs) = true) :
    Calls Try.prog 8 args W fun e W' => ∃ v, e = .returned v ∧ Rows.valueOrdersSpec.post enc Try.prog Try.f8 false true false false W args v W' := by
  have hW' := hW
  obtain ⟨p, q, hA0, hV, rfl, hfz, hnd⟩ := hW
  have hA : DataW.TrodAll enc Try.prog W 0 (fun _ => true) true Try.f8.params.toList args.toList ds p := hA0
  rw [Try.params8] at hA hval
  obtain ⟨v0, vs0, d0, ds0, p0, q0, hargs, rfl, rfl, h0, r0⟩ := trodAll_cons hA
  obtain ⟨v1, vs1, d1, ds1, p1, q1, rfl, rfl, rfl, h1, r1⟩ := trodAll_cons r0
  obtain ⟨v2, vs2, d2, ds2, p2, q2, rfl, rfl, rfl, h2, r2⟩ := trodAll_cons r1
  obtain ⟨rfl, rfl, rfl⟩ := trodAll_nil r2
  obtain rfl : args = #[v0, v1, v2] := by cases args; simp_all
  obtain ⟨rfl, rfl⟩ := trodVars_none hV
  have hk := of_decide_eq_true hk
  simp only [List.append_nil, uptoBulkAll] at hk
  obtain ⟨cs0, x0, rfl, f0, s0, y0⟩ := open_arg (F := fun b => b < W.heap.size) (fun b h => h) (hval 0 37 v0 rfl rfl) h0
  obtain ⟨cs1, x1, rfl, f1, s1, y1⟩ := open_arg (F := fun b => b < W.heap.size) (fun b h => h) (hval 1 37 v1 rfl rfl) h1
  obtain ⟨cs2, x2, rfl, f2, s2, y2⟩ := open_arg (F := fun b => b < W.heap.size) (fun b h => h) (hval 2 37 v2 rfl rfl) h2
  have hlt : ∀ x ∈ p0 ++ (p1 ++ (p2 ++ [])), x.block < W.heap.size := fun x hx => hW'.lt x (by simpa using hx)
  clear hA0
  simp only [List.append_nil] at hW' hlt
  refine (orders_any x0 x1 x2 f0 f1 f2 (by omega) (by omega) (by omega) W _ _ _ y0 y1 y2).mono fun e W' ⟨he, hw⟩ => ?_
  subst he
  refine ⟨_, rfl, _, _, _, [], p0 ++ (p1 ++ p2), [], hW', ?_, ?_, ?_, hw.frame _, fun h => by cases h⟩
  · exact trodAll_mk1 (shut_bool Try.underlying4 true)
  · exact trodAll_mk3 (Below.trod Try.laidOut (by kernel_rfl) (of_decide_eq_true (by kernel_rfl)) h0 hw (fun x hx => hlt x (by simp [hx]))) (Below.trod Try.laidOut (by kernel_rfl) (of_decide_eq_true (by kernel_rfl)) h1 hw (fun x hx => hlt x (by simp [hx])))
      (Below.trod Try.laidOut (by kernel_rfl) (of_decide_eq_true (by kernel_rfl)) h2 hw (fun x hx => hlt x (by simp [hx])))
  · rfl
theorem valueOrders_lifted (os : Os) (started : os.Started) (H : Type) (enc : TypeId × Value → H) (F : Stop.Interp) :
    ReturnsInHanded {} Try.checked os 8 .any ((Rows.OpenSpec.upto Rows.valueOrdersSpec).pre6 enc Try.prog Try.f8 Rows.valueOrdersUptoRow.domain false) (((Rows.OpenSpec.upto Rows.valueOrdersSpec).at F).post enc Try.prog Try.f8 false true false false) := by
  refine returnsInHanded_of_cond (C := Try.checked) (s := Rows.OpenSpec.upto Rows.valueOrdersSpec) (k := Rows.uptoSmall) rfl Try.own started (by kernel_rfl) Try.func8
    (OpenSpec.witness (enc := enc) (C := Try.checked) (s := Rows.OpenSpec.upto Rows.valueOrdersSpec) (k := Rows.uptoSmall) rfl false ⟨#[], #[.agg #[.int .i64 0, .slice none 0 0, .slice none 0 0, .slice none 0 0], .agg #[.int .i64 0, .slice none 0 0, .slice none 0 0, .slice none 0 0], .agg #[.int .i64 0, .slice none 0 0, .slice none 0 0, .slice none 0 0]], []⟩ 8 (by kernel_rfl) (by kernel_rfl) (by kernel_rfl)
      (x := ([.agg [.lit (.int .i64 0), .nil, .nil, .nil], .agg [.lit (.int .i64 0), .nil, .nil, .nil], .agg [.lit (.int .i64 0), .nil, .nil, .nil]], [], [])) (by kernel_rfl) rfl (by kernel_rfl)) ?_
  intro W base args ds gs before hval hW _ hk _
  exact valueOrders_contract H enc W base args ds gs before hval hW hk
theorem valueOrdersUpto_holds : Rows.ValueOrdersUptoSaid :=
  OpenClaim.holds_of_cond 8 Try.f8 rfl rfl rfl rfl rfl rfl rfl ⟨rfl, rfl, rfl, rfl, rfl⟩ rfl rfl rfl rfl rfl (by kernel_rfl) Try.func8 (by kernel_rfl)
    (of_decide_eq_true (by kernel_rfl)) (by unfold Func.isWrapper; first | (rw [if_pos (by decide +kernel)]; kernel_rfl) | (rw [if_neg (by decide +kernel)]; exact ⟨rfl, rfl⟩))
    (fun os started H enc _ F => valueOrders_lifted os started H enc F)
#print axioms valueOrdersUpto_holds
end Go.Proofs.Ytimfkgepcmmmhaa
