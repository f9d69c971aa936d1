/- quiverlaw07.VecExtends: whatever comes in, true is answered. -/
import Derived.Test.YteaeogofidakiaaQXhM
import Derived.Test.YteaeogofidakiaaQBk
import Derived.Test.YteaeogofidakiaaRows
import Derived.ProofKit
import Derived.OpenShut
import Derived.WalkKit
set_option linter.unusedVariables false
set_option linter.unusedSimpArgs false
set_option maxRecDepth 100000
namespace Go.Qv
open Go Go.RowKit Go.Proofs
noncomputable def closedF : Orc := inl O.real tbF fns noOrc noKnown shutM 300 14
theorem closedF_ok : OrcOk Try.prog closedF (fun _ => True) := inl_ok mixed tbF_ok fnsOk (noOrc_ok _ _) 14
noncomputable def closedL : Orc := inl O.real tbF fns (pureOrc (PS.also 27 (runP closedF 27) PS.none)) (fun f => Nat.beq f 27) shutM 300 14
theorem closedL_ok : OrcOk Try.prog closedL (fun _ => True) := inl_ok mixed tbF_ok fnsOk (pureOrc_ok (PureOk.also (runP_ok closedF_ok 27) (PureOk.none _))) 14
theorem live8 : (closedL 8 0 [] []).okB (fun E => isT E && E.hw.isEmpty && E.frz.isEmpty && E.new.isEmpty) = true := by kernel_rfl
theorem okLive : Pure1 Try.prog 8 spLive := ok_live closedL_ok live8
end Go.Qv
namespace Go.Proofs.Yteaeogofidakiaa
open Go Go.ChangeShapes Go.WideShapes Go.ChangeAt Go.RowKit Go.Qv
open Rows (uptoBulk uptoBulkAll)
theorem tryV : VTypes Try.prog 28 3 25 2 26 9 22 where
  uV := ⟨_, Try.underlying28, by kernel_rfl⟩
  uInt := Try.underlying3
  uN := Try.underlying25
  uI := Try.underlying2
  uS := Try.underlying26
  uStr := Try.underlying9
  uL := Try.underlying22
  cV := by kernel_rfl
  cInt := by kernel_rfl
  cN := by kernel_rfl
  cI := by kernel_rfl
  cS := by kernel_rfl
  cStr := by kernel_rfl
  cL := by kernel_rfl
theorem Try.own : ownKnob Try.prog.godebug = none := by kernel_rfl
theorem Try.laidOut : laidOutB Try.prog = true := by kernel_rfl
theorem fn4 : Qv.fns 4 = some Try.f4 := by kernel_rfl
/-- An argument of the type V: a tree. -/
theorem open_arg {H : Type} {enc : TypeId × Value → H} {W : World} {base : Nat} {v : Value} {d : DataW H} {p : List MemPlace} {F : Nat → Prop} (hF : ∀ b, b < W.heap.size → F b)
    (hv : Value.okWide Try.prog W .any base 28 v) (h : DataW.Trod enc Try.prog W 0 (fun _ => true) true 28 v d p) :
    ∃ (cs : Array Value) (x : VT), v = .agg cs ∧ x.Fine ∧ x.bk ≤ uptoBulk d ∧ VR noβ F W (.agg cs) (.agg x.cells) := by
  obtain ⟨cs, rfl⟩ : ∃ cs, v = .agg cs := by
    unfold Value.okWide at hv
    rw [Try.underlying28] at hv
    obtain ⟨cs, rfl, _⟩ := hv
    exact ⟨cs, rfl⟩
  obtain ⟨fuel, h⟩ := h
  obtain ⟨x, h1, h2, h3, h4⟩ := open_Vb tryV (β := noβ) (F := F) hF fuel _ _ h
  have h3 : cs.size = 4 := h3
  refine ⟨cs, x, rfl, h1, h2, .agg _ _ h3 ?_ fun j c y hc hy => h4 j c y (by simpa [Value.cells] using hc) hy⟩
  intro y hy
  simp only [VT.cells, List.mem_cons, List.not_mem_nil, or_false] at hy
  rcases hy with rfl | rfl | rfl | rfl <;> rfl
theorem extends_any (o : Int) (t n s l t' n' s' l') (fa : (VT.mk t n s l).Fine) (fb : (VT.mk t' n' s' l').Fine) (W : World) (x y : Value)
    (hx : VR noβ (fun b => b < W.heap.size) W x (.agg (VT.mk t n s l).cells)) (hy : VR noβ (fun b => b < W.heap.size) W y (.agg (VT.mk t' n' s' l').cells)) :
    Calls Try.prog 4 #[.int .i64 o, x, y] W fun e w' => e = .returned (.bool true) ∧ Below W.heap.size W w' := by
  refine flow_law (xs := [.int .i64 o, .agg (VT.mk t n s l).cells, .agg (VT.mk t' n' s' l').cells]) (ys := [.int .i64 o, .agg (VT.mk t n s l).cells, .agg (VT.mk t' n' s' l').cells])
    (ρ := [.int o, .int t, .is n, .ss s, .vs l, .int t', .is n', .ss s', .vs l']) (F := fun b => b < W.heap.size) (e0 := 9999) mixed tbOk (walked (PureOk.also okLive (PureOk.also ok7 (PureOk.also ok15 (PureOk.also ok16 (PureOk.also ok18x (PureOk.also ok11 (PureOk.also ok19p (PureOk.none _)))))))) 14) fnsOk fn4 w4xC_ok (by rfl) (by rfl) (by rfl) (by rfl) (by rfl) ⟨fun _ h => h, rfl, fun j v u hv hu => ?_⟩
    (extends_ o t n s l t' n' s' l' fa fb)
  match j, hv, hu with
  | 0, hv, hu => simp at hv hu; subst hv; subst hu; exact .int _ _
  | 1, hv, hu => simp at hv hu; subst hv; subst hu; exact hx
  | 2, hv, hu => simp at hv hu; subst hv; subst hu; exact hy
  | j + 3, hv, hu => simp at hu
theorem vecExtends_lifted (os : Os) (started : os.Started) (H : Type) (enc : TypeId × Value → H) :
    ReturnsInHanded {} Try.checked os 4 .any (Rows.vecExtendsSpec.pre6 enc Try.prog Try.f4 Rows.vecExtendsRow.domain false) (Rows.vecExtendsSpec.post enc Try.prog Try.f4 false true false false) := by
  refine returnsInHanded_of_change (C := Try.checked) Try.own started (by kernel_rfl) Try.func4
    (ChangeSpec.witness6 (enc := enc) (C := Try.checked) false ⟨#[], #[.int .i64 0, .agg #[.int .i64 0, .slice none 0 0, .slice none 0 0, .slice none 0 0], .agg #[.int .i64 0, .slice none 0 0, .slice none 0 0, .slice none 0 0]], []⟩ 8 (by kernel_rfl) (by kernel_rfl) (by kernel_rfl) (by kernel_rfl)) ?_
  intro W base args ds gs before hval0 hW hcnd _
  have hval : ∀ (j : Nat) t v, Try.f4.params[j]? = some t → args[j]? = some v → Value.okWide Try.prog W .any base t v := hval0
  have hW' := hW
  obtain ⟨p, q, hA0, hV, rfl, hfz, hnd⟩ := hW
  have hA : DataW.TrodAll enc Try.prog W 0 (fun _ => true) true Try.f4.params.toList args.toList ds p := hA0
  rw [Try.params4] at hA hval
  obtain ⟨v0, vs0, d0, ds0, p0, q0, hargs, rfl, rfl, h0, r0⟩ := trodAll_cons hA
  obtain ⟨v1, vs1, d1, ds1, p1, q1, rfl, rfl, rfl, h1, r1⟩ := trodAll_cons r0
  obtain ⟨v2, vs2, d2, ds2, p2, q2, rfl, rfl, rfl, h2, r2⟩ := trodAll_cons r1
  obtain ⟨rfl, rfl, rfl⟩ := trodAll_nil r2
  obtain rfl : args = #[v0, v1, v2] := by cases args; simp_all
  obtain ⟨rfl, rfl⟩ := trodVars_none hV
  obtain ⟨m, rfl, rfl, rfl, wm⟩ := open_int Try.underlying3 (hval 0 3 v0 rfl rfl) h0
  obtain ⟨cs1, x1, rfl, f1, s1, y1⟩ := open_arg (F := fun b => b < W.heap.size) (fun b h => h) (hval 1 28 v1 rfl rfl) h1
  obtain ⟨cs2, x2, rfl, f2, s2, y2⟩ := open_arg (F := fun b => b < W.heap.size) (fun b h => h) (hval 2 28 v2 rfl rfl) h2
  have hlt : ∀ x ∈ ([] : List MemPlace) ++ (p1 ++ (p2 ++ [])), x.block < W.heap.size := fun x hx => hW'.lt x (by simpa using hx)
  clear hA0 hval0
  simp only [List.append_nil, List.nil_append] at hW' hlt
  obtain ⟨t, n, s, l⟩ := x1
  obtain ⟨t', n', s', l'⟩ := x2
  refine (extends_any m t n s l t' n' s' l' f1 f2 W _ _ y1 y2).mono fun e W' ⟨he, hw⟩ => ?_
  subst he
  refine ⟨_, rfl, _, _, _, [], p1 ++ p2, [], hW', ?_, ?_, ?_, hw.frame _, fun h => by cases h⟩
  · exact trodAll_mk1 (shut_bool Try.underlying4 true)
  · have e3 := trodAll_mk3 (shut_int (P := Try.prog) (enc := enc) (w := W') (base := 0) (spare := fun b => decide (b < W.heap.size)) (held := true) Try.underlying3 wm) (Below.trod Try.laidOut (by kernel_rfl) (of_decide_eq_true (by kernel_rfl)) h1 hw (fun x hx => hlt x (by simp [hx])))
      (Below.trod Try.laidOut (by kernel_rfl) (of_decide_eq_true (by kernel_rfl)) h2 hw (fun x hx => hlt x (by simp [hx])))
    rw [show p1 ++ p2 = [] ++ (p1 ++ p2) from by simp]
    exact e3
  · rfl
theorem vecExtends_holds : Rows.VecExtendsSaid :=
  OpenClaim.holds_of_wide 4 Try.f4 rfl rfl rfl rfl rfl rfl rfl ⟨rfl, rfl, rfl, rfl, rfl⟩ rfl rfl rfl rfl rfl (by kernel_rfl) Try.func4 (by kernel_rfl)
    (of_decide_eq_true (by kernel_rfl)) (by unfold Func.isWrapper; first | (rw [if_pos (by decide +kernel)]; kernel_rfl) | (rw [if_neg (by decide +kernel)]; exact ⟨rfl, rfl⟩))
    (fun os started H enc _ => vecExtends_lifted os started H enc)
#print axioms vecExtends_holds
end Go.Proofs.Yteaeogofidakiaa
