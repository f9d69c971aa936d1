/- quiverlaw07.VecOnes: whatever comes in, true is answered. -/
import Derived.Test.YteaeogofidakiaaGreatQYw9M
import Derived.Test.YteaeogofidakiaaGreatQBk
import Derived.Test.YteaeogofidakiaaGreatRows
import Derived.ProofKit
import Derived.OpenShut
import Derived.WalkKit
set_option linter.unusedVariables false
set_option linter.unusedSimpArgs false
set_option maxRecDepth 100000
namespace Go.Proofs.YteaeogofidakiaaGreat
open Go Go.ChangeShapes Go.WideShapes Go.ChangeAt Go.RowKit Go.Qv
open Rows (uptoBulk uptoBulkAll)
theorem tryV : VTypes Tryz.prog 26 3 22 2 23 9 24 where
  uV := ⟨_, Tryz.underlying26, by kernel_rfl⟩
  uInt := Tryz.underlying3
  uN := Tryz.underlying22
  uI := Tryz.underlying2
  uS := Tryz.underlying23
  uStr := Tryz.underlying9
  uL := Tryz.underlying24
  cV := by kernel_rfl
  cInt := by kernel_rfl
  cN := by kernel_rfl
  cI := by kernel_rfl
  cS := by kernel_rfl
  cStr := by kernel_rfl
  cL := by kernel_rfl
theorem Tryz.own : ownKnob Tryz.prog.godebug = none := by kernel_rfl
theorem Tryz.laidOut : laidOutB Tryz.prog = true := by kernel_rfl
theorem fn4 : Qv.fns 4 = some Tryz.f4 := by kernel_rfl
/-- An argument of the type V: a tree. -/
theorem open_arg {H : Type} {enc : TypeId × Value → H} {W : World} {base : Nat} {v : Value} {d : DataW H} {p : List MemPlace} {F : Nat → Prop} (hF : ∀ b, b < W.heap.size → F b)
    (hv : Value.okWide Tryz.prog W .any base 26 v) (h : DataW.Trod enc Tryz.prog W 0 (fun _ => true) true 26 v d p) :
    ∃ (cs : Array Value) (x : VT), v = .agg cs ∧ x.Fine ∧ x.bk ≤ uptoBulk d ∧ VR noβ F W (.agg cs) (.agg x.cells) := by
  obtain ⟨cs, rfl⟩ : ∃ cs, v = .agg cs := by
    unfold Value.okWide at hv
    rw [Tryz.underlying26] at hv
    obtain ⟨cs, rfl, _⟩ := hv
    exact ⟨cs, rfl⟩
  obtain ⟨fuel, h⟩ := h
  obtain ⟨x, h1, h2, h3, h4⟩ := open_Vb tryV (β := noβ) (F := F) hF fuel _ _ h
  have h3 : cs.size = 4 := h3
  refine ⟨cs, x, rfl, h1, h2, .agg _ _ h3 ?_ fun j c y hc hy => h4 j c y (by simpa [Value.cells] using hc) hy⟩
  intro y hy
  simp only [VT.cells, List.mem_cons, List.not_mem_nil, or_false] at hy
  rcases hy with rfl | rfl | rfl | rfl <;> rfl
theorem wOnes : OrcOk Tryz.prog (inl O.real Go.Qv.tb Go.Qv.fns (pureOrc (PS.also 6 spLive (PS.also 5 sp5 (PS.also 11 sp11f (PS.also 19 spNeg (PS.also 20 spNeg (PS.also 21 spNot (PS.also 22 spNot (PS.also 23 spTilA (PS.also 24 spTilA (PS.also 25 spWhere (PS.also 26 spWhere (PS.also 27 spCast (PS.also 28 spCast (PS.also 29 spFill (PS.also 30 spFill PS.none)))))))))))))))) (fun f => Nat.beq f 6 || Nat.beq f 5 || Nat.beq f 11 || Nat.beq f 19 || Nat.beq f 20 || Nat.beq f 21 || Nat.beq f 22 || Nat.beq f 23 || Nat.beq f 24 || Nat.beq f 25 || Nat.beq f 26 || Nat.beq f 27 || Nat.beq f 28 || Nat.beq f 29 || Nat.beq f 30) (fun _ => false) 300 14) (fun _ => True) :=
  walked (PureOk.also okLive (PureOk.also ok5 (PureOk.also ok11 (PureOk.also ok19x (PureOk.also ok20x (PureOk.also ok21x (PureOk.also ok22x (PureOk.also ok23x (PureOk.also ok24x (PureOk.also ok25x (PureOk.also ok26x (PureOk.also ok27x (PureOk.also ok28x (PureOk.also ok29x (PureOk.also ok30x (PureOk.none _)))))))))))))))) 14
theorem ones_any (k c : Int) (t n s l t' n' s' l') (fa : (VT.mk t n s l).Fine) (fb : (VT.mk t' n' s' l').Fine) (W : World) (x y : Value)
    (hx : VR noβ (fun b => b < W.heap.size) W x (.agg (VT.mk t n s l).cells)) (hy : VR noβ (fun b => b < W.heap.size) W y (.agg (VT.mk t' n' s' l').cells)) :
    Calls Tryz.prog 4 #[x, .int .i64 k, .int .i64 c, y] W fun e w' => e = .returned (.bool true) ∧ Below W.heap.size W w' := by
  refine flow_law (xs := [.agg (VT.mk t n s l).cells, .int .i64 k, .int .i64 c, .agg (VT.mk t' n' s' l').cells]) (ys := [.agg (VT.mk t n s l).cells, .int .i64 k, .int .i64 c, .agg (VT.mk t' n' s' l').cells])
    (ρ := [.int t, .is n, .ss s, .vs l, .int k, .int c, .int t', .is n', .ss s', .vs l']) (F := fun b => b < W.heap.size) (e0 := 9999) mixed tbOk wOnes fnsOk fn4 w4xC_ok (by rfl) (by rfl) (by rfl) (by rfl) (by rfl) ⟨fun _ h => h, rfl, fun j v u hv hu => ?_⟩
    (ones k c t n s l t' n' s' l' fa fb)
  match j, hv, hu with
  | 0, hv, hu => simp at hv hu; subst hv; subst hu; exact hx
  | 1, hv, hu => simp at hv hu; subst hv; subst hu; exact .int _ _
  | 2, hv, hu => simp at hv hu; subst hv; subst hu; exact .int _ _
  | 3, hv, hu => simp at hv hu; subst hv; subst hu; exact hy
  | j + 4, hv, hu => simp at hu
theorem vecOnes_lifted (os : Os) (started : os.Started) (H : Type) (enc : TypeId × Value → H) :
    ReturnsInHanded {} Tryz.checked os 4 .any (Rows.vecOnesSpec.pre6 enc Tryz.prog Tryz.f4 Rows.vecOnesRow.domain false) (Rows.vecOnesSpec.post enc Tryz.prog Tryz.f4 false true false false) := by
  refine returnsInHanded_of_change (C := Tryz.checked) Tryz.own started (by kernel_rfl) Tryz.func4
    (ChangeSpec.witness6 (enc := enc) (C := Tryz.checked) false ⟨#[], #[.agg #[.int .i64 0, .slice none 0 0, .slice none 0 0, .slice none 0 0], .int .i64 0, .int .i64 0, .agg #[.int .i64 0, .slice none 0 0, .slice none 0 0, .slice none 0 0]], []⟩ 8 (by kernel_rfl) (by kernel_rfl) (by kernel_rfl) (by kernel_rfl)) ?_
  intro W base args ds gs before hval0 hW hcnd _
  have hval : ∀ (j : Nat) t v, Tryz.f4.params[j]? = some t → args[j]? = some v → Value.okWide Tryz.prog W .any base t v := hval0
  have hW' := hW
  obtain ⟨p, q, hA0, hV, rfl, hfz, hnd⟩ := hW
  have hA : DataW.TrodAll enc Tryz.prog W 0 (fun _ => true) true Tryz.f4.params.toList args.toList ds p := hA0
  rw [Tryz.params4] at hA hval
  obtain ⟨v0, vs0, d0, ds0, p0, q0, hargs, rfl, rfl, h0, r0⟩ := trodAll_cons hA
  obtain ⟨v1, vs1, d1, ds1, p1, q1, rfl, rfl, rfl, h1, r1⟩ := trodAll_cons r0
  obtain ⟨v2, vs2, d2, ds2, p2, q2, rfl, rfl, rfl, h2, r2⟩ := trodAll_cons r1
  obtain ⟨v3, vs3, d3, ds3, p3, q3, rfl, rfl, rfl, h3, r3⟩ := trodAll_cons r2
  obtain ⟨rfl, rfl, rfl⟩ := trodAll_nil r3
  obtain rfl : args = #[v0, v1, v2, v3] := by cases args; simp_all
  obtain ⟨rfl, rfl⟩ := trodVars_none hV
  obtain ⟨cs0, x0, rfl, f0, s0, y0⟩ := open_arg (F := fun b => b < W.heap.size) (fun b h => h) (hval 0 26 v0 rfl rfl) h0
  obtain ⟨m1, rfl, rfl, rfl, wm1⟩ := open_int Tryz.underlying2 (hval 1 2 v1 rfl rfl) h1
  obtain ⟨m2, rfl, rfl, rfl, wm2⟩ := open_int Tryz.underlying3 (hval 2 3 v2 rfl rfl) h2
  obtain ⟨cs3, x3, rfl, f3, s3, y3⟩ := open_arg (F := fun b => b < W.heap.size) (fun b h => h) (hval 3 26 v3 rfl rfl) h3
  have hlt : ∀ x ∈ p0 ++ ([] ++ ([] ++ (p3 ++ []))), x.block < W.heap.size := fun x hx => hW'.lt x (by simpa using hx)
  clear hA0 hval0
  simp only [List.append_nil, List.nil_append] at hW' hlt
  obtain ⟨t, n, s, l⟩ := x0
  obtain ⟨t', n', s', l'⟩ := x3
  refine (ones_any m1 m2 t n s l t' n' s' l' f0 f3 W _ _ y0 y3).mono fun e W' ⟨he, hw⟩ => ?_
  subst he
  refine ⟨_, rfl, _, _, _, [], p0 ++ p3, [], hW', ?_, ?_, ?_, hw.frame _, fun h => by cases h⟩
  · exact trodAll_mk1 (shut_bool Tryz.underlying4 true)
  · have e3 := trodAll_mk4 (Below.trod Tryz.laidOut (by kernel_rfl) (of_decide_eq_true (by kernel_rfl)) h0 hw (fun x hx => hlt x (by simp [hx]))) (shut_int (P := Tryz.prog) (enc := enc) (w := W') (base := 0) (spare := fun b => decide (b < W.heap.size)) (held := true) Tryz.underlying2 wm1) (shut_int (P := Tryz.prog) (enc := enc) (w := W') (base := 0) (spare := fun b => decide (b < W.heap.size)) (held := true) Tryz.underlying3 wm2)
      (Below.trod Tryz.laidOut (by kernel_rfl) (of_decide_eq_true (by kernel_rfl)) h3 hw (fun x hx => hlt x (by simp [hx])))
    rw [show p0 ++ p3 = p0 ++ ([] ++ ([] ++ p3)) from by simp]
    exact e3
  · rfl
theorem vecOnes_holds : Rows.VecOnesSaid :=
  OpenClaim.holds_of_wide 4 Tryz.f4 rfl rfl rfl rfl rfl rfl rfl ⟨rfl, rfl, rfl, rfl, rfl⟩ rfl rfl rfl rfl rfl (by kernel_rfl) Tryz.func4 (by kernel_rfl)
    (of_decide_eq_true (by kernel_rfl)) (by unfold Func.isWrapper; first | (rw [if_pos (by decide +kernel)]; kernel_rfl) | (rw [if_neg (by decide +kernel)]; exact ⟨rfl, rfl⟩))
    (fun os started H enc _ => vecOnes_lifted os started H enc)
#print axioms vecOnes_holds
end Go.Proofs.YteaeogofidakiaaGreat
