/- quiverlaw10.DictLater: whatever comes in, true is answered. -/
import Derived.Test.YtmeagbopnliddaaGreatQJd
import Derived.Test.YtmeagbopnliddaaGreatQBk
import Derived.Test.YtmeagbopnliddaaGreatRows
import Derived.ProofKit
import Derived.OpenShut
import Derived.WalkKit
set_option linter.unusedVariables false
set_option linter.unusedSimpArgs false
set_option maxRecDepth 100000
namespace Go.Proofs.YtmeagbopnliddaaGreat
open Go Go.ChangeShapes Go.WideShapes Go.ChangeAt Go.RowKit Go.Qv
open Rows (uptoBulk uptoBulkAll)
theorem tryV : VTypes Tryz.prog 26 3 22 2 23 9 24 where
  uV := ⟨_, Tryz.underlying26, by kernel_rfl⟩
  uInt := Tryz.underlying3
  uN := Tryz.underlying22
  uI := Tryz.underlying2
  uS := Tryz.underlying23
  uStr := Tryz.underlying9
  uL := Tryz.underlying24
  cV := by kernel_rfl
  cInt := by kernel_rfl
  cN := by kernel_rfl
  cI := by kernel_rfl
  cS := by kernel_rfl
  cStr := by kernel_rfl
  cL := by kernel_rfl
theorem Tryz.own : ownKnob Tryz.prog.godebug = none := by kernel_rfl
theorem Tryz.laidOut : laidOutB Tryz.prog = true := by kernel_rfl
theorem fn7 : Qv.fns 7 = some Tryz.f7 := by kernel_rfl
/-- An argument of the type V: a tree. -/
theorem open_arg {H : Type} {enc : TypeId × Value → H} {W : World} {base : Nat} {v : Value} {d : DataW H} {p : List MemPlace} {F : Nat → Prop} (hF : ∀ b, b < W.heap.size → F b)
    (hv : Value.okWide Tryz.prog W .any base 26 v) (h : DataW.Trod enc Tryz.prog W 0 (fun _ => true) true 26 v d p) :
    ∃ (cs : Array Value) (x : VT), v = .agg cs ∧ x.Fine ∧ x.bk ≤ uptoBulk d ∧ VR noβ F W (.agg cs) (.agg x.cells) := by
  obtain ⟨cs, rfl⟩ : ∃ cs, v = .agg cs := by
    unfold Value.okWide at hv
    rw [Tryz.underlying26] at hv
    obtain ⟨cs, rfl, _⟩ := hv
    exact ⟨cs, rfl⟩
  obtain ⟨fuel, h⟩ := h
  obtain ⟨x, h1, h2, h3, h4⟩ := open_Vb tryV (β := noβ) (F := F) hF fuel _ _ h
  have h3 : cs.size = 4 := h3
  refine ⟨cs, x, rfl, h1, h2, .agg _ _ h3 ?_ fun j c y hc hy => h4 j c y (by simpa [Value.cells] using hc) hy⟩
  intro y hy
  simp only [VT.cells, List.mem_cons, List.not_mem_nil, or_false] at hy
  rcases hy with rfl | rfl | rfl | rfl <;> rfl
theorem any_law t n s l t' n' s' l' t2 n2 s2 l2  (f0 : (VT.mk t n s l).Fine) (f1 : (VT.mk t' n' s' l').Fine) (f2 : (VT.mk t2 n2 s2 l2).Fine) (W : World) (g0 g1 g2 : Value) (hg0 : VR noβ (fun b => b < W.heap.size) W g0 (.agg (VT.mk t n s l).cells)) (hg1 : VR noβ (fun b => b < W.heap.size) W g1 (.agg (VT.mk t' n' s' l').cells)) (hg2 : VR noβ (fun b => b < W.heap.size) W g2 (.agg (VT.mk t2 n2 s2 l2).cells)) :
    Calls Tryz.prog 7 #[g0, g1, g2] W fun e w' => e = .returned (.bool true) ∧ Below W.heap.size W w' := by
  refine flow_law (xs := [.agg (VT.mk t n s l).cells, .agg (VT.mk t' n' s' l').cells, .agg (VT.mk t2 n2 s2 l2).cells]) (ys := [.agg (VT.mk t n s l).cells, .agg (VT.mk t' n' s' l').cells, .agg (VT.mk t2 n2 s2 l2).cells])
    (ρ := [.int t, .is n, .ss s, .vs l, .int t', .is n', .ss s', .vs l', .int t2, .is n2, .ss s2, .vs l2]) (F := fun b => b < W.heap.size) (e0 := 9999) mixed tbF_ok laterOrc fnsOk fn7 w7C_ok (by rfl) (by rfl) (by rfl) (by rfl) (by rfl) ⟨fun _ h => h, rfl, fun j v u hv hu => ?_⟩
    (laterL t n s l t' n' s' l' t2 n2 s2 l2 f0 f1 f2)
  match j, hv, hu with
  | 0, hv, hu => simp at hv hu; subst hv; subst hu; exact hg0
  | 1, hv, hu => simp at hv hu; subst hv; subst hu; exact hg1
  | 2, hv, hu => simp at hv hu; subst hv; subst hu; exact hg2
  | j + 3, hv, hu => simp at hu
theorem dictLater_lifted (os : Os) (started : os.Started) (H : Type) (enc : TypeId × Value → H) :
    ReturnsInHanded {} Tryz.checked os 7 .any (Rows.dictLaterSpec.pre6 enc Tryz.prog Tryz.f7 Rows.dictLaterRow.domain false) (Rows.dictLaterSpec.post enc Tryz.prog Tryz.f7 false true false false) := by
  refine returnsInHanded_of_change (C := Tryz.checked) Tryz.own started (by kernel_rfl) Tryz.func7
    (ChangeSpec.witness6 (enc := enc) (C := Tryz.checked) false ⟨#[], #[.agg #[.int .i64 0, .slice none 0 0, .slice none 0 0, .slice none 0 0], .agg #[.int .i64 0, .slice none 0 0, .slice none 0 0, .slice none 0 0], .agg #[.int .i64 0, .slice none 0 0, .slice none 0 0, .slice none 0 0]], []⟩ 8 (by kernel_rfl) (by kernel_rfl) (by kernel_rfl) (by kernel_rfl)) ?_
  intro W base args ds gs before hval0 hW hcnd _
  have hval : ∀ (j : Nat) t v, Tryz.f7.params[j]? = some t → args[j]? = some v → Value.okWide Tryz.prog W .any base t v := hval0
  have hW' := hW
  obtain ⟨p, q, hA0, hV, rfl, hfz, hnd⟩ := hW
  have hA : DataW.TrodAll enc Tryz.prog W 0 (fun _ => true) true Tryz.f7.params.toList args.toList ds p := hA0
  rw [Tryz.params7] at hA hval
  obtain ⟨v0, vs0, d0, ds0, p0, q0, hargs, rfl, rfl, h0, r0⟩ := trodAll_cons hA
  obtain ⟨v1, vs1, d1, ds1, p1, q1, rfl, rfl, rfl, h1, r1⟩ := trodAll_cons r0
  obtain ⟨v2, vs2, d2, ds2, p2, q2, rfl, rfl, rfl, h2, r2⟩ := trodAll_cons r1
  obtain ⟨rfl, rfl, rfl⟩ := trodAll_nil r2
  obtain rfl : args = #[v0, v1, v2] := by cases args; simp_all
  obtain ⟨rfl, rfl⟩ := trodVars_none hV
  obtain ⟨cs0, x0, rfl, f0, _, y0⟩ := open_arg (F := fun b => b < W.heap.size) (fun b h => h) (hval 0 26 v0 rfl rfl) h0
  obtain ⟨cs1, x1, rfl, f1, _, y1⟩ := open_arg (F := fun b => b < W.heap.size) (fun b h => h) (hval 1 26 v1 rfl rfl) h1
  obtain ⟨cs2, x2, rfl, f2, _, y2⟩ := open_arg (F := fun b => b < W.heap.size) (fun b h => h) (hval 2 26 v2 rfl rfl) h2
  have hlt : ∀ x ∈ p0 ++ (p1 ++ (p2 ++ ([]))), x.block < W.heap.size := fun x hx => hW'.lt x (by simpa using hx)
  clear hA0 hval0
  simp only [List.append_nil, List.nil_append] at hW' hlt
  obtain ⟨t, n, s, l⟩ := x0
  obtain ⟨t', n', s', l'⟩ := x1
  obtain ⟨t2, n2, s2, l2⟩ := x2
  refine (any_law t n s l t' n' s' l' t2 n2 s2 l2  f0 f1 f2 W _ _ _ y0 y1 y2).mono fun e W' ⟨he, hw⟩ => ?_
  subst he
  refine ⟨_, rfl, _, _, _, [], p0 ++ (p1 ++ (p2)), [], hW', ?_, ?_, ?_, hw.frame _, fun h => by cases h⟩
  · exact trodAll_mk1 (shut_bool Tryz.underlying4 true)
  · have e0 := Below.trod Tryz.laidOut (by kernel_rfl) (of_decide_eq_true (by kernel_rfl)) h0 hw (fun x hx => hlt x (by simp [hx]))
    have e1 := Below.trod Tryz.laidOut (by kernel_rfl) (of_decide_eq_true (by kernel_rfl)) h1 hw (fun x hx => hlt x (by simp [hx]))
    have e2 := Below.trod Tryz.laidOut (by kernel_rfl) (of_decide_eq_true (by kernel_rfl)) h2 hw (fun x hx => hlt x (by simp [hx]))
    exact trodAll_mk3 e0 e1 e2
  · rfl
theorem dictLater_holds : Rows.DictLaterSaid :=
  OpenClaim.holds_of_wide 7 Tryz.f7 rfl rfl rfl rfl rfl rfl rfl ⟨rfl, rfl, rfl, rfl, rfl⟩ rfl rfl rfl rfl rfl (by kernel_rfl) Tryz.func7 (by kernel_rfl)
    (of_decide_eq_true (by kernel_rfl)) (by unfold Func.isWrapper; first | (rw [if_pos (by decide +kernel)]; kernel_rfl) | (rw [if_neg (by decide +kernel)]; exact ⟨rfl, rfl⟩))
    (fun os started H enc _ => dictLater_lifted os started H enc)
#print axioms dictLater_holds
end Go.Proofs.YtmeagbopnliddaaGreat
