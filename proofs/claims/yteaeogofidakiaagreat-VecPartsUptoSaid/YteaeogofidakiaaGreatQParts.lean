/- quiverlaw07.VecParts, WHERE WHAT IT READS IS OF BULK AT MOST 1048576: true is answered. -/
import Derived.Test.YteaeogofidakiaaGreatQPp
import Derived.Test.YteaeogofidakiaaGreatQBk
import Derived.JoinedCond
import Derived.WalkKit
import Derived.ProofKit
import Derived.OpenShut
set_option linter.unusedVariables false
set_option linter.unusedSimpArgs false
set_option maxRecDepth 100000
namespace Go.Proofs.YteaeogofidakiaaGreat
open Go Go.ChangeShapes Go.WideShapes Go.ChangeAt Go.RowKit Go.Qv
open Rows (uptoBulk uptoBulkAll)
theorem tryV : VTypes Tryz.prog 26 3 22 2 23 9 24 where
  uV := ⟨_, Tryz.underlying26, by kernel_rfl⟩
  uInt := Tryz.underlying3
  uN := Tryz.underlying22
  uI := Tryz.underlying2
  uS := Tryz.underlying23
  uStr := Tryz.underlying9
  uL := Tryz.underlying24
  cV := by kernel_rfl
  cInt := by kernel_rfl
  cN := by kernel_rfl
  cI := by kernel_rfl
  cS := by kernel_rfl
  cStr := by kernel_rfl
  cL := by kernel_rfl
theorem Tryz.own : ownKnob Tryz.prog.godebug = none := by kernel_rfl
theorem Tryz.laidOut : laidOutB Tryz.prog = true := by kernel_rfl
theorem fn3 : Qv.fns 3 = some Tryz.f3 := by kernel_rfl
theorem wf_i64 {n : Int} (h : (Lit.int .i64 n).wf = true) : i64P n := by
  simp [Lit.wf, IntKind.min, IntKind.max, IntKind.signed, IntKind.bits] at h
  unfold i64P; omega
/-- An argument of the type V: a tree. -/
theorem open_arg {H : Type} {enc : TypeId × Value → H} {W : World} {base : Nat} {v : Value} {d : DataW H} {p : List MemPlace} {F : Nat → Prop} (hF : ∀ b, b < W.heap.size → F b)
    (hv : Value.okWide Tryz.prog W .any base 26 v) (h : DataW.Trod enc Tryz.prog W 0 (fun _ => true) true 26 v d p) :
    ∃ (cs : Array Value) (x : VT), v = .agg cs ∧ x.Fine ∧ x.bk ≤ uptoBulk d ∧ VR noβ F W (.agg cs) (.agg x.cells) := by
  obtain ⟨cs, rfl⟩ : ∃ cs, v = .agg cs := by
    unfold Value.okWide at hv
    rw [Tryz.underlying26] at hv
    obtain ⟨cs, rfl, _⟩ := hv
    exact ⟨cs, rfl⟩
  obtain ⟨fuel, h⟩ := h
  obtain ⟨x, h1, h2, h3, h4⟩ := open_Vb tryV (β := noβ) (F := F) hF fuel _ _ h
  have h3 : cs.size = 4 := h3
  refine ⟨cs, x, rfl, h1, h2, .agg _ _ h3 ?_ fun j c y hc hy => h4 j c y (by simpa [Value.cells] using hc) hy⟩
  intro y hy
  simp only [VT.cells, List.mem_cons, List.not_mem_nil, or_false] at hy
  rcases hy with rfl | rfl | rfl | rfl <;> rfl
/-- An argument of the type []int64: a list. -/
theorem open_ints {H : Type} {enc : TypeId × Value → H} {W : World} {base : Nat} {v : Value} {d : DataW H} {p : List MemPlace} {F : Nat → Prop} (hF : ∀ b, b < W.heap.size → F b)
    (hv : Value.okWide Tryz.prog W .any base 22 v) (h : DataW.Trod enc Tryz.prog W 0 (fun _ => true) true 22 v d p) :
    ∃ (l : List Int), VR noβ F W v (.sl (.i .i64 l)) := by
  obtain ⟨o, a, b, rfl⟩ : ∃ o a b, v = .slice o a b := by
    unfold Value.okWide at hv
    rw [Tryz.underlying22] at hv
    have hv : Cell.okWide Tryz.prog W .any base 22 v := hv
    unfold Cell.okWide at hv
    rw [Tryz.underlying22] at hv
    cases v <;> first | exact ⟨_, _, _, rfl⟩ | (exfalso; simp [Cell.ok, Tryz.underlying22] at hv)
  obtain ⟨fuel, h⟩ := h
  obtain ⟨ns, _, h1⟩ := open_Ib Tryz.underlying22 Tryz.underlying2 (by kernel_rfl) (β := noβ) (F := F) hF h
  exact ⟨ns, h1⟩
theorem parts_any (t n s l) (m : Int) (a : List Int) (fv : (VT.mk t n s l).Fine) (hv : (VT.mk t n s l).bk ≤ 1048576) (hm : i64P m) (W : World) (x y : Value)
    (hx : VR noβ (fun b => b < W.heap.size) W x (.agg (VT.mk t n s l).cells)) (hy : VR noβ (fun b => b < W.heap.size) W y (.sl (.i .i64 a))) :
    Calls Tryz.prog 3 #[x, .int .i64 m, y] W fun e w' => e = .returned (.bool true) ∧ Below W.heap.size W w' := by
  refine flow_law (xs := [.agg (VT.mk t n s l).cells, .int .i64 m, .sl (.i .i64 a)]) (ys := [.agg (VT.mk t n s l).cells, .int .i64 m, .sl (.i .i64 a)])
    (ρ := [.int t, .is n, .ss s, .vs l, .int m, .is a]) (F := fun b => b < W.heap.size) (e0 := 9999) mixed tbOk wOrc fnsOk fn3 w3C_ok (by rfl) (by rfl) (by rfl) (by rfl) (by rfl) ⟨fun _ h => h, rfl, fun j v u hv hu => ?_⟩
    (parts m a t n s l fv hv hm)
  match j, hv, hu with
  | 0, hv, hu => simp at hv hu; subst hv; subst hu; exact hx
  | 1, hv, hu => simp at hv hu; subst hv; subst hu; exact .int _ _
  | 2, hv, hu => simp at hv hu; subst hv; subst hu; exact hy
  | j + 3, hv, hu => simp at hu
theorem vecParts_contract (H : Type) (enc : TypeId × Value → H) (W : World) (base : Nat) (args : Array Value) (ds gs : List (DataW H)) (before : List MemPlace)
    (hval : ∀ (j : Nat) t v, Tryz.f3.params[j]? = some t → args[j]? = some v → Value.okWide Tryz.prog W .any base t v)
    (hW : DataW.Whole enc Tryz.prog Tryz.f3.params.toList Rows.vecPartsSpec.vars false W args.toList ds gs before) (hk : Rows.uptoSmall H (ds ++ gs) = true) :
    Calls Tryz.prog 3 args W fun e W' => ∃ v, e = .returned v ∧ Rows.vecPartsSpec.post enc Tryz.prog Tryz.f3 false true false false W args v W' := by
  have hW' := hW
  obtain ⟨p, q, hA0, hV, rfl, hfz, hnd⟩ := hW
  have hA : DataW.TrodAll enc Tryz.prog W 0 (fun _ => true) true Tryz.f3.params.toList args.toList ds p := hA0
  rw [Tryz.params3] at hA hval
  obtain ⟨v0, vs0, d0, ds0, p0, q0, hargs, rfl, rfl, h0, r0⟩ := trodAll_cons hA
  obtain ⟨v1, vs1, d1, ds1, p1, q1, rfl, rfl, rfl, h1, r1⟩ := trodAll_cons r0
  obtain ⟨v2, vs2, d2, ds2, p2, q2, rfl, rfl, rfl, h2, r2⟩ := trodAll_cons r1
  obtain ⟨rfl, rfl, rfl⟩ := trodAll_nil r2
  obtain rfl : args = #[v0, v1, v2] := by cases args; simp_all
  obtain ⟨rfl, rfl⟩ := trodVars_none hV
  have hk := of_decide_eq_true hk
  simp only [List.append_nil, uptoBulkAll] at hk
  obtain ⟨cs0, x0, rfl, f0, s0, y0⟩ := open_arg (F := fun b => b < W.heap.size) (fun b h => h) (hval 0 26 v0 rfl rfl) h0
  obtain ⟨m, rfl, rfl, rfl, wm⟩ := open_int Tryz.underlying2 (hval 1 2 v1 rfl rfl) h1
  obtain ⟨l2, y2⟩ := open_ints (F := fun b => b < W.heap.size) (fun b h => h) (hval 2 22 v2 rfl rfl) h2
  have hlt : ∀ x ∈ p0 ++ ([] ++ (p2 ++ [])), x.block < W.heap.size := fun x hx => hW'.lt x (by simpa using hx)
  clear hA0
  simp only [List.append_nil, List.nil_append] at hW' hlt
  obtain ⟨t, n, s, l⟩ := x0
  refine (parts_any t n s l m l2 f0 (by omega) (wf_i64 wm) W _ _ y0 y2).mono fun e W' ⟨he, hw⟩ => ?_
  subst he
  refine ⟨_, rfl, _, _, _, [], p0 ++ p2, [], hW', ?_, ?_, ?_, hw.frame _, fun h => by cases h⟩
  · exact trodAll_mk1 (shut_bool Tryz.underlying4 true)
  · have e3 := trodAll_mk3 (Below.trod Tryz.laidOut (by kernel_rfl) (of_decide_eq_true (by kernel_rfl)) h0 hw (fun x hx => hlt x (by simp [hx]))) (shut_int (P := Tryz.prog) (enc := enc) (w := W') (base := 0) (spare := fun b => decide (b < W.heap.size)) (held := true) Tryz.underlying2 wm)
      (Below.trod Tryz.laidOut (by kernel_rfl) (of_decide_eq_true (by kernel_rfl)) h2 hw (fun x hx => hlt x (by simp [hx])))
    rw [show p0 ++ p2 = p0 ++ ([] ++ p2) from by simp]
    exact e3
  · rfl
theorem vecParts_lifted (os : Os) (started : os.Started) (H : Type) (enc : TypeId × Value → H) (F : Stop.Interp) :
    ReturnsInHanded {} Tryz.checked os 3 .any ((Rows.OpenSpec.upto Rows.vecPartsSpec).pre6 enc Tryz.prog Tryz.f3 Rows.vecPartsUptoRow.domain false) (((Rows.OpenSpec.upto Rows.vecPartsSpec).at F).post enc Tryz.prog Tryz.f3 false true false false) := by
  refine returnsInHanded_of_cond (C := Tryz.checked) (s := Rows.OpenSpec.upto Rows.vecPartsSpec) (k := Rows.uptoSmall) rfl Tryz.own started (by kernel_rfl) Tryz.func3
    (OpenSpec.witness (enc := enc) (C := Tryz.checked) (s := Rows.OpenSpec.upto Rows.vecPartsSpec) (k := Rows.uptoSmall) rfl false ⟨#[], #[.agg #[.int .i64 0, .slice none 0 0, .slice none 0 0, .slice none 0 0], .int .i64 0, .slice none 0 0], []⟩ 8 (by kernel_rfl) (by kernel_rfl) (by kernel_rfl)
      (x := ([.agg [.lit (.int .i64 0), .nil, .nil, .nil], .lit (.int .i64 0), .nil], [], [])) (by kernel_rfl) rfl (by kernel_rfl)) ?_
  intro W base args ds gs before hval hW _ hk _
  exact vecParts_contract H enc W base args ds gs before hval hW hk
theorem vecPartsUpto_holds : Rows.VecPartsUptoSaid :=
  OpenClaim.holds_of_cond 3 Tryz.f3 rfl rfl rfl rfl rfl rfl rfl ⟨rfl, rfl, rfl, rfl, rfl⟩ rfl rfl rfl rfl rfl (by kernel_rfl) Tryz.func3 (by kernel_rfl)
    (of_decide_eq_true (by kernel_rfl)) (by unfold Func.isWrapper; first | (rw [if_pos (by decide +kernel)]; kernel_rfl) | (rw [if_neg (by decide +kernel)]; exact ⟨rfl, rfl⟩))
    (fun os started H enc _ F => vecParts_lifted os started H enc F)
#print axioms vecPartsUpto_holds
end Go.Proofs.YteaeogofidakiaaGreat
