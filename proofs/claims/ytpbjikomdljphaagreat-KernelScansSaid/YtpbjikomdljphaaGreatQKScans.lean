/- quiverlaw20.KernelScans: whatever comes in, true is answered. -/
import Derived.Test.YtpbjikomdljphaaGreatQKh
import Derived.Test.YtpbjikomdljphaaGreatQBk
import Derived.Test.YtpbjikomdljphaaGreatRows
import Derived.ProofKit
import Derived.OpenShut
import Derived.WalkKit
set_option linter.unusedVariables false
set_option linter.unusedSimpArgs false
set_option maxRecDepth 100000
namespace Go.Proofs.YtpbjikomdljphaaGreat
open Go Go.ChangeShapes Go.WideShapes Go.ChangeAt Go.RowKit Go.Qv
open Rows (uptoBulk uptoBulkAll)
theorem tryV : VTypes Tryz.prog 26 3 22 2 23 9 24 where
  uV := ⟨_, Tryz.underlying26, by kernel_rfl⟩
  uInt := Tryz.underlying3
  uN := Tryz.underlying22
  uI := Tryz.underlying2
  uS := Tryz.underlying23
  uStr := Tryz.underlying9
  uL := Tryz.underlying24
  cV := by kernel_rfl
  cInt := by kernel_rfl
  cN := by kernel_rfl
  cI := by kernel_rfl
  cS := by kernel_rfl
  cStr := by kernel_rfl
  cL := by kernel_rfl
theorem Tryz.own : ownKnob Tryz.prog.godebug = none := by kernel_rfl
theorem Tryz.laidOut : laidOutB Tryz.prog = true := by kernel_rfl
theorem fn3 : Qv.fns 3 = some Tryz.f3 := by kernel_rfl
/-- An argument of the type V: a tree. -/
theorem open_arg {H : Type} {enc : TypeId × Value → H} {W : World} {base : Nat} {v : Value} {d : DataW H} {p : List MemPlace} {F : Nat → Prop} (hF : ∀ b, b < W.heap.size → F b)
    (hv : Value.okWide Tryz.prog W .any base 26 v) (h : DataW.Trod enc Tryz.prog W 0 (fun _ => true) true 26 v d p) :
    ∃ (cs : Array Value) (x : VT), v = .agg cs ∧ x.Fine ∧ x.bk ≤ uptoBulk d ∧ VR noβ F W (.agg cs) (.agg x.cells) := by
  obtain ⟨cs, rfl⟩ : ∃ cs, v = .agg cs := by
    unfold Value.okWide at hv
    rw [Tryz.underlying26] at hv
    obtain ⟨cs, rfl, _⟩ := hv
    exact ⟨cs, rfl⟩
  obtain ⟨fuel, h⟩ := h
  obtain ⟨x, h1, h2, h3, h4⟩ := open_Vb tryV (β := noβ) (F := F) hF fuel _ _ h
  have h3 : cs.size = 4 := h3
  refine ⟨cs, x, rfl, h1, h2, .agg _ _ h3 ?_ fun j c y hc hy => h4 j c y (by simpa [Value.cells] using hc) hy⟩
  intro y hy
  simp only [VT.cells, List.mem_cons, List.not_mem_nil, or_false] at hy
  rcases hy with rfl | rfl | rfl | rfl <;> rfl
/-- An argument of the type Test: a number, and a tree. -/
theorem open_T {H : Type} {enc : TypeId × Value → H} {W : World} {base : Nat} {v : Value} {d : DataW H} {p : List MemPlace} {F : Nat → Prop} (hF : ∀ b, b < W.heap.size → F b)
    (hv : Value.okWide Tryz.prog W .any base 28 v) (h : DataW.Trod enc Tryz.prog W 0 (fun _ => true) true 28 v d p) :
    ∃ (cs : Array Value) (op : Int) (x : VT), v = .agg cs ∧ x.Fine ∧ VR noβ F W (.agg cs) (.agg (.int .i64 op :: x.cells)) := by
  obtain ⟨cs, rfl⟩ : ∃ cs, v = .agg cs := by
    unfold Value.okWide at hv
    rw [Tryz.underlying28] at hv
    obtain ⟨cs, rfl, _⟩ := hv
    exact ⟨cs, rfl⟩
  obtain ⟨fuel, h⟩ := h
  obtain ⟨xs, n, hn, hxx, hl, hlen, hf⟩ := DataW.trod_struct Tryz.underlying28 h
  rw [show Tryz.prog.cellsOf 28 = 5 from by kernel_rfl] at hl
  have hl' : cs.size = 5 := hl
  have l2 : xs.length = 2 := hlen
  match xs, l2 with
  | [y0, y1], _ =>
    have h0 : DataW.trod enc Tryz.prog W 0 (fun _ => true) true n 3 (((Value.agg cs).cells.toList.drop 0).take (Tryz.prog.cellsOf 3)) = some y0 := hf 0 _ rfl
    have h1 : DataW.trod enc Tryz.prog W 0 (fun _ => true) true n 26 (((Value.agg cs).cells.toList.drop 1).take (Tryz.prog.cellsOf 26)) = some y1 := hf 1 _ rfl
    rw [show Tryz.prog.cellsOf 3 = 1 from by kernel_rfl] at h0
    rw [show Tryz.prog.cellsOf 26 = 4 from by kernel_rfl] at h1
    simp only [Value.cells] at hl h0 h1
    match hcs : cs.toList, hl with
    | [c0, c1, c2, c3, c4], _ =>
      rw [hcs] at h0 h1
      simp only [List.drop_zero, List.drop_succ_cons, List.take_succ_cons, List.take_zero] at h0 h1
      obtain ⟨op, e0, _, w0⟩ := DataW.trod_int tryV.uInt h0
      obtain ⟨x, f1, f2, f3, f4⟩ := open_Vb tryV (β := noβ) (F := F) hF n _ _ h1
      injection e0 with e0
      subst e0
      refine ⟨cs, op, x, rfl, f1, .agg _ _ hl' ?_ fun j c y hc hy => ?_⟩
      · intro y hy
        simp only [VT.cells, List.mem_cons, List.not_mem_nil, or_false] at hy
        rcases hy with rfl | rfl | rfl | rfl | rfl <;> rfl
      · rw [← Array.getElem?_toList, hcs] at hc
        match j, hc, hy with
        | 0, hc, hy => simp at hc hy; subst hc; subst hy; exact .int _ _
        | j + 1, hc, hy => exact f4 j c y (by simpa using hc) (by simpa using hy)
/-- An argument of the type []int. -/
theorem open_ints {H : Type} {enc : TypeId × Value → H} {W : World} {base : Nat} {v : Value} {d : DataW H} {p : List MemPlace} {F : Nat → Prop} (hF : ∀ b, b < W.heap.size → F b)
    (hv : Value.okWide Tryz.prog W .any base 29 v) (h : DataW.Trod enc Tryz.prog W 0 (fun _ => true) true 29 v d p) : ∃ r : List Int, VR noβ F W v (.sl (.i .i64 r)) := by
  obtain ⟨fuel, h⟩ := h
  have hc : v.cells.toList = [v] := by
    unfold Value.okWide at hv
    rw [Tryz.underlying29] at hv
    revert hv
    cases v <;> first | exact fun _ => rfl | exact fun h => nomatch h
  rw [hc] at h
  obtain ⟨r, _, h2⟩ := open_Ib (tN := 29) (tI := 3) Tryz.underlying29 tryV.uInt tryV.cInt (β := noβ) (F := F) hF h
  exact ⟨r, h2⟩
theorem vlen_tl {β : Nat → Option Value} {F : Nat → Prop} {w : World} {v : Value} {x : AV} {a : VT} (h : VR β F w v (.agg (x :: a.cells))) : a.Len := by
  cases h with
  | agg cs _ h1 h2 h3 =>
    refine cells_len (β := β) (F := F) (w := w) _ a (Nat.le_refl _) (fun j y hy => ?_)
    have hj := (List.getElem?_eq_some_iff.1 hy).1
    exact ⟨_, h3 (j + 1) _ y (Array.getElem?_eq_getElem (by simp only [List.length_cons] at h1; omega)) (by simpa using hy)⟩
theorem scans_any (t n s l op t' n' s' l' kind) (r : List Int) (fa : (VT.mk t n s l).Fine) (fb : (VT.mk t' n' s' l').Fine) (W : World) (x y z : Value)
    (hx : VR noβ (fun b => b < W.heap.size) W x (.agg (VT.mk t n s l).cells)) (hy : VR noβ (fun b => b < W.heap.size) W y (.agg (.int .i64 op :: (VT.mk t' n' s' l').cells))) (hz : VR noβ (fun b => b < W.heap.size) W z (.sl (.i .i64 r)))
    (la : (VT.mk t n s l).Len) (lb : (VT.mk t' n' s' l').Len) :
    Calls Tryz.prog 3 #[x, y, .int .i64 kind, z] W fun e w' => e = .returned (.bool true) ∧ Below W.heap.size W w' := by
  refine flow_law (xs := [.agg (VT.mk t n s l).cells, .agg (.int .i64 op :: (VT.mk t' n' s' l').cells), .int .i64 kind, .sl (.i .i64 r)]) (ys := [.agg (VT.mk t n s l).cells, .agg (.int .i64 op :: (VT.mk t' n' s' l').cells), .int .i64 kind, .sl (.i .i64 r)])
    (ρ := [.int t, .is n, .ss s, .vs l, .int op, .int t', .is n', .ss s', .vs l', .int kind, .is r]) (F := fun b => b < W.heap.size) (e0 := 9999) mixed tbF_ok scansOrc fnsOk fn3 w3C_ok (by rfl) (by rfl) (by rfl) (by rfl) (by rfl) ⟨fun _ h => h, rfl, fun j v u hv hu => ?_⟩
    (scansL t n s l op t' n' s' l' kind r fa fb la lb)
  match j, hv, hu with
  | 0, hv, hu => simp at hv hu; subst hv; subst hu; exact hx
  | 1, hv, hu => simp at hv hu; subst hv; subst hu; exact hy
  | 2, hv, hu => simp at hv hu; subst hv; subst hu; exact .int _ _
  | 3, hv, hu => simp at hv hu; subst hv; subst hu; exact hz
  | j + 4, hv, hu => simp at hu
theorem kernelScans_lifted (os : Os) (started : os.Started) (H : Type) (enc : TypeId × Value → H) :
    ReturnsInHanded {} Tryz.checked os 3 .any (Rows.kernelScansSpec.pre6 enc Tryz.prog Tryz.f3 Rows.kernelScansRow.domain false) (Rows.kernelScansSpec.post enc Tryz.prog Tryz.f3 false true false false) := by
  refine returnsInHanded_of_change (C := Tryz.checked) Tryz.own started (by kernel_rfl) Tryz.func3
    (ChangeSpec.witness6 (enc := enc) (C := Tryz.checked) false ⟨#[], #[.agg #[.int .i64 0, .slice none 0 0, .slice none 0 0, .slice none 0 0], .agg #[.int .i64 0, .int .i64 0, .slice none 0 0, .slice none 0 0, .slice none 0 0], .int .i64 0, .slice none 0 0], []⟩ 8 (by kernel_rfl) (by kernel_rfl) (by kernel_rfl) (by kernel_rfl)) ?_
  intro W base args ds gs before hval0 hW hcnd _
  have hval : ∀ (j : Nat) t v, Tryz.f3.params[j]? = some t → args[j]? = some v → Value.okWide Tryz.prog W .any base t v := hval0
  have hW' := hW
  obtain ⟨p, q, hA0, hV, rfl, hfz, hnd⟩ := hW
  have hA : DataW.TrodAll enc Tryz.prog W 0 (fun _ => true) true Tryz.f3.params.toList args.toList ds p := hA0
  rw [Tryz.params3] at hA hval
  obtain ⟨v0, vs0, d0, ds0, p0, q0, hargs, rfl, rfl, h0, r0⟩ := trodAll_cons hA
  obtain ⟨v1, vs1, d1, ds1, p1, q1, rfl, rfl, rfl, h1, r1⟩ := trodAll_cons r0
  obtain ⟨v2, vs2, d2, ds2, p2, q2, rfl, rfl, rfl, h2, r2⟩ := trodAll_cons r1
  obtain ⟨v3, vs3, d3, ds3, p3, q3, rfl, rfl, rfl, h3, r3⟩ := trodAll_cons r2
  obtain ⟨rfl, rfl, rfl⟩ := trodAll_nil r3
  obtain rfl : args = #[v0, v1, v2, v3] := by cases args; simp_all
  obtain ⟨rfl, rfl⟩ := trodVars_none hV
  obtain ⟨cs1, x1, rfl, f1, s1, y1⟩ := open_arg (F := fun b => b < W.heap.size) (fun b h => h) (hval 0 26 v0 rfl rfl) h0
  obtain ⟨cs2, op, x2, rfl, f2, y2⟩ := open_T (F := fun b => b < W.heap.size) (fun b h => h) (hval 1 28 v1 rfl rfl) h1
  obtain ⟨m, rfl, rfl, rfl, wm⟩ := open_int Tryz.underlying3 (hval 2 3 v2 rfl rfl) h2
  obtain ⟨r, y3⟩ := open_ints (F := fun b => b < W.heap.size) (fun b h => h) (hval 3 29 v3 rfl rfl) h3
  have hlt : ∀ x ∈ p0 ++ (p1 ++ ([] ++ (p3 ++ []))), x.block < W.heap.size := fun x hx => hW'.lt x (by simpa using hx)
  clear hA0 hval0
  simp only [List.append_nil, List.nil_append] at hW' hlt
  obtain ⟨t, n, s, l⟩ := x1
  obtain ⟨t', n', s', l'⟩ := x2
  have la := y1.vlen
  have lb : (VT.mk t' n' s' l').Len := vlen_tl y2
  refine (scans_any t n s l op t' n' s' l' m r f1 f2 W _ _ _ y1 y2 y3 la lb).mono fun e W' ⟨he, hw⟩ => ?_
  subst he
  refine ⟨_, rfl, _, _, _, [], p0 ++ (p1 ++ p3), [], hW', ?_, ?_, ?_, hw.frame _, fun h => by cases h⟩
  · exact trodAll_mk1 (shut_bool Tryz.underlying4 true)
  · have e0 := Below.trod Tryz.laidOut (by kernel_rfl) (of_decide_eq_true (by kernel_rfl)) h0 hw (fun x hx => hlt x (by simp [hx]))
    have e1 := Below.trod Tryz.laidOut (by kernel_rfl) (of_decide_eq_true (by kernel_rfl)) h1 hw (fun x hx => hlt x (by simp [hx]))
    have e2 := shut_int (P := Tryz.prog) (enc := enc) (w := W') (base := 0) (spare := fun b => decide (b < W.heap.size)) (held := true) Tryz.underlying3 wm
    have e3 := Below.trod Tryz.laidOut (by kernel_rfl) (of_decide_eq_true (by kernel_rfl)) h3 hw (fun x hx => hlt x (by simp [hx]))
    exact trodAll_mk4 e0 e1 e2 e3
  · rfl
theorem kernelScans_holds : Rows.KernelScansSaid :=
  OpenClaim.holds_of_wide 3 Tryz.f3 rfl rfl rfl rfl rfl rfl rfl ⟨rfl, rfl, rfl, rfl, rfl⟩ rfl rfl rfl rfl rfl (by kernel_rfl) Tryz.func3 (by kernel_rfl)
    (of_decide_eq_true (by kernel_rfl)) (by unfold Func.isWrapper; first | (rw [if_pos (by decide +kernel)]; kernel_rfl) | (rw [if_neg (by decide +kernel)]; exact ⟨rfl, rfl⟩))
    (fun os started H enc _ => kernelScans_lifted os started H enc)
#print axioms kernelScans_holds
end Go.Proofs.YtpbjikomdljphaaGreat
