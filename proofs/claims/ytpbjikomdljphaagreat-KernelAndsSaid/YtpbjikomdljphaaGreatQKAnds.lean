/- quiverlaw20.KernelAnds: whatever comes in, true is answered. -/
import Derived.Test.YtpbjikomdljphaaGreatQKk
import Derived.Test.YtpbjikomdljphaaGreatQBk
import Derived.Test.YtpbjikomdljphaaGreatRows
import Derived.ProofKit
import Derived.OpenShut
import Derived.WalkKit
set_option linter.unusedVariables false
set_option linter.unusedSimpArgs false
set_option maxRecDepth 100000
namespace Go.Proofs.YtpbjikomdljphaaGreat
open Go Go.ChangeShapes Go.WideShapes Go.ChangeAt Go.RowKit Go.Qv
open Rows (uptoBulk uptoBulkAll)
theorem tryV : VTypes Tryz.prog 26 3 22 2 23 9 24 where
  uV := ⟨_, Tryz.underlying26, by kernel_rfl⟩
  uInt := Tryz.underlying3
  uN := Tryz.underlying22
  uI := Tryz.underlying2
  uS := Tryz.underlying23
  uStr := Tryz.underlying9
  uL := Tryz.underlying24
  cV := by kernel_rfl
  cInt := by kernel_rfl
  cN := by kernel_rfl
  cI := by kernel_rfl
  cS := by kernel_rfl
  cStr := by kernel_rfl
  cL := by kernel_rfl
theorem Tryz.own : ownKnob Tryz.prog.godebug = none := by kernel_rfl
theorem Tryz.laidOut : laidOutB Tryz.prog = true := by kernel_rfl
theorem fn5 : Qv.fns 5 = some Tryz.f5 := by kernel_rfl
/-- An argument of the type V: a tree. -/
theorem open_arg {H : Type} {enc : TypeId × Value → H} {W : World} {base : Nat} {v : Value} {d : DataW H} {p : List MemPlace} {F : Nat → Prop} (hF : ∀ b, b < W.heap.size → F b)
    (hv : Value.okWide Tryz.prog W .any base 26 v) (h : DataW.Trod enc Tryz.prog W 0 (fun _ => true) true 26 v d p) :
    ∃ (cs : Array Value) (x : VT), v = .agg cs ∧ x.Fine ∧ x.bk ≤ uptoBulk d ∧ VR noβ F W (.agg cs) (.agg x.cells) := by
  obtain ⟨cs, rfl⟩ : ∃ cs, v = .agg cs := by
    unfold Value.okWide at hv
    rw [Tryz.underlying26] at hv
    obtain ⟨cs, rfl, _⟩ := hv
    exact ⟨cs, rfl⟩
  obtain ⟨fuel, h⟩ := h
  obtain ⟨x, h1, h2, h3, h4⟩ := open_Vb tryV (β := noβ) (F := F) hF fuel _ _ h
  have h3 : cs.size = 4 := h3
  refine ⟨cs, x, rfl, h1, h2, .agg _ _ h3 ?_ fun j c y hc hy => h4 j c y (by simpa [Value.cells] using hc) hy⟩
  intro y hy
  simp only [VT.cells, List.mem_cons, List.not_mem_nil, or_false] at hy
  rcases hy with rfl | rfl | rfl | rfl <;> rfl
/-- An argument of the type Test: a number, and a tree. -/
theorem open_T {H : Type} {enc : TypeId × Value → H} {W : World} {base : Nat} {v : Value} {d : DataW H} {p : List MemPlace} {F : Nat → Prop} (hF : ∀ b, b < W.heap.size → F b)
    (hv : Value.okWide Tryz.prog W .any base 28 v) (h : DataW.Trod enc Tryz.prog W 0 (fun _ => true) true 28 v d p) :
    ∃ (cs : Array Value) (op : Int) (x : VT), v = .agg cs ∧ x.Fine ∧ VR noβ F W (.agg cs) (.agg (.int .i64 op :: x.cells)) := by
  obtain ⟨cs, rfl⟩ : ∃ cs, v = .agg cs := by
    unfold Value.okWide at hv
    rw [Tryz.underlying28] at hv
    obtain ⟨cs, rfl, _⟩ := hv
    exact ⟨cs, rfl⟩
  obtain ⟨fuel, h⟩ := h
  obtain ⟨xs, n, hn, hxx, hl, hlen, hf⟩ := DataW.trod_struct Tryz.underlying28 h
  rw [show Tryz.prog.cellsOf 28 = 5 from by kernel_rfl] at hl
  have hl' : cs.size = 5 := hl
  have l2 : xs.length = 2 := hlen
  match xs, l2 with
  | [y0, y1], _ =>
    have h0 : DataW.trod enc Tryz.prog W 0 (fun _ => true) true n 3 (((Value.agg cs).cells.toList.drop 0).take (Tryz.prog.cellsOf 3)) = some y0 := hf 0 _ rfl
    have h1 : DataW.trod enc Tryz.prog W 0 (fun _ => true) true n 26 (((Value.agg cs).cells.toList.drop 1).take (Tryz.prog.cellsOf 26)) = some y1 := hf 1 _ rfl
    rw [show Tryz.prog.cellsOf 3 = 1 from by kernel_rfl] at h0
    rw [show Tryz.prog.cellsOf 26 = 4 from by kernel_rfl] at h1
    simp only [Value.cells] at hl h0 h1
    match hcs : cs.toList, hl with
    | [c0, c1, c2, c3, c4], _ =>
      rw [hcs] at h0 h1
      simp only [List.drop_zero, List.drop_succ_cons, List.take_succ_cons, List.take_zero] at h0 h1
      obtain ⟨op, e0, _, w0⟩ := DataW.trod_int tryV.uInt h0
      obtain ⟨x, f1, f2, f3, f4⟩ := open_Vb tryV (β := noβ) (F := F) hF n _ _ h1
      injection e0 with e0
      subst e0
      refine ⟨cs, op, x, rfl, f1, .agg _ _ hl' ?_ fun j c y hc hy => ?_⟩
      · intro y hy
        simp only [VT.cells, List.mem_cons, List.not_mem_nil, or_false] at hy
        rcases hy with rfl | rfl | rfl | rfl | rfl <;> rfl
      · rw [← Array.getElem?_toList, hcs] at hc
        match j, hc, hy with
        | 0, hc, hy => simp at hc hy; subst hc; subst hy; exact .int _ _
        | j + 1, hc, hy => exact f4 j c y (by simpa using hc) (by simpa using hy)
/-- An argument of the type [][]int. -/
theorem open_rows {H : Type} {enc : TypeId × Value → H} {W : World} {base : Nat} {v : Value} {d : DataW H} {p : List MemPlace} {F : Nat → Prop} (hF : ∀ b, b < W.heap.size → F b)
    (hv : Value.okWide Tryz.prog W .any base 45 v) (h : DataW.Trod enc Tryz.prog W 0 (fun _ => true) true 45 v d p) : ∃ r : List (List AV), VR noβ F W v (.sl (.r [.ints .i64] r)) := by
  obtain ⟨fuel, h⟩ := h
  have hc : v.cells.toList = [v] := by
    unfold Value.okWide at hv
    rw [Tryz.underlying45] at hv
    revert hv
    cases v <;> first | exact fun _ => rfl | exact fun h => nomatch h
  rw [hc] at h
  rcases slice_openb (α := List AV) Tryz.underlying45 (fun cs y z => ∃ (c : Value) (ns : List Int), cs = [c] ∧ z = [.sl (.i .i64 ns)] ∧ VR noβ F W c (.sl (.i .i64 ns))) (fun m cs y _ hy => by
      have hl : cs.length = 1 := by
        rcases DataW.trod_slice Tryz.underlying29 hy with ⟨e, _⟩ | ⟨_, _, _, _, _, _, _, e, _⟩ <;> rw [e] <;> rfl
      match cs, hl with
      | [c], _ =>
        obtain ⟨ns, _, h2⟩ := open_Ib (tN := 29) (tI := 3) Tryz.underlying29 tryV.uInt tryV.cInt (β := noβ) (F := F) hF hy
        exact ⟨[.sl (.i .i64 ns)], c, ns, rfl, rfl, h2⟩) h with e | ⟨a, len, cap, l, es, rs, e, q1, q2, q3, q5, q6, q4⟩
  · injection e with e; subst e
    exact ⟨[], .sl0 _ _ _ rfl ⟨by decide, fun e he => by cases he⟩⟩
  · injection e with e; subst e
    refine ⟨l, sl_open (base := 0) hF q3 q1 q2 ⟨by decide, fun z hz => ?_⟩ (fun i el he => ?_)⟩
    · obtain ⟨i, hi, rfl⟩ := List.getElem_of_mem hz
      obtain ⟨_, _, _, _, _, ns, _, e, _⟩ := q4 i _ (List.getElem?_eq_getElem hi)
      rw [e]; rfl
    · simp only [LS.elems] at he
      obtain ⟨cs', _, _, k1, c, ns, k2, k3, k4⟩ := q4 i el he
      rw [show Tryz.prog.cellsOf 29 = 1 from by kernel_rfl] at k1
      refine ⟨cs', k1, fun j x hx => ?_⟩
      subst k2; subst k3
      match j, hx with
      | 0, hx => simp at hx; subst hx; exact ⟨_, rfl, k4⟩
theorem vlen_tl {β : Nat → Option Value} {F : Nat → Prop} {w : World} {v : Value} {x : AV} {a : VT} (h : VR β F w v (.agg (x :: a.cells))) : a.Len := by
  cases h with
  | agg cs _ h1 h2 h3 =>
    refine cells_len (β := β) (F := F) (w := w) _ a (Nat.le_refl _) (fun j y hy => ?_)
    have hj := (List.getElem?_eq_some_iff.1 hy).1
    exact ⟨_, h3 (j + 1) _ y (Array.getElem?_eq_getElem (by simp only [List.length_cons] at h1; omega)) (by simpa using hy)⟩
theorem ands_any (rows : List (List AV)) (t n s l op t' n' s' l' op' t'' n'' s'' l'') (fa : (VT.mk t n s l).Fine) (fb : (VT.mk t' n' s' l').Fine) (fc : (VT.mk t'' n'' s'' l'').Fine) (W : World) (r x y z : Value)
    (hr : VR noβ (fun b => b < W.heap.size) W r (.sl (.r [.ints .i64] rows))) (hx : VR noβ (fun b => b < W.heap.size) W x (.agg (VT.mk t n s l).cells)) (hy : VR noβ (fun b => b < W.heap.size) W y (.agg (.int .i64 op :: (VT.mk t' n' s' l').cells))) (hz : VR noβ (fun b => b < W.heap.size) W z (.agg (.int .i64 op' :: (VT.mk t'' n'' s'' l'').cells)))
    (la : (VT.mk t n s l).Len) (lb : (VT.mk t' n' s' l').Len) (lc : (VT.mk t'' n'' s'' l'').Len) :
    Calls Tryz.prog 5 #[r, x, y, z] W fun e w' => e = .returned (.bool true) ∧ Below W.heap.size W w' := by
  refine flow_law (xs := [.sl (.r [.ints .i64] rows), .agg (VT.mk t n s l).cells, .agg (.int .i64 op :: (VT.mk t' n' s' l').cells), .agg (.int .i64 op' :: (VT.mk t'' n'' s'' l'').cells)]) (ys := [.sl (.r [.ints .i64] rows), .agg (VT.mk t n s l).cells, .agg (.int .i64 op :: (VT.mk t' n' s' l').cells), .agg (.int .i64 op' :: (VT.mk t'' n'' s'' l'').cells)])
    (ρ := [.rs rows, .int t, .is n, .ss s, .vs l, .int op, .int t', .is n', .ss s', .vs l', .int op', .int t'', .is n'', .ss s'', .vs l'']) (F := fun b => b < W.heap.size) (e0 := 9999) mixed tbF_ok andsOrc fnsOk fn5 w5C_ok (by rfl) (by rfl) (by rfl) (by rfl) (by rfl) ⟨fun _ h => h, rfl, fun j v u hv hu => ?_⟩
    (andsL rows t n s l op t' n' s' l' op' t'' n'' s'' l'' fa fb fc la lb lc)
  match j, hv, hu with
  | 0, hv, hu => simp at hv hu; subst hv; subst hu; exact hr
  | 1, hv, hu => simp at hv hu; subst hv; subst hu; exact hx
  | 2, hv, hu => simp at hv hu; subst hv; subst hu; exact hy
  | 3, hv, hu => simp at hv hu; subst hv; subst hu; exact hz
  | j + 4, hv, hu => simp at hu
theorem kernelAnds_lifted (os : Os) (started : os.Started) (H : Type) (enc : TypeId × Value → H) :
    ReturnsInHanded {} Tryz.checked os 5 .any (Rows.kernelAndsSpec.pre6 enc Tryz.prog Tryz.f5 Rows.kernelAndsRow.domain false) (Rows.kernelAndsSpec.post enc Tryz.prog Tryz.f5 false true false false) := by
  refine returnsInHanded_of_change (C := Tryz.checked) Tryz.own started (by kernel_rfl) Tryz.func5
    (ChangeSpec.witness6 (enc := enc) (C := Tryz.checked) false ⟨#[], #[.slice none 0 0, .agg #[.int .i64 0, .slice none 0 0, .slice none 0 0, .slice none 0 0], .agg #[.int .i64 0, .int .i64 0, .slice none 0 0, .slice none 0 0, .slice none 0 0], .agg #[.int .i64 0, .int .i64 0, .slice none 0 0, .slice none 0 0, .slice none 0 0]], []⟩ 8 (by kernel_rfl) (by kernel_rfl) (by kernel_rfl) (by kernel_rfl)) ?_
  intro W base args ds gs before hval0 hW hcnd _
  have hval : ∀ (j : Nat) t v, Tryz.f5.params[j]? = some t → args[j]? = some v → Value.okWide Tryz.prog W .any base t v := hval0
  have hW' := hW
  obtain ⟨p, q, hA0, hV, rfl, hfz, hnd⟩ := hW
  have hA : DataW.TrodAll enc Tryz.prog W 0 (fun _ => true) true Tryz.f5.params.toList args.toList ds p := hA0
  rw [Tryz.params5] at hA hval
  obtain ⟨v0, vs0, d0, ds0, p0, q0, hargs, rfl, rfl, h0, r0⟩ := trodAll_cons hA
  obtain ⟨v1, vs1, d1, ds1, p1, q1, rfl, rfl, rfl, h1, r1⟩ := trodAll_cons r0
  obtain ⟨v2, vs2, d2, ds2, p2, q2, rfl, rfl, rfl, h2, r2⟩ := trodAll_cons r1
  obtain ⟨v3, vs3, d3, ds3, p3, q3, rfl, rfl, rfl, h3, r3⟩ := trodAll_cons r2
  obtain ⟨rfl, rfl, rfl⟩ := trodAll_nil r3
  obtain rfl : args = #[v0, v1, v2, v3] := by cases args; simp_all
  obtain ⟨rfl, rfl⟩ := trodVars_none hV
  obtain ⟨r, y0⟩ := open_rows (F := fun b => b < W.heap.size) (fun b h => h) (hval 0 45 v0 rfl rfl) h0
  obtain ⟨cs1, x1, rfl, f1, s1, y1⟩ := open_arg (F := fun b => b < W.heap.size) (fun b h => h) (hval 1 26 v1 rfl rfl) h1
  obtain ⟨cs2, op, x2, rfl, f2, y2⟩ := open_T (F := fun b => b < W.heap.size) (fun b h => h) (hval 2 28 v2 rfl rfl) h2
  obtain ⟨cs3, op', x3, rfl, f3, y3⟩ := open_T (F := fun b => b < W.heap.size) (fun b h => h) (hval 3 28 v3 rfl rfl) h3
  have hlt : ∀ x ∈ p0 ++ (p1 ++ (p2 ++ (p3 ++ []))), x.block < W.heap.size := fun x hx => hW'.lt x (by simpa using hx)
  clear hA0 hval0
  simp only [List.append_nil, List.nil_append] at hW' hlt
  obtain ⟨t, n, s, l⟩ := x1
  obtain ⟨t', n', s', l'⟩ := x2
  obtain ⟨t'', n'', s'', l''⟩ := x3
  have la := y1.vlen
  have lb : (VT.mk t' n' s' l').Len := vlen_tl y2
  have lc : (VT.mk t'' n'' s'' l'').Len := vlen_tl y3
  refine (ands_any r t n s l op t' n' s' l' op' t'' n'' s'' l'' f1 f2 f3 W _ _ _ _ y0 y1 y2 y3 la lb lc).mono fun e W' ⟨he, hw⟩ => ?_
  subst he
  refine ⟨_, rfl, _, _, _, [], p0 ++ (p1 ++ (p2 ++ p3)), [], hW', ?_, ?_, ?_, hw.frame _, fun h => by cases h⟩
  · exact trodAll_mk1 (shut_bool Tryz.underlying4 true)
  · have e0 := Below.trod Tryz.laidOut (by kernel_rfl) (of_decide_eq_true (by kernel_rfl)) h0 hw (fun x hx => hlt x (by simp [hx]))
    have e1 := Below.trod Tryz.laidOut (by kernel_rfl) (of_decide_eq_true (by kernel_rfl)) h1 hw (fun x hx => hlt x (by simp [hx]))
    have e2 := Below.trod Tryz.laidOut (by kernel_rfl) (of_decide_eq_true (by kernel_rfl)) h2 hw (fun x hx => hlt x (by simp [hx]))
    have e3 := Below.trod Tryz.laidOut (by kernel_rfl) (of_decide_eq_true (by kernel_rfl)) h3 hw (fun x hx => hlt x (by simp [hx]))
    exact trodAll_mk4 e0 e1 e2 e3
  · rfl
theorem kernelAnds_holds : Rows.KernelAndsSaid :=
  OpenClaim.holds_of_wide 5 Tryz.f5 rfl rfl rfl rfl rfl rfl rfl ⟨rfl, rfl, rfl, rfl, rfl⟩ rfl rfl rfl rfl rfl (by kernel_rfl) Tryz.func5 (by kernel_rfl)
    (of_decide_eq_true (by kernel_rfl)) (by unfold Func.isWrapper; first | (rw [if_pos (by decide +kernel)]; kernel_rfl) | (rw [if_neg (by decide +kernel)]; exact ⟨rfl, rfl⟩))
    (fun os started H enc _ => kernelAnds_lifted os started H enc)
#print axioms kernelAnds_holds
end Go.Proofs.YtpbjikomdljphaaGreat
