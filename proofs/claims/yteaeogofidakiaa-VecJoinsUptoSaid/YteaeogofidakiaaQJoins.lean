/- quiverlaw07.VecJoins, WHERE WHAT IT READS IS OF BULK AT MOST 1048576: true is answered. -/
import Derived.Test.YteaeogofidakiaaQPv
import Derived.Test.YteaeogofidakiaaQBk
import Derived.JoinedCond
import Derived.WalkKit
import Derived.ProofKit
import Derived.OpenShut
set_option linter.unusedVariables false
set_option linter.unusedSimpArgs false
set_option maxRecDepth 100000
namespace Go.Proofs.Yteaeogofidakiaa
open Go Go.ChangeShapes Go.WideShapes Go.ChangeAt Go.RowKit Go.Qv
open Rows (uptoBulk uptoBulkAll)
theorem tryV : VTypes Try.prog 28 3 25 2 26 9 22 where
  uV := ⟨_, Try.underlying28, by kernel_rfl⟩
  uInt := Try.underlying3
  uN := Try.underlying25
  uI := Try.underlying2
  uS := Try.underlying26
  uStr := Try.underlying9
  uL := Try.underlying22
  cV := by kernel_rfl
  cInt := by kernel_rfl
  cN := by kernel_rfl
  cI := by kernel_rfl
  cS := by kernel_rfl
  cStr := by kernel_rfl
  cL := by kernel_rfl
theorem Try.own : ownKnob Try.prog.godebug = none := by kernel_rfl
theorem Try.laidOut : laidOutB Try.prog = true := by kernel_rfl
theorem fn3 : Qv.fns 3 = some Try.f3 := by kernel_rfl
/-- An argument of the type []V: a list of trees. -/
theorem open_args {H : Type} {enc : TypeId × Value → H} {W : World} {base : Nat} {v : Value} {d : DataW H} {p : List MemPlace} {F : Nat → Prop} (hF : ∀ b, b < W.heap.size → F b)
    (hv : Value.okWide Try.prog W .any base 22 v) (h : DataW.Trod enc Try.prog W 0 (fun _ => true) true 22 v d p) :
    ∃ (l : List VT), fines l ∧ bks l ≤ uptoBulk d ∧ VR noβ F W v (.sl (.v l)) := by
  obtain ⟨o, a, b, rfl⟩ : ∃ o a b, v = .slice o a b := by
    unfold Value.okWide at hv
    rw [Try.underlying22] at hv
    have hv : Cell.okWide Try.prog W .any base 22 v := hv
    unfold Cell.okWide at hv
    rw [Try.underlying22] at hv
    cases v <;> first | exact ⟨_, _, _, rfl⟩ | (exfalso; simp [Cell.ok, Try.underlying22] at hv)
  obtain ⟨fuel, h⟩ := h
  rcases slice_openb (α := VT) tryV.uL (fun cs d (z : VT) => z.Fine ∧ z.bk ≤ uptoBulk d ∧ cs.length = 4 ∧ ∀ (j : Nat) (c : Value) (y : AV), cs[j]? = some c → z.cells[j]? = some y → VR noβ F W c y) (fun m cs y hm hy => open_Vb tryV (β := noβ) (F := F) hF m cs y hy) h with e | ⟨a, len, cap, l, es, rs, e, q1, q2, q3, q5, q6, q4⟩
  · have e : [Value.slice o a b] = [.slice none 0 0] := e
    injection e with e
    rw [e]
    exact ⟨[], by intro x hx; simp at hx, Nat.zero_le _, .sl0 _ _ _ rfl trivial⟩
  · have e : [Value.slice o _ b] = [.slice (some a) len cap] := e
    injection e with e
    rw [e]
    refine ⟨l, fun z hz => ?_, ?_, sl_open (base := 0) hF q3 q1 q2 trivial (fun i el he => ?_)⟩
    · obtain ⟨i, hi, rfl⟩ := List.getElem_of_mem hz
      obtain ⟨_, _, _, _, hw, _⟩ := q4 i _ (List.getElem?_eq_getElem hi)
      exact hw
    · have q6 : d = DataW.slice es rs := q6
      rw [q6, uptoBulk]
      have := sum_le VT.bk uptoBulk bks uptoBulkAll (by simp [bks]) (fun x l => by simp [bks]) (fun x l => by simp [uptoBulkAll]) l es (by omega) (fun i z y hz hy => by
        obtain ⟨_, y', h1, _, _, h2, _⟩ := q4 i z hz
        rw [hy] at h1; injection h1 with h1; subst h1; exact h2)
      omega
    · simp only [LS.elems, List.getElem?_map] at he
      obtain ⟨z, hz, rfl⟩ := Option.map_eq_some_iff.1 he
      obtain ⟨cs', _, _, k1, _, _, k2, k3⟩ := q4 i z hz
      rw [tryV.cV] at k1
      refine ⟨cs', k1, fun j x hx => ?_⟩
      have hj : j < cs'.length := by have := (List.getElem?_eq_some_iff.1 hx).1; rw [k2]; simpa [VT.cells] using this
      exact ⟨cs'[j], List.getElem?_eq_getElem hj, k3 j _ x (List.getElem?_eq_getElem hj) hx⟩
theorem joins_any (l : List VT) (hf : fines l) (hb : bks l ≤ 1048576) (W : World) (x : Value) (hx : VR noβ (fun b => b < W.heap.size) W x (.sl (.v l))) :
    Calls Try.prog 3 #[x] W fun e w' => e = .returned (.bool true) ∧ Below W.heap.size W w' := by
  refine flow_law (xs := [.sl (.v l)]) (ys := [.sl (.v l)]) (ρ := [.vs l]) (F := fun b => b < W.heap.size) (e0 := 9999) mixed tbOk joinsOrc fnsOk fn3 w3C_ok (by rfl) (by rfl) (by rfl) (by rfl) (by rfl) ⟨fun _ h => h, rfl, fun j v u hv hu => ?_⟩
    (joins l hf hb)
  match j, hv, hu with
  | 0, hv, hu => simp at hv hu; subst hv; subst hu; exact hx
  | j + 1, hv, hu => simp at hu
theorem vecJoins_contract (H : Type) (enc : TypeId × Value → H) (W : World) (base : Nat) (args : Array Value) (ds gs : List (DataW H)) (before : List MemPlace)
    (hval : ∀ (j : Nat) t v, Try.f3.params[j]? = some t → args[j]? = some v → Value.okWide Try.prog W .any base t v)
    (hW : DataW.Whole enc Try.prog Try.f3.params.toList Rows.vecJoinsSpec.vars false W args.toList ds gs before) (hk : Rows.uptoSmall H (ds ++ gs) = true) :
    Calls Try.prog 3 args W fun e W' => ∃ v, e = .returned v ∧ Rows.vecJoinsSpec.post enc Try.prog Try.f3 false true false false W args v W' := by
  have hW' := hW
  obtain ⟨p, q, hA0, hV, rfl, hfz, hnd⟩ := hW
  have hA : DataW.TrodAll enc Try.prog W 0 (fun _ => true) true Try.f3.params.toList args.toList ds p := hA0
  rw [Try.params3] at hA hval
  obtain ⟨v0, vs0, d0, ds0, p0, q0, hargs, rfl, rfl, h0, r0⟩ := trodAll_cons hA
  obtain ⟨rfl, rfl, rfl⟩ := trodAll_nil r0
  obtain rfl : args = #[v0] := by cases args; simp_all
  obtain ⟨rfl, rfl⟩ := trodVars_none hV
  have hk := of_decide_eq_true hk
  simp only [List.append_nil, uptoBulkAll] at hk
  obtain ⟨l, f0, s0, y0⟩ := open_args (F := fun b => b < W.heap.size) (fun b h => h) (hval 0 22 v0 rfl rfl) h0
  have hlt : ∀ x ∈ p0, x.block < W.heap.size := fun x hx => hW'.lt x (by simpa using hx)
  clear hA0
  simp only [List.append_nil, List.nil_append] at hW' hlt
  refine (joins_any l f0 (by omega) W _ y0).mono fun e W' ⟨he, hw⟩ => ?_
  subst he
  refine ⟨_, rfl, _, _, _, [], p0, [], hW', ?_, ?_, ?_, hw.frame _, fun h => by cases h⟩
  · exact trodAll_mk1 (shut_bool Try.underlying4 true)
  · exact trodAll_mk1 (Below.trod Try.laidOut (by kernel_rfl) (of_decide_eq_true (by kernel_rfl)) h0 hw (fun x hx => hlt x hx))
  · rfl
theorem vecJoins_lifted (os : Os) (started : os.Started) (H : Type) (enc : TypeId × Value → H) (F : Stop.Interp) :
    ReturnsInHanded {} Try.checked os 3 .any ((Rows.OpenSpec.upto Rows.vecJoinsSpec).pre6 enc Try.prog Try.f3 Rows.vecJoinsUptoRow.domain false) (((Rows.OpenSpec.upto Rows.vecJoinsSpec).at F).post enc Try.prog Try.f3 false true false false) := by
  refine returnsInHanded_of_cond (C := Try.checked) (s := Rows.OpenSpec.upto Rows.vecJoinsSpec) (k := Rows.uptoSmall) rfl Try.own started (by kernel_rfl) Try.func3
    (OpenSpec.witness (enc := enc) (C := Try.checked) (s := Rows.OpenSpec.upto Rows.vecJoinsSpec) (k := Rows.uptoSmall) rfl false ⟨#[], #[.slice none 0 0], []⟩ 8 (by kernel_rfl) (by kernel_rfl) (by kernel_rfl)
      (x := ([.nil], [], [])) (by kernel_rfl) rfl (by kernel_rfl)) ?_
  intro W base args ds gs before hval hW _ hk _
  exact vecJoins_contract H enc W base args ds gs before hval hW hk
theorem vecJoinsUpto_holds : Rows.VecJoinsUptoSaid :=
  OpenClaim.holds_of_cond 3 Try.f3 rfl rfl rfl rfl rfl rfl rfl ⟨rfl, rfl, rfl, rfl, rfl⟩ rfl rfl rfl rfl rfl (by kernel_rfl) Try.func3 (by kernel_rfl)
    (of_decide_eq_true (by kernel_rfl)) (by unfold Func.isWrapper; first | (rw [if_pos (by decide +kernel)]; kernel_rfl) | (rw [if_neg (by decide +kernel)]; exact ⟨rfl, rfl⟩))
    (fun os started H enc _ F => vecJoins_lifted os started H enc F)
#print axioms vecJoinsUpto_holds
end Go.Proofs.Yteaeogofidakiaa
