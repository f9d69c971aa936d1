/- quiverlaw23.CacheNil: no source and a nil Cache answer as the document says, and the live cache does: whatever directory and number are handed in. No condition. -/
import Derived.Test.YtimfkgepcmmmhaaQKeys
set_option linter.unusedVariables false
set_option maxRecDepth 100000
namespace Go.Proofs.Ytimfkgepcmmmhaa
open Go.ChangeShapes Go.WideShapes Go.ChangeAt Go.RowKit Go.Qv

theorem Try.own : ownKnob Try.prog.godebug = none := by kernel_rfl
theorem Try.laidOut : laidOutB Try.prog = true := by kernel_rfl

theorem cacheNil_runs (s : ByteArray) (n : Int) : (inl O.real Qv.tb Qv.fns noOrc noKnown true 300 14 5 0 [.str s, .int .i64 n] []).okB isT = true := by
  kernel_rfl

theorem cacheNil_any (s : ByteArray) (n : Int) (w : World) :
    Calls Try.prog 5 #[.string s, .int .i64 n] w fun e w' => e = .returned (.bool true) ∧ Below w.heap.size w w' := by
  refine closed_call (fn := Try.f5) (by kernel_rfl) tbOk fnsOk (noOrc_ok _ _) (by rfl) (F := fun _ => False) (fun _ h => h.elim) (cs := #[.string s, .int .i64 n]) (xs := [.str s, .int .i64 n]) rfl (fun j v x hv hx => ?_) (cacheNil_runs s n)
  match j, hv, hx with
  | 0, hv, hx => simp at hv hx; subst hv; subst hx; exact .str _
  | 1, hv, hx => simp at hv hx; subst hv; subst hx; exact .int _ _
  | j + 2, hv, hx => simp at hx

theorem cacheNil_lifted (os : Os) (started : os.Started) (H : Type) (enc : TypeId × Value → H) :
    ReturnsInHanded {} Try.checked os 5 .any (Rows.cacheNilSpec.pre6 enc Try.prog Try.f5 Rows.cacheNilRow.domain false) (Rows.cacheNilSpec.post enc Try.prog Try.f5 false true false false) := by
  refine returnsInHanded_of_change (C := Try.checked) Try.own started (by kernel_rfl) Try.func5
    (ChangeSpec.witness6 (enc := enc) (C := Try.checked) false ⟨#[], #[.string ⟨#[]⟩, .int .i64 0], []⟩ 8 (by kernel_rfl) (by kernel_rfl) (by kernel_rfl) (by kernel_rfl)) ?_
  intro W base args ds gs before hval0 hW hcnd _
  have hval : ∀ (j : Nat) t v, Try.f5.params[j]? = some t → args[j]? = some v → Value.okWide Try.prog W .any base t v := hval0
  have hW' := hW
  obtain ⟨p, q, hA0, hV, rfl, hfz, hnd⟩ := hW
  have hA : DataW.TrodAll enc Try.prog W 0 (fun _ => true) true Try.f5.params.toList args.toList ds p := hA0
  rw [Try.params5] at hA hval
  obtain ⟨v0, v1, d0, d1, p0, p1, rfl, rfl, rfl, h0, h1⟩ := trodAll_two hA
  obtain ⟨rfl, rfl⟩ := trodVars_none hV
  have hlt : ∀ x ∈ p0 ++ p1, x.block < W.heap.size := fun x hx => hW'.lt x (by simpa using hx)
  have h0k := h0
  have h1k := h1
  obtain ⟨n, rfl, rfl, rfl, wn⟩ := open_int Try.underlying3 (hval 1 3 v1 rfl rfl) h1
  have hs : ∃ s, v0 = .string s := by
    have := hval 0 9 v0 rfl rfl
    unfold Value.okWide at this
    rw [Try.underlying9] at this
    simp only at this
    unfold Cell.okWide Cell.ok at this
    rw [Try.underlying9] at this
    cases v0 <;> simp at this
    exact ⟨_, rfl⟩
  obtain ⟨s, rfl⟩ := hs
  clear hA0 hval0
  simp only [List.append_nil] at hW' hlt
  refine (cacheNil_any s n W).mono fun e W' ⟨he, hw⟩ => ?_
  subst he
  refine ⟨_, rfl, _, _, _, [], p0, [], hW', ?_, ?_, ?_, hw.frame _, fun h => by cases h⟩
  · exact trodAll_mk1 (shut_bool Try.underlying4 true)
  · have := trodAll_mk2 (Below.trod Try.laidOut (by kernel_rfl) (of_decide_eq_true (by kernel_rfl)) h0k hw hlt) (shut_int (P := Try.prog) (enc := enc) (w := W') (base := 0) (spare := fun b => decide (b < W.heap.size)) (held := true) Try.underlying3 wn)
    rw [List.append_nil] at this
    exact this
  · rfl

theorem cacheNil_holds : Rows.CacheNilSaid :=
  OpenClaim.holds_of_wide 5 Try.f5 rfl rfl rfl rfl rfl rfl rfl ⟨rfl, rfl, rfl, rfl, rfl⟩ rfl rfl rfl rfl rfl (by kernel_rfl) Try.func5 (by kernel_rfl)
    (of_decide_eq_true (by kernel_rfl)) (by unfold Func.isWrapper; first | (rw [if_pos (by decide +kernel)]; kernel_rfl) | (rw [if_neg (by decide +kernel)]; exact ⟨rfl, rfl⟩))
    (fun os started H enc _ => cacheNil_lifted os started H enc)
#print axioms cacheNil_holds
end Go.Proofs.Ytimfkgepcmmmhaa
