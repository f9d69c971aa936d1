/- quiverlaw09.AttrNil: a nil index answers as the document says, and the live index does: whatever value is handed in. No condition. -/
import Derived.Test.YtimfkgepcmmmhaaQKeys
set_option linter.unusedVariables false
set_option maxRecDepth 100000
namespace Go.Proofs.Ytimfkgepcmmmhaa
open Go.ChangeShapes Go.WideShapes Go.ChangeAt Go.RowKit Go.Qv

theorem Try.own : ownKnob Try.prog.godebug = none := by kernel_rfl
theorem Try.laidOut : laidOutB Try.prog = true := by kernel_rfl

theorem cell_one {P : Program} {w : World} {r : Reach} {b : Nat} {t : TypeId} {v : Value} (h : Cell.okWide P w r b t v) : v.oneCell' = true := by
  cases v <;> first | rfl | (unfold Cell.okWide Cell.ok at h; split at h <;> first | (split at h <;> simp_all; done) | simp_all)

theorem attrNil_runs (c0 c1 c2 c3 : Value) : (inl O.real Qv.tb Qv.fns noOrc noKnown true 300 13 12 0 [.agg [.raw c0, .raw c1, .raw c2, .raw c3]] []).okB isT = true := by
  kernel_rfl

theorem attrNil_any (c0 c1 c2 c3 : Value) (h0 : c0.oneCell' = true) (h1 : c1.oneCell' = true) (h2 : c2.oneCell' = true) (h3 : c3.oneCell' = true) (w : World) :
    Calls Try.prog 12 #[.agg #[c0, c1, c2, c3]] w fun e w' => e = .returned (.bool true) ∧ Below w.heap.size w w' := by
  refine closed_call (fn := Try.f12) (by kernel_rfl) tbOk fnsOk (noOrc_ok _ _) (by rfl) (F := fun _ => False) (fun _ h => h.elim) (cs := #[.agg #[c0, c1, c2, c3]]) (xs := [.agg [.raw c0, .raw c1, .raw c2, .raw c3]]) rfl (fun j v x hv hx => ?_) (attrNil_runs c0 c1 c2 c3)
  match j, hv, hx with
  | 0, hv, hx =>
    simp at hv hx
    subst hv; subst hx
    refine .agg _ _ rfl (by intro x hx; simp at hx; rcases hx with rfl | rfl | rfl | rfl <;> rfl) (fun j v x hv hx => ?_)
    match j, hv, hx with
    | 0, hv, hx => simp at hv hx; subst hv; subst hx; exact .raw _ h0
    | 1, hv, hx => simp at hv hx; subst hv; subst hx; exact .raw _ h1
    | 2, hv, hx => simp at hv hx; subst hv; subst hx; exact .raw _ h2
    | 3, hv, hx => simp at hv hx; subst hv; subst hx; exact .raw _ h3
    | j + 4, hv, hx => simp at hx
  | j + 1, hv, hx => simp at hx

theorem attrNil_lifted (os : Os) (started : os.Started) (H : Type) (enc : TypeId × Value → H) :
    ReturnsInHanded {} Try.checked os 12 .any (Rows.attrNilSpec.pre6 enc Try.prog Try.f12 Rows.attrNilRow.domain false) (Rows.attrNilSpec.post enc Try.prog Try.f12 false true false false) := by
  refine returnsInHanded_of_change (C := Try.checked) Try.own started (by kernel_rfl) Try.func12
    (ChangeSpec.witness6 (enc := enc) (C := Try.checked) false ⟨#[], #[.agg #[.int .i64 0, .slice none 0 0, .slice none 0 0, .slice none 0 0]], []⟩ 8 (by kernel_rfl) (by kernel_rfl) (by kernel_rfl) (by kernel_rfl)) ?_
  intro W base args ds gs before hval0 hW hcnd _
  have hval : ∀ (j : Nat) t v, Try.f12.params[j]? = some t → args[j]? = some v → Value.okWide Try.prog W .any base t v := hval0
  have hW' := hW
  obtain ⟨p, q, hA0, hV, rfl, hfz, hnd⟩ := hW
  have hA : DataW.TrodAll enc Try.prog W 0 (fun _ => true) true Try.f12.params.toList args.toList ds p := hA0
  rw [Try.params12] at hA hval
  obtain ⟨v0, d0, rfl, rfl, hd0⟩ := trodAll_one hA
  obtain ⟨rfl, rfl⟩ := trodVars_none hV
  have hv0 := hval 0 37 v0 rfl rfl
  have hcell : ∃ c0 c1 c2 c3, v0 = .agg #[c0, c1, c2, c3] ∧ c0.oneCell' = true ∧ c1.oneCell' = true ∧ c2.oneCell' = true ∧ c3.oneCell' = true := by
    unfold Value.okWide at hv0
    rw [Try.underlying37] at hv0
    obtain ⟨cs, rfl, hsz, ts, _, _, hcs⟩ := hv0
    have hsz : cs.size = 4 := hsz.trans (by kernel_rfl)
    have one : ∀ i (hi : i < cs.size), (cs[i]).oneCell' = true := fun i hi => by
      obtain ⟨u, _, hu⟩ := hcs i _ (Array.getElem?_eq_getElem hi)
      exact cell_one hu
    refine ⟨cs[0], cs[1], cs[2], cs[3], ?_, one 0 (by omega), one 1 (by omega), one 2 (by omega), one 3 (by omega)⟩
    congr 1
    apply Array.ext
    · simpa using hsz
    · intro i h1 h2
      match i, h2 with
      | 0, _ => rfl
      | 1, _ => rfl
      | 2, _ => rfl
      | 3, _ => rfl
  obtain ⟨c0, c1, c2, c3, rfl, o0, o1, o2, o3⟩ := hcell
  have hlt : ∀ x ∈ p, x.block < W.heap.size := fun x hx => hW'.lt x (by simpa using hx)
  clear hA0 hval0
  simp only [List.append_nil] at hW'
  refine (attrNil_any c0 c1 c2 c3 o0 o1 o2 o3 W).mono fun e W' ⟨he, hw⟩ => ?_
  subst he
  refine ⟨_, rfl, _, _, _, [], p, [], hW', ?_, ?_, ?_, hw.frame _, fun h => by cases h⟩
  · exact trodAll_mk1 (shut_bool Try.underlying4 true)
  · exact trodAll_mk1 (Below.trod Try.laidOut (by kernel_rfl) (of_decide_eq_true (by kernel_rfl)) hd0 hw hlt)
  · rfl

theorem attrNil_holds : Rows.AttrNilSaid :=
  OpenClaim.holds_of_wide 12 Try.f12 rfl rfl rfl rfl rfl rfl rfl ⟨rfl, rfl, rfl, rfl, rfl⟩ rfl rfl rfl rfl rfl (by kernel_rfl) Try.func12 (by kernel_rfl)
    (of_decide_eq_true (by kernel_rfl)) (by unfold Func.isWrapper; first | (rw [if_pos (by decide +kernel)]; kernel_rfl) | (rw [if_neg (by decide +kernel)]; exact ⟨rfl, rfl⟩))
    (fun os started H enc _ => attrNil_lifted os started H enc)
#print axioms attrNil_holds
end Go.Proofs.Ytimfkgepcmmmhaa
