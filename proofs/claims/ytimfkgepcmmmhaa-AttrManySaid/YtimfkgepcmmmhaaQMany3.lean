/- quiverlaw09.AttrMany: the vector that is told; the law's own walk. -/
import Derived.Test.YtimfkgepcmmmhaaQMany2
set_option linter.unusedVariables false
set_option maxRecDepth 100000
namespace Go.Proofs.Ytimfkgepcmmmhaa
open Go.RowKit Go.Qv
def kn1 : FuncId → Bool := fun f => Nat.beq f 122 || Nat.beq f 95 || Nat.beq f 92 || Nat.beq f 34
noncomputable abbrev I15 := inl O.real Qv.tb Qv.fns (canon sp0M) kn1 shutM 300 14
theorem I15_ok : OrcOk Try.prog I15 (fun _ => True) := inl_ok mix tbOk fnsOk (canon_ok sp0M_ok) 14
def vecHs (l : List Int) (k : Int) : List (Nat × HObj) := [(0, .cells [.int .i64 1, .own 1, .nils, .nils, .int .i64 k, .mp 2]), (1, .arr 2 (.i .i64 l))]
theorem vec40 (l : List Int) (k : Int) (Q : Option Eff → Prop) : T.ob noB Q (.S (.S .E)) (someT (I15 40 64 [.ptr 0 0] (vecHs l k))) =
    ((tt ∧ tt ∧ ((true = true) ∧ (l.length ≤ many) ∧ True) ∧ tt ∧ tt ∧ tt ∧ tt ∧ tt ∧ tt ∧ tt ∧ tt ∧ tt ∧ tt ∧ tt ∧ tt ∧ True) ∧
     Q (some ⟨.agg [.int .i64 1, .own 64, .nils, .nils], (vecHs l k).map fun p => (p.1, some p.2), [], [.arr 2 (.i .i64 l)]⟩)) := by kernel_rfl
def vecHsC (l : List Int) (k : Int) : List (Nat × HObj) := [(0, .cells [.int .i64 1, .own 1, .own 2, .nils, .int .i64 k, .mp 3]), (1, .arr 2 (.i .i64 l)), (2, .arr 9 (.s []))]
theorem vec40C (l : List Int) (k : Int) (Q : Option Eff → Prop) : T.ob noB Q (.S (.S .E)) (someT (I15 40 64 [.ptr 0 0] (vecHsC l k))) =
    ((tt ∧ tt ∧ ((true = true) ∧ (l.length ≤ many) ∧ True) ∧ tt ∧ tt ∧ ((true = true) ∧ (True ∧ (O.real.fit (O.real.blen []) (O.real.blen []) 16).p ∧ True) ∧ True) ∧ tt ∧ tt ∧ tt ∧ tt ∧ tt ∧ tt ∧ tt ∧ tt ∧ tt ∧ True) ∧
     Q (some ⟨.agg [.int .i64 1, .own 64, .own 65, .nils], (vecHsC l k).map fun p => (p.1, some p.2), [], [.arr 2 (.i .i64 l), .arr 9 (.s [])]⟩)) := by kernel_rfl
noncomputable def spVec : List AV → List (Nat × HObj) → T Eff
  | [.ptr 0 0], (0, .cells [.int .i64 t, .own 1, .nils, .nils, .int .i64 k, .mp 2]) :: (1, .arr 2 (.i .i64 l)) :: _ => reqP (t = 1) (reqP (l.length ≤ many) (.leaf ⟨.agg [.int .i64 1, .sl (.i .i64 l), .nils, .nils], (vecHs l k).map fun p => (p.1, some p.2), [], []⟩))
  | [.ptr 0 0], (0, .cells [.int .i64 t, .own 1, .own 2, .nils, .int .i64 k, .mp 3]) :: (1, .arr 2 (.i .i64 l)) :: (2, .arr 9 (.s [])) :: _ => reqP (t = 1) (reqP (l.length ≤ many) (.leaf ⟨.agg [.int .i64 1, .sl (.i .i64 l), .sl (.s []), .nils], (vecHsC l k).map fun p => (p.1, some p.2), [], []⟩))
  | _, _ => .stuck "vector"
noncomputable def sp1M : Orc0 := fun f xs hs =>
  match Nat.beq f 40 with
  | true => spVec xs hs
  | false => sp0M f xs hs
def kn2 : FuncId → Bool := fun f => Nat.beq f 122 || Nat.beq f 95 || Nat.beq f 92 || Nat.beq f 34 || Nat.beq f 40
def md2 : FuncId → Bool := fun f => !(Nat.beq f 7 || Nat.beq f 37)
noncomputable abbrev I16 := inl O.real Qv.tb Qv.fns (canon sp1M) kn2 md2 300 14
section
attribute [local irreducible] Go.Qv.run Go.Qv.inl Go.Qv.T.bind
theorem sp1M_ok : Orc0Ok Try.prog sp1M := by
  intro f xs hs β F w cs R hp hlen hvr h
  unfold sp1M at h
  split at h
  · rename_i hf
    have hf := Nat.eq_of_beq_eq_true hf
    subst hf
    unfold spVec at h
    split at h
    · rename_i t k l tl
      obtain ⟨rfl, h1⟩ := reqP_sat h
      obtain ⟨h2, h3⟩ := reqP_sat h1
      have hsub : ∀ p ∈ vecHs l k, p ∈ (0, HObj.cells [.int .i64 1, .own 1, .nils, .nils, .int .i64 k, .mp 2]) :: (1, HObj.arr 2 (.i .i64 l)) :: tl := fun p hp => by simp [vecHs] at hp ⊢; rcases hp with rfl | rfl <;> simp
      have hp1 := hp.sub hsub
      refine I15_ok 40 64 [.ptr 0 0] (vecHs l k) β F w cs R trivial hp1 hlen hvr (some_sat (Q := fun o => match o with | none => False | some E => ∀ v' β' F' w', Post (vecHs l k) 64 E β F w v' β' F' w' → R v' w')
        (ob_of noB_ok _ _ (vec40 l k _) ⟨⟨⟨rfl, trivial⟩, ⟨rfl, trivial⟩, ⟨rfl, h2, trivial⟩, ⟨rfl, trivial⟩, ⟨rfl, trivial⟩, ⟨rfl, trivial⟩, ⟨rfl, trivial⟩, ⟨rfl, trivial⟩, ⟨rfl, trivial⟩, ⟨rfl, trivial⟩, ⟨rfl, trivial⟩, ⟨rfl, trivial⟩, ⟨rfl, trivial⟩, ⟨rfl, trivial⟩, ⟨rfl, trivial⟩, trivial⟩, ?_⟩))
      intro v' β' F' w' p
      refine h3 v' β _ w' ((p.freeze hp1 (by rfl) (fun j y hy => ?_) (fun q hq => ?_)).sup hsub)
      · match j, hy with
        | 0, hy => simp at hy; subst hy; exact ⟨_, rfl, .inl rfl⟩
        | 1, hy => simp at hy; subst hy; exact ⟨_, rfl, .inr ⟨0, _, _, rfl, rfl, rfl, rfl⟩⟩
        | 2, hy => simp at hy; subst hy; exact ⟨_, rfl, .inl rfl⟩
        | 3, hy => simp at hy; subst hy; exact ⟨_, rfl, .inl rfl⟩
        | j + 4, hy => simp at hy
      · simp [vecHs] at hq
        rcases hq with rfl | rfl
        · exact ⟨by simp, _, rfl, by rfl⟩
        · exact ⟨by simp, _, rfl, by rfl⟩
    · rename_i t k l tl
      obtain ⟨rfl, h1⟩ := reqP_sat h
      obtain ⟨h2, h3⟩ := reqP_sat h1
      have hsub : ∀ p ∈ vecHsC l k, p ∈ (0, HObj.cells [.int .i64 1, .own 1, .own 2, .nils, .int .i64 k, .mp 3]) :: (1, HObj.arr 2 (.i .i64 l)) :: (2, HObj.arr 9 (.s [])) :: tl := fun p hp => by simp [vecHsC] at hp ⊢; rcases hp with rfl | rfl | rfl <;> simp
      have hp1 := hp.sub hsub
      refine I15_ok 40 64 [.ptr 0 0] (vecHsC l k) β F w cs R trivial hp1 hlen hvr (some_sat (Q := fun o => match o with | none => False | some E => ∀ v' β' F' w', Post (vecHsC l k) 64 E β F w v' β' F' w' → R v' w')
        (ob_of noB_ok _ _ (vec40C l k _) ⟨⟨⟨rfl, trivial⟩, ⟨rfl, trivial⟩, ⟨rfl, h2, trivial⟩, ⟨rfl, trivial⟩, ⟨rfl, trivial⟩, ⟨rfl, ⟨trivial, (by show ((0:Int) + 0) * 16 ≤ 140737488355328; omega), trivial⟩, trivial⟩, ⟨rfl, trivial⟩, ⟨rfl, trivial⟩, ⟨rfl, trivial⟩, ⟨rfl, trivial⟩, ⟨rfl, trivial⟩, ⟨rfl, trivial⟩, ⟨rfl, trivial⟩, ⟨rfl, trivial⟩, ⟨rfl, trivial⟩, trivial⟩, ?_⟩))
      intro v' β' F' w' p
      refine h3 v' β _ w' ((p.freeze hp1 (by rfl) (fun j y hy => ?_) (fun q hq => ?_)).sup hsub)
      · match j, hy with
        | 0, hy => simp at hy; subst hy; exact ⟨_, rfl, .inl rfl⟩
        | 1, hy => simp at hy; subst hy; exact ⟨_, rfl, .inr ⟨0, _, _, rfl, rfl, rfl, rfl⟩⟩
        | 2, hy => simp at hy; subst hy; exact ⟨_, rfl, .inr ⟨1, _, _, rfl, rfl, rfl, rfl⟩⟩
        | 3, hy => simp at hy; subst hy; exact ⟨_, rfl, .inl rfl⟩
        | j + 4, hy => simp at hy
      · simp [vecHsC] at hq
        rcases hq with rfl | rfl | rfl
        · exact ⟨by simp, _, rfl, by rfl⟩
        · exact ⟨by simp, _, rfl, by rfl⟩
        · exact ⟨by simp, _, rfl, by rfl⟩
    · exact h.elim
  · exact sp0M_ok f xs hs β F w cs R hp hlen hvr h
theorem I16_ok : OrcOk Try.prog I16 (fun _ => True) := inl_ok mix tbOk fnsOk (canon_ok sp1M_ok) 14
end
end Go.Proofs.Ytimfkgepcmmmhaa
