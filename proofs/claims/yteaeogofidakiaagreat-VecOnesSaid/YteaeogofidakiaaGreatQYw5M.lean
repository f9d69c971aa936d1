/- Walks of operations on one value, 5. (Printed.) -/
import Derived.Test.YteaeogofidakiaaGreatQYw4M
set_option linter.unusedVariables false
set_option maxRecDepth 100000
namespace Go.Qv
open Go Go.RowKit
noncomputable def w19xC : List Cut := [(⟨9999, ⟨[(0, (.agg [(.int .i64), (.sl (.i .i64)), (.sl .s), (.sl .v)]))], [], 0, 23⟩, [It.code (bodyOf Go.Proofs.Tryz.f19)], []⟩ : Cut)]
theorem w19xC_ok : cutsOk w19xC = true := by kernel_rfl
noncomputable def w19xS  : Nat × List Lf → T Gt := stepX O.real Go.Qv.tb (inl O.real Go.Qv.tb Go.Qv.fns (pureOrc (PS.also 48 sp48x PS.none)) (fun f => Nat.beq f 48) (fun _ => false) 300 14) Go.Proofs.Tryz.f19.results ([]) 0 w19xC
theorem w19x_9999  (t0 : Int) (t0_1 : List Int) (t0_2 : List ByteArray) (t0_3 : List VT) (Q : Gt → Prop) : T.ob noB Q (.S (.S (.S (.S (.S (.S (.D 1 (.S (.D 1 (.S (.D 1 (.S (.D 1 (.S (.D 1 (.S (.D 1 (.S (.D 1 (.S (.D 1 (.S (.D 1 (.S (.D 1 (.S (.D 1 (.S (.D 1 (.S (.D 1 (.S (.D 1 (.S (.D 1 (.S (.B (.S .E) (.S (.S .E))))))))))))))))))))))))))))))))))))))) (w19xS  (9999, [Lf.int t0, Lf.is t0_1, Lf.ss t0_2, Lf.vs t0_3])) =
  ((((O.real.lt t0 (0 : Int)) = Bool.true) → True) ∧ ((((O.real.lt t0 (0 : Int)) = Bool.false) → True) ∧ ((((O.real.eq (O.real.isel (O.real.lt t0 (0 : Int)) (O.real.neg IntKind.i64 t0) t0) (1 : Int)) = Bool.true) → True) ∧ ((((O.real.eq (O.real.isel (O.real.lt t0 (0 : Int)) (O.real.neg IntKind.i64 t0) t0) (1 : Int)) = Bool.false) → True) ∧ ((((O.real.lt t0 (0 : Int)) = Bool.true) → True) ∧ ((((O.real.lt t0 (0 : Int)) = Bool.false) → True) ∧ ((((O.real.le (1 : Int) (O.real.isel (O.real.lt t0 (0 : Int)) (O.real.neg IntKind.i64 t0) t0)) = Bool.true) → True) ∧ ((((O.real.le (1 : Int) (O.real.isel (O.real.lt t0 (0 : Int)) (O.real.neg IntKind.i64 t0) t0)) = Bool.true) → True) ∧ ((((O.real.and (O.real.le (1 : Int) (O.real.isel (O.real.lt t0 (0 : Int)) (O.real.neg IntKind.i64 t0) t0)) (O.real.le (O.real.isel (O.real.lt t0 (0 : Int)) (O.real.neg IntKind.i64 t0) t0) (5 : Int))) = Bool.true) → True) ∧ ((((O.real.and (O.real.le (1 : Int) (O.real.isel (O.real.lt t0 (0 : Int)) (O.real.neg IntKind.i64 t0) t0)) (O.real.le (O.real.isel (O.real.lt t0 (0 : Int)) (O.real.neg IntKind.i64 t0) t0) (5 : Int))) = Bool.true) → True) ∧ ((((O.real.and (O.real.le (1 : Int) (O.real.isel (O.real.lt t0 (0 : Int)) (O.real.neg IntKind.i64 t0) t0)) (O.real.le (O.real.isel (O.real.lt t0 (0 : Int)) (O.real.neg IntKind.i64 t0) t0) (5 : Int))) = Bool.true) → True) ∧ ((((O.real.and (O.real.le (1 : Int) (O.real.isel (O.real.lt t0 (0 : Int)) (O.real.neg IntKind.i64 t0) t0)) (O.real.le (O.real.isel (O.real.lt t0 (0 : Int)) (O.real.neg IntKind.i64 t0) t0) (5 : Int))) = Bool.true) → True) ∧ ((((O.real.lt (0 : Int) t0) = Bool.false) → (((O.real.and (O.real.le (1 : Int) (O.real.isel (O.real.lt t0 (0 : Int)) (O.real.neg IntKind.i64 t0) t0)) (O.real.le (O.real.isel (O.real.lt t0 (0 : Int)) (O.real.neg IntKind.i64 t0) t0) (5 : Int))) = Bool.true) → True)) ∧ ((((O.real.lt (0 : Int) t0) = Bool.false) → (((O.real.and (O.real.le (1 : Int) (O.real.isel (O.real.lt t0 (0 : Int)) (O.real.neg IntKind.i64 t0) t0)) (O.real.le (O.real.isel (O.real.lt t0 (0 : Int)) (O.real.neg IntKind.i64 t0) t0) (5 : Int))) = Bool.true) → ((Bool.true = Bool.true) ∧ ((((O.real.lt t0 (0 : Int)) = Bool.true) → True) ∧ ((Bool.true = Bool.true) ∧ ((((O.real.lt t0 (0 : Int)) = Bool.true) → True) ∧ ((Bool.true = Bool.true) ∧ ((((O.real.lt t0 (0 : Int)) = Bool.true) → True) ∧ True)))))))) ∧ ((((O.real.and (O.real.le (1 : Int) (O.real.isel (O.real.lt t0 (0 : Int)) (O.real.neg IntKind.i64 t0) t0)) (O.real.le (O.real.isel (O.real.lt t0 (0 : Int)) (O.real.neg IntKind.i64 t0) t0) (5 : Int))) = Bool.true) → True) ∧ ((((O.real.not (O.real.and (O.real.and (O.real.le (1 : Int) (O.real.isel (O.real.lt t0 (0 : Int)) (O.real.neg IntKind.i64 t0) t0)) (O.real.le (O.real.isel (O.real.lt t0 (0 : Int)) (O.real.neg IntKind.i64 t0) t0) (5 : Int))) (O.real.or (O.real.lt (0 : Int) t0) (O.real.and (O.real.lt t0 (0 : Int)) (O.real.le (Int.negSucc 4) t0))))) = Bool.false) → True) ∧ ((((O.real.not (O.real.and (O.real.and (O.real.le (1 : Int) (O.real.isel (O.real.lt t0 (0 : Int)) (O.real.neg IntKind.i64 t0) t0)) (O.real.le (O.real.isel (O.real.lt t0 (0 : Int)) (O.real.neg IntKind.i64 t0) t0) (5 : Int))) (O.real.or (O.real.lt (0 : Int) t0) (O.real.and (O.real.lt t0 (0 : Int)) (O.real.le (Int.negSucc 4) t0))))) = Bool.false) → True) ∧ ((((O.real.not (O.real.and (O.real.and (O.real.le (1 : Int) (O.real.isel (O.real.lt t0 (0 : Int)) (O.real.neg IntKind.i64 t0) t0)) (O.real.le (O.real.isel (O.real.lt t0 (0 : Int)) (O.real.neg IntKind.i64 t0) t0) (5 : Int))) (O.real.or (O.real.lt (0 : Int) t0) (O.real.and (O.real.lt t0 (0 : Int)) (O.real.le (Int.negSucc 4) t0))))) = Bool.false) → True) ∧ ((((O.real.not (O.real.eq (O.real.isel (O.real.eq (O.real.isel (O.real.lt t0 (0 : Int)) (O.real.neg IntKind.i64 t0) t0) (1 : Int)) (2 : Int) (O.real.isel (O.real.lt t0 (0 : Int)) (O.real.neg IntKind.i64 t0) t0)) (2 : Int))) = Bool.true) → (((O.real.not (O.real.and (O.real.and (O.real.le (1 : Int) (O.real.isel (O.real.lt t0 (0 : Int)) (O.real.neg IntKind.i64 t0) t0)) (O.real.le (O.real.isel (O.real.lt t0 (0 : Int)) (O.real.neg IntKind.i64 t0) t0) (5 : Int))) (O.real.or (O.real.lt (0 : Int) t0) (O.real.and (O.real.lt t0 (0 : Int)) (O.real.le (Int.negSucc 4) t0))))) = Bool.false) → True)) ∧ ((((O.real.not (O.real.eq (O.real.isel (O.real.eq (O.real.isel (O.real.lt t0 (0 : Int)) (O.real.neg IntKind.i64 t0) t0) (1 : Int)) (2 : Int) (O.real.isel (O.real.lt t0 (0 : Int)) (O.real.neg IntKind.i64 t0) t0)) (2 : Int))) = Bool.true) → (((O.real.not (O.real.and (O.real.and (O.real.le (1 : Int) (O.real.isel (O.real.lt t0 (0 : Int)) (O.real.neg IntKind.i64 t0) t0)) (O.real.le (O.real.isel (O.real.lt t0 (0 : Int)) (O.real.neg IntKind.i64 t0) t0) (5 : Int))) (O.real.or (O.real.lt (0 : Int) t0) (O.real.and (O.real.lt t0 (0 : Int)) (O.real.le (Int.negSucc 4) t0))))) = Bool.false) → True)) ∧ ((((O.real.not (O.real.and (O.real.and (O.real.le (1 : Int) (O.real.isel (O.real.lt t0 (0 : Int)) (O.real.neg IntKind.i64 t0) t0)) (O.real.le (O.real.isel (O.real.lt t0 (0 : Int)) (O.real.neg IntKind.i64 t0) t0) (5 : Int))) (O.real.or (O.real.lt (0 : Int) t0) (O.real.and (O.real.lt t0 (0 : Int)) (O.real.le (Int.negSucc 4) t0))))) = Bool.false) → True) ∧ (((O.real.or (O.real.not (O.real.and (O.real.and (O.real.le (1 : Int) (O.real.isel (O.real.lt t0 (0 : Int)) (O.real.neg IntKind.i64 t0) t0)) (O.real.le (O.real.isel (O.real.lt t0 (0 : Int)) (O.real.neg IntKind.i64 t0) t0) (5 : Int))) (O.real.or (O.real.lt (0 : Int) t0) (O.real.and (O.real.lt t0 (0 : Int)) (O.real.le (Int.negSucc 4) t0))))) (O.real.and (O.real.not (O.real.eq (O.real.isel (O.real.eq (O.real.isel (O.real.lt t0 (0 : Int)) (O.real.neg IntKind.i64 t0) t0) (1 : Int)) (2 : Int) (O.real.isel (O.real.lt t0 (0 : Int)) (O.real.neg IntKind.i64 t0) t0)) (2 : Int))) (O.real.not (O.real.eq (O.real.isel (O.real.eq (O.real.isel (O.real.lt t0 (0 : Int)) (O.real.neg IntKind.i64 t0) t0) (1 : Int)) (2 : Int) (O.real.isel (O.real.lt t0 (0 : Int)) (O.real.neg IntKind.i64 t0) t0)) (5 : Int))))) = true → Q (.inr ⟨(AV.tup [(AV.agg [(AV.int IntKind.i64 (0 : Int)), AV.nils, AV.nils, AV.nils]), (AV.int IntKind.i64 (31 : Int))]), [], [], []⟩)) ∧ ((O.real.or (O.real.not (O.real.and (O.real.and (O.real.le (1 : Int) (O.real.isel (O.real.lt t0 (0 : Int)) (O.real.neg IntKind.i64 t0) t0)) (O.real.le (O.real.isel (O.real.lt t0 (0 : Int)) (O.real.neg IntKind.i64 t0) t0) (5 : Int))) (O.real.or (O.real.lt (0 : Int) t0) (O.real.and (O.real.lt t0 (0 : Int)) (O.real.le (Int.negSucc 4) t0))))) (O.real.and (O.real.not (O.real.eq (O.real.isel (O.real.eq (O.real.isel (O.real.lt t0 (0 : Int)) (O.real.neg IntKind.i64 t0) t0) (1 : Int)) (2 : Int) (O.real.isel (O.real.lt t0 (0 : Int)) (O.real.neg IntKind.i64 t0) t0)) (2 : Int))) (O.real.not (O.real.eq (O.real.isel (O.real.eq (O.real.isel (O.real.lt t0 (0 : Int)) (O.real.neg IntKind.i64 t0) t0) (1 : Int)) (2 : Int) (O.real.isel (O.real.lt t0 (0 : Int)) (O.real.neg IntKind.i64 t0) t0)) (5 : Int))))) = false → ((tame (VT.mk t0 t0_1 t0_2 t0_3)) ∧ Q (.inr ⟨(AV.tup [(AV.agg [(AV.int IntKind.i64 (VT.t (eachV (VT.mk t0 t0_1 t0_2 t0_3) (O.real.isel (O.real.eq (O.real.isel (O.real.lt t0 (0 : Int)) (O.real.neg IntKind.i64 t0) t0) (1 : Int)) (2 : Int) (O.real.isel (O.real.lt t0 (0 : Int)) (O.real.neg IntKind.i64 t0) t0)) (negI t0_1)))), (AV.sl (LS.i IntKind.i64 (VT.n (eachV (VT.mk t0 t0_1 t0_2 t0_3) (O.real.isel (O.real.eq (O.real.isel (O.real.lt t0 (0 : Int)) (O.real.neg IntKind.i64 t0) t0) (1 : Int)) (2 : Int) (O.real.isel (O.real.lt t0 (0 : Int)) (O.real.neg IntKind.i64 t0) t0)) (negI t0_1))))), (AV.sl (LS.s (VT.s (eachV (VT.mk t0 t0_1 t0_2 t0_3) (O.real.isel (O.real.eq (O.real.isel (O.real.lt t0 (0 : Int)) (O.real.neg IntKind.i64 t0) t0) (1 : Int)) (2 : Int) (O.real.isel (O.real.lt t0 (0 : Int)) (O.real.neg IntKind.i64 t0) t0)) (negI t0_1))))), (AV.sl (LS.v (VT.l (eachV (VT.mk t0 t0_1 t0_2 t0_3) (O.real.isel (O.real.eq (O.real.isel (O.real.lt t0 (0 : Int)) (O.real.neg IntKind.i64 t0) t0) (1 : Int)) (2 : Int) (O.real.isel (O.real.lt t0 (0 : Int)) (O.real.neg IntKind.i64 t0) t0)) (negI t0_1)))))]), (AV.int IntKind.i64 (0 : Int))]), [], [], []⟩))))))))))))))))))))))))) := by kernel_rfl

noncomputable def w21xC : List Cut := [(⟨9999, ⟨[(0, (.agg [(.int .i64), (.sl (.i .i64)), (.sl .s), (.sl .v)]))], [], 0, 10⟩, [It.code (bodyOf Go.Proofs.Tryz.f21)], []⟩ : Cut)]
theorem w21xC_ok : cutsOk w21xC = true := by kernel_rfl
noncomputable def w21xS  : Nat × List Lf → T Gt := stepX O.real Go.Qv.tb (inl O.real Go.Qv.tb Go.Qv.fns (pureOrc (PS.also 48 sp48x PS.none)) (fun f => Nat.beq f 48) (fun _ => false) 300 14) Go.Proofs.Tryz.f21.results ([]) 0 w21xC
theorem w21x_9999  (t0 : Int) (t0_1 : List Int) (t0_2 : List ByteArray) (t0_3 : List VT) (Q : Gt → Prop) : T.ob noB Q (.D 1 (.S (.D 1 (.S (.S (.S (.D 1 (.S (.D 1 (.S (.D 1 (.S (.D 1 (.S (.D 1 (.S (.D 1 (.S (.B (.S .E) (.S (.S .E))))))))))))))))))))) (w21xS  (9999, [Lf.int t0, Lf.is t0_1, Lf.ss t0_2, Lf.vs t0_3])) =
  ((((O.real.lt t0 (0 : Int)) = Bool.true) → True) ∧ ((((O.real.lt t0 (0 : Int)) = Bool.true) → True) ∧ ((((O.real.and (O.real.lt t0 (0 : Int)) (O.real.le (Int.negSucc 4) t0)) = Bool.true) → True) ∧ ((((O.real.and (O.real.lt t0 (0 : Int)) (O.real.le (Int.negSucc 4) t0)) = Bool.false) → True) ∧ ((((O.real.le (1 : Int) (O.real.isel (O.real.and (O.real.lt t0 (0 : Int)) (O.real.le (Int.negSucc 4) t0)) (O.real.neg IntKind.i64 t0) t0)) = Bool.true) → True) ∧ ((((O.real.le (1 : Int) (O.real.isel (O.real.and (O.real.lt t0 (0 : Int)) (O.real.le (Int.negSucc 4) t0)) (O.real.neg IntKind.i64 t0) t0)) = Bool.true) → True) ∧ ((((O.real.and (O.real.le (1 : Int) (O.real.isel (O.real.and (O.real.lt t0 (0 : Int)) (O.real.le (Int.negSucc 4) t0)) (O.real.neg IntKind.i64 t0) t0)) (O.real.le (O.real.isel (O.real.and (O.real.lt t0 (0 : Int)) (O.real.le (Int.negSucc 4) t0)) (O.real.neg IntKind.i64 t0) t0) (5 : Int))) = Bool.true) → True) ∧ ((((O.real.and (O.real.le (1 : Int) (O.real.isel (O.real.and (O.real.lt t0 (0 : Int)) (O.real.le (Int.negSucc 4) t0)) (O.real.neg IntKind.i64 t0) t0)) (O.real.le (O.real.isel (O.real.and (O.real.lt t0 (0 : Int)) (O.real.le (Int.negSucc 4) t0)) (O.real.neg IntKind.i64 t0) t0) (5 : Int))) = Bool.true) → True) ∧ ((((O.real.and (O.real.le (1 : Int) (O.real.isel (O.real.and (O.real.lt t0 (0 : Int)) (O.real.le (Int.negSucc 4) t0)) (O.real.neg IntKind.i64 t0) t0)) (O.real.le (O.real.isel (O.real.and (O.real.lt t0 (0 : Int)) (O.real.le (Int.negSucc 4) t0)) (O.real.neg IntKind.i64 t0) t0) (5 : Int))) = Bool.true) → ((Bool.true = Bool.true) ∧ ((((O.real.lt t0 (0 : Int)) = Bool.true) → True) ∧ ((Bool.true = Bool.true) ∧ ((((O.real.lt t0 (0 : Int)) = Bool.true) → True) ∧ ((((O.real.and (O.real.lt t0 (0 : Int)) (O.real.le (Int.negSucc 4) t0)) = Bool.true) → True) ∧ ((((O.real.and (O.real.lt t0 (0 : Int)) (O.real.le (Int.negSucc 4) t0)) = Bool.false) → True) ∧ True))))))) ∧ ((((O.real.and (O.real.le (1 : Int) (O.real.isel (O.real.and (O.real.lt t0 (0 : Int)) (O.real.le (Int.negSucc 4) t0)) (O.real.neg IntKind.i64 t0) t0)) (O.real.le (O.real.isel (O.real.and (O.real.lt t0 (0 : Int)) (O.real.le (Int.negSucc 4) t0)) (O.real.neg IntKind.i64 t0) t0) (5 : Int))) = Bool.true) → True) ∧ (((O.real.not (O.real.and (O.real.and (O.real.le (1 : Int) (O.real.isel (O.real.and (O.real.lt t0 (0 : Int)) (O.real.le (Int.negSucc 4) t0)) (O.real.neg IntKind.i64 t0) t0)) (O.real.le (O.real.isel (O.real.and (O.real.lt t0 (0 : Int)) (O.real.le (Int.negSucc 4) t0)) (O.real.neg IntKind.i64 t0) t0) (5 : Int))) (O.real.not (O.real.eq (O.real.isel (O.real.and (O.real.lt t0 (0 : Int)) (O.real.le (Int.negSucc 4) t0)) (O.real.neg IntKind.i64 t0) t0) (3 : Int))))) = true → Q (.inr ⟨(AV.tup [(AV.agg [(AV.int IntKind.i64 (0 : Int)), AV.nils, AV.nils, AV.nils]), (AV.int IntKind.i64 (31 : Int))]), [], [], []⟩)) ∧ ((O.real.not (O.real.and (O.real.and (O.real.le (1 : Int) (O.real.isel (O.real.and (O.real.lt t0 (0 : Int)) (O.real.le (Int.negSucc 4) t0)) (O.real.neg IntKind.i64 t0) t0)) (O.real.le (O.real.isel (O.real.and (O.real.lt t0 (0 : Int)) (O.real.le (Int.negSucc 4) t0)) (O.real.neg IntKind.i64 t0) t0) (5 : Int))) (O.real.not (O.real.eq (O.real.isel (O.real.and (O.real.lt t0 (0 : Int)) (O.real.le (Int.negSucc 4) t0)) (O.real.neg IntKind.i64 t0) t0) (3 : Int))))) = false → ((tame (VT.mk t0 t0_1 t0_2 t0_3)) ∧ Q (.inr ⟨(AV.tup [(AV.agg [(AV.int IntKind.i64 (VT.t (eachV (VT.mk t0 t0_1 t0_2 t0_3) (1 : Int) (notI t0_1)))), (AV.sl (LS.i IntKind.i64 (VT.n (eachV (VT.mk t0 t0_1 t0_2 t0_3) (1 : Int) (notI t0_1))))), (AV.sl (LS.s (VT.s (eachV (VT.mk t0 t0_1 t0_2 t0_3) (1 : Int) (notI t0_1))))), (AV.sl (LS.v (VT.l (eachV (VT.mk t0 t0_1 t0_2 t0_3) (1 : Int) (notI t0_1)))))]), (AV.int IntKind.i64 (0 : Int))]), [], [], []⟩)))))))))))))) := by kernel_rfl

noncomputable def w25xC : List Cut := [(⟨12, ⟨[(2, (.one (.ptr 64 0))), (3, (.one (.fix (.int IntKind.i64 (0 : Int))))), (4, (.one (.ptr 960 0))), (5, (.one (.int IntKind.i64))), (6, (.one (.int IntKind.i64))), (22, (.one (.sl (.i IntKind.i64)))), (23, (.one (.int IntKind.i64))), (24, (.one (.int IntKind.i64))), (36, (.one (.int IntKind.i64))), (37, (.one (.int IntKind.i64)))], [(64, (.cells [(.fix (.int IntKind.i64 (0 : Int))), (.fix .nils), (.fix .nils), (.fix .nils)])), (960, (.cells [(.fix (.int IntKind.i64 (2 : Int))), (.own 1345), (.fix .nils), (.fix .nils)])), (1345, (.arr 2 (.i IntKind.i64)))], 1408, 48⟩, (codeAt Go.Proofs.Tryz.f25 12), []⟩ : Cut),
  (⟨9999, ⟨[(0, (.agg [(.int .i64), (.sl (.i .i64)), (.sl .s), (.sl .v)]))], [], 0, 48⟩, [It.code (bodyOf Go.Proofs.Tryz.f25)], []⟩ : Cut),
  (⟨7, ⟨[(2, (.one (.ptr 64 0))), (3, (.one (.fix (.int IntKind.i64 (0 : Int))))), (4, (.one (.ptr 960 0))), (22, (.one (.sl (.i IntKind.i64)))), (23, (.one (.int IntKind.i64))), (24, (.one (.int IntKind.i64)))], [(64, (.cells [(.fix (.int IntKind.i64 (0 : Int))), (.fix .nils), (.fix .nils), (.fix .nils)])), (960, (.cells [(.fix (.int IntKind.i64 (2 : Int))), (.own 1346), (.fix .nils), (.fix .nils)])), (1346, (.arr 2 (.i IntKind.i64)))], 1408, 48⟩, (codeAt Go.Proofs.Tryz.f25 7), []⟩ : Cut)]
theorem w25xC_ok : cutsOk w25xC = true := by kernel_rfl
noncomputable def w25xS  : Nat × List Lf → T Gt := stepX O.real Go.Qv.tb (inl O.real Go.Qv.tb Go.Qv.fns (pureOrc (PS.also 91 sp91x PS.none)) (fun f => Nat.beq f 91) (fun _ => false) 300 14) Go.Proofs.Tryz.f25.results ([]) 0 w25xC
theorem w25x_12  (t5 : Int) (t6 : Int) (t22 : List Int) (t23 : Int) (t24 : Int) (t36 : Int) (t37 : Int) (h1345 : List Int) (Q : Gt → Prop) : T.ob noB Q (.B (.S (.S .E)) (.S .E)) (w25xS  (12, [Lf.int t5, Lf.int t6, Lf.is t22, Lf.int t23, Lf.int t24, Lf.int t36, Lf.int t37, Lf.is h1345])) =
  (((O.real.lt t37 t36) = true → (((O.real.fit (O.real.ilen h1345) (O.real.ilen [t5]) 8)).p ∧ Q (.inl (12, [(Lf.int t5), (Lf.int t6), (Lf.is t22), (Lf.int t23), (Lf.int t24), (Lf.int t36), (Lf.int (O.real.add IntKind.i64 t37 (1 : Int))), (Lf.is (O.real.iapp h1345 [t5]))])))) ∧ ((O.real.lt t37 t36) = false → Q (.inl (7, [(Lf.is t22), (Lf.int t23), (Lf.int (O.real.add IntKind.i64 t24 (1 : Int))), (Lf.is h1345)])))) := by kernel_rfl
theorem w25x_9999  (t0 : Int) (t0_1 : List Int) (t0_2 : List ByteArray) (t0_3 : List VT) (Q : Gt → Prop) : T.ob noB Q (.D 1 (.S (.D 1 (.S (.D 1 (.S (.B (.S .E) (.B (.S .E) (.D 11 (.S (.S .E))))))))))) (w25xS  (9999, [Lf.int t0, Lf.is t0_1, Lf.ss t0_2, Lf.vs t0_3])) =
  ((((O.real.not (O.real.eq t0 (1 : Int))) = Bool.true) → True) ∧ ((((O.real.not (O.real.eq t0 (1 : Int))) = Bool.true) → True) ∧ ((((O.real.not (O.real.eq t0 (1 : Int))) = Bool.true) → True) ∧ (((O.real.and (O.real.not (O.real.eq t0 (1 : Int))) (O.real.not (O.real.eq t0 (2 : Int)))) = true → Q (.inr ⟨(AV.tup [(AV.agg [(AV.int IntKind.i64 (0 : Int)), AV.nils, AV.nils, AV.nils]), (AV.int IntKind.i64 (31 : Int))]), [], [], []⟩)) ∧ ((O.real.and (O.real.not (O.real.eq t0 (1 : Int))) (O.real.not (O.real.eq t0 (2 : Int)))) = false → (((O.real.le (0 : Int) (negIdx t0_1 (0 : Int))) = true → Q (.inr ⟨(AV.tup [(AV.agg [(AV.int IntKind.i64 (0 : Int)), AV.nils, AV.nils, AV.nils]), (AV.int IntKind.i64 (2 : Int))]), [], [], []⟩)) ∧ ((O.real.le (0 : Int) (negIdx t0_1 (0 : Int))) = false → ((codeAt Go.Proofs.Tryz.f25 7 = codeAt Go.Proofs.Tryz.f25 7) ∧ Q (.inl (7, [(Lf.is t0_1), (Lf.int (O.real.ilen t0_1)), (Lf.int (0 : Int)), (Lf.is [])])))))))))) := by kernel_rfl
theorem w25x_7  (t22 : List Int) (t23 : Int) (t24 : Int) (h1346 : List Int) (Q : Gt → Prop) : T.ob noB Q (.B (.S (.B (.S .E) (.S (.S .E)))) (.S .E)) (w25xS  (7, [Lf.is t22, Lf.int t23, Lf.int t24, Lf.is h1346])) =
  (((O.real.lt t24 t23) = true → (((O.real.inb t24 (O.real.ilen t22))).p ∧ (((O.real.lt (O.real.sub IntKind.i64 (65536 : Int) (O.real.ilen h1346)) (O.real.iget t22 t24)) = true → Q (.inr ⟨(AV.tup [(AV.agg [(AV.int IntKind.i64 (0 : Int)), AV.nils, AV.nils, AV.nils]), (AV.int IntKind.i64 (6 : Int))]), [], [], []⟩)) ∧ ((O.real.lt (O.real.sub IntKind.i64 (65536 : Int) (O.real.ilen h1346)) (O.real.iget t22 t24)) = false → ((codeAt Go.Proofs.Tryz.f25 12 = codeAt Go.Proofs.Tryz.f25 12) ∧ Q (.inl (12, [(Lf.int t24), (Lf.int (O.real.iget t22 t24)), (Lf.is t22), (Lf.int t23), (Lf.int t24), (Lf.int (O.real.iget t22 t24)), (Lf.int (0 : Int)), (Lf.is h1346)]))))))) ∧ ((O.real.lt t24 t23) = false → Q (.inr ⟨(AV.tup [(AV.agg [(AV.int IntKind.i64 (2 : Int)), (AV.own 0), AV.nils, AV.nils]), (AV.int IntKind.i64 (0 : Int))]), [], [], [(HObj.arr 2 (LS.i IntKind.i64 h1346))]⟩))) := by kernel_rfl

noncomputable def w27xC : List Cut := [(⟨9999, ⟨[(0, (.one (.int IntKind.i64))), (1, (.agg [(.int .i64), (.sl (.i .i64)), (.sl .s), (.sl .v)]))], [], 0, 40⟩, [It.code (bodyOf Go.Proofs.Tryz.f27)], []⟩ : Cut)]
theorem w27xC_ok : cutsOk w27xC = true := by kernel_rfl
noncomputable def w27xS  : Nat × List Lf → T Gt := stepX O.real Go.Qv.tb (inl O.real Go.Qv.tb Go.Qv.fns (effOrc (fun f => Nat.beq f 48) (ES.also 48 se48x ES.none) PS.none) (fun f => Nat.beq f 48) (fun _ => false) 300 14) Go.Proofs.Tryz.f27.results ([]) 0 w27xC
theorem w27x_9999  (t0 : Int) (t1 : Int) (t1_1 : List Int) (t1_2 : List ByteArray) (t1_3 : List VT) (Q : Gt → Prop) : T.ob noB Q (.D 1 (.S (.D 1 (.S (.D 1 (.S (.D 1 (.S (.D 1 (.S (.D 1 (.S (.B (.S .E) (.D 1 (.S (.D 1 (.S (.S (.S (.D 1 (.S (.D 1 (.S (.D 1 (.S (.D 1 (.S (.D 1 (.S (.D 1 (.S (.B (.S .E) (.S (.S (.S (.B (.S .E) (.S .E))))))))))))))))))))))))))))))))))))) (w27xS  (9999, [Lf.int t0, Lf.int t1, Lf.is t1_1, Lf.ss t1_2, Lf.vs t1_3])) =
  ((((O.real.not (O.real.eq t0 (1 : Int))) = Bool.true) → True) ∧ ((((O.real.not (O.real.eq t0 (1 : Int))) = Bool.true) → True) ∧ ((((O.real.and (O.real.not (O.real.eq t0 (1 : Int))) (O.real.not (O.real.eq t0 (2 : Int)))) = Bool.true) → True) ∧ ((((O.real.and (O.real.not (O.real.eq t0 (1 : Int))) (O.real.not (O.real.eq t0 (2 : Int)))) = Bool.true) → True) ∧ ((((O.real.and (O.real.and (O.real.not (O.real.eq t0 (1 : Int))) (O.real.not (O.real.eq t0 (2 : Int)))) (O.real.not (O.real.eq t0 (4 : Int)))) = Bool.true) → True) ∧ ((((O.real.and (O.real.and (O.real.not (O.real.eq t0 (1 : Int))) (O.real.not (O.real.eq t0 (2 : Int)))) (O.real.not (O.real.eq t0 (4 : Int)))) = Bool.true) → True) ∧ (((O.real.and (O.real.and (O.real.and (O.real.not (O.real.eq t0 (1 : Int))) (O.real.not (O.real.eq t0 (2 : Int)))) (O.real.not (O.real.eq t0 (4 : Int)))) (O.real.not (O.real.eq t0 (5 : Int)))) = true → Q (.inr ⟨(AV.tup [(AV.agg [(AV.int IntKind.i64 (0 : Int)), AV.nils, AV.nils, AV.nils]), (AV.int IntKind.i64 (2 : Int))]), [], [], []⟩)) ∧ ((O.real.and (O.real.and (O.real.and (O.real.not (O.real.eq t0 (1 : Int))) (O.real.not (O.real.eq t0 (2 : Int)))) (O.real.not (O.real.eq t0 (4 : Int)))) (O.real.not (O.real.eq t0 (5 : Int)))) = false → ((((O.real.lt t1 (0 : Int)) = Bool.true) → True) ∧ ((((O.real.lt t1 (0 : Int)) = Bool.true) → True) ∧ ((((O.real.and (O.real.lt t1 (0 : Int)) (O.real.le (Int.negSucc 4) t1)) = Bool.true) → True) ∧ ((((O.real.and (O.real.lt t1 (0 : Int)) (O.real.le (Int.negSucc 4) t1)) = Bool.false) → True) ∧ ((((O.real.le (1 : Int) (O.real.isel (O.real.and (O.real.lt t1 (0 : Int)) (O.real.le (Int.negSucc 4) t1)) (O.real.neg IntKind.i64 t1) t1)) = Bool.true) → True) ∧ ((((O.real.le (1 : Int) (O.real.isel (O.real.and (O.real.lt t1 (0 : Int)) (O.real.le (Int.negSucc 4) t1)) (O.real.neg IntKind.i64 t1) t1)) = Bool.true) → True) ∧ ((((O.real.and (O.real.le (1 : Int) (O.real.isel (O.real.and (O.real.lt t1 (0 : Int)) (O.real.le (Int.negSucc 4) t1)) (O.real.neg IntKind.i64 t1) t1)) (O.real.le (O.real.isel (O.real.and (O.real.lt t1 (0 : Int)) (O.real.le (Int.negSucc 4) t1)) (O.real.neg IntKind.i64 t1) t1) (5 : Int))) = Bool.true) → True) ∧ ((((O.real.and (O.real.le (1 : Int) (O.real.isel (O.real.and (O.real.lt t1 (0 : Int)) (O.real.le (Int.negSucc 4) t1)) (O.real.neg IntKind.i64 t1) t1)) (O.real.le (O.real.isel (O.real.and (O.real.lt t1 (0 : Int)) (O.real.le (Int.negSucc 4) t1)) (O.real.neg IntKind.i64 t1) t1) (5 : Int))) = Bool.true) → True) ∧ ((((O.real.and (O.real.le (1 : Int) (O.real.isel (O.real.and (O.real.lt t1 (0 : Int)) (O.real.le (Int.negSucc 4) t1)) (O.real.neg IntKind.i64 t1) t1)) (O.real.le (O.real.isel (O.real.and (O.real.lt t1 (0 : Int)) (O.real.le (Int.negSucc 4) t1)) (O.real.neg IntKind.i64 t1) t1) (5 : Int))) = Bool.true) → ((Bool.true = Bool.true) ∧ ((((O.real.lt t1 (0 : Int)) = Bool.true) → True) ∧ ((Bool.true = Bool.true) ∧ ((((O.real.lt t1 (0 : Int)) = Bool.true) → True) ∧ ((((O.real.and (O.real.lt t1 (0 : Int)) (O.real.le (Int.negSucc 4) t1)) = Bool.true) → True) ∧ ((((O.real.and (O.real.lt t1 (0 : Int)) (O.real.le (Int.negSucc 4) t1)) = Bool.false) → True) ∧ True))))))) ∧ ((((O.real.and (O.real.le (1 : Int) (O.real.isel (O.real.and (O.real.lt t1 (0 : Int)) (O.real.le (Int.negSucc 4) t1)) (O.real.neg IntKind.i64 t1) t1)) (O.real.le (O.real.isel (O.real.and (O.real.lt t1 (0 : Int)) (O.real.le (Int.negSucc 4) t1)) (O.real.neg IntKind.i64 t1) t1) (5 : Int))) = Bool.true) → True) ∧ (((O.real.not (O.real.and (O.real.and (O.real.le (1 : Int) (O.real.isel (O.real.and (O.real.lt t1 (0 : Int)) (O.real.le (Int.negSucc 4) t1)) (O.real.neg IntKind.i64 t1) t1)) (O.real.le (O.real.isel (O.real.and (O.real.lt t1 (0 : Int)) (O.real.le (Int.negSucc 4) t1)) (O.real.neg IntKind.i64 t1) t1) (5 : Int))) (O.real.not (O.real.eq (O.real.isel (O.real.and (O.real.lt t1 (0 : Int)) (O.real.le (Int.negSucc 4) t1)) (O.real.neg IntKind.i64 t1) t1) (3 : Int))))) = true → Q (.inr ⟨(AV.tup [(AV.agg [(AV.int IntKind.i64 (0 : Int)), AV.nils, AV.nils, AV.nils]), (AV.int IntKind.i64 (31 : Int))]), [], [], []⟩)) ∧ ((O.real.not (O.real.and (O.real.and (O.real.le (1 : Int) (O.real.isel (O.real.and (O.real.lt t1 (0 : Int)) (O.real.le (Int.negSucc 4) t1)) (O.real.neg IntKind.i64 t1) t1)) (O.real.le (O.real.isel (O.real.and (O.real.lt t1 (0 : Int)) (O.real.le (Int.negSucc 4) t1)) (O.real.neg IntKind.i64 t1) t1) (5 : Int))) (O.real.not (O.real.eq (O.real.isel (O.real.and (O.real.lt t1 (0 : Int)) (O.real.le (Int.negSucc 4) t1)) (O.real.neg IntKind.i64 t1) t1) (3 : Int))))) = false → ((((O.real.lt t1 (0 : Int)) = Bool.true) → True) ∧ ((((O.real.lt t1 (0 : Int)) = Bool.false) → True) ∧ ((casOk (VT.mk t1 t1_1 t1_2 t1_3) t0 (O.real.isel (O.real.lt t1 (0 : Int)) (O.real.neg IntKind.i64 t1) t1)) ∧ (((O.real.not (casB t0 (O.real.isel (O.real.lt t1 (0 : Int)) (O.real.neg IntKind.i64 t1) t1) t1_1 Bool.true)) = true → Q (.inr ⟨(AV.tup [(AV.agg [(AV.int IntKind.i64 (0 : Int)), AV.nils, AV.nils, AV.nils]), (AV.int IntKind.i64 (70 : Int))]), [], [], []⟩)) ∧ ((O.real.not (casB t0 (O.real.isel (O.real.lt t1 (0 : Int)) (O.real.neg IntKind.i64 t1) t1) t1_1 Bool.true)) = false → Q (.inr ⟨(AV.tup [(AV.agg [(AV.int IntKind.i64 (VT.t (eachV (VT.mk t1 t1_1 t1_2 t1_3) t0 (casN t0 (O.real.isel (O.real.lt t1 (0 : Int)) (O.real.neg IntKind.i64 t1) t1) t1_1)))), (AV.sl (LS.i IntKind.i64 (VT.n (eachV (VT.mk t1 t1_1 t1_2 t1_3) t0 (casN t0 (O.real.isel (O.real.lt t1 (0 : Int)) (O.real.neg IntKind.i64 t1) t1) t1_1))))), (AV.sl (LS.s (VT.s (eachV (VT.mk t1 t1_1 t1_2 t1_3) t0 (casN t0 (O.real.isel (O.real.lt t1 (0 : Int)) (O.real.neg IntKind.i64 t1) t1) t1_1))))), (AV.sl (LS.v (VT.l (eachV (VT.mk t1 t1_1 t1_2 t1_3) t0 (casN t0 (O.real.isel (O.real.lt t1 (0 : Int)) (O.real.neg IntKind.i64 t1) t1) t1_1)))))]), (AV.int IntKind.i64 (0 : Int))]), [], [], []⟩)))))))))))))))))))))))))) := by kernel_rfl
end Go.Qv
/- Operations on one value: vec's Neg, Not, Where, Cast. No condition. -/
set_option linter.unusedVariables false
set_option linter.unusedSimpArgs false
set_option maxRecDepth 100000
namespace Go.Qv
open Go Go.RowKit Go.Proofs
theorem ok48w : PureOk Tryz.prog (PS.also 48 sp48x PS.none) := PureOk.also ok48x (PureOk.none _)
theorem ok19x : Pure1 Tryz.prog 19 spNeg := by
  intro xs F w cs R ha h
  obtain ⟨x, a, rfl, h1, h⟩ := onV_inv h
  obtain ⟨ht, h⟩ := when_inv h
  have ha := ha.conv1 (fun v => as_V h1)
  obtain ⟨t, n, s, l⟩ := a
  refine contract (fn := Tryz.f19) (walked ok48w 14) (by kernel_rfl) w19xC_ok (by rfl) (by rfl) (by rfl) (by rfl) (by rfl) ha (ρ := [.int t, .is n, .ss s, .vs l]) (Rh.go (w19x_9999 t n s l _) ?_) h
  simp only [o_add, o_sub, o_mul, o_neg, o_conv, o_lt, o_le, o_eq, o_not, o_and, o_or, o_sel, o_isel, o_ssel, o_beq, o_seq, o_slt, o_slen, o_sat, o_scut, o_sadd, o_ilen, o_blen, o_vlen, o_rlen, o_iget, o_bget, o_vget, o_rget, o_iset, o_bset, o_vset, o_iapp, o_bapp, o_vapp, o_rapp, o_icut, o_bcut, o_vcut, o_irep, o_vt, o_vn, o_vs, o_vl, o_imax, o_imin, o_inb, o_sfit, o_cutb, o_fit, o_mkfit, RhQ, decT, decF, true_and, and_true, eq_self, implies_true, forall_const, Bool.not_eq_true', Bool.not_eq_false', Bool.not_true, Bool.not_false, Bool.and_eq_true, Bool.or_eq_true, Bool.and_eq_false_iff, Bool.or_eq_false_iff, Bool.true_and, Bool.and_true, Bool.false_and, Bool.and_false, Bool.or_false, Bool.false_or, Bool.true_or, Bool.or_true, Int.toNat_natCast, VT.eta, not_true, not_false_iff, false_implies, if_true, if_false, Int.toNat_zero, Int.toNat_one, ns0, ns4]
  by_cases hk : negT t
  · have ht : tame (.mk t n s l) := ht (neg_fl hk)
    obtain ⟨y1, y2⟩ := negV_yes (v := .mk t n s l) hk
    rw [y1, y2]
    rcases hk with rfl | rfl | rfl | rfl | rfl | rfl
    all_goals
      refine ⟨fun hh => absurd hh (by decide), fun _ => ?_⟩
      repeat' apply And.intro
      all_goals first | exact ht | exact rfl
  · obtain ⟨y1, y2⟩ := negV_no (v := .mk t n s l) hk
    rw [y1, y2]
    unfold negT at hk
    refine ⟨fun _ => rfl, fun hh => absurd hh ?_⟩
    by_cases hq : t = -4 ∨ t = -3 ∨ t = 0 ∨ t = 3 ∨ t = 4
    · rcases hq with rfl | rfl | rfl | rfl | rfl <;> decide
    · intro hh; have := hh.1; omega
theorem ok21x : Pure1 Tryz.prog 21 spNot := by
  intro xs F w cs R ha h
  obtain ⟨x, a, rfl, h1, h⟩ := onV_inv h
  obtain ⟨ht, h⟩ := when_inv h
  have ha := ha.conv1 (fun v => as_V h1)
  obtain ⟨t, n, s, l⟩ := a
  refine contract (fn := Tryz.f21) (walked ok48w 14) (by kernel_rfl) w21xC_ok (by rfl) (by rfl) (by rfl) (by rfl) (by rfl) ha (ρ := [.int t, .is n, .ss s, .vs l]) (Rh.go (w21x_9999 t n s l _) ?_) h
  simp only [o_add, o_sub, o_mul, o_neg, o_conv, o_lt, o_le, o_eq, o_not, o_and, o_or, o_sel, o_isel, o_ssel, o_beq, o_seq, o_slt, o_slen, o_sat, o_scut, o_sadd, o_ilen, o_blen, o_vlen, o_rlen, o_iget, o_bget, o_vget, o_rget, o_iset, o_bset, o_vset, o_iapp, o_bapp, o_vapp, o_rapp, o_icut, o_bcut, o_vcut, o_irep, o_vt, o_vn, o_vs, o_vl, o_imax, o_imin, o_inb, o_sfit, o_cutb, o_fit, o_mkfit, RhQ, decT, decF, true_and, and_true, eq_self, implies_true, forall_const, Bool.not_eq_true', Bool.not_eq_false', Bool.not_true, Bool.not_false, Bool.and_eq_true, Bool.or_eq_true, Bool.and_eq_false_iff, Bool.or_eq_false_iff, Bool.true_and, Bool.and_true, Bool.false_and, Bool.and_false, Bool.or_false, Bool.false_or, Bool.true_or, Bool.or_true, Int.toNat_natCast, VT.eta, not_true, not_false_iff, false_implies, if_true, if_false, Int.toNat_zero, Int.toNat_one, ns0, ns4]
  by_cases hk : numT t
  · have ht : tame (.mk t n s l) := ht (num_fl hk)
    obtain ⟨y1, y2⟩ := notV_yes (v := .mk t n s l) hk
    rw [y1, y2]
    rcases hk with rfl | rfl | rfl | rfl | rfl | rfl | rfl | rfl
    all_goals
      refine ⟨fun hh => absurd hh (by decide), fun _ => ?_⟩
      repeat' apply And.intro
      all_goals first | exact ht | exact rfl
  · obtain ⟨y1, y2⟩ := notV_no (v := .mk t n s l) hk
    rw [y1, y2]
    unfold numT at hk
    refine ⟨fun _ => rfl, fun hh => absurd hh ?_⟩
    by_cases hq : t = -3 ∨ t = 0 ∨ t = 3
    · rcases hq with rfl | rfl | rfl <;> decide
    · intro hh; split at hh <;> omega
/-! ### Where -/
theorem loop25c (n : List Int) (X : VT) (E : Int) (i : Nat) (hi : i < n.length) (hn : n.length ≤ 1073741824) (x : Int) (he : n.getD i 0 = x) (hx : 0 ≤ x) (hs : ((whN (n.take i) 0).length : Int) + x ≤ 65536) (H : Rh w25xS (Ret (.tup [vcl X, .int .i64 E])) (7, [.is n, .int n.length, .int (IntKind.i64.wrap ((i : Int) + 1)), .is (whN (n.take (i + 1)) 0)]))
    (j : Nat) (hj : (j : Int) ≤ x) : Rh w25xS (Ret (.tup [vcl X, .int .i64 E])) (12, [.int i, .int x, .is n, .int n.length, .int i, .int x, .int j, .is (whN (n.take i) 0 ++ List.replicate j (i : Int))]) := by
  refine Rh.go (w25x_12 i x n _ i x j _ _) ?_
  simp only [o_add, o_sub, o_mul, o_neg, o_conv, o_lt, o_le, o_eq, o_not, o_and, o_or, o_sel, o_isel, o_ssel, o_beq, o_seq, o_slt, o_slen, o_sat, o_scut, o_sadd, o_ilen, o_blen, o_vlen, o_rlen, o_iget, o_bget, o_vget, o_rget, o_iset, o_bset, o_vset, o_iapp, o_bapp, o_vapp, o_rapp, o_icut, o_bcut, o_vcut, o_irep, o_vt, o_vn, o_vs, o_vl, o_imax, o_imin, o_inb, o_sfit, o_cutb, o_fit, o_mkfit, RhQ, decT, decF, true_and, and_true, eq_self, implies_true, forall_const, Bool.not_eq_true', Bool.not_eq_false', Bool.not_true, Bool.not_false, Bool.and_eq_true, Bool.or_eq_true, Bool.and_eq_false_iff, Bool.or_eq_false_iff, Bool.true_and, Bool.and_true, Bool.false_and, Bool.and_false, Bool.or_false, Bool.false_or, Bool.true_or, Bool.or_true, Int.toNat_natCast, VT.eta, not_true, not_false_iff, false_implies, if_true, if_false, Int.toNat_zero, Int.toNat_one, ns0, ns4, List.length_append, List.length_replicate, List.length_cons, List.length_nil]
  refine ⟨fun h => ⟨by omega, ?_⟩, fun h => ?_⟩
  · have e := loop25c n X E i hi hn x he hx hs H (j + 1) (by omega)
    rw [rep_succ, ← List.append_assoc] at e
    rw [w64 (a := (j : Int) + 1) (by omega) (by omega)]
    exact e
  · have e := whN_take n i 0 hi
    have ej : (n.getD i 0).toNat = j := by omega
    rw [ej, Int.zero_add] at e
    rw [e] at H
    exact H
termination_by (x - j).toNat
theorem loop25b (n : List Int) (X : VT) (E : Int) (hn : n.length ≤ 1073741824) (h0 : ∀ x ∈ n, 0 ≤ x) (H1 : whB n 0 = true → X = v0 ∧ E = 6) (H2 : whB n 0 = false → X = .mk 2 (whN n 0) [] [] ∧ E = 0) (i : Nat) (h1 : i ≤ n.length) (hs : ((whN (n.take i) 0).length : Int) ≤ 65536) (hd : whB n 0 = whB (n.drop i) (whN (n.take i) 0).length) :
    Rh w25xS (Ret (.tup [vcl X, .int .i64 E])) (7, [.is n, .int n.length, .int i, .is (whN (n.take i) 0)]) := by
  refine Rh.go (w25x_7 n _ i _ _) ?_
  simp only [o_add, o_sub, o_mul, o_neg, o_conv, o_lt, o_le, o_eq, o_not, o_and, o_or, o_sel, o_isel, o_ssel, o_beq, o_seq, o_slt, o_slen, o_sat, o_scut, o_sadd, o_ilen, o_blen, o_vlen, o_rlen, o_iget, o_bget, o_vget, o_rget, o_iset, o_bset, o_vset, o_iapp, o_bapp, o_vapp, o_rapp, o_icut, o_bcut, o_vcut, o_irep, o_vt, o_vn, o_vs, o_vl, o_imax, o_imin, o_inb, o_sfit, o_cutb, o_fit, o_mkfit, RhQ, decT, decF, true_and, and_true, eq_self, implies_true, forall_const, Bool.not_eq_true', Bool.not_eq_false', Bool.not_true, Bool.not_false, Bool.and_eq_true, Bool.or_eq_true, Bool.and_eq_false_iff, Bool.or_eq_false_iff, Bool.true_and, Bool.and_true, Bool.false_and, Bool.and_false, Bool.or_false, Bool.false_or, Bool.true_or, Bool.or_true, Int.toNat_natCast, VT.eta, not_true, not_false_iff, false_implies, if_true, if_false, Int.toNat_zero, Int.toNat_one, ns0, ns4]
  refine ⟨fun h => ⟨⟨by omega, by omega⟩, fun h2 => ?_, fun h2 => ?_⟩, fun h => ?_⟩
  · rw [w64 (by omega) (by omega)] at h2
    rw [drop_at n 0 (show i < n.length by omega), whB, if_pos h2] at hd
    obtain ⟨rfl, rfl⟩ := H1 hd
    exact rfl
  · rw [w64 (by omega) (by omega)] at h2
    have hi : i < n.length := by omega
    have hx := h0 _ (getD_mem n 0 (i := i) (by omega))
    rw [drop_at n 0 hi, whB, if_neg h2] at hd
    have el : ((whN (n.take (i + 1)) 0).length : Int) = ((whN (n.take i) 0).length : Int) + n.getD i 0 := by
      rw [whN_take n i 0 hi, List.length_append, List.length_replicate]; omega
    have e := loop25b n X E hn h0 H1 H2 (i + 1) (by omega) (by omega) (by rw [el]; exact hd)
    have r := loop25c n X E i hi hn _ rfl hx (by omega) (by rw [inc (mlen hn) (by omega)]; exact e) 0 (by omega)
    simp only [List.replicate_zero, List.append_nil] at r
    exact r
  · rw [List.take_of_length_le (by omega)]
    rw [List.drop_of_length_le (by omega), whB] at hd
    obtain ⟨rfl, rfl⟩ := H2 hd
    exact rfl
termination_by n.length - i
theorem ok25x : Pure1 Tryz.prog 25 spWhere := by
  intro xs F w cs R ha h
  obtain ⟨x, a, rfl, h1, h⟩ := onV_inv h
  obtain ⟨ht, h⟩ := when_inv h
  have ha := ha.conv1 (fun v => as_V h1)
  obtain ⟨t, n, s, l⟩ := a
  refine contract (fn := Tryz.f25) (walked (PureOk.also ok91x (PureOk.none _)) 14) (by kernel_rfl) w25xC_ok (by rfl) (by rfl) (by rfl) (by rfl) (by rfl) ha (ρ := [.int t, .is n, .ss s, .vs l]) (Rh.go (w25x_9999 t n s l _) ?_) h
  simp only [o_add, o_sub, o_mul, o_neg, o_conv, o_lt, o_le, o_eq, o_not, o_and, o_or, o_sel, o_isel, o_ssel, o_beq, o_seq, o_slt, o_slen, o_sat, o_scut, o_sadd, o_ilen, o_blen, o_vlen, o_rlen, o_iget, o_bget, o_vget, o_rget, o_iset, o_bset, o_vset, o_iapp, o_bapp, o_vapp, o_rapp, o_icut, o_bcut, o_vcut, o_irep, o_vt, o_vn, o_vs, o_vl, o_imax, o_imin, o_inb, o_sfit, o_cutb, o_fit, o_mkfit, RhQ, decT, decF, true_and, and_true, eq_self, implies_true, forall_const, Bool.not_eq_true', Bool.not_eq_false', Bool.not_true, Bool.not_false, Bool.and_eq_true, Bool.or_eq_true, Bool.and_eq_false_iff, Bool.or_eq_false_iff, Bool.true_and, Bool.and_true, Bool.false_and, Bool.and_false, Bool.or_false, Bool.false_or, Bool.true_or, Bool.or_true, Int.toNat_natCast, VT.eta, not_true, not_false_iff, false_implies, if_true, if_false, Int.toNat_zero, Int.toNat_one, ns0, ns4]
  have hw : whT (.mk t n s l) ↔ t = 1 ∨ t = 2 := Iff.rfl
  by_cases hk : whT (.mk t n s l)
  · have hk' := hw.1 hk
    have ht : tame (.mk t n s l) := ht (wh_fl hk)
    refine ⟨fun hh => by omega, fun _ => ⟨fun hh => ?_, fun hh => ?_⟩⟩
    · obtain ⟨y1, y2⟩ := whV_arg hk hh
      rw [y1, y2]; exact rfl
    · have hh : negIdx n 0 = -1 := by rcases negIdx_or n 0 (by omega) with h | h; exact h; exact absurd h hh
      exact loop25b n _ _ ht.n (negIdx_all n 0 (by omega) hh) (fun hb => whV_many hk hh hb) (fun hb => whV_ok hk hh hb) 0 (by omega) (by simp [whN]) rfl
  · obtain ⟨y1, y2⟩ := whV_no hk
    rw [y1, y2]
    rw [hw] at hk
    exact ⟨fun _ => rfl, fun hh => by omega⟩
/-! ### Cast -/
theorem ok27x : Pure1 Tryz.prog 27 spCast := by
  intro xs F w cs R ha h
  unfold spCast at h
  split at h
  · rename_i t x
    split at h
    · rename_i v h1
      obtain ⟨hc, h⟩ := when_inv h
      have ha := ha.conv2 (fun v h => h) (fun v => as_V h1)
      obtain ⟨t0, n, s, l⟩ := v
      refine contract (fn := Tryz.f27) (walkedE (EffOk.also oke48 (EffOk.none _)) (PureOk.none _) 14) (by kernel_rfl) w27xC_ok (by rfl) (by rfl) (by rfl) (by rfl) (by rfl) ha (ρ := [.int t, .int t0, .is n, .ss s, .vs l]) (Rh.go (w27x_9999 t t0 n s l _) ?_) h
      simp only [o_add, o_sub, o_mul, o_neg, o_conv, o_lt, o_le, o_eq, o_not, o_and, o_or, o_sel, o_isel, o_ssel, o_beq, o_seq, o_slt, o_slen, o_sat, o_scut, o_sadd, o_ilen, o_blen, o_vlen, o_rlen, o_iget, o_bget, o_vget, o_rget, o_iset, o_bset, o_vset, o_iapp, o_bapp, o_vapp, o_rapp, o_icut, o_bcut, o_vcut, o_irep, o_vt, o_vn, o_vs, o_vl, o_imax, o_imin, o_inb, o_sfit, o_cutb, o_fit, o_mkfit, RhQ, decT, decF, true_and, and_true, eq_self, implies_true, forall_const, Bool.not_eq_true', Bool.not_eq_false', Bool.not_true, Bool.not_false, Bool.and_eq_true, Bool.or_eq_true, Bool.and_eq_false_iff, Bool.or_eq_false_iff, Bool.true_and, Bool.and_true, Bool.false_and, Bool.and_false, Bool.or_false, Bool.false_or, Bool.true_or, Bool.or_true, Int.toNat_natCast, VT.eta, not_true, not_false_iff, false_implies, if_true, if_false, Int.toNat_zero, Int.toNat_one, ns0, ns4]
      by_cases ht : casT t
      · have ht' : t = 1 ∨ t = 2 ∨ t = 4 ∨ t = 5 := ht
        refine ⟨fun hh => by omega, fun _ => ?_⟩
        by_cases hk : numT t0
        · have hY := fun hb => castV_ok (t := t) (v := .mk t0 n s l) ht hk hb
          have hN := fun hb => castV_over (t := t) (v := .mk t0 n s l) ht hk hb
          have hne := negW ht
          have hct : tame (.mk t0 n s l) := hc.1 (num_fl hk)
          rcases hk with rfl | rfl | rfl | rfl | rfl | rfl | rfl | rfl
          all_goals
            refine ⟨fun hh => absurd hh (by decide), fun _ => ?_⟩
            refine ⟨⟨hct, hc.2.1⟩, fun hb => ?_, fun hb => ?_⟩
            · obtain ⟨y1, y2⟩ := hN hb
              rw [y1, y2]; exact rfl
            · obtain ⟨y1, y2⟩ := hY hb
              rw [y1, y2]
              refine Ret.ve ?_ rfl (y := eachV (.mk _ n s l) t (casN t _ n)) rfl
              first | exact rfl | exact congrArg (fun z => VT.mk z _ [] []) hne.symm
        · obtain ⟨y1, y2⟩ := castV_type (v := .mk t0 n s l) ht hk
          rw [y1, y2]
          unfold numT at hk
          refine ⟨fun _ => rfl, fun hh => absurd hh ?_⟩
          by_cases hq : t0 = -3 ∨ t0 = 0 ∨ t0 = 3
          · rcases hq with rfl | rfl | rfl <;> decide
          · intro hh; split at hh <;> omega
      · obtain ⟨y1, y2⟩ := castV_arg (v := .mk t0 n s l) ht
        rw [y1, y2]
        unfold casT at ht
        exact ⟨fun _ => rfl, fun hh => by omega⟩
    · exact h.elim
  · exact h.elim
end Go.Qv
