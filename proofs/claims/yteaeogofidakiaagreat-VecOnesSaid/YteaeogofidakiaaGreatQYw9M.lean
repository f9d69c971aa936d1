/- Walks of operations on one value, 9. (Printed.) -/
import Derived.Test.YteaeogofidakiaaGreatQYw8M
import Derived.Test.YteaeogofidakiaaGreatQPe
set_option linter.unusedVariables false
set_option maxRecDepth 100000
namespace Go.Qv
open Go Go.RowKit
noncomputable def w4xC : List Cut := [(⟨9999, ⟨[(0, (.agg [(.int .i64), (.sl (.i .i64)), (.sl .s), (.sl .v)])), (1, (.one (.int IntKind.i64))), (2, (.one (.int IntKind.i64))), (3, (.agg [(.int .i64), (.sl (.i .i64)), (.sl .s), (.sl .v)]))], [], 0, 153⟩, [It.code (bodyOf Go.Proofs.Tryz.f4)], []⟩ : Cut)]
theorem w4xC_ok : cutsOk w4xC = true := by kernel_rfl
noncomputable def w4xS  : Nat × List Lf → T Gt := stepX O.real Go.Qv.tb (inl O.real Go.Qv.tb Go.Qv.fns (pureOrc (PS.also 6 spLive (PS.also 5 sp5 (PS.also 11 sp11f (PS.also 19 spNeg (PS.also 20 spNeg (PS.also 21 spNot (PS.also 22 spNot (PS.also 23 spTilA (PS.also 24 spTilA (PS.also 25 spWhere (PS.also 26 spWhere (PS.also 27 spCast (PS.also 28 spCast (PS.also 29 spFill (PS.also 30 spFill PS.none)))))))))))))))) (fun f => Nat.beq f 6 || Nat.beq f 5 || Nat.beq f 11 || Nat.beq f 19 || Nat.beq f 20 || Nat.beq f 21 || Nat.beq f 22 || Nat.beq f 23 || Nat.beq f 24 || Nat.beq f 25 || Nat.beq f 26 || Nat.beq f 27 || Nat.beq f 28 || Nat.beq f 29 || Nat.beq f 30) (fun _ => false) 300 14) Go.Proofs.Tryz.f4.results ([]) 0 w4xC
theorem w4x_9999  (t0 : Int) (t0_1 : List Int) (t0_2 : List ByteArray) (t0_3 : List VT) (t1 : Int) (t2 : Int) (t3 : Int) (t3_1 : List Int) (t3_2 : List ByteArray) (t3_3 : List VT) (Q : Gt → Prop) : T.ob noB Q (.S (.D 1 (.S (.D 1 (.S (.D 1 (.S (.D 1 (.S (.D 1 (.S (.D 1 (.S (.B (.S .E) (.S (.S (.D 1 (.S (.D 1 (.S (.D 1 (.S (.D 1 (.S (.B (.S .E) (.S (.S (.D 1 (.S (.D 1 (.S (.D 1 (.S (.D 1 (.S (.B (.S .E) (.D 1 (.S (.D 1 (.S (.D 1 (.S (.D 1 (.S (.B (.S .E) (.S (.S (.D 1 (.S (.D 1 (.S (.D 1 (.S (.D 1 (.S (.B (.S .E) (.S (.S (.D 1 (.S (.D 1 (.S (.D 1 (.S (.D 1 (.S (.B (.S .E) (.S (.S (.D 1 (.S (.D 1 (.S (.D 1 (.S (.D 1 (.S (.D 1 (.S (.S .E)))))))))))))))))))))))))))))))))))))))))))))))))))))))))))))))))))))))))))))))) (w4xS  (9999, [Lf.int t0, Lf.is t0_1, Lf.ss t0_2, Lf.vs t0_3, Lf.int t1, Lf.int t2, Lf.int t3, Lf.is t3_1, Lf.ss t3_2, Lf.vs t3_3])) =
  ((fines [(VT.mk t0 t0_1 t0_2 t0_3), (VT.mk t3 t3_1 t3_2 t3_3)]) ∧ ((((O.real.not (rightB [(VT.mk t0 t0_1 t0_2 t0_3), (VT.mk t3 t3_1 t3_2 t3_3)])) = Bool.false) → True) ∧ ((((O.real.not (rightB [(VT.mk t0 t0_1 t0_2 t0_3), (VT.mk t3 t3_1 t3_2 t3_3)])) = Bool.false) → True) ∧ ((((O.real.not (rightB [(VT.mk t0 t0_1 t0_2 t0_3), (VT.mk t3 t3_1 t3_2 t3_3)])) = Bool.false) → True) ∧ ((((O.real.lt (1000 : Int) t1) = Bool.true) → (((O.real.not (rightB [(VT.mk t0 t0_1 t0_2 t0_3), (VT.mk t3 t3_1 t3_2 t3_3)])) = Bool.false) → True)) ∧ ((((O.real.lt (1000 : Int) t1) = Bool.true) → (((O.real.not (rightB [(VT.mk t0 t0_1 t0_2 t0_3), (VT.mk t3 t3_1 t3_2 t3_3)])) = Bool.false) → True)) ∧ ((((O.real.not (rightB [(VT.mk t0 t0_1 t0_2 t0_3), (VT.mk t3 t3_1 t3_2 t3_3)])) = Bool.false) → True) ∧ (((O.real.or (O.real.not (rightB [(VT.mk t0 t0_1 t0_2 t0_3), (VT.mk t3 t3_1 t3_2 t3_3)])) (O.real.and (O.real.lt (1000 : Int) t1) (O.real.le t1 (65531 : Int)))) = true → Q (.inr ⟨(AV.bool Bool.true), [], [], []⟩)) ∧ ((O.real.or (O.real.not (rightB [(VT.mk t0 t0_1 t0_2 t0_3), (VT.mk t3 t3_1 t3_2 t3_3)])) (O.real.and (O.real.lt (1000 : Int) t1) (O.real.le t1 (65531 : Int)))) = false → ((tameF (VT.mk t0 t0_1 t0_2 t0_3)) ∧ ((tameF (VT.mk t0 t0_1 t0_2 t0_3)) ∧ ((((O.real.not (veq (VT.mk (VT.t (negV (VT.mk t0 t0_1 t0_2 t0_3))) (VT.n (negV (VT.mk t0 t0_1 t0_2 t0_3))) (VT.s (negV (VT.mk t0 t0_1 t0_2 t0_3))) (VT.l (negV (VT.mk t0 t0_1 t0_2 t0_3)))) (VT.mk (VT.t (negV (VT.mk t0 t0_1 t0_2 t0_3))) (VT.n (negV (VT.mk t0 t0_1 t0_2 t0_3))) (VT.s (negV (VT.mk t0 t0_1 t0_2 t0_3))) (VT.l (negV (VT.mk t0 t0_1 t0_2 t0_3)))))) = Bool.false) → True) ∧ ((((O.real.not (veq (VT.mk (VT.t (negV (VT.mk t0 t0_1 t0_2 t0_3))) (VT.n (negV (VT.mk t0 t0_1 t0_2 t0_3))) (VT.s (negV (VT.mk t0 t0_1 t0_2 t0_3))) (VT.l (negV (VT.mk t0 t0_1 t0_2 t0_3)))) (VT.mk (VT.t (negV (VT.mk t0 t0_1 t0_2 t0_3))) (VT.n (negV (VT.mk t0 t0_1 t0_2 t0_3))) (VT.s (negV (VT.mk t0 t0_1 t0_2 t0_3))) (VT.l (negV (VT.mk t0 t0_1 t0_2 t0_3)))))) = Bool.false) → True) ∧ ((((O.real.not (veq (VT.mk (VT.t (negV (VT.mk t0 t0_1 t0_2 t0_3))) (VT.n (negV (VT.mk t0 t0_1 t0_2 t0_3))) (VT.s (negV (VT.mk t0 t0_1 t0_2 t0_3))) (VT.l (negV (VT.mk t0 t0_1 t0_2 t0_3)))) (VT.mk (VT.t (negV (VT.mk t0 t0_1 t0_2 t0_3))) (VT.n (negV (VT.mk t0 t0_1 t0_2 t0_3))) (VT.s (negV (VT.mk t0 t0_1 t0_2 t0_3))) (VT.l (negV (VT.mk t0 t0_1 t0_2 t0_3)))))) = Bool.false) → True) ∧ ((((O.real.not (veq (VT.mk (VT.t (negV (VT.mk t0 t0_1 t0_2 t0_3))) (VT.n (negV (VT.mk t0 t0_1 t0_2 t0_3))) (VT.s (negV (VT.mk t0 t0_1 t0_2 t0_3))) (VT.l (negV (VT.mk t0 t0_1 t0_2 t0_3)))) (VT.mk (VT.t (negV (VT.mk t0 t0_1 t0_2 t0_3))) (VT.n (negV (VT.mk t0 t0_1 t0_2 t0_3))) (VT.s (negV (VT.mk t0 t0_1 t0_2 t0_3))) (VT.l (negV (VT.mk t0 t0_1 t0_2 t0_3)))))) = Bool.false) → True) ∧ (((O.real.or (O.real.not (veq (VT.mk (VT.t (negV (VT.mk t0 t0_1 t0_2 t0_3))) (VT.n (negV (VT.mk t0 t0_1 t0_2 t0_3))) (VT.s (negV (VT.mk t0 t0_1 t0_2 t0_3))) (VT.l (negV (VT.mk t0 t0_1 t0_2 t0_3)))) (VT.mk (VT.t (negV (VT.mk t0 t0_1 t0_2 t0_3))) (VT.n (negV (VT.mk t0 t0_1 t0_2 t0_3))) (VT.s (negV (VT.mk t0 t0_1 t0_2 t0_3))) (VT.l (negV (VT.mk t0 t0_1 t0_2 t0_3)))))) (O.real.not (O.real.eq (negE (VT.mk t0 t0_1 t0_2 t0_3)) (negE (VT.mk t0 t0_1 t0_2 t0_3))))) = true → Q (.inr ⟨(AV.bool Bool.false), [], [], []⟩)) ∧ ((O.real.or (O.real.not (veq (VT.mk (VT.t (negV (VT.mk t0 t0_1 t0_2 t0_3))) (VT.n (negV (VT.mk t0 t0_1 t0_2 t0_3))) (VT.s (negV (VT.mk t0 t0_1 t0_2 t0_3))) (VT.l (negV (VT.mk t0 t0_1 t0_2 t0_3)))) (VT.mk (VT.t (negV (VT.mk t0 t0_1 t0_2 t0_3))) (VT.n (negV (VT.mk t0 t0_1 t0_2 t0_3))) (VT.s (negV (VT.mk t0 t0_1 t0_2 t0_3))) (VT.l (negV (VT.mk t0 t0_1 t0_2 t0_3)))))) (O.real.not (O.real.eq (negE (VT.mk t0 t0_1 t0_2 t0_3)) (negE (VT.mk t0 t0_1 t0_2 t0_3))))) = false → ((tameF (VT.mk t0 t0_1 t0_2 t0_3)) ∧ ((tameF (VT.mk t0 t0_1 t0_2 t0_3)) ∧ ((((O.real.not (veq (VT.mk (VT.t (notV (VT.mk t0 t0_1 t0_2 t0_3))) (VT.n (notV (VT.mk t0 t0_1 t0_2 t0_3))) (VT.s (notV (VT.mk t0 t0_1 t0_2 t0_3))) (VT.l (notV (VT.mk t0 t0_1 t0_2 t0_3)))) (VT.mk (VT.t (notV (VT.mk t0 t0_1 t0_2 t0_3))) (VT.n (notV (VT.mk t0 t0_1 t0_2 t0_3))) (VT.s (notV (VT.mk t0 t0_1 t0_2 t0_3))) (VT.l (notV (VT.mk t0 t0_1 t0_2 t0_3)))))) = Bool.false) → True) ∧ ((((O.real.not (veq (VT.mk (VT.t (notV (VT.mk t0 t0_1 t0_2 t0_3))) (VT.n (notV (VT.mk t0 t0_1 t0_2 t0_3))) (VT.s (notV (VT.mk t0 t0_1 t0_2 t0_3))) (VT.l (notV (VT.mk t0 t0_1 t0_2 t0_3)))) (VT.mk (VT.t (notV (VT.mk t0 t0_1 t0_2 t0_3))) (VT.n (notV (VT.mk t0 t0_1 t0_2 t0_3))) (VT.s (notV (VT.mk t0 t0_1 t0_2 t0_3))) (VT.l (notV (VT.mk t0 t0_1 t0_2 t0_3)))))) = Bool.false) → True) ∧ ((((O.real.not (veq (VT.mk (VT.t (notV (VT.mk t0 t0_1 t0_2 t0_3))) (VT.n (notV (VT.mk t0 t0_1 t0_2 t0_3))) (VT.s (notV (VT.mk t0 t0_1 t0_2 t0_3))) (VT.l (notV (VT.mk t0 t0_1 t0_2 t0_3)))) (VT.mk (VT.t (notV (VT.mk t0 t0_1 t0_2 t0_3))) (VT.n (notV (VT.mk t0 t0_1 t0_2 t0_3))) (VT.s (notV (VT.mk t0 t0_1 t0_2 t0_3))) (VT.l (notV (VT.mk t0 t0_1 t0_2 t0_3)))))) = Bool.false) → True) ∧ ((((O.real.not (veq (VT.mk (VT.t (notV (VT.mk t0 t0_1 t0_2 t0_3))) (VT.n (notV (VT.mk t0 t0_1 t0_2 t0_3))) (VT.s (notV (VT.mk t0 t0_1 t0_2 t0_3))) (VT.l (notV (VT.mk t0 t0_1 t0_2 t0_3)))) (VT.mk (VT.t (notV (VT.mk t0 t0_1 t0_2 t0_3))) (VT.n (notV (VT.mk t0 t0_1 t0_2 t0_3))) (VT.s (notV (VT.mk t0 t0_1 t0_2 t0_3))) (VT.l (notV (VT.mk t0 t0_1 t0_2 t0_3)))))) = Bool.false) → True) ∧ (((O.real.or (O.real.not (veq (VT.mk (VT.t (notV (VT.mk t0 t0_1 t0_2 t0_3))) (VT.n (notV (VT.mk t0 t0_1 t0_2 t0_3))) (VT.s (notV (VT.mk t0 t0_1 t0_2 t0_3))) (VT.l (notV (VT.mk t0 t0_1 t0_2 t0_3)))) (VT.mk (VT.t (notV (VT.mk t0 t0_1 t0_2 t0_3))) (VT.n (notV (VT.mk t0 t0_1 t0_2 t0_3))) (VT.s (notV (VT.mk t0 t0_1 t0_2 t0_3))) (VT.l (notV (VT.mk t0 t0_1 t0_2 t0_3)))))) (O.real.not (O.real.eq (notE (VT.mk t0 t0_1 t0_2 t0_3)) (notE (VT.mk t0 t0_1 t0_2 t0_3))))) = true → Q (.inr ⟨(AV.bool Bool.false), [], [], []⟩)) ∧ ((O.real.or (O.real.not (veq (VT.mk (VT.t (notV (VT.mk t0 t0_1 t0_2 t0_3))) (VT.n (notV (VT.mk t0 t0_1 t0_2 t0_3))) (VT.s (notV (VT.mk t0 t0_1 t0_2 t0_3))) (VT.l (notV (VT.mk t0 t0_1 t0_2 t0_3)))) (VT.mk (VT.t (notV (VT.mk t0 t0_1 t0_2 t0_3))) (VT.n (notV (VT.mk t0 t0_1 t0_2 t0_3))) (VT.s (notV (VT.mk t0 t0_1 t0_2 t0_3))) (VT.l (notV (VT.mk t0 t0_1 t0_2 t0_3)))))) (O.real.not (O.real.eq (notE (VT.mk t0 t0_1 t0_2 t0_3)) (notE (VT.mk t0 t0_1 t0_2 t0_3))))) = false → ((((O.real.not (veq (VT.mk (VT.t (tilAV t1)) (VT.n (tilAV t1)) (VT.s (tilAV t1)) (VT.l (tilAV t1))) (VT.mk (VT.t (tilAV t1)) (VT.n (tilAV t1)) (VT.s (tilAV t1)) (VT.l (tilAV t1))))) = Bool.false) → True) ∧ ((((O.real.not (veq (VT.mk (VT.t (tilAV t1)) (VT.n (tilAV t1)) (VT.s (tilAV t1)) (VT.l (tilAV t1))) (VT.mk (VT.t (tilAV t1)) (VT.n (tilAV t1)) (VT.s (tilAV t1)) (VT.l (tilAV t1))))) = Bool.false) → True) ∧ ((((O.real.not (veq (VT.mk (VT.t (tilAV t1)) (VT.n (tilAV t1)) (VT.s (tilAV t1)) (VT.l (tilAV t1))) (VT.mk (VT.t (tilAV t1)) (VT.n (tilAV t1)) (VT.s (tilAV t1)) (VT.l (tilAV t1))))) = Bool.false) → True) ∧ ((((O.real.not (veq (VT.mk (VT.t (tilAV t1)) (VT.n (tilAV t1)) (VT.s (tilAV t1)) (VT.l (tilAV t1))) (VT.mk (VT.t (tilAV t1)) (VT.n (tilAV t1)) (VT.s (tilAV t1)) (VT.l (tilAV t1))))) = Bool.false) → True) ∧ (((O.real.or (O.real.not (veq (VT.mk (VT.t (tilAV t1)) (VT.n (tilAV t1)) (VT.s (tilAV t1)) (VT.l (tilAV t1))) (VT.mk (VT.t (tilAV t1)) (VT.n (tilAV t1)) (VT.s (tilAV t1)) (VT.l (tilAV t1))))) (O.real.not (O.real.eq (tilAE t1) (tilAE t1)))) = true → Q (.inr ⟨(AV.bool Bool.false), [], [], []⟩)) ∧ ((O.real.or (O.real.not (veq (VT.mk (VT.t (tilAV t1)) (VT.n (tilAV t1)) (VT.s (tilAV t1)) (VT.l (tilAV t1))) (VT.mk (VT.t (tilAV t1)) (VT.n (tilAV t1)) (VT.s (tilAV t1)) (VT.l (tilAV t1))))) (O.real.not (O.real.eq (tilAE t1) (tilAE t1)))) = false → ((tameF (VT.mk t0 t0_1 t0_2 t0_3)) ∧ ((tameF (VT.mk t0 t0_1 t0_2 t0_3)) ∧ ((((O.real.not (veq (VT.mk (VT.t (whV (VT.mk t0 t0_1 t0_2 t0_3))) (VT.n (whV (VT.mk t0 t0_1 t0_2 t0_3))) (VT.s (whV (VT.mk t0 t0_1 t0_2 t0_3))) (VT.l (whV (VT.mk t0 t0_1 t0_2 t0_3)))) (VT.mk (VT.t (whV (VT.mk t0 t0_1 t0_2 t0_3))) (VT.n (whV (VT.mk t0 t0_1 t0_2 t0_3))) (VT.s (whV (VT.mk t0 t0_1 t0_2 t0_3))) (VT.l (whV (VT.mk t0 t0_1 t0_2 t0_3)))))) = Bool.false) → True) ∧ ((((O.real.not (veq (VT.mk (VT.t (whV (VT.mk t0 t0_1 t0_2 t0_3))) (VT.n (whV (VT.mk t0 t0_1 t0_2 t0_3))) (VT.s (whV (VT.mk t0 t0_1 t0_2 t0_3))) (VT.l (whV (VT.mk t0 t0_1 t0_2 t0_3)))) (VT.mk (VT.t (whV (VT.mk t0 t0_1 t0_2 t0_3))) (VT.n (whV (VT.mk t0 t0_1 t0_2 t0_3))) (VT.s (whV (VT.mk t0 t0_1 t0_2 t0_3))) (VT.l (whV (VT.mk t0 t0_1 t0_2 t0_3)))))) = Bool.false) → True) ∧ ((((O.real.not (veq (VT.mk (VT.t (whV (VT.mk t0 t0_1 t0_2 t0_3))) (VT.n (whV (VT.mk t0 t0_1 t0_2 t0_3))) (VT.s (whV (VT.mk t0 t0_1 t0_2 t0_3))) (VT.l (whV (VT.mk t0 t0_1 t0_2 t0_3)))) (VT.mk (VT.t (whV (VT.mk t0 t0_1 t0_2 t0_3))) (VT.n (whV (VT.mk t0 t0_1 t0_2 t0_3))) (VT.s (whV (VT.mk t0 t0_1 t0_2 t0_3))) (VT.l (whV (VT.mk t0 t0_1 t0_2 t0_3)))))) = Bool.false) → True) ∧ ((((O.real.not (veq (VT.mk (VT.t (whV (VT.mk t0 t0_1 t0_2 t0_3))) (VT.n (whV (VT.mk t0 t0_1 t0_2 t0_3))) (VT.s (whV (VT.mk t0 t0_1 t0_2 t0_3))) (VT.l (whV (VT.mk t0 t0_1 t0_2 t0_3)))) (VT.mk (VT.t (whV (VT.mk t0 t0_1 t0_2 t0_3))) (VT.n (whV (VT.mk t0 t0_1 t0_2 t0_3))) (VT.s (whV (VT.mk t0 t0_1 t0_2 t0_3))) (VT.l (whV (VT.mk t0 t0_1 t0_2 t0_3)))))) = Bool.false) → True) ∧ (((O.real.or (O.real.not (veq (VT.mk (VT.t (whV (VT.mk t0 t0_1 t0_2 t0_3))) (VT.n (whV (VT.mk t0 t0_1 t0_2 t0_3))) (VT.s (whV (VT.mk t0 t0_1 t0_2 t0_3))) (VT.l (whV (VT.mk t0 t0_1 t0_2 t0_3)))) (VT.mk (VT.t (whV (VT.mk t0 t0_1 t0_2 t0_3))) (VT.n (whV (VT.mk t0 t0_1 t0_2 t0_3))) (VT.s (whV (VT.mk t0 t0_1 t0_2 t0_3))) (VT.l (whV (VT.mk t0 t0_1 t0_2 t0_3)))))) (O.real.not (O.real.eq (whE (VT.mk t0 t0_1 t0_2 t0_3)) (whE (VT.mk t0 t0_1 t0_2 t0_3))))) = true → Q (.inr ⟨(AV.bool Bool.false), [], [], []⟩)) ∧ ((O.real.or (O.real.not (veq (VT.mk (VT.t (whV (VT.mk t0 t0_1 t0_2 t0_3))) (VT.n (whV (VT.mk t0 t0_1 t0_2 t0_3))) (VT.s (whV (VT.mk t0 t0_1 t0_2 t0_3))) (VT.l (whV (VT.mk t0 t0_1 t0_2 t0_3)))) (VT.mk (VT.t (whV (VT.mk t0 t0_1 t0_2 t0_3))) (VT.n (whV (VT.mk t0 t0_1 t0_2 t0_3))) (VT.s (whV (VT.mk t0 t0_1 t0_2 t0_3))) (VT.l (whV (VT.mk t0 t0_1 t0_2 t0_3)))))) (O.real.not (O.real.eq (whE (VT.mk t0 t0_1 t0_2 t0_3)) (whE (VT.mk t0 t0_1 t0_2 t0_3))))) = false → ((castOk (VT.mk t0 t0_1 t0_2 t0_3)) ∧ ((castOk (VT.mk t0 t0_1 t0_2 t0_3)) ∧ ((((O.real.not (veq (VT.mk (VT.t (castV t2 (VT.mk t0 t0_1 t0_2 t0_3))) (VT.n (castV t2 (VT.mk t0 t0_1 t0_2 t0_3))) (VT.s (castV t2 (VT.mk t0 t0_1 t0_2 t0_3))) (VT.l (castV t2 (VT.mk t0 t0_1 t0_2 t0_3)))) (VT.mk (VT.t (castV t2 (VT.mk t0 t0_1 t0_2 t0_3))) (VT.n (castV t2 (VT.mk t0 t0_1 t0_2 t0_3))) (VT.s (castV t2 (VT.mk t0 t0_1 t0_2 t0_3))) (VT.l (castV t2 (VT.mk t0 t0_1 t0_2 t0_3)))))) = Bool.false) → True) ∧ ((((O.real.not (veq (VT.mk (VT.t (castV t2 (VT.mk t0 t0_1 t0_2 t0_3))) (VT.n (castV t2 (VT.mk t0 t0_1 t0_2 t0_3))) (VT.s (castV t2 (VT.mk t0 t0_1 t0_2 t0_3))) (VT.l (castV t2 (VT.mk t0 t0_1 t0_2 t0_3)))) (VT.mk (VT.t (castV t2 (VT.mk t0 t0_1 t0_2 t0_3))) (VT.n (castV t2 (VT.mk t0 t0_1 t0_2 t0_3))) (VT.s (castV t2 (VT.mk t0 t0_1 t0_2 t0_3))) (VT.l (castV t2 (VT.mk t0 t0_1 t0_2 t0_3)))))) = Bool.false) → True) ∧ ((((O.real.not (veq (VT.mk (VT.t (castV t2 (VT.mk t0 t0_1 t0_2 t0_3))) (VT.n (castV t2 (VT.mk t0 t0_1 t0_2 t0_3))) (VT.s (castV t2 (VT.mk t0 t0_1 t0_2 t0_3))) (VT.l (castV t2 (VT.mk t0 t0_1 t0_2 t0_3)))) (VT.mk (VT.t (castV t2 (VT.mk t0 t0_1 t0_2 t0_3))) (VT.n (castV t2 (VT.mk t0 t0_1 t0_2 t0_3))) (VT.s (castV t2 (VT.mk t0 t0_1 t0_2 t0_3))) (VT.l (castV t2 (VT.mk t0 t0_1 t0_2 t0_3)))))) = Bool.false) → True) ∧ ((((O.real.not (veq (VT.mk (VT.t (castV t2 (VT.mk t0 t0_1 t0_2 t0_3))) (VT.n (castV t2 (VT.mk t0 t0_1 t0_2 t0_3))) (VT.s (castV t2 (VT.mk t0 t0_1 t0_2 t0_3))) (VT.l (castV t2 (VT.mk t0 t0_1 t0_2 t0_3)))) (VT.mk (VT.t (castV t2 (VT.mk t0 t0_1 t0_2 t0_3))) (VT.n (castV t2 (VT.mk t0 t0_1 t0_2 t0_3))) (VT.s (castV t2 (VT.mk t0 t0_1 t0_2 t0_3))) (VT.l (castV t2 (VT.mk t0 t0_1 t0_2 t0_3)))))) = Bool.false) → True) ∧ (((O.real.or (O.real.not (veq (VT.mk (VT.t (castV t2 (VT.mk t0 t0_1 t0_2 t0_3))) (VT.n (castV t2 (VT.mk t0 t0_1 t0_2 t0_3))) (VT.s (castV t2 (VT.mk t0 t0_1 t0_2 t0_3))) (VT.l (castV t2 (VT.mk t0 t0_1 t0_2 t0_3)))) (VT.mk (VT.t (castV t2 (VT.mk t0 t0_1 t0_2 t0_3))) (VT.n (castV t2 (VT.mk t0 t0_1 t0_2 t0_3))) (VT.s (castV t2 (VT.mk t0 t0_1 t0_2 t0_3))) (VT.l (castV t2 (VT.mk t0 t0_1 t0_2 t0_3)))))) (O.real.not (O.real.eq (castE t2 (VT.mk t0 t0_1 t0_2 t0_3)) (castE t2 (VT.mk t0 t0_1 t0_2 t0_3))))) = true → Q (.inr ⟨(AV.bool Bool.false), [], [], []⟩)) ∧ ((O.real.or (O.real.not (veq (VT.mk (VT.t (castV t2 (VT.mk t0 t0_1 t0_2 t0_3))) (VT.n (castV t2 (VT.mk t0 t0_1 t0_2 t0_3))) (VT.s (castV t2 (VT.mk t0 t0_1 t0_2 t0_3))) (VT.l (castV t2 (VT.mk t0 t0_1 t0_2 t0_3)))) (VT.mk (VT.t (castV t2 (VT.mk t0 t0_1 t0_2 t0_3))) (VT.n (castV t2 (VT.mk t0 t0_1 t0_2 t0_3))) (VT.s (castV t2 (VT.mk t0 t0_1 t0_2 t0_3))) (VT.l (castV t2 (VT.mk t0 t0_1 t0_2 t0_3)))))) (O.real.not (O.real.eq (castE t2 (VT.mk t0 t0_1 t0_2 t0_3)) (castE t2 (VT.mk t0 t0_1 t0_2 t0_3))))) = false → ((fillOk (VT.mk t3 t3_1 t3_2 t3_3) (VT.mk t0 t0_1 t0_2 t0_3)) ∧ ((fillOk (VT.mk t3 t3_1 t3_2 t3_3) (VT.mk t0 t0_1 t0_2 t0_3)) ∧ ((((veq (VT.mk (VT.t (fillV (VT.mk t3 t3_1 t3_2 t3_3) (VT.mk t0 t0_1 t0_2 t0_3))) (VT.n (fillV (VT.mk t3 t3_1 t3_2 t3_3) (VT.mk t0 t0_1 t0_2 t0_3))) (VT.s (fillV (VT.mk t3 t3_1 t3_2 t3_3) (VT.mk t0 t0_1 t0_2 t0_3))) (VT.l (fillV (VT.mk t3 t3_1 t3_2 t3_3) (VT.mk t0 t0_1 t0_2 t0_3)))) (VT.mk (VT.t (fillV (VT.mk t3 t3_1 t3_2 t3_3) (VT.mk t0 t0_1 t0_2 t0_3))) (VT.n (fillV (VT.mk t3 t3_1 t3_2 t3_3) (VT.mk t0 t0_1 t0_2 t0_3))) (VT.s (fillV (VT.mk t3 t3_1 t3_2 t3_3) (VT.mk t0 t0_1 t0_2 t0_3))) (VT.l (fillV (VT.mk t3 t3_1 t3_2 t3_3) (VT.mk t0 t0_1 t0_2 t0_3))))) = Bool.true) → True) ∧ ((((veq (VT.mk (VT.t (fillV (VT.mk t3 t3_1 t3_2 t3_3) (VT.mk t0 t0_1 t0_2 t0_3))) (VT.n (fillV (VT.mk t3 t3_1 t3_2 t3_3) (VT.mk t0 t0_1 t0_2 t0_3))) (VT.s (fillV (VT.mk t3 t3_1 t3_2 t3_3) (VT.mk t0 t0_1 t0_2 t0_3))) (VT.l (fillV (VT.mk t3 t3_1 t3_2 t3_3) (VT.mk t0 t0_1 t0_2 t0_3)))) (VT.mk (VT.t (fillV (VT.mk t3 t3_1 t3_2 t3_3) (VT.mk t0 t0_1 t0_2 t0_3))) (VT.n (fillV (VT.mk t3 t3_1 t3_2 t3_3) (VT.mk t0 t0_1 t0_2 t0_3))) (VT.s (fillV (VT.mk t3 t3_1 t3_2 t3_3) (VT.mk t0 t0_1 t0_2 t0_3))) (VT.l (fillV (VT.mk t3 t3_1 t3_2 t3_3) (VT.mk t0 t0_1 t0_2 t0_3))))) = Bool.true) → True) ∧ ((((veq (VT.mk (VT.t (fillV (VT.mk t3 t3_1 t3_2 t3_3) (VT.mk t0 t0_1 t0_2 t0_3))) (VT.n (fillV (VT.mk t3 t3_1 t3_2 t3_3) (VT.mk t0 t0_1 t0_2 t0_3))) (VT.s (fillV (VT.mk t3 t3_1 t3_2 t3_3) (VT.mk t0 t0_1 t0_2 t0_3))) (VT.l (fillV (VT.mk t3 t3_1 t3_2 t3_3) (VT.mk t0 t0_1 t0_2 t0_3)))) (VT.mk (VT.t (fillV (VT.mk t3 t3_1 t3_2 t3_3) (VT.mk t0 t0_1 t0_2 t0_3))) (VT.n (fillV (VT.mk t3 t3_1 t3_2 t3_3) (VT.mk t0 t0_1 t0_2 t0_3))) (VT.s (fillV (VT.mk t3 t3_1 t3_2 t3_3) (VT.mk t0 t0_1 t0_2 t0_3))) (VT.l (fillV (VT.mk t3 t3_1 t3_2 t3_3) (VT.mk t0 t0_1 t0_2 t0_3))))) = Bool.true) → True) ∧ ((((veq (VT.mk (VT.t (fillV (VT.mk t3 t3_1 t3_2 t3_3) (VT.mk t0 t0_1 t0_2 t0_3))) (VT.n (fillV (VT.mk t3 t3_1 t3_2 t3_3) (VT.mk t0 t0_1 t0_2 t0_3))) (VT.s (fillV (VT.mk t3 t3_1 t3_2 t3_3) (VT.mk t0 t0_1 t0_2 t0_3))) (VT.l (fillV (VT.mk t3 t3_1 t3_2 t3_3) (VT.mk t0 t0_1 t0_2 t0_3)))) (VT.mk (VT.t (fillV (VT.mk t3 t3_1 t3_2 t3_3) (VT.mk t0 t0_1 t0_2 t0_3))) (VT.n (fillV (VT.mk t3 t3_1 t3_2 t3_3) (VT.mk t0 t0_1 t0_2 t0_3))) (VT.s (fillV (VT.mk t3 t3_1 t3_2 t3_3) (VT.mk t0 t0_1 t0_2 t0_3))) (VT.l (fillV (VT.mk t3 t3_1 t3_2 t3_3) (VT.mk t0 t0_1 t0_2 t0_3))))) = Bool.true) → True) ∧ ((((O.real.and (veq (VT.mk (VT.t (fillV (VT.mk t3 t3_1 t3_2 t3_3) (VT.mk t0 t0_1 t0_2 t0_3))) (VT.n (fillV (VT.mk t3 t3_1 t3_2 t3_3) (VT.mk t0 t0_1 t0_2 t0_3))) (VT.s (fillV (VT.mk t3 t3_1 t3_2 t3_3) (VT.mk t0 t0_1 t0_2 t0_3))) (VT.l (fillV (VT.mk t3 t3_1 t3_2 t3_3) (VT.mk t0 t0_1 t0_2 t0_3)))) (VT.mk (VT.t (fillV (VT.mk t3 t3_1 t3_2 t3_3) (VT.mk t0 t0_1 t0_2 t0_3))) (VT.n (fillV (VT.mk t3 t3_1 t3_2 t3_3) (VT.mk t0 t0_1 t0_2 t0_3))) (VT.s (fillV (VT.mk t3 t3_1 t3_2 t3_3) (VT.mk t0 t0_1 t0_2 t0_3))) (VT.l (fillV (VT.mk t3 t3_1 t3_2 t3_3) (VT.mk t0 t0_1 t0_2 t0_3))))) (O.real.eq (fillE (VT.mk t3 t3_1 t3_2 t3_3) (VT.mk t0 t0_1 t0_2 t0_3)) (fillE (VT.mk t3 t3_1 t3_2 t3_3) (VT.mk t0 t0_1 t0_2 t0_3)))) = Bool.true) → True) ∧ Q (.inr ⟨(AV.bool (O.real.and (O.real.and (veq (VT.mk (VT.t (fillV (VT.mk t3 t3_1 t3_2 t3_3) (VT.mk t0 t0_1 t0_2 t0_3))) (VT.n (fillV (VT.mk t3 t3_1 t3_2 t3_3) (VT.mk t0 t0_1 t0_2 t0_3))) (VT.s (fillV (VT.mk t3 t3_1 t3_2 t3_3) (VT.mk t0 t0_1 t0_2 t0_3))) (VT.l (fillV (VT.mk t3 t3_1 t3_2 t3_3) (VT.mk t0 t0_1 t0_2 t0_3)))) (VT.mk (VT.t (fillV (VT.mk t3 t3_1 t3_2 t3_3) (VT.mk t0 t0_1 t0_2 t0_3))) (VT.n (fillV (VT.mk t3 t3_1 t3_2 t3_3) (VT.mk t0 t0_1 t0_2 t0_3))) (VT.s (fillV (VT.mk t3 t3_1 t3_2 t3_3) (VT.mk t0 t0_1 t0_2 t0_3))) (VT.l (fillV (VT.mk t3 t3_1 t3_2 t3_3) (VT.mk t0 t0_1 t0_2 t0_3))))) (O.real.eq (fillE (VT.mk t3 t3_1 t3_2 t3_3) (VT.mk t0 t0_1 t0_2 t0_3)) (fillE (VT.mk t3 t3_1 t3_2 t3_3) (VT.mk t0 t0_1 t0_2 t0_3)))) Bool.true)), [], [], []⟩))))))))))))))))))))))))))))))))))))))))))))))))))))))) := by kernel_rfl
end Go.Qv
/- quiverlaw07.VecOnes: the law over contracts. No condition. -/
set_option linter.unusedVariables false
set_option linter.unusedSimpArgs false
set_option maxRecDepth 100000
namespace Go.Qv
open Go Go.RowKit Go.Proofs
noncomputable def closedF : Orc := inl O.real tbF fns noOrc noKnown shutM 300 14
theorem closedF_ok : OrcOk Tryz.prog closedF (fun _ => True) := inl_ok mixed tbF_ok fnsOk (noOrc_ok _ _) 14
noncomputable def closedL : Orc := inl O.real tbF fns (pureOrc (PS.also 34 (runP closedF 34) PS.none)) (fun f => Nat.beq f 34) shutM 300 14
theorem closedL_ok : OrcOk Tryz.prog closedL (fun _ => True) := inl_ok mixed tbF_ok fnsOk (pureOrc_ok (PureOk.also (runP_ok closedF_ok 34) (PureOk.none _))) 14
theorem live8 : (closedL 6 0 [] []).okB (fun E => isT E && E.hw.isEmpty && E.frz.isEmpty && E.new.isEmpty) = true := by kernel_rfl
theorem okLive : Pure1 Tryz.prog 6 spLive := ok_live closedL_ok live8
theorem veq_self (v : VT) : veq v v = true := veq_iff.2 rfl
/-! ### what a check says -/
theorem parts_i {t n s l k} (h : rParts (.mk t n s l) k = 0) : (rfN t = false → n = []) ∧ (rfS t = false → s = []) ∧ (rfL t = false → l = []) ∧ rMany (.mk t n s l) = false ∧ rLong (.mk t n s l) = false ∧ rPlain (.mk t n s l) = true := by
  rw [rParts] at h
  split at h
  · omega
  rename_i h1
  split at h
  · omega
  rename_i h2
  split at h
  · omega
  rename_i h3
  split at h
  · omega
  rename_i h4
  refine ⟨fun hN => ?_, fun hN => ?_, fun hN => ?_, by simpa using h2, by simpa using h3, by simpa using h4⟩
  · cases n with
    | nil => rfl
    | cons x n => exact absurd (.inr (.inl ⟨hN, by simp⟩)) h1
  · cases s with
    | nil => rfl
    | cons x n => exact absurd (.inr (.inr (.inl ⟨hN, by simp⟩))) h1
  · cases l with
    | nil => rfl
    | cons x n => exact absurd (.inr (.inr (.inr ⟨hN, by simp⟩))) h1
theorem checkV_p {v : VT} (h : checkV v = 0) : rParts v 1048576 = 0 := by
  unfold checkV at h
  split at h
  · omega
  · exact h
theorem rf_sym {t : Int} (h : rAbs t = 3) : rfN t = false ∧ rfS t = true ∧ rfL t = false := by
  unfold rfN rfS rfL rFields; rw [if_pos h]; exact ⟨rfl, rfl, rfl⟩
theorem rf_num {t : Int} (h3 : rAbs t ≠ 3) (h0 : t ≠ 0) (h : 1 ≤ rAbs t ∧ rAbs t ≤ 5) : rfN t = true ∧ rfS t = false ∧ rfL t = false := by
  unfold rfN rfS rfL rFields; rw [if_neg h3, if_pos ⟨⟨h0, h.1⟩, h.2⟩]; exact ⟨rfl, rfl, rfl⟩
theorem longs {s : List ByteArray} (h : longer 64 s = false) : strs s ≤ 65 * s.length := by
  induction s with
  | nil => simp [strs]
  | cons x s ih =>
    unfold longer at h ih
    rw [List.any_cons, Bool.or_eq_false_iff, decide_eq_false_iff_not] at h
    have := ih h.2
    simp only [strs, List.length_cons]; omega
theorem longs1 {s : List ByteArray} (h : longer 64 s = false) : ∀ x ∈ s, x.size ≤ 64 := by
  intro x hx
  unfold longer at h
  rw [List.any_eq_false] at h
  have := h x hx
  simp only [decide_eq_true_eq] at this
  omega
theorem wf_isI {n : Int} (h : (Lit.int .i64 n).wf = true) : isI n := by
  simp [Lit.wf, IntKind.min, IntKind.max, IntKind.signed, IntKind.bits] at h
  unfold isI; omega
theorem fine_isI {t n s l} (h : VT.Fine (.mk t n s l)) : ∀ x ∈ n, isI x := by
  cases h with
  | mk _ _ _ _ h1 h2 h3 h4 h5 h6 h7 => exact fun x hx => wf_isI (h2 x hx)
theorem fine_len {t n s l} (h : VT.Fine (.mk t n s l)) : n.length ≤ maxLen ∧ s.length ≤ maxLen := by
  cases h with
  | mk _ _ _ _ h1 h2 h3 h4 h5 h6 h7 => exact ⟨h5, h6⟩
/-- A checked atom. -/
structure AtomF (t : Int) (n : List Int) (s : List ByteArray) (l : List VT) : Prop where
  ht : t < 0 ∧ -5 ≤ t
  sym : t = -3 → n = [] ∧ s.length = 1
  num : t ≠ -3 → s = [] ∧ n.length = 1
  nul : l = []
  ints : ∀ x ∈ n, isI x
  txt : strs s ≤ 65
/-- A checked vector. -/
structure VecF (t : Int) (n : List Int) (s : List ByteArray) (l : List VT) : Prop where
  ht : 1 ≤ t ∧ t ≤ 5
  sym : t = 3 → n = []
  num : t ≠ 3 → s = []
  nul : l = []
  ints : ∀ x ∈ n, isI x
  nn : n.length ≤ 65536
  ns : s.length ≤ 65536
  txt : strs s ≤ 4259840
  each : ∀ x ∈ s, x.size ≤ 64
theorem atomF {t n s l} (hf : VT.Fine (.mk t n s l)) (hc : checkV (.mk t n s l) = 0) (ht : t < 0 ∧ -5 ≤ t) : AtomF t n s l := by
  obtain ⟨pN, pS, pL, pm, pl, pp⟩ := parts_i (checkV_p hc)
  obtain ⟨m1, m2⟩ := fine_len hf
  have m1 := m1
  unfold maxLen at m1 m2
  have hab : rAbs t = -t := by unfold rAbs; rw [if_pos (by omega)]
  have hlong : longer 64 s = false := by
    have : rLong (.mk t n s l) = longer (if t = 100 then 65536 else 64) s := rfl
    rw [this, if_neg (by omega)] at pl; exact pl
  have hone : IntKind.i64.wrap ((n.length : Int) + s.length) = 1 := by
    have e : rPlain (.mk t n s l) = if isAtomT t ∧ IntKind.i64.wrap (n.length + s.length) ≠ 1 then false else (if rAbs t = 1 then n.all (fun x => decide (x = 0 ∨ x = 1))
      else if t = 100 then decide (s.length = 1 ∧ 2 ≤ (s.getD 0 ⟨#[]⟩).size ∧ byteI (s.getD 0 ⟨#[]⟩) 0 = 123 ∧ byteI (s.getD 0 ⟨#[]⟩) ((s.getD 0 ⟨#[]⟩).size - 1) = 125)
      else if t = 0 then rList (.mk t n s l)
      else if t = 98 then rTable (.mk t n s l)
      else if t = 99 then decide (l.length = 2 ∧ ((isColT (l.getD 0 default).t ∧ isColT (l.getD 1 default).t) ∨ ((l.getD 0 default).t = 98 ∧ (l.getD 1 default).t = 98)))
      else if rAbs t = 3 then rSyms s
      else true) := rfl
    rw [e] at pp
    apply Classical.byContradiction
    intro h
    rw [if_pos ⟨ht, h⟩] at pp
    cases pp
  rw [IntKind.wrap_i64] at hone
  have hL : l = [] := by
    by_cases h3 : rAbs t = 3
    · exact pL (rf_sym h3).2.2
    · exact pL (rf_num h3 (by omega) (by omega)).2.2
  have hsym : t = -3 → n = [] ∧ s.length = 1 := fun h => by
    have hn := pN (rf_sym (show rAbs t = 3 by omega)).1
    refine ⟨hn, ?_⟩
    rw [hn] at hone
    simp only [List.length_nil] at hone
    omega
  have hnum : t ≠ -3 → s = [] ∧ n.length = 1 := fun h => by
    have hs := pS (rf_num (show rAbs t ≠ 3 by omega) (by omega) (by omega)).2.1
    refine ⟨hs, ?_⟩
    rw [hs] at hone
    simp only [List.length_nil] at hone
    omega
  refine ⟨ht, hsym, hnum, hL, fine_isI hf, ?_⟩
  have := longs hlong
  by_cases h : t = -3
  · have := (hsym h).2; omega
  · rw [(hnum h).1]; simp [strs]
theorem vecF {t n s l} (hf : VT.Fine (.mk t n s l)) (hc : checkV (.mk t n s l) = 0) (ht : 1 ≤ t ∧ t ≤ 5) : VecF t n s l := by
  obtain ⟨pN, pS, pL, pm, pl, pp⟩ := parts_i (checkV_p hc)
  have hab : rAbs t = t := by unfold rAbs; rw [if_neg (by omega)]
  have hlong : longer 64 s = false := by
    have : rLong (.mk t n s l) = longer (if t = 100 then 65536 else 64) s := rfl
    rw [this, if_neg (by omega)] at pl; exact pl
  have em : rMany (.mk t n s l) = if t = 3 then decide ((65536 : Int) < s.length) else if 1 ≤ t ∧ t ≤ 5 then decide ((65536 : Int) < n.length) else if t = 98 then decide ((64 : Int) < s.length) || decide ((64 : Int) < l.length) else decide (t = 0) && decide ((65536 : Int) < l.length) := rfl
  rw [em] at pm
  have hL : l = [] := by
    by_cases h3 : rAbs t = 3
    · exact pL (rf_sym h3).2.2
    · exact pL (rf_num h3 (by omega) (by omega)).2.2
  have hsym : t = 3 → n = [] := fun h => pN (rf_sym (show rAbs t = 3 by omega)).1
  have hnum : t ≠ 3 → s = [] := fun h => pS (rf_num (show rAbs t ≠ 3 by omega) (by omega) (by omega)).2.1
  have k := longs hlong
  by_cases h3 : t = 3
  · rw [if_pos h3, decide_eq_false_iff_not] at pm
    refine ⟨ht, hsym, hnum, hL, fine_isI hf, by rw [hsym h3]; simp, by omega, by omega, longs1 hlong⟩
  · rw [if_neg h3, if_pos ht, decide_eq_false_iff_not] at pm
    refine ⟨ht, hsym, hnum, hL, fine_isI hf, by omega, by rw [hnum h3]; simp, by rw [hnum h3]; simp [strs], longs1 hlong⟩

theorem bool_plain {t n s l} (hc : checkV (.mk t n s l) = 0) (ht : t = 1 ∨ t = -1) : ∀ x ∈ n, x ≠ -9223372036854775808 := by
  obtain ⟨pN, pS, pL, pm, pl, pp⟩ := parts_i (checkV_p hc)
  have e : rPlain (.mk t n s l) = if isAtomT t ∧ IntKind.i64.wrap (n.length + s.length) ≠ 1 then false else (if rAbs t = 1 then n.all (fun x => decide (x = 0 ∨ x = 1))
      else if t = 100 then decide (s.length = 1 ∧ 2 ≤ (s.getD 0 ⟨#[]⟩).size ∧ byteI (s.getD 0 ⟨#[]⟩) 0 = 123 ∧ byteI (s.getD 0 ⟨#[]⟩) ((s.getD 0 ⟨#[]⟩).size - 1) = 125)
      else if t = 0 then rList (.mk t n s l)
      else if t = 98 then rTable (.mk t n s l)
      else if t = 99 then decide (l.length = 2 ∧ ((isColT (l.getD 0 default).t ∧ isColT (l.getD 1 default).t) ∨ ((l.getD 0 default).t = 98 ∧ (l.getD 1 default).t = 98)))
      else if rAbs t = 3 then rSyms s
      else true) := rfl
  have ha : rAbs t = 1 := by unfold rAbs; split <;> omega
  rw [e] at pp
  split at pp
  · cases pp
  · rw [List.all_eq_true] at pp
    intro x hx
    have := of_decide_eq_true (pp x hx)
    omega
theorem tame_atom {t n s l} (h : AtomF t n s l) : tame (.mk t n s l) := by
  have h1 := h.txt
  have h2 := h.nul
  subst h2
  unfold tame
  rw [VT.bk_eq]
  have hn : n.length ≤ 1 := by
    by_cases h3 : t = -3
    · rw [(h.sym h3).1]; simp
    · have := (h.num h3).2; omega
  simp only [bks]; omega
theorem tame_vec {t n s l} (h : VecF t n s l) : tame (.mk t n s l) := by
  have h1 := h.txt
  have h3 := h.nn
  have h2 := h.nul
  subst h2
  unfold tame
  rw [VT.bk_eq]
  simp only [bks]; omega
theorem fl_split {t : Int} (h : flT t) : (1 ≤ t ∧ t ≤ 5) ∨ (t < 0 ∧ -5 ≤ t) := by unfold flT at h; omega
theorem tameF_of {v : VT} (hf : v.Fine) (hc : checkV v = 0) : tameF v := by
  obtain ⟨t, n, s, l⟩ := v
  intro ht
  rcases fl_split ht with h | h
  · exact tame_vec (vecF hf hc h)
  · exact tame_atom (atomF hf hc h)
theorem castOk_of {v : VT} (hf : v.Fine) (hc : checkV v = 0) : castOk v := by
  obtain ⟨t, n, s, l⟩ := v
  exact ⟨tameF_of hf hc, fine_isI hf, fun h => bool_plain hc h⟩
theorem cnt_at {t n s l} (h : t < 0 ∧ -5 ≤ t) : rCount (.mk t n s l) = 1 := by
  have h3 : t ≠ 3 := by omega
  have hv : ¬ isVecT t := by unfold isVecT; omega
  cases l with
  | nil => simp only [rCount, if_neg h3, if_neg hv]; rw [if_neg (by omega)]
  | cons x l => simp only [rCount, if_neg h3, if_neg hv]; rw [if_neg (by omega), if_neg (by omega)]
theorem fillOk_of {x v : VT} (hx : x.Fine) (cx : checkV x = 0) (hf : v.Fine) (hc : checkV v = 0) : fillOk x v := by
  refine ⟨tameF_of hf hc, fun ht => ?_⟩
  obtain ⟨tx, nx, sx, lx⟩ := x
  obtain ⟨t, n, s, l⟩ := v
  obtain ⟨h1, h2, h3⟩ := ht
  have h1 : flT t := h1
  have h2 : tx < 0 ∧ -5 ≤ tx := h2
  have h3 : -tx = absT t := h3
  have A := atomF hx cx h2
  have ea : absT (VT.mk t n s l).t = absT t := rfl
  rw [ea]
  rcases fl_split h1 with h | h
  · have B := vecF hf hc h
    have hab : absT t = t := by unfold absT; rw [if_neg (by omega)]
    refine ⟨B.nul, fun h4 => ⟨B.sym (by omega), (A.sym (by omega)).2, ?_⟩, fun h4 => ⟨B.num (by omega), (A.num (by omega)).2, ?_⟩⟩
    · have : t = 3 := by omega
      subst this; exact cnt_s
    · exact cnt_n (by omega) h
  · have B := atomF hf hc h
    have hab : absT t = -t := by unfold absT; rw [if_pos h.1]
    refine ⟨B.nul, fun h4 => ⟨(B.sym (by omega)).1, (A.sym (by omega)).2, ?_⟩, fun h4 => ⟨(B.num (by omega)).1, (A.num (by omega)).2, ?_⟩⟩
    · rw [cnt_at h]; have := (B.sym (by omega)).2; exact_mod_cast this.symm
    · rw [cnt_at h]; have := (B.num (by omega)).2; exact_mod_cast this.symm
theorem ones (k c : Int) (t n s l t' n' s' l') (hf : (VT.mk t n s l).Fine) (hf' : (VT.mk t' n' s' l').Fine) : Rh w4xS IsTrue (9999, [.int t, .is n, .ss s, .vs l, .int k, .int c, .int t', .is n', .ss s', .vs l']) := by
  refine Rh.go (w4x_9999 t n s l k c t' n' s' l' _) ?_
  simp only [o_add, o_sub, o_mul, o_neg, o_conv, o_lt, o_le, o_eq, o_not, o_and, o_or, o_sel, o_isel, o_ssel, o_beq, o_seq, o_slt, o_slen, o_sat, o_scut, o_sadd, o_ilen, o_blen, o_vlen, o_rlen, o_iget, o_bget, o_vget, o_rget, o_iset, o_bset, o_vset, o_iapp, o_bapp, o_vapp, o_rapp, o_icut, o_bcut, o_vcut, o_irep, o_vt, o_vn, o_vs, o_vl, o_imax, o_imin, o_inb, o_sfit, o_cutb, o_fit, o_mkfit, RhQ, decT, decF, true_and, and_true, eq_self, implies_true, forall_const, Bool.not_eq_true', Bool.not_eq_false', Bool.not_true, Bool.not_false, Bool.and_eq_true, Bool.or_eq_true, Bool.and_eq_false_iff, Bool.or_eq_false_iff, Bool.true_and, Bool.and_true, Bool.false_and, Bool.and_false, Bool.or_false, Bool.false_or, Bool.true_or, Bool.or_true, Int.toNat_natCast, VT.eta, not_true, not_false_iff, false_implies, if_true, if_false, Int.toNat_zero, Int.toNat_one, ns0, ns4, veq_self]
  refine ⟨fun y hy => by simp at hy; rcases hy with rfl | rfl; exact hf; exact hf', fun _ => IsTrue.of rfl, fun hg => ?_⟩
  have hr := hg.1
  have hck : checkV (.mk t n s l) = 0 ∧ checkV (.mk t' n' s' l') = 0 := by
    unfold rightB checkB at hr
    simp only [List.all_cons, List.all_nil, Bool.and_true, Bool.and_eq_true, decide_eq_true_eq] at hr
    exact hr.2
  have p1 := tameF_of hf hck.1
  have p2 := castOk_of hf hck.1
  have p3 := fillOk_of hf' hck.2 hf hck.1
  exact ⟨p1, p1, p1, p1, p1, p1, p2, p2, p3, p3, IsTrue.of (by simp)⟩
end Go.Qv
