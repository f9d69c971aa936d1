/- Walks of readers: a round. (Printed.) -/
import Derived.Test.YtmeagbopnliddaaGreatQDa
set_option linter.unusedVariables false
set_option maxRecDepth 100000
namespace Go.Qv
open Go Go.RowKit
theorem wFR (t : Int) (n : List Int) (s : List ByteArray) (l : List VT) (zt : Int) (zn : List Int) (zs : List ByteArray) (zl : List VT) (r0 r1 i : Int) (xt : Int) (xn : List Int) (xs : List ByteArray) (xl : List VT) (Q : List Lf × Jp → Prop) : T.ob noB Q (.B (.S .E) (.S .E)) (roundT O.real Go.Qv.tb (inl O.real Go.Qv.tb Go.Qv.fns (pureOrc (PS.also 99 sp99f PS.none)) (fun f => Nat.beq f 99) (fun _ => false) 300 14) (rfA (rfAt Go.Proofs.Tryz.f57 4)) (rfB (rfAt Go.Proofs.Tryz.f57 4)) 0 tmF [(14, .agg [.int .i64 xt, .sl (.i .i64 xn), .sl (.s xs), .sl (.v xl)]), (13, .int .i64 i)] (tmF.inst [.int t, .is n, .ss s, .vs l, .int zt, .is zn, .ss zs, .vs zl, .int r0, .int r1])) =
  (((veq (VT.mk zt zn zs zl) (VT.mk xt xn xs xl)) = true → Q ([(Lf.int t), (Lf.is n), (Lf.ss s), (Lf.vs l), (Lf.int zt), (Lf.is zn), (Lf.ss zs), (Lf.vs zl), (Lf.int i), (Lf.int (0 : Int))], Jp.ret)) ∧ ((veq (VT.mk zt zn zs zl) (VT.mk xt xn xs xl)) = false → Q ([(Lf.int t), (Lf.is n), (Lf.ss s), (Lf.vs l), (Lf.int zt), (Lf.is zn), (Lf.ss zs), (Lf.vs zl), (Lf.int r0), (Lf.int r1)], Jp.go))) := by kernel_rfl
end Go.Qv
