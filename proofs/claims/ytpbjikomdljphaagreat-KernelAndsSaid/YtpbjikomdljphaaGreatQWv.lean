/- Walks of readers: rounds. (Printed.) -/
import Derived.Test.YtpbjikomdljphaaGreatQKe
set_option linter.unusedVariables false
set_option maxRecDepth 100000
namespace Go.Qv
open Go Go.RowKit
theorem wTR (op t : Int) (n : List Int) (s : List ByteArray) (l : List VT) (h : List Int) (k : Int) (xt : Int) (xn : List Int) (xs : List ByteArray) (xl : List VT) (Q : List Lf × Jp → Prop) : T.ob noB Q (.S (.B (.S (.S .E)) (.S .E))) (roundT O.real Go.Qv.tb (inl O.real Go.Qv.tb Go.Qv.fns (pureOrc (PS.also 30 spPassT PS.none)) (fun f => Nat.beq f 30) (fun _ => false) 300 14) (rfA (rfAt Go.Proofs.Tryz.f8 6)) (rfB (rfAt Go.Proofs.Tryz.f8 6)) 0 tmS [(19, .agg [.int .i64 xt, .sl (.i .i64 xn), .sl (.s xs), .sl (.v xl)]), (18, .int .i64 k)] (tmS.inst [.int op, .int t, .is n, .ss s, .vs l, .is h])) =
  ((tstOk (VT.mk t n s l)) ∧ (((passT (VT.mk xt xn xs xl) op (VT.mk t n s l)) = true → (((O.real.fit (O.real.ilen h) (O.real.ilen [k]) 8)).p ∧ Q ([(Lf.int op), (Lf.int t), (Lf.is n), (Lf.ss s), (Lf.vs l), (Lf.is (O.real.iapp h [k]))], Jp.go))) ∧ ((passT (VT.mk xt xn xs xl) op (VT.mk t n s l)) = false → Q ([(Lf.int op), (Lf.int t), (Lf.is n), (Lf.ss s), (Lf.vs l), (Lf.is h)], Jp.go)))) := by kernel_rfl

theorem wIR (yt : Int) (yn : List Int) (ys : List ByteArray) (yl : List VT) (op t : Int) (n : List Int) (s : List ByteArray) (l : List VT) (r : Bool) (k : Int) (xt : Int) (xn : List Int) (xs : List ByteArray) (xl : List VT) (Q : List Lf × Jp → Prop) : T.ob noB Q (.B (.S .E) (.S .E)) (roundT O.real Go.Qv.tb (inl O.real Go.Qv.tb Go.Qv.fns (pureOrc (PS.also 50 sp50f PS.none)) (fun f => Nat.beq f 50) (fun _ => false) 300 14) (rfA (rfAt Go.Proofs.Tryz.f30 3)) (rfB (rfAt Go.Proofs.Tryz.f30 3)) 0 tmI [(19, .agg [.int .i64 xt, .sl (.i .i64 xn), .sl (.s xs), .sl (.v xl)]), (18, .int .i64 k)] (tmI.inst [.int yt, .is yn, .ss ys, .vs yl, .int op, .int t, .is n, .ss s, .vs l, .bool r])) =
  (((O.real.eq (vcmp (VT.mk yt yn ys yl) (VT.mk xt xn xs xl)) (0 : Int)) = true → Q ([(Lf.int yt), (Lf.is yn), (Lf.ss ys), (Lf.vs yl), (Lf.int op), (Lf.int t), (Lf.is n), (Lf.ss s), (Lf.vs l), (Lf.bool Bool.true)], Jp.ret)) ∧ ((O.real.eq (vcmp (VT.mk yt yn ys yl) (VT.mk xt xn xs xl)) (0 : Int)) = false → Q ([(Lf.int yt), (Lf.is yn), (Lf.ss ys), (Lf.vs yl), (Lf.int op), (Lf.int t), (Lf.is n), (Lf.ss s), (Lf.vs l), (Lf.bool r)], Jp.go))) := by kernel_rfl
end Go.Qv
