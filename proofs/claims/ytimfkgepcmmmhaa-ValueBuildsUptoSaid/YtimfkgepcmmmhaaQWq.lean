/- Walks of readers: a round. (Printed.) -/
import Derived.Test.YtimfkgepcmmmhaaQVd
set_option linter.unusedVariables false
set_option maxRecDepth 100000
namespace Go.Qv
open Go Go.RowKit
theorem wBR (t : Int) (n : List Int) (s : List ByteArray) (l : List VT) (h : List VT) (k : Int) (xt : Int) (xn : List Int) (xs : List ByteArray) (xl : List VT) (Q : List Lf × Jp → Prop) : T.ob noB Q (.S (.S (.D 1 (.S (.S .E))))) (roundT O.real Go.Qv.tb (inl O.real Go.Qv.tb Go.Qv.fns (pureOrc (PS.also 59 sp59 PS.none)) (fun f => Nat.beq f 59) (fun _ => false) 300 14) (rfA (rfAt Go.Proofs.Try.f10 8)) (rfB (rfAt Go.Proofs.Try.f10 8)) 0 tmB [(23, .agg [.int .i64 xt, .sl (.i .i64 xn), .sl (.s xs), .sl (.v xl)]), (22, .int .i64 k)] (tmB.inst [.int t, .is n, .ss s, .vs l, .vs h])) =
  ((VT.Good (VT.mk xt xn xs xl)) ∧ ((deepOk (VT.mk xt xn xs xl)) ∧ ((((Bool.true = Bool.true) ∧ True) ∧ (((Bool.true = Bool.true) ∧ True) ∧ (((Bool.true = Bool.true) ∧ True) ∧ (((Bool.true = Bool.true) ∧ True) ∧ (((Bool.true = Bool.true) ∧ (((O.real.fit (O.real.vlen h) (1 : Int) 80)).p ∧ True)) ∧ (((Bool.true = Bool.true) ∧ (((O.real.inb (O.real.vlen h) (O.real.vlen (O.real.vapp h [(VT.mk (0 : Int) [] [] [])])))).p ∧ True)) ∧ (((Bool.true = Bool.true) ∧ (((O.real.inb (O.real.vlen h) (O.real.vlen (O.real.vapp h [(VT.mk (0 : Int) [] [] [])])))).p ∧ True)) ∧ (((Bool.true = Bool.true) ∧ True) ∧ True)))))))) ∧ Q ([(Lf.int t), (Lf.is n), (Lf.ss s), (Lf.vs l), (Lf.vs (O.real.vset (O.real.vapp h [(VT.mk (0 : Int) [] [] [])]) (O.real.vlen h) (VT.mk xt xn xs xl)))], Jp.go)))) := by kernel_rfl
end Go.Qv
