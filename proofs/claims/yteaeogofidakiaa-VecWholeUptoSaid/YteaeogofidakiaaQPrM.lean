/- What is put one behind the other: definitions. No condition. -/
import Derived.Test.YteaeogofidakiaaQWfM
import Derived.Test.YteaeogofidakiaaQPlM
set_option linter.unusedVariables false
set_option linter.unusedSimpArgs false
set_option maxRecDepth 100000
namespace Go.Qv
open Go Go.RowKit Go.Proofs
/-- A value's elements. -/
def eachs (v : VT) : List VT := (List.range (rCount v).toNat).map fun (k : Nat) => atV v (k : Int)
def appV (h e : List VT) : List VT := h ++ e
def fitJ (h : List VT) (v : VT) : Prop := (h.length : Int) + rCount v ≤ 1073741824
def nilIdx : List VT → Int → Int
  | [], _ => -1
  | x :: l, i => if x.t = 101 then i else nilIdx l (i + 1)
def partB (a : VT) : Bool := decide (0 ≤ a.t ∧ a.t ≤ 5)
def flatB (a : VT) : Bool := decide ((1 ≤ a.t ∧ a.t ≤ 5) ∨ (-5 ≤ a.t ∧ a.t < 0))
def baseI (a : VT) : Int := if a.t < 0 then IntKind.i64.wrap (0 - a.t) else a.t
noncomputable def spNilIdx := onVsG 33 fun l => .leaf (.int .i64 (nilIdx l 0))
noncomputable def tmJ : TS := ⟨[(2, .one (.ptr 0 0)), (3, .one (.fix (.int .i64 0))), (11, .one (.ptr 576 0)), (83, .one (.sl .v)), (84, .one (.int .i64)), (85, .one (.int .i64))], [(0, .cells [.fix (.int .i64 0), .fix .nils, .fix .nils, .fix .nils]), (576, .cells [.own 1409]), (1409, .arr 28 .v)], 1472, 116⟩
noncomputable def spLpJ : AV → List Lf → T (List Lf)
  | .fn 65 [.rp [.int .i64 t, .sl (.i .i64 n), .sl (.s s), .sl (.v l)]], [.vs a, .int b, .int c, .vs h] =>
    when_ (tame (.mk t n s l)) (when_ (ok2 (.mk t n s l)) (when_ (fitJ h (.mk t n s l)) (.leaf [.vs a, .int b, .int c, .vs (appV h (eachs (.mk t n s l)))])))
  | _, _ => .stuck "loop's arguments"
noncomputable def lpJ : LP := lpOf 0 Go.Proofs.Try.f9 29 tmJ spLpJ noLp
noncomputable def spPart := onV fun a => .leaf (.bool (partB a))
noncomputable def spFlat := onV fun a => .leaf (.bool (flatB a))
noncomputable def spBase := onV fun a => .leaf (.int .i64 (baseI a))

end Go.Qv
/- Walks of readers: one behind the other. (Printed.) -/
set_option linter.unusedVariables false
set_option maxRecDepth 100000
namespace Go.Qv
open Go Go.RowKit
noncomputable def w63jC : List Cut := [(⟨9999, ⟨[(0, (.one (.sl .v))), (1, (.one (.fix (.fn 33 []))))], [], 0, 19⟩, [It.code (bodyOf Go.Proofs.Try.f63)], []⟩ : Cut),
  (⟨2, ⟨[(0, (.one (.sl .v))), (1, (.one (.fix (.fn 33 [])))), (4, (.one (.fix (.int IntKind.i64 (0 : Int))))), (7, (.one (.int IntKind.i64))), (8, (.one (.int IntKind.i64)))], [], 64, 19⟩, (codeAt Go.Proofs.Try.f63 2), []⟩ : Cut)]
theorem w63jC_ok : cutsOk w63jC = true := by kernel_rfl
noncomputable def w63jS  : Nat × List Lf → T Gt := stepX O.real Go.Qv.tb (inl O.real Go.Qv.tb Go.Qv.fns (pureOrc PS.none) (fun f => false) (fun _ => false) 300 14) Go.Proofs.Try.f63.results ([]) 0 w63jC
theorem w63j_9999  (t0 : List VT) (Q : Gt → Prop) : T.ob noB Q (.S (.S .E)) (w63jS  (9999, [Lf.vs t0])) =
  ((codeAt Go.Proofs.Try.f63 2 = codeAt Go.Proofs.Try.f63 2) ∧ Q (.inl (2, [(Lf.vs t0), (Lf.int (O.real.vlen t0)), (Lf.int (0 : Int))]))) := by kernel_rfl
theorem w63j_2  (t0 : List VT) (t7 : Int) (t8 : Int) (Q : Gt → Prop) : T.ob noB Q (.B (.S (.B (.S .E) (.S .E))) (.S .E)) (w63jS  (2, [Lf.vs t0, Lf.int t7, Lf.int t8])) =
  (((O.real.lt t8 t7) = true → (((O.real.inb t8 (O.real.vlen t0))).p ∧ (((O.real.eq (O.real.vt (O.real.vget t0 t8)) (101 : Int)) = true → Q (.inr ⟨(AV.int IntKind.i64 t8), [], [], []⟩)) ∧ ((O.real.eq (O.real.vt (O.real.vget t0 t8)) (101 : Int)) = false → Q (.inl (2, [(Lf.vs t0), (Lf.int t7), (Lf.int (O.real.add IntKind.i64 t8 (1 : Int)))])))))) ∧ ((O.real.lt t8 t7) = false → Q (.inr ⟨(AV.int IntKind.i64 (Int.negSucc 0)), [], [], []⟩))) := by kernel_rfl

noncomputable def w28C : List Cut := [(⟨9999, ⟨[(0, (.agg [(.int .i64), (.sl (.i .i64)), (.sl .s), (.sl .v)]))], [], 0, 11⟩, [It.code (bodyOf Go.Proofs.Try.f28)], []⟩ : Cut)]
theorem w28C_ok : cutsOk w28C = true := by kernel_rfl
noncomputable def w28S  : Nat × List Lf → T Gt := stepX O.real Go.Qv.tb (inl O.real Go.Qv.tb Go.Qv.fns (pureOrc PS.none) (fun f => false) (fun _ => false) 300 14) Go.Proofs.Try.f28.results ([]) 0 w28C
theorem w28_9999  (t0 : Int) (t0_1 : List Int) (t0_2 : List ByteArray) (t0_3 : List VT) (Q : Gt → Prop) : T.ob noB Q (.D 1 (.S (.D 1 (.S (.D 1 (.S (.S .E))))))) (w28S  (9999, [Lf.int t0, Lf.is t0_1, Lf.ss t0_2, Lf.vs t0_3])) =
  ((((O.real.le (0 : Int) t0) = Bool.true) → True) ∧ ((((O.real.le (0 : Int) t0) = Bool.true) → True) ∧ ((((O.real.le (0 : Int) t0) = Bool.true) → True) ∧ Q (.inr ⟨(AV.bool (O.real.and (O.real.le (0 : Int) t0) (O.real.le t0 (5 : Int)))), [], [], []⟩)))) := by kernel_rfl

noncomputable def w30C : List Cut := [(⟨9999, ⟨[(0, (.agg [(.int .i64), (.sl (.i .i64)), (.sl .s), (.sl .v)]))], [], 0, 21⟩, [It.code (bodyOf Go.Proofs.Try.f30)], []⟩ : Cut)]
theorem w30C_ok : cutsOk w30C = true := by kernel_rfl
noncomputable def w30S  : Nat × List Lf → T Gt := stepX O.real Go.Qv.tb (inl O.real Go.Qv.tb Go.Qv.fns (pureOrc PS.none) (fun f => false) (fun _ => false) 300 14) Go.Proofs.Try.f30.results ([]) 0 w30C
theorem w30_9999  (t0 : Int) (t0_1 : List Int) (t0_2 : List ByteArray) (t0_3 : List VT) (Q : Gt → Prop) : T.ob noB Q (.S (.S (.D 1 (.S (.D 1 (.S (.D 1 (.S (.D 1 (.S (.D 1 (.S (.D 1 (.S (.D 1 (.S (.D 1 (.S (.D 1 (.S (.S .E))))))))))))))))))))) (w30S  (9999, [Lf.int t0, Lf.is t0_1, Lf.ss t0_2, Lf.vs t0_3])) =
  ((((O.real.lt t0 (0 : Int)) = Bool.true) → True) ∧ ((((O.real.lt t0 (0 : Int)) = Bool.false) → True) ∧ ((((O.real.le (1 : Int) (O.real.isel (O.real.lt t0 (0 : Int)) (O.real.neg IntKind.i64 t0) t0)) = Bool.true) → True) ∧ ((((O.real.le (1 : Int) (O.real.isel (O.real.lt t0 (0 : Int)) (O.real.neg IntKind.i64 t0) t0)) = Bool.true) → True) ∧ ((((O.real.and (O.real.le (1 : Int) (O.real.isel (O.real.lt t0 (0 : Int)) (O.real.neg IntKind.i64 t0) t0)) (O.real.le (O.real.isel (O.real.lt t0 (0 : Int)) (O.real.neg IntKind.i64 t0) t0) (5 : Int))) = Bool.true) → True) ∧ ((((O.real.and (O.real.le (1 : Int) (O.real.isel (O.real.lt t0 (0 : Int)) (O.real.neg IntKind.i64 t0) t0)) (O.real.le (O.real.isel (O.real.lt t0 (0 : Int)) (O.real.neg IntKind.i64 t0) t0) (5 : Int))) = Bool.true) → True) ∧ ((((O.real.and (O.real.le (1 : Int) (O.real.isel (O.real.lt t0 (0 : Int)) (O.real.neg IntKind.i64 t0) t0)) (O.real.le (O.real.isel (O.real.lt t0 (0 : Int)) (O.real.neg IntKind.i64 t0) t0) (5 : Int))) = Bool.true) → True) ∧ ((((O.real.and (O.real.le (1 : Int) (O.real.isel (O.real.lt t0 (0 : Int)) (O.real.neg IntKind.i64 t0) t0)) (O.real.le (O.real.isel (O.real.lt t0 (0 : Int)) (O.real.neg IntKind.i64 t0) t0) (5 : Int))) = Bool.true) → True) ∧ ((((O.real.lt (0 : Int) t0) = Bool.false) → (((O.real.and (O.real.le (1 : Int) (O.real.isel (O.real.lt t0 (0 : Int)) (O.real.neg IntKind.i64 t0) t0)) (O.real.le (O.real.isel (O.real.lt t0 (0 : Int)) (O.real.neg IntKind.i64 t0) t0) (5 : Int))) = Bool.true) → True)) ∧ ((((O.real.lt (0 : Int) t0) = Bool.false) → (((O.real.and (O.real.le (1 : Int) (O.real.isel (O.real.lt t0 (0 : Int)) (O.real.neg IntKind.i64 t0) t0)) (O.real.le (O.real.isel (O.real.lt t0 (0 : Int)) (O.real.neg IntKind.i64 t0) t0) (5 : Int))) = Bool.true) → ((Bool.true = Bool.true) ∧ ((((O.real.lt t0 (0 : Int)) = Bool.true) → True) ∧ ((Bool.true = Bool.true) ∧ ((((O.real.lt t0 (0 : Int)) = Bool.true) → True) ∧ ((Bool.true = Bool.true) ∧ ((((O.real.lt t0 (0 : Int)) = Bool.true) → True) ∧ True)))))))) ∧ ((((O.real.and (O.real.le (1 : Int) (O.real.isel (O.real.lt t0 (0 : Int)) (O.real.neg IntKind.i64 t0) t0)) (O.real.le (O.real.isel (O.real.lt t0 (0 : Int)) (O.real.neg IntKind.i64 t0) t0) (5 : Int))) = Bool.true) → True) ∧ Q (.inr ⟨(AV.bool (O.real.and (O.real.and (O.real.le (1 : Int) (O.real.isel (O.real.lt t0 (0 : Int)) (O.real.neg IntKind.i64 t0) t0)) (O.real.le (O.real.isel (O.real.lt t0 (0 : Int)) (O.real.neg IntKind.i64 t0) t0) (5 : Int))) (O.real.or (O.real.lt (0 : Int) t0) (O.real.and (O.real.lt t0 (0 : Int)) (O.real.le (Int.negSucc 4) t0))))), [], [], []⟩)))))))))))) := by kernel_rfl

noncomputable def w31C : List Cut := [(⟨9999, ⟨[(0, (.agg [(.int .i64), (.sl (.i .i64)), (.sl .s), (.sl .v)]))], [], 0, 11⟩, [It.code (bodyOf Go.Proofs.Try.f31)], []⟩ : Cut)]
theorem w31C_ok : cutsOk w31C = true := by kernel_rfl
noncomputable def w31S  : Nat × List Lf → T Gt := stepX O.real Go.Qv.tb (inl O.real Go.Qv.tb Go.Qv.fns (pureOrc PS.none) (fun f => false) (fun _ => false) 300 14) Go.Proofs.Try.f31.results ([]) 0 w31C
theorem w31_9999  (t0 : Int) (t0_1 : List Int) (t0_2 : List ByteArray) (t0_3 : List VT) (Q : Gt → Prop) : T.ob noB Q (.B (.S .E) (.S .E)) (w31S  (9999, [Lf.int t0, Lf.is t0_1, Lf.ss t0_2, Lf.vs t0_3])) =
  (((O.real.lt t0 (0 : Int)) = true → Q (.inr ⟨(AV.int IntKind.i64 (O.real.neg IntKind.i64 t0)), [], [], []⟩)) ∧ ((O.real.lt t0 (0 : Int)) = false → Q (.inr ⟨(AV.int IntKind.i64 t0), [], [], []⟩))) := by kernel_rfl

noncomputable def w37C : List Cut := [(⟨9999, ⟨[(0, (.agg [(.int .i64), (.sl (.i .i64)), (.sl .s), (.sl .v)]))], [], 0, 10⟩, [It.code (bodyOf Go.Proofs.Try.f37)], []⟩ : Cut)]
theorem w37C_ok : cutsOk w37C = true := by kernel_rfl
noncomputable def w37S  : Nat × List Lf → T Gt := stepX O.real Go.Qv.tb (inl O.real Go.Qv.tb Go.Qv.fns (pureOrc PS.none) (fun f => false) (fun _ => false) 300 14) Go.Proofs.Try.f37.results ([]) 0 w37C
theorem w37_9999  (t0 : Int) (t0_1 : List Int) (t0_2 : List ByteArray) (t0_3 : List VT) (Q : Gt → Prop) : T.ob noB Q (.D 1 (.S (.D 1 (.S (.D 1 (.S (.D 1 (.S (.D 1 (.S (.D 1 (.S (.S .E))))))))))))) (w37S  (9999, [Lf.int t0, Lf.is t0_1, Lf.ss t0_2, Lf.vs t0_3])) =
  ((((O.real.le (1 : Int) t0) = Bool.true) → True) ∧ ((((O.real.le (1 : Int) t0) = Bool.true) → True) ∧ ((((O.real.le (1 : Int) t0) = Bool.true) → True) ∧ ((((O.real.and (O.real.le (1 : Int) t0) (O.real.le t0 (5 : Int))) = Bool.false) → True) ∧ ((((O.real.and (O.real.le (1 : Int) t0) (O.real.le t0 (5 : Int))) = Bool.false) → True) ∧ ((((O.real.and (O.real.le (1 : Int) t0) (O.real.le t0 (5 : Int))) = Bool.false) → True) ∧ Q (.inr ⟨(AV.bool (O.real.or (O.real.and (O.real.le (1 : Int) t0) (O.real.le t0 (5 : Int))) (O.real.eq t0 (0 : Int)))), [], [], []⟩))))))) := by kernel_rfl

noncomputable def w38C : List Cut := [(⟨9999, ⟨[(0, (.agg [(.int .i64), (.sl (.i .i64)), (.sl .s), (.sl .v)]))], [], 0, 9⟩, [It.code (bodyOf Go.Proofs.Try.f38)], []⟩ : Cut)]
theorem w38C_ok : cutsOk w38C = true := by kernel_rfl
noncomputable def w38S  : Nat × List Lf → T Gt := stepX O.real Go.Qv.tb (inl O.real Go.Qv.tb Go.Qv.fns (pureOrc PS.none) (fun f => false) (fun _ => false) 300 14) Go.Proofs.Try.f38.results ([]) 0 w38C
theorem w38_9999  (t0 : Int) (t0_1 : List Int) (t0_2 : List ByteArray) (t0_3 : List VT) (Q : Gt → Prop) : T.ob noB Q (.D 1 (.S (.D 1 (.S (.D 1 (.S (.D 1 (.S (.D 1 (.S (.S .E))))))))))) (w38S  (9999, [Lf.int t0, Lf.is t0_1, Lf.ss t0_2, Lf.vs t0_3])) =
  ((((O.real.lt t0 (0 : Int)) = Bool.true) → True) ∧ ((((O.real.lt t0 (0 : Int)) = Bool.true) → True) ∧ ((((O.real.lt t0 (0 : Int)) = Bool.true) → True) ∧ ((((O.real.and (O.real.lt t0 (0 : Int)) (O.real.le (Int.negSucc 4) t0)) = Bool.false) → True) ∧ ((((O.real.and (O.real.lt t0 (0 : Int)) (O.real.le (Int.negSucc 4) t0)) = Bool.false) → ((Bool.true = Bool.true) ∧ ((((O.real.le (1 : Int) t0) = Bool.true) → True) ∧ ((Bool.true = Bool.true) ∧ ((((O.real.le (1 : Int) t0) = Bool.true) → True) ∧ ((Bool.true = Bool.true) ∧ ((((O.real.le (1 : Int) t0) = Bool.true) → True) ∧ True))))))) ∧ Q (.inr ⟨(AV.bool (O.real.or (O.real.and (O.real.lt t0 (0 : Int)) (O.real.le (Int.negSucc 4) t0)) (O.real.and (O.real.le (1 : Int) t0) (O.real.le t0 (5 : Int))))), [], [], []⟩)))))) := by kernel_rfl

noncomputable def w39C : List Cut := [(⟨9999, ⟨[(0, (.agg [(.int .i64), (.sl (.i .i64)), (.sl .s), (.sl .v)]))], [], 0, 11⟩, [It.code (bodyOf Go.Proofs.Try.f39)], []⟩ : Cut)]
theorem w39C_ok : cutsOk w39C = true := by kernel_rfl
noncomputable def w39S  : Nat × List Lf → T Gt := stepX O.real Go.Qv.tb (inl O.real Go.Qv.tb Go.Qv.fns (pureOrc PS.none) (fun f => false) (fun _ => false) 300 14) Go.Proofs.Try.f39.results ([]) 0 w39C
theorem w39_9999  (t0 : Int) (t0_1 : List Int) (t0_2 : List ByteArray) (t0_3 : List VT) (Q : Gt → Prop) : T.ob noB Q (.B (.S .E) (.S .E)) (w39S  (9999, [Lf.int t0, Lf.is t0_1, Lf.ss t0_2, Lf.vs t0_3])) =
  (((O.real.lt t0 (0 : Int)) = true → Q (.inr ⟨(AV.int IntKind.i64 (O.real.neg IntKind.i64 t0)), [], [], []⟩)) ∧ ((O.real.lt t0 (0 : Int)) = false → Q (.inr ⟨(AV.int IntKind.i64 t0), [], [], []⟩))) := by kernel_rfl

noncomputable def w9C : List Cut := [(⟨28, ⟨[(2, (.one (.ptr 0 0))), (3, (.one (.fix (.int IntKind.i64 (0 : Int))))), (11, (.one (.ptr 576 0))), (13, (.one (.ptr 832 0))), (83, (.one (.sl .v))), (84, (.one (.int IntKind.i64))), (85, (.one (.int IntKind.i64)))], [(0, (.cells [(.fix (.int IntKind.i64 (0 : Int))), (.fix .nils), (.fix .nils), (.fix .nils)])), (576, (.cells [(.own 1665)])), (832, (.cells [(.int IntKind.i64), (.sl (.i IntKind.i64)), (.sl .s), (.sl .v)])), (1665, (.arr 28 .v))], 1728, 116⟩, (codeAt Go.Proofs.Try.f9 28), []⟩ : Cut),
  (⟨9999, ⟨[(0, (.one (.sl .v)))], [], 0, 116⟩, [It.code (bodyOf Go.Proofs.Try.f9)], [28]⟩ : Cut),
  (⟨3, ⟨[(0, (.one (.sl .v))), (2, (.one (.ptr 0 0))), (3, (.one (.fix (.int IntKind.i64 (0 : Int))))), (4, (.one (.int IntKind.i64))), (5, (.one .bool)), (20, (.one (.sl .v))), (21, (.one (.int IntKind.i64))), (22, (.one (.int IntKind.i64)))], [(0, (.cells [(.fix (.int IntKind.i64 (0 : Int))), (.fix .nils), (.fix .nils), (.fix .nils)]))], 64, 116⟩, (codeAt Go.Proofs.Try.f9 3), [28]⟩ : Cut),
  (⟨17, ⟨[(0, (.one (.sl .v))), (2, (.one (.ptr 0 0))), (3, (.one (.fix (.int IntKind.i64 (0 : Int))))), (8, (.one (.ptr 896 0))), (63, (.one (.sl .v))), (64, (.one (.int IntKind.i64))), (65, (.one (.int IntKind.i64)))], [(0, (.cells [(.fix (.int IntKind.i64 (0 : Int))), (.fix .nils), (.fix .nils), (.fix .nils)])), (896, (.cells [(.int IntKind.i64), (.own 1857), (.own 1858), (.fix .nils)])), (1857, (.arr 2 (.i IntKind.i64))), (1858, (.arr 9 .s))], 1920, 116⟩, (codeAt Go.Proofs.Try.f9 17), [28]⟩ : Cut),
  (⟨24, ⟨[(2, (.one (.ptr 0 0))), (3, (.one (.fix (.int IntKind.i64 (0 : Int))))), (11, (.one (.ptr 576 0))), (83, (.one (.sl .v))), (84, (.one (.int IntKind.i64))), (85, (.one (.int IntKind.i64)))], [(0, (.cells [(.fix (.int IntKind.i64 (0 : Int))), (.fix .nils), (.fix .nils), (.fix .nils)])), (576, (.cells [(.own 1409)])), (1409, (.arr 28 .v))], 1472, 116⟩, (codeAt Go.Proofs.Try.f9 24), [28]⟩ : Cut)]
theorem w9C_ok : cutsOk w9C = true := by kernel_rfl
noncomputable def w9S  : Nat × List Lf → T Gt := stepL (lpJ) O.real Go.Qv.tb (inl O.real Go.Qv.tb Go.Qv.fns (pureOrc (PS.also 29 sp29f (PS.also 34 sp34 (PS.also 35 sp35 (PS.also 36 sp36f (PS.also 63 spNilIdx (PS.also 28 spPart (PS.also 30 spFlat (PS.also 31 spBase PS.none))))))))) (fun f => Nat.beq f 29 || Nat.beq f 34 || Nat.beq f 35 || Nat.beq f 36 || Nat.beq f 63 || Nat.beq f 28 || Nat.beq f 30 || Nat.beq f 31) (fun _ => false) 300 14) Go.Proofs.Try.f9.results ([]) 0 w9C
theorem w9_28  (t83 : List VT) (t84 : Int) (t85 : Int) (h832 : Int) (h832_1 : List Int) (h832_2 : List ByteArray) (h832_3 : List VT) (h1665 : List VT) (Q : Gt → Prop) : T.ob noB Q (.S (.S (.S (.S (.S (.S .E)))))) (w9S  (28, [Lf.vs t83, Lf.int t84, Lf.int t85, Lf.int h832, Lf.is h832_1, Lf.ss h832_2, Lf.vs h832_3, Lf.vs h1665])) =
  ((tame (VT.mk h832 h832_1 h832_2 h832_3)) ∧ ((rfAt Go.Proofs.Try.f9 29 = rfAt Go.Proofs.Try.f9 29) ∧ ((tame (VT.mk h832 h832_1 h832_2 h832_3)) ∧ ((ok2 (VT.mk h832 h832_1 h832_2 h832_3)) ∧ ((fitJ h1665 (VT.mk h832 h832_1 h832_2 h832_3)) ∧ Q (.inl (24, [(Lf.vs t83), (Lf.int t84), (Lf.int (O.real.add IntKind.i64 t85 (1 : Int))), (Lf.vs (appV h1665 (eachs (VT.mk h832 h832_1 h832_2 h832_3))))]))))))) := by kernel_rfl
theorem w9_9999  (t0 : List VT) (Q : Gt → Prop) : T.ob noB Q (.S (.S .E)) (w9S  (9999, [Lf.vs t0])) =
  ((codeAt Go.Proofs.Try.f9 3 = codeAt Go.Proofs.Try.f9 3) ∧ Q (.inl (3, [(Lf.vs t0), (Lf.int (0 : Int)), (Lf.bool (O.real.lt (0 : Int) (O.real.vlen t0))), (Lf.vs t0), (Lf.int (O.real.vlen t0)), (Lf.int (0 : Int))]))) := by kernel_rfl
theorem w9_3  (t0 : List VT) (t4 : Int) (t5 : Bool) (t20 : List VT) (t21 : Int) (t22 : Int) (Q : Gt → Prop) : T.ob noB Q (.B (.S (.B (.S (.S .E)) (.S (.S .E)))) (.B (.S .E) (.B (.S .E) (.B (.S (.S (.S .E))) (.S (.S .E)))))) (w9S  (3, [Lf.vs t0, Lf.int t4, Lf.bool t5, Lf.vs t20, Lf.int t21, Lf.int t22])) =
  (((O.real.lt t22 t21) = true → (((O.real.inb t22 (O.real.vlen t20))).p ∧ (((partB (VT.mk (O.real.vt (O.real.vget t20 t22)) (O.real.vn (O.real.vget t20 t22)) (O.real.vs (O.real.vget t20 t22)) (O.real.vl (O.real.vget t20 t22)))) = true → ((((Bool.true = Bool.true) ∧ True) ∧ (((Bool.true = Bool.true) ∧ True) ∧ (((Bool.true = Bool.true) ∧ ((t5 = Bool.true) → True)) ∧ (((Bool.true = Bool.true) ∧ ((t5 = Bool.true) → True)) ∧ (((Bool.true = Bool.true) ∧ True) ∧ (((Bool.true = Bool.true) ∧ True) ∧ (((Bool.true = Bool.true) ∧ (((O.real.and t5 (flatB (VT.mk (O.real.vt (O.real.vget t20 t22)) (O.real.vn (O.real.vget t20 t22)) (O.real.vs (O.real.vget t20 t22)) (O.real.vl (O.real.vget t20 t22))))) = Bool.true) → True)) ∧ (((Bool.true = Bool.true) ∧ (((O.real.and t5 (flatB (VT.mk (O.real.vt (O.real.vget t20 t22)) (O.real.vn (O.real.vget t20 t22)) (O.real.vs (O.real.vget t20 t22)) (O.real.vl (O.real.vget t20 t22))))) = Bool.true) → True)) ∧ (((Bool.true = Bool.true) ∧ (((O.real.and t5 (flatB (VT.mk (O.real.vt (O.real.vget t20 t22)) (O.real.vn (O.real.vget t20 t22)) (O.real.vs (O.real.vget t20 t22)) (O.real.vl (O.real.vget t20 t22))))) = Bool.true) → True)) ∧ (((Bool.true = Bool.true) ∧ (((O.real.and t5 (flatB (VT.mk (O.real.vt (O.real.vget t20 t22)) (O.real.vn (O.real.vget t20 t22)) (O.real.vs (O.real.vget t20 t22)) (O.real.vl (O.real.vget t20 t22))))) = Bool.true) → (((O.real.inb (0 : Int) (O.real.vlen t0))).p ∧ True))) ∧ (((Bool.true = Bool.true) ∧ (((O.real.and t5 (flatB (VT.mk (O.real.vt (O.real.vget t20 t22)) (O.real.vn (O.real.vget t20 t22)) (O.real.vs (O.real.vget t20 t22)) (O.real.vl (O.real.vget t20 t22))))) = Bool.true) → True)) ∧ (((Bool.true = Bool.true) ∧ (((O.real.and t5 (flatB (VT.mk (O.real.vt (O.real.vget t20 t22)) (O.real.vn (O.real.vget t20 t22)) (O.real.vs (O.real.vget t20 t22)) (O.real.vl (O.real.vget t20 t22))))) = Bool.true) → True)) ∧ (((Bool.true = Bool.true) ∧ (((O.real.and t5 (flatB (VT.mk (O.real.vt (O.real.vget t20 t22)) (O.real.vn (O.real.vget t20 t22)) (O.real.vs (O.real.vget t20 t22)) (O.real.vl (O.real.vget t20 t22))))) = Bool.true) → True)) ∧ (((Bool.true = Bool.true) ∧ True) ∧ (((Bool.true = Bool.true) ∧ True) ∧ True))))))))))))))) ∧ Q (.inl (3, [(Lf.vs t0), (Lf.int (O.real.add IntKind.i64 t4 (rCount (VT.mk (O.real.vt (O.real.vget t20 t22)) (O.real.vn (O.real.vget t20 t22)) (O.real.vs (O.real.vget t20 t22)) (O.real.vl (O.real.vget t20 t22)))))), (Lf.bool (O.real.and (O.real.and t5 (flatB (VT.mk (O.real.vt (O.real.vget t20 t22)) (O.real.vn (O.real.vget t20 t22)) (O.real.vs (O.real.vget t20 t22)) (O.real.vl (O.real.vget t20 t22))))) (O.real.eq (baseI (VT.mk (O.real.vt (O.real.vget t20 t22)) (O.real.vn (O.real.vget t20 t22)) (O.real.vs (O.real.vget t20 t22)) (O.real.vl (O.real.vget t20 t22)))) (baseI (VT.mk (O.real.vt (O.real.vget t0 (0 : Int))) (O.real.vn (O.real.vget t0 (0 : Int))) (O.real.vs (O.real.vget t0 (0 : Int))) (O.real.vl (O.real.vget t0 (0 : Int)))))))), (Lf.vs t20), (Lf.int t21), (Lf.int (O.real.add IntKind.i64 t22 (1 : Int)))])))) ∧ ((partB (VT.mk (O.real.vt (O.real.vget t20 t22)) (O.real.vn (O.real.vget t20 t22)) (O.real.vs (O.real.vget t20 t22)) (O.real.vl (O.real.vget t20 t22)))) = false → ((((Bool.true = Bool.true) ∧ True) ∧ (((Bool.true = Bool.true) ∧ True) ∧ (((Bool.true = Bool.true) ∧ ((t5 = Bool.true) → True)) ∧ (((Bool.true = Bool.true) ∧ ((t5 = Bool.true) → True)) ∧ (((Bool.true = Bool.true) ∧ True) ∧ (((Bool.true = Bool.true) ∧ True) ∧ (((Bool.true = Bool.true) ∧ (((O.real.and t5 (flatB (VT.mk (O.real.vt (O.real.vget t20 t22)) (O.real.vn (O.real.vget t20 t22)) (O.real.vs (O.real.vget t20 t22)) (O.real.vl (O.real.vget t20 t22))))) = Bool.true) → True)) ∧ (((Bool.true = Bool.true) ∧ (((O.real.and t5 (flatB (VT.mk (O.real.vt (O.real.vget t20 t22)) (O.real.vn (O.real.vget t20 t22)) (O.real.vs (O.real.vget t20 t22)) (O.real.vl (O.real.vget t20 t22))))) = Bool.true) → True)) ∧ (((Bool.true = Bool.true) ∧ (((O.real.and t5 (flatB (VT.mk (O.real.vt (O.real.vget t20 t22)) (O.real.vn (O.real.vget t20 t22)) (O.real.vs (O.real.vget t20 t22)) (O.real.vl (O.real.vget t20 t22))))) = Bool.true) → True)) ∧ (((Bool.true = Bool.true) ∧ (((O.real.and t5 (flatB (VT.mk (O.real.vt (O.real.vget t20 t22)) (O.real.vn (O.real.vget t20 t22)) (O.real.vs (O.real.vget t20 t22)) (O.real.vl (O.real.vget t20 t22))))) = Bool.true) → (((O.real.inb (0 : Int) (O.real.vlen t0))).p ∧ True))) ∧ (((Bool.true = Bool.true) ∧ (((O.real.and t5 (flatB (VT.mk (O.real.vt (O.real.vget t20 t22)) (O.real.vn (O.real.vget t20 t22)) (O.real.vs (O.real.vget t20 t22)) (O.real.vl (O.real.vget t20 t22))))) = Bool.true) → True)) ∧ (((Bool.true = Bool.true) ∧ (((O.real.and t5 (flatB (VT.mk (O.real.vt (O.real.vget t20 t22)) (O.real.vn (O.real.vget t20 t22)) (O.real.vs (O.real.vget t20 t22)) (O.real.vl (O.real.vget t20 t22))))) = Bool.true) → True)) ∧ (((Bool.true = Bool.true) ∧ (((O.real.and t5 (flatB (VT.mk (O.real.vt (O.real.vget t20 t22)) (O.real.vn (O.real.vget t20 t22)) (O.real.vs (O.real.vget t20 t22)) (O.real.vl (O.real.vget t20 t22))))) = Bool.true) → True)) ∧ (((Bool.true = Bool.true) ∧ True) ∧ (((Bool.true = Bool.true) ∧ True) ∧ True))))))))))))))) ∧ Q (.inl (3, [(Lf.vs t0), (Lf.int (O.real.add IntKind.i64 t4 (1 : Int))), (Lf.bool (O.real.and (O.real.and t5 (flatB (VT.mk (O.real.vt (O.real.vget t20 t22)) (O.real.vn (O.real.vget t20 t22)) (O.real.vs (O.real.vget t20 t22)) (O.real.vl (O.real.vget t20 t22))))) (O.real.eq (baseI (VT.mk (O.real.vt (O.real.vget t20 t22)) (O.real.vn (O.real.vget t20 t22)) (O.real.vs (O.real.vget t20 t22)) (O.real.vl (O.real.vget t20 t22)))) (baseI (VT.mk (O.real.vt (O.real.vget t0 (0 : Int))) (O.real.vn (O.real.vget t0 (0 : Int))) (O.real.vs (O.real.vget t0 (0 : Int))) (O.real.vl (O.real.vget t0 (0 : Int)))))))), (Lf.vs t20), (Lf.int t21), (Lf.int (O.real.add IntKind.i64 t22 (1 : Int)))]))))))) ∧ ((O.real.lt t22 t21) = false → (((O.real.lt (65536 : Int) t4) = true → Q (.inr ⟨(AV.tup [(AV.agg [(AV.int IntKind.i64 (0 : Int)), AV.nils, AV.nils, AV.nils]), (AV.int IntKind.i64 (6 : Int))]), [], [], []⟩)) ∧ ((O.real.lt (65536 : Int) t4) = false → (((O.real.le (0 : Int) (nilIdx t0 (0 : Int))) = true → Q (.inr ⟨(AV.tup [(AV.agg [(AV.int IntKind.i64 (0 : Int)), AV.nils, AV.nils, AV.nils]), (AV.int IntKind.i64 (31 : Int))]), [], [], []⟩)) ∧ ((O.real.le (0 : Int) (nilIdx t0 (0 : Int))) = false → ((t5 = true → (((O.real.inb (0 : Int) (O.real.vlen t0))).p ∧ ((codeAt Go.Proofs.Try.f9 17 = codeAt Go.Proofs.Try.f9 17) ∧ Q (.inl (17, [(Lf.vs t0), (Lf.vs t0), (Lf.int (O.real.vlen t0)), (Lf.int (0 : Int)), (Lf.int (baseI (VT.mk (O.real.vt (O.real.vget t0 (0 : Int))) (O.real.vn (O.real.vget t0 (0 : Int))) (O.real.vs (O.real.vget t0 (0 : Int))) (O.real.vl (O.real.vget t0 (0 : Int)))))), (Lf.is []), (Lf.ss [])]))))) ∧ (t5 = false → ((codeAt Go.Proofs.Try.f9 24 = codeAt Go.Proofs.Try.f9 24) ∧ Q (.inl (24, [(Lf.vs t0), (Lf.int (O.real.vlen t0)), (Lf.int (0 : Int)), (Lf.vs [])]))))))))))) := by kernel_rfl
theorem w9_17  (t0 : List VT) (t63 : List VT) (t64 : Int) (t65 : Int) (h896 : Int) (h1857 : List Int) (h1858 : List ByteArray) (Q : Gt → Prop) : T.ob noB Q (.B (.S (.S (.S .E))) (.S .E)) (w9S  (17, [Lf.vs t0, Lf.vs t63, Lf.int t64, Lf.int t65, Lf.int h896, Lf.is h1857, Lf.ss h1858])) =
  (((O.real.lt t65 t64) = true → (((O.real.inb t65 (O.real.vlen t63))).p ∧ ((((Bool.true = Bool.true) ∧ True) ∧ (((Bool.true = Bool.true) ∧ True) ∧ (((Bool.true = Bool.true) ∧ True) ∧ (((Bool.true = Bool.true) ∧ True) ∧ (((Bool.true = Bool.true) ∧ (((O.real.fit (O.real.ilen h1857) (O.real.ilen (O.real.vn (O.real.vget t63 t65))) 8)).p ∧ True)) ∧ (((Bool.true = Bool.true) ∧ True) ∧ (((Bool.true = Bool.true) ∧ True) ∧ (((Bool.true = Bool.true) ∧ True) ∧ (((Bool.true = Bool.true) ∧ True) ∧ (((Bool.true = Bool.true) ∧ (((O.real.fit (O.real.blen h1858) (O.real.blen (O.real.vs (O.real.vget t63 t65))) 16)).p ∧ True)) ∧ (((Bool.true = Bool.true) ∧ True) ∧ (((Bool.true = Bool.true) ∧ True) ∧ (((Bool.true = Bool.true) ∧ True) ∧ (((Bool.true = Bool.true) ∧ True) ∧ True)))))))))))))) ∧ Q (.inl (17, [(Lf.vs t0), (Lf.vs t63), (Lf.int t64), (Lf.int (O.real.add IntKind.i64 t65 (1 : Int))), (Lf.int h896), (Lf.is (O.real.iapp h1857 (O.real.vn (O.real.vget t63 t65)))), (Lf.ss (O.real.bapp h1858 (O.real.vs (O.real.vget t63 t65))))]))))) ∧ ((O.real.lt t65 t64) = false → Q (.inr ⟨(AV.tup [(AV.agg [(AV.int IntKind.i64 h896), (AV.own 0), (AV.own 1), AV.nils]), (AV.int IntKind.i64 (0 : Int))]), [], [], [(HObj.arr 2 (LS.i IntKind.i64 h1857)), (HObj.arr 9 (LS.s h1858))]⟩))) := by kernel_rfl
theorem w9_24  (t83 : List VT) (t84 : Int) (t85 : Int) (h1409 : List VT) (Q : Gt → Prop) : T.ob noB Q (.B (.S (.B (.S (.S .E)) (.S (.S .E)))) (.S (.B (.S .E) (.S .E)))) (w9S  (24, [Lf.vs t83, Lf.int t84, Lf.int t85, Lf.vs h1409])) =
  (((O.real.lt t85 t84) = true → (((O.real.inb t85 (O.real.vlen t83))).p ∧ (((O.real.not (partB (VT.mk (O.real.vt (O.real.vget t83 t85)) (O.real.vn (O.real.vget t83 t85)) (O.real.vs (O.real.vget t83 t85)) (O.real.vl (O.real.vget t83 t85))))) = true → ((((Bool.true = Bool.true) ∧ True) ∧ (((Bool.true = Bool.true) ∧ True) ∧ (((Bool.true = Bool.true) ∧ True) ∧ (((Bool.true = Bool.true) ∧ True) ∧ (((Bool.true = Bool.true) ∧ (((O.real.fit (O.real.vlen h1409) (1 : Int) 80)).p ∧ True)) ∧ (((Bool.true = Bool.true) ∧ (((O.real.inb (O.real.vlen h1409) (O.real.vlen (O.real.vapp h1409 [(VT.mk (0 : Int) [] [] [])])))).p ∧ True)) ∧ (((Bool.true = Bool.true) ∧ (((O.real.inb (O.real.vlen h1409) (O.real.vlen (O.real.vapp h1409 [(VT.mk (0 : Int) [] [] [])])))).p ∧ True)) ∧ (((Bool.true = Bool.true) ∧ True) ∧ True)))))))) ∧ Q (.inl (24, [(Lf.vs t83), (Lf.int t84), (Lf.int (O.real.add IntKind.i64 t85 (1 : Int))), (Lf.vs (O.real.vset (O.real.vapp h1409 [(VT.mk (0 : Int) [] [] [])]) (O.real.vlen h1409) (VT.mk (O.real.vt (O.real.vget t83 t85)) (O.real.vn (O.real.vget t83 t85)) (O.real.vs (O.real.vget t83 t85)) (O.real.vl (O.real.vget t83 t85)))))])))) ∧ ((O.real.not (partB (VT.mk (O.real.vt (O.real.vget t83 t85)) (O.real.vn (O.real.vget t83 t85)) (O.real.vs (O.real.vget t83 t85)) (O.real.vl (O.real.vget t83 t85))))) = false → ((codeAt Go.Proofs.Try.f9 28 = codeAt Go.Proofs.Try.f9 28) ∧ Q (.inl (28, [(Lf.vs t83), (Lf.int t84), (Lf.int t85), (Lf.int (O.real.vt (O.real.vget t83 t85))), (Lf.is (O.real.vn (O.real.vget t83 t85))), (Lf.ss (O.real.vs (O.real.vget t83 t85))), (Lf.vs (O.real.vl (O.real.vget t83 t85))), (Lf.vs h1409)]))))))) ∧ ((O.real.lt t85 t84) = false → ((tames h1409) ∧ (((O.real.lt (32 : Int) (rDepth (VT.mk (VT.t (ofV h1409)) (VT.n (ofV h1409)) (VT.s (ofV h1409)) (VT.l (ofV h1409))))) = true → Q (.inr ⟨(AV.tup [(AV.agg [(AV.int IntKind.i64 (0 : Int)), AV.nils, AV.nils, AV.nils]), (AV.int IntKind.i64 (6 : Int))]), [], [], []⟩)) ∧ ((O.real.lt (32 : Int) (rDepth (VT.mk (VT.t (ofV h1409)) (VT.n (ofV h1409)) (VT.s (ofV h1409)) (VT.l (ofV h1409))))) = false → Q (.inr ⟨(AV.tup [(AV.agg [(AV.int IntKind.i64 (VT.t (ofV h1409))), (AV.sl (LS.i IntKind.i64 (VT.n (ofV h1409)))), (AV.sl (LS.s (VT.s (ofV h1409)))), (AV.sl (LS.v (VT.l (ofV h1409))))]), (AV.int IntKind.i64 (0 : Int))]), [], [], []⟩)))))) := by kernel_rfl

noncomputable def w10C : List Cut := [(⟨31, ⟨[(0, (.one (.sl .v))), (2, (.one (.ptr 0 0))), (3, (.one (.fix (.int IntKind.i64 (0 : Int))))), (10, (.one (.own 1921))), (11, (.one (.int IntKind.i64))), (12, (.one (.int IntKind.i64)))], [(0, (.cells [(.fix (.int IntKind.i64 (0 : Int))), (.fix .nils), (.fix .nils), (.fix .nils)])), (1921, (.arr 28 .v))], 1984, 159⟩, (codeAt Go.Proofs.Try.f10 31), []⟩ : Cut),
  (⟨9999, ⟨[(0, (.one (.sl .v)))], [], 0, 159⟩, [It.code (bodyOf Go.Proofs.Try.f10)], []⟩ : Cut),
  (⟨4, ⟨[(0, (.one (.sl .v))), (2, (.one (.ptr 0 0))), (3, (.one (.fix (.int IntKind.i64 (0 : Int))))), (4, (.one (.int IntKind.i64))), (5, (.one .bool)), (6, (.one (.int IntKind.i64)))], [(0, (.cells [(.fix (.int IntKind.i64 (0 : Int))), (.fix .nils), (.fix .nils), (.fix .nils)]))], 64, 159⟩, (codeAt Go.Proofs.Try.f10 4), []⟩ : Cut),
  (⟨14, ⟨[(0, (.one (.sl .v))), (2, (.one (.ptr 0 0))), (3, (.one (.fix (.int IntKind.i64 (0 : Int))))), (5, (.one .bool)), (7, (.one (.int IntKind.i64)))], [(0, (.cells [(.fix (.int IntKind.i64 (0 : Int))), (.fix .nils), (.fix .nils), (.fix .nils)]))], 64, 159⟩, (codeAt Go.Proofs.Try.f10 14), []⟩ : Cut),
  (⟨21, ⟨[(0, (.one (.sl .v))), (2, (.one (.ptr 0 0))), (3, (.one (.fix (.int IntKind.i64 (0 : Int))))), (8, (.one (.ptr 704 0))), (9, (.one (.int IntKind.i64)))], [(0, (.cells [(.fix (.int IntKind.i64 (0 : Int))), (.fix .nils), (.fix .nils), (.fix .nils)])), (704, (.cells [(.int IntKind.i64), (.own 2113), (.own 2114), (.fix .nils)])), (2113, (.arr 2 (.i IntKind.i64))), (2114, (.arr 9 .s))], 2176, 159⟩, (codeAt Go.Proofs.Try.f10 21), []⟩ : Cut),
  (⟨28, ⟨[(0, (.one (.sl .v))), (2, (.one (.ptr 0 0))), (3, (.one (.fix (.int IntKind.i64 (0 : Int))))), (10, (.one (.own 1729))), (11, (.one (.int IntKind.i64)))], [(0, (.cells [(.fix (.int IntKind.i64 (0 : Int))), (.fix .nils), (.fix .nils), (.fix .nils)])), (1729, (.arr 28 .v))], 1792, 159⟩, (codeAt Go.Proofs.Try.f10 28), []⟩ : Cut)]
theorem w10C_ok : cutsOk w10C = true := by kernel_rfl
noncomputable def w10S  : Nat × List Lf → T Gt := stepX O.real Go.Qv.tb (inl O.real Go.Qv.tb Go.Qv.fns (pureOrc (PS.also 15 sp15f (PS.also 19 sp19 (PS.also 40 sp40 (PS.also 41 sp41f (PS.also 37 spPart (PS.also 38 spFlat (PS.also 39 spBase PS.none)))))))) (fun f => Nat.beq f 15 || Nat.beq f 19 || Nat.beq f 40 || Nat.beq f 41 || Nat.beq f 37 || Nat.beq f 38 || Nat.beq f 39) (fun _ => false) 300 14) Go.Proofs.Try.f10.results ([]) 0 w10C
theorem w10_31  (t0 : List VT) (t11 : Int) (t12 : Int) (h1921 : List VT) (Q : Gt → Prop) : T.ob noB Q (.S (.D 1 (.S (.D 1 (.S (.D 1 (.S (.D 1 (.S (.D 1 (.S (.B (.S (.S (.S (.S (.S .E))))) (.S (.B (.S (.S (.S .E))) (.S .E))))))))))))))) (w10S  (31, [Lf.vs t0, Lf.int t11, Lf.int t12, Lf.vs h1921])) =
  (((O.real.inb t11 (O.real.vlen t0))).p ∧ ((((O.real.lt t12 (rCount (VT.mk (O.real.vt (O.real.vget t0 t11)) (O.real.vn (O.real.vget t0 t11)) (O.real.vs (O.real.vget t0 t11)) (O.real.vl (O.real.vget t0 t11))))) = Bool.true) → True) ∧ ((((O.real.lt t12 (rCount (VT.mk (O.real.vt (O.real.vget t0 t11)) (O.real.vn (O.real.vget t0 t11)) (O.real.vs (O.real.vget t0 t11)) (O.real.vl (O.real.vget t0 t11))))) = Bool.true) → True) ∧ ((((O.real.lt t12 (rCount (VT.mk (O.real.vt (O.real.vget t0 t11)) (O.real.vn (O.real.vget t0 t11)) (O.real.vs (O.real.vget t0 t11)) (O.real.vl (O.real.vget t0 t11))))) = Bool.true) → (((O.real.inb t11 (O.real.vlen t0))).p ∧ True)) ∧ ((((O.real.lt t12 (rCount (VT.mk (O.real.vt (O.real.vget t0 t11)) (O.real.vn (O.real.vget t0 t11)) (O.real.vs (O.real.vget t0 t11)) (O.real.vl (O.real.vget t0 t11))))) = Bool.true) → True) ∧ ((((O.real.lt t12 (rCount (VT.mk (O.real.vt (O.real.vget t0 t11)) (O.real.vn (O.real.vget t0 t11)) (O.real.vs (O.real.vget t0 t11)) (O.real.vl (O.real.vget t0 t11))))) = Bool.true) → True) ∧ (((O.real.and (O.real.lt t12 (rCount (VT.mk (O.real.vt (O.real.vget t0 t11)) (O.real.vn (O.real.vget t0 t11)) (O.real.vs (O.real.vget t0 t11)) (O.real.vl (O.real.vget t0 t11))))) (partB (VT.mk (O.real.vt (O.real.vget t0 t11)) (O.real.vn (O.real.vget t0 t11)) (O.real.vs (O.real.vget t0 t11)) (O.real.vl (O.real.vget t0 t11))))) = true → (((O.real.inb t11 (O.real.vlen t0))).p ∧ ((tame (VT.mk (O.real.vt (O.real.vget t0 t11)) (O.real.vn (O.real.vget t0 t11)) (O.real.vs (O.real.vget t0 t11)) (O.real.vl (O.real.vget t0 t11)))) ∧ ((ok2 (VT.mk (O.real.vt (O.real.vget t0 t11)) (O.real.vn (O.real.vget t0 t11)) (O.real.vs (O.real.vget t0 t11)) (O.real.vl (O.real.vget t0 t11)))) ∧ (((O.real.fit (O.real.vlen h1921) (O.real.vlen [(VT.mk (VT.t (atV (VT.mk (O.real.vt (O.real.vget t0 t11)) (O.real.vn (O.real.vget t0 t11)) (O.real.vs (O.real.vget t0 t11)) (O.real.vl (O.real.vget t0 t11))) t12)) (VT.n (atV (VT.mk (O.real.vt (O.real.vget t0 t11)) (O.real.vn (O.real.vget t0 t11)) (O.real.vs (O.real.vget t0 t11)) (O.real.vl (O.real.vget t0 t11))) t12)) (VT.s (atV (VT.mk (O.real.vt (O.real.vget t0 t11)) (O.real.vn (O.real.vget t0 t11)) (O.real.vs (O.real.vget t0 t11)) (O.real.vl (O.real.vget t0 t11))) t12)) (VT.l (atV (VT.mk (O.real.vt (O.real.vget t0 t11)) (O.real.vn (O.real.vget t0 t11)) (O.real.vs (O.real.vget t0 t11)) (O.real.vl (O.real.vget t0 t11))) t12)))]) 80)).p ∧ Q (.inl (31, [(Lf.vs t0), (Lf.int t11), (Lf.int (O.real.add IntKind.i64 t12 (1 : Int))), (Lf.vs (O.real.vapp h1921 [(VT.mk (VT.t (atV (VT.mk (O.real.vt (O.real.vget t0 t11)) (O.real.vn (O.real.vget t0 t11)) (O.real.vs (O.real.vget t0 t11)) (O.real.vl (O.real.vget t0 t11))) t12)) (VT.n (atV (VT.mk (O.real.vt (O.real.vget t0 t11)) (O.real.vn (O.real.vget t0 t11)) (O.real.vs (O.real.vget t0 t11)) (O.real.vl (O.real.vget t0 t11))) t12)) (VT.s (atV (VT.mk (O.real.vt (O.real.vget t0 t11)) (O.real.vn (O.real.vget t0 t11)) (O.real.vs (O.real.vget t0 t11)) (O.real.vl (O.real.vget t0 t11))) t12)) (VT.l (atV (VT.mk (O.real.vt (O.real.vget t0 t11)) (O.real.vn (O.real.vget t0 t11)) (O.real.vs (O.real.vget t0 t11)) (O.real.vl (O.real.vget t0 t11))) t12)))]))]))))))) ∧ ((O.real.and (O.real.lt t12 (rCount (VT.mk (O.real.vt (O.real.vget t0 t11)) (O.real.vn (O.real.vget t0 t11)) (O.real.vs (O.real.vget t0 t11)) (O.real.vl (O.real.vget t0 t11))))) (partB (VT.mk (O.real.vt (O.real.vget t0 t11)) (O.real.vn (O.real.vget t0 t11)) (O.real.vs (O.real.vget t0 t11)) (O.real.vl (O.real.vget t0 t11))))) = false → (((O.real.inb t11 (O.real.vlen t0))).p ∧ (((O.real.not (partB (VT.mk (O.real.vt (O.real.vget t0 t11)) (O.real.vn (O.real.vget t0 t11)) (O.real.vs (O.real.vget t0 t11)) (O.real.vl (O.real.vget t0 t11))))) = true → (((O.real.inb t11 (O.real.vlen t0))).p ∧ (((O.real.fit (O.real.vlen h1921) (O.real.vlen [(VT.mk (O.real.vt (O.real.vget t0 t11)) (O.real.vn (O.real.vget t0 t11)) (O.real.vs (O.real.vget t0 t11)) (O.real.vl (O.real.vget t0 t11)))]) 80)).p ∧ Q (.inl (28, [(Lf.vs t0), (Lf.int (O.real.add IntKind.i64 t11 (1 : Int))), (Lf.vs (O.real.vapp h1921 [(VT.mk (O.real.vt (O.real.vget t0 t11)) (O.real.vn (O.real.vget t0 t11)) (O.real.vs (O.real.vget t0 t11)) (O.real.vl (O.real.vget t0 t11)))]))]))))) ∧ ((O.real.not (partB (VT.mk (O.real.vt (O.real.vget t0 t11)) (O.real.vn (O.real.vget t0 t11)) (O.real.vs (O.real.vget t0 t11)) (O.real.vl (O.real.vget t0 t11))))) = false → Q (.inl (28, [(Lf.vs t0), (Lf.int (O.real.add IntKind.i64 t11 (1 : Int))), (Lf.vs h1921)]))))))))))))) := by kernel_rfl
theorem w10_9999  (t0 : List VT) (Q : Gt → Prop) : T.ob noB Q (.S (.S .E)) (w10S  (9999, [Lf.vs t0])) =
  ((codeAt Go.Proofs.Try.f10 4 = codeAt Go.Proofs.Try.f10 4) ∧ Q (.inl (4, [(Lf.vs t0), (Lf.int (0 : Int)), (Lf.bool (O.real.lt (0 : Int) (O.real.vlen t0))), (Lf.int (0 : Int))]))) := by kernel_rfl
theorem w10_4  (t0 : List VT) (t4 : Int) (t5 : Bool) (t6 : Int) (Q : Gt → Prop) : T.ob noB Q (.B (.S (.B (.S (.S (.B (.S .E) (.S .E)))) (.S (.B (.S .E) (.S .E))))) (.B (.S .E) (.S (.S .E)))) (w10S  (4, [Lf.vs t0, Lf.int t4, Lf.bool t5, Lf.int t6])) =
  (((O.real.lt t6 (O.real.vlen t0)) = true → (((O.real.inb t6 (O.real.vlen t0))).p ∧ (((partB (VT.mk (O.real.vt (O.real.vget t0 t6)) (O.real.vn (O.real.vget t0 t6)) (O.real.vs (O.real.vget t0 t6)) (O.real.vl (O.real.vget t0 t6)))) = true → (((O.real.inb t6 (O.real.vlen t0))).p ∧ ((((Bool.true = Bool.true) ∧ True) ∧ (((Bool.true = Bool.true) ∧ True) ∧ (((Bool.true = Bool.true) ∧ (((O.real.inb t6 (O.real.vlen t0))).p ∧ True)) ∧ (((Bool.true = Bool.true) ∧ True) ∧ (((Bool.true = Bool.true) ∧ True) ∧ (((Bool.true = Bool.true) ∧ True) ∧ (((Bool.true = Bool.true) ∧ True) ∧ (((Bool.true = Bool.true) ∧ (((O.real.not (flatB (VT.mk (O.real.vt (O.real.vget t0 t6)) (O.real.vn (O.real.vget t0 t6)) (O.real.vs (O.real.vget t0 t6)) (O.real.vl (O.real.vget t0 t6))))) = Bool.false) → True)) ∧ (((Bool.true = Bool.true) ∧ (((O.real.not (flatB (VT.mk (O.real.vt (O.real.vget t0 t6)) (O.real.vn (O.real.vget t0 t6)) (O.real.vs (O.real.vget t0 t6)) (O.real.vl (O.real.vget t0 t6))))) = Bool.false) → True)) ∧ (((Bool.true = Bool.true) ∧ (((O.real.not (flatB (VT.mk (O.real.vt (O.real.vget t0 t6)) (O.real.vn (O.real.vget t0 t6)) (O.real.vs (O.real.vget t0 t6)) (O.real.vl (O.real.vget t0 t6))))) = Bool.false) → (((O.real.inb t6 (O.real.vlen t0))).p ∧ True))) ∧ (((Bool.true = Bool.true) ∧ (((O.real.not (flatB (VT.mk (O.real.vt (O.real.vget t0 t6)) (O.real.vn (O.real.vget t0 t6)) (O.real.vs (O.real.vget t0 t6)) (O.real.vl (O.real.vget t0 t6))))) = Bool.false) → True)) ∧ (((Bool.true = Bool.true) ∧ (((O.real.not (flatB (VT.mk (O.real.vt (O.real.vget t0 t6)) (O.real.vn (O.real.vget t0 t6)) (O.real.vs (O.real.vget t0 t6)) (O.real.vl (O.real.vget t0 t6))))) = Bool.false) → True)) ∧ (((Bool.true = Bool.true) ∧ (((O.real.not (flatB (VT.mk (O.real.vt (O.real.vget t0 t6)) (O.real.vn (O.real.vget t0 t6)) (O.real.vs (O.real.vget t0 t6)) (O.real.vl (O.real.vget t0 t6))))) = Bool.false) → True)) ∧ (((Bool.true = Bool.true) ∧ (((O.real.not (flatB (VT.mk (O.real.vt (O.real.vget t0 t6)) (O.real.vn (O.real.vget t0 t6)) (O.real.vs (O.real.vget t0 t6)) (O.real.vl (O.real.vget t0 t6))))) = Bool.false) → (((O.real.inb (0 : Int) (O.real.vlen t0))).p ∧ True))) ∧ (((Bool.true = Bool.true) ∧ (((O.real.not (flatB (VT.mk (O.real.vt (O.real.vget t0 t6)) (O.real.vn (O.real.vget t0 t6)) (O.real.vs (O.real.vget t0 t6)) (O.real.vl (O.real.vget t0 t6))))) = Bool.false) → True)) ∧ (((Bool.true = Bool.true) ∧ (((O.real.not (flatB (VT.mk (O.real.vt (O.real.vget t0 t6)) (O.real.vn (O.real.vget t0 t6)) (O.real.vs (O.real.vget t0 t6)) (O.real.vl (O.real.vget t0 t6))))) = Bool.false) → True)) ∧ (((Bool.true = Bool.true) ∧ (((O.real.not (flatB (VT.mk (O.real.vt (O.real.vget t0 t6)) (O.real.vn (O.real.vget t0 t6)) (O.real.vs (O.real.vget t0 t6)) (O.real.vl (O.real.vget t0 t6))))) = Bool.false) → True)) ∧ (((Bool.true = Bool.true) ∧ True) ∧ True)))))))))))))))))) ∧ (((O.real.or (O.real.not (flatB (VT.mk (O.real.vt (O.real.vget t0 t6)) (O.real.vn (O.real.vget t0 t6)) (O.real.vs (O.real.vget t0 t6)) (O.real.vl (O.real.vget t0 t6))))) (O.real.not (O.real.eq (baseI (VT.mk (O.real.vt (O.real.vget t0 t6)) (O.real.vn (O.real.vget t0 t6)) (O.real.vs (O.real.vget t0 t6)) (O.real.vl (O.real.vget t0 t6)))) (baseI (VT.mk (O.real.vt (O.real.vget t0 (0 : Int))) (O.real.vn (O.real.vget t0 (0 : Int))) (O.real.vs (O.real.vget t0 (0 : Int))) (O.real.vl (O.real.vget t0 (0 : Int)))))))) = true → Q (.inl (4, [(Lf.vs t0), (Lf.int (O.real.add IntKind.i64 t4 (rCount (VT.mk (O.real.vt (O.real.vget t0 t6)) (O.real.vn (O.real.vget t0 t6)) (O.real.vs (O.real.vget t0 t6)) (O.real.vl (O.real.vget t0 t6)))))), (Lf.bool Bool.false), (Lf.int (O.real.add IntKind.i64 t6 (1 : Int)))]))) ∧ ((O.real.or (O.real.not (flatB (VT.mk (O.real.vt (O.real.vget t0 t6)) (O.real.vn (O.real.vget t0 t6)) (O.real.vs (O.real.vget t0 t6)) (O.real.vl (O.real.vget t0 t6))))) (O.real.not (O.real.eq (baseI (VT.mk (O.real.vt (O.real.vget t0 t6)) (O.real.vn (O.real.vget t0 t6)) (O.real.vs (O.real.vget t0 t6)) (O.real.vl (O.real.vget t0 t6)))) (baseI (VT.mk (O.real.vt (O.real.vget t0 (0 : Int))) (O.real.vn (O.real.vget t0 (0 : Int))) (O.real.vs (O.real.vget t0 (0 : Int))) (O.real.vl (O.real.vget t0 (0 : Int)))))))) = false → Q (.inl (4, [(Lf.vs t0), (Lf.int (O.real.add IntKind.i64 t4 (rCount (VT.mk (O.real.vt (O.real.vget t0 t6)) (O.real.vn (O.real.vget t0 t6)) (O.real.vs (O.real.vget t0 t6)) (O.real.vl (O.real.vget t0 t6)))))), (Lf.bool t5), (Lf.int (O.real.add IntKind.i64 t6 (1 : Int)))]))))))) ∧ ((partB (VT.mk (O.real.vt (O.real.vget t0 t6)) (O.real.vn (O.real.vget t0 t6)) (O.real.vs (O.real.vget t0 t6)) (O.real.vl (O.real.vget t0 t6)))) = false → ((((Bool.true = Bool.true) ∧ True) ∧ (((Bool.true = Bool.true) ∧ True) ∧ (((Bool.true = Bool.true) ∧ (((O.real.inb t6 (O.real.vlen t0))).p ∧ True)) ∧ (((Bool.true = Bool.true) ∧ True) ∧ (((Bool.true = Bool.true) ∧ True) ∧ (((Bool.true = Bool.true) ∧ True) ∧ (((Bool.true = Bool.true) ∧ True) ∧ (((Bool.true = Bool.true) ∧ (((O.real.not (flatB (VT.mk (O.real.vt (O.real.vget t0 t6)) (O.real.vn (O.real.vget t0 t6)) (O.real.vs (O.real.vget t0 t6)) (O.real.vl (O.real.vget t0 t6))))) = Bool.false) → True)) ∧ (((Bool.true = Bool.true) ∧ (((O.real.not (flatB (VT.mk (O.real.vt (O.real.vget t0 t6)) (O.real.vn (O.real.vget t0 t6)) (O.real.vs (O.real.vget t0 t6)) (O.real.vl (O.real.vget t0 t6))))) = Bool.false) → True)) ∧ (((Bool.true = Bool.true) ∧ (((O.real.not (flatB (VT.mk (O.real.vt (O.real.vget t0 t6)) (O.real.vn (O.real.vget t0 t6)) (O.real.vs (O.real.vget t0 t6)) (O.real.vl (O.real.vget t0 t6))))) = Bool.false) → (((O.real.inb t6 (O.real.vlen t0))).p ∧ True))) ∧ (((Bool.true = Bool.true) ∧ (((O.real.not (flatB (VT.mk (O.real.vt (O.real.vget t0 t6)) (O.real.vn (O.real.vget t0 t6)) (O.real.vs (O.real.vget t0 t6)) (O.real.vl (O.real.vget t0 t6))))) = Bool.false) → True)) ∧ (((Bool.true = Bool.true) ∧ (((O.real.not (flatB (VT.mk (O.real.vt (O.real.vget t0 t6)) (O.real.vn (O.real.vget t0 t6)) (O.real.vs (O.real.vget t0 t6)) (O.real.vl (O.real.vget t0 t6))))) = Bool.false) → True)) ∧ (((Bool.true = Bool.true) ∧ (((O.real.not (flatB (VT.mk (O.real.vt (O.real.vget t0 t6)) (O.real.vn (O.real.vget t0 t6)) (O.real.vs (O.real.vget t0 t6)) (O.real.vl (O.real.vget t0 t6))))) = Bool.false) → True)) ∧ (((Bool.true = Bool.true) ∧ (((O.real.not (flatB (VT.mk (O.real.vt (O.real.vget t0 t6)) (O.real.vn (O.real.vget t0 t6)) (O.real.vs (O.real.vget t0 t6)) (O.real.vl (O.real.vget t0 t6))))) = Bool.false) → (((O.real.inb (0 : Int) (O.real.vlen t0))).p ∧ True))) ∧ (((Bool.true = Bool.true) ∧ (((O.real.not (flatB (VT.mk (O.real.vt (O.real.vget t0 t6)) (O.real.vn (O.real.vget t0 t6)) (O.real.vs (O.real.vget t0 t6)) (O.real.vl (O.real.vget t0 t6))))) = Bool.false) → True)) ∧ (((Bool.true = Bool.true) ∧ (((O.real.not (flatB (VT.mk (O.real.vt (O.real.vget t0 t6)) (O.real.vn (O.real.vget t0 t6)) (O.real.vs (O.real.vget t0 t6)) (O.real.vl (O.real.vget t0 t6))))) = Bool.false) → True)) ∧ (((Bool.true = Bool.true) ∧ (((O.real.not (flatB (VT.mk (O.real.vt (O.real.vget t0 t6)) (O.real.vn (O.real.vget t0 t6)) (O.real.vs (O.real.vget t0 t6)) (O.real.vl (O.real.vget t0 t6))))) = Bool.false) → True)) ∧ (((Bool.true = Bool.true) ∧ True) ∧ True)))))))))))))))))) ∧ (((O.real.or (O.real.not (flatB (VT.mk (O.real.vt (O.real.vget t0 t6)) (O.real.vn (O.real.vget t0 t6)) (O.real.vs (O.real.vget t0 t6)) (O.real.vl (O.real.vget t0 t6))))) (O.real.not (O.real.eq (baseI (VT.mk (O.real.vt (O.real.vget t0 t6)) (O.real.vn (O.real.vget t0 t6)) (O.real.vs (O.real.vget t0 t6)) (O.real.vl (O.real.vget t0 t6)))) (baseI (VT.mk (O.real.vt (O.real.vget t0 (0 : Int))) (O.real.vn (O.real.vget t0 (0 : Int))) (O.real.vs (O.real.vget t0 (0 : Int))) (O.real.vl (O.real.vget t0 (0 : Int)))))))) = true → Q (.inl (4, [(Lf.vs t0), (Lf.int (O.real.add IntKind.i64 t4 (1 : Int))), (Lf.bool Bool.false), (Lf.int (O.real.add IntKind.i64 t6 (1 : Int)))]))) ∧ ((O.real.or (O.real.not (flatB (VT.mk (O.real.vt (O.real.vget t0 t6)) (O.real.vn (O.real.vget t0 t6)) (O.real.vs (O.real.vget t0 t6)) (O.real.vl (O.real.vget t0 t6))))) (O.real.not (O.real.eq (baseI (VT.mk (O.real.vt (O.real.vget t0 t6)) (O.real.vn (O.real.vget t0 t6)) (O.real.vs (O.real.vget t0 t6)) (O.real.vl (O.real.vget t0 t6)))) (baseI (VT.mk (O.real.vt (O.real.vget t0 (0 : Int))) (O.real.vn (O.real.vget t0 (0 : Int))) (O.real.vs (O.real.vget t0 (0 : Int))) (O.real.vl (O.real.vget t0 (0 : Int)))))))) = false → Q (.inl (4, [(Lf.vs t0), (Lf.int (O.real.add IntKind.i64 t4 (1 : Int))), (Lf.bool t5), (Lf.int (O.real.add IntKind.i64 t6 (1 : Int)))]))))))))) ∧ ((O.real.lt t6 (O.real.vlen t0)) = false → (((O.real.lt (65536 : Int) t4) = true → Q (.inr ⟨(AV.tup [(AV.agg [(AV.int IntKind.i64 (0 : Int)), AV.nils, AV.nils, AV.nils]), (AV.int IntKind.i64 (6 : Int))]), [], [], []⟩)) ∧ ((O.real.lt (65536 : Int) t4) = false → ((codeAt Go.Proofs.Try.f10 14 = codeAt Go.Proofs.Try.f10 14) ∧ Q (.inl (14, [(Lf.vs t0), (Lf.bool t5), (Lf.int (0 : Int))]))))))) := by kernel_rfl
theorem w10_14  (t0 : List VT) (t5 : Bool) (t7 : Int) (Q : Gt → Prop) : T.ob noB Q (.B (.S (.B (.S .E) (.S .E))) (.B (.S (.S (.S .E))) (.S (.S .E)))) (w10S  (14, [Lf.vs t0, Lf.bool t5, Lf.int t7])) =
  (((O.real.lt t7 (O.real.vlen t0)) = true → (((O.real.inb t7 (O.real.vlen t0))).p ∧ (((O.real.eq (O.real.vt (O.real.vget t0 t7)) (101 : Int)) = true → Q (.inr ⟨(AV.tup [(AV.agg [(AV.int IntKind.i64 (0 : Int)), AV.nils, AV.nils, AV.nils]), (AV.int IntKind.i64 (31 : Int))]), [], [], []⟩)) ∧ ((O.real.eq (O.real.vt (O.real.vget t0 t7)) (101 : Int)) = false → Q (.inl (14, [(Lf.vs t0), (Lf.bool t5), (Lf.int (O.real.add IntKind.i64 t7 (1 : Int)))])))))) ∧ ((O.real.lt t7 (O.real.vlen t0)) = false → ((t5 = true → (((O.real.inb (0 : Int) (O.real.vlen t0))).p ∧ ((codeAt Go.Proofs.Try.f10 21 = codeAt Go.Proofs.Try.f10 21) ∧ Q (.inl (21, [(Lf.vs t0), (Lf.int (0 : Int)), (Lf.int (baseI (VT.mk (O.real.vt (O.real.vget t0 (0 : Int))) (O.real.vn (O.real.vget t0 (0 : Int))) (O.real.vs (O.real.vget t0 (0 : Int))) (O.real.vl (O.real.vget t0 (0 : Int)))))), (Lf.is []), (Lf.ss [])]))))) ∧ (t5 = false → ((codeAt Go.Proofs.Try.f10 28 = codeAt Go.Proofs.Try.f10 28) ∧ Q (.inl (28, [(Lf.vs t0), (Lf.int (0 : Int)), (Lf.vs [])]))))))) := by kernel_rfl
theorem w10_21  (t0 : List VT) (t9 : Int) (h704 : Int) (h2113 : List Int) (h2114 : List ByteArray) (Q : Gt → Prop) : T.ob noB Q (.B (.S (.S (.S .E))) (.S .E)) (w10S  (21, [Lf.vs t0, Lf.int t9, Lf.int h704, Lf.is h2113, Lf.ss h2114])) =
  (((O.real.lt t9 (O.real.vlen t0)) = true → ((((Bool.true = Bool.true) ∧ True) ∧ (((Bool.true = Bool.true) ∧ True) ∧ (((Bool.true = Bool.true) ∧ True) ∧ (((Bool.true = Bool.true) ∧ True) ∧ (((Bool.true = Bool.true) ∧ (((O.real.inb t9 (O.real.vlen t0))).p ∧ True)) ∧ (((Bool.true = Bool.true) ∧ True) ∧ (((Bool.true = Bool.true) ∧ True) ∧ (((Bool.true = Bool.true) ∧ (((O.real.fit (O.real.ilen h2113) (O.real.ilen (O.real.vn (O.real.vget t0 t9))) 8)).p ∧ True)) ∧ (((Bool.true = Bool.true) ∧ True) ∧ (((Bool.true = Bool.true) ∧ True) ∧ True)))))))))) ∧ ((((Bool.true = Bool.true) ∧ True) ∧ (((Bool.true = Bool.true) ∧ True) ∧ (((Bool.true = Bool.true) ∧ True) ∧ (((Bool.true = Bool.true) ∧ True) ∧ (((Bool.true = Bool.true) ∧ (((O.real.inb t9 (O.real.vlen t0))).p ∧ True)) ∧ (((Bool.true = Bool.true) ∧ True) ∧ (((Bool.true = Bool.true) ∧ True) ∧ (((Bool.true = Bool.true) ∧ (((O.real.fit (O.real.blen h2114) (O.real.blen (O.real.vs (O.real.vget t0 t9))) 16)).p ∧ True)) ∧ (((Bool.true = Bool.true) ∧ True) ∧ (((Bool.true = Bool.true) ∧ True) ∧ True)))))))))) ∧ Q (.inl (21, [(Lf.vs t0), (Lf.int (O.real.add IntKind.i64 t9 (1 : Int))), (Lf.int h704), (Lf.is (O.real.iapp h2113 (O.real.vn (O.real.vget t0 t9)))), (Lf.ss (O.real.bapp h2114 (O.real.vs (O.real.vget t0 t9))))]))))) ∧ ((O.real.lt t9 (O.real.vlen t0)) = false → Q (.inr ⟨(AV.tup [(AV.agg [(AV.int IntKind.i64 h704), (AV.own 0), (AV.own 1), AV.nils]), (AV.int IntKind.i64 (0 : Int))]), [], [], [(HObj.arr 2 (LS.i IntKind.i64 h2113)), (HObj.arr 9 (LS.s h2114))]⟩))) := by kernel_rfl
theorem w10_28  (t0 : List VT) (t11 : Int) (h1729 : List VT) (Q : Gt → Prop) : T.ob noB Q (.B (.S (.S .E)) (.S (.B (.S .E) (.S .E)))) (w10S  (28, [Lf.vs t0, Lf.int t11, Lf.vs h1729])) =
  (((O.real.lt t11 (O.real.vlen t0)) = true → ((codeAt Go.Proofs.Try.f10 31 = codeAt Go.Proofs.Try.f10 31) ∧ Q (.inl (31, [(Lf.vs t0), (Lf.int t11), (Lf.int (0 : Int)), (Lf.vs h1729)])))) ∧ ((O.real.lt t11 (O.real.vlen t0)) = false → ((tames h1729) ∧ (((O.real.lt (32 : Int) (rDepth (VT.mk (VT.t (ofV h1729)) (VT.n (ofV h1729)) (VT.s (ofV h1729)) (VT.l (ofV h1729))))) = true → Q (.inr ⟨(AV.tup [(AV.agg [(AV.int IntKind.i64 (0 : Int)), AV.nils, AV.nils, AV.nils]), (AV.int IntKind.i64 (6 : Int))]), [], [], []⟩)) ∧ ((O.real.lt (32 : Int) (rDepth (VT.mk (VT.t (ofV h1729)) (VT.n (ofV h1729)) (VT.s (ofV h1729)) (VT.l (ofV h1729))))) = false → Q (.inr ⟨(AV.tup [(AV.agg [(AV.int IntKind.i64 (VT.t (ofV h1729))), (AV.sl (LS.i IntKind.i64 (VT.n (ofV h1729)))), (AV.sl (LS.s (VT.s (ofV h1729)))), (AV.sl (LS.v (VT.l (ofV h1729))))]), (AV.int IntKind.i64 (0 : Int))]), [], [], []⟩)))))) := by kernel_rfl
end Go.Qv
/- Walks of readers: a round. (Printed.) -/
set_option linter.unusedVariables false
set_option maxRecDepth 100000
namespace Go.Qv
open Go Go.RowKit
theorem wJR (a : List VT) (b c k : Int) (h : List VT) (xt : Int) (xn : List Int) (xs : List ByteArray) (xl : List VT) (Q : List Lf → Prop) : T.ob noB Q (.S (.S .E)) (roundT O.real Go.Qv.tb (inl O.real Go.Qv.tb Go.Qv.fns noOrc noKnown (fun _ => false) 300 14) (rfA (rfAt Go.Proofs.Try.f9 29)) (rfB (rfAt Go.Proofs.Try.f9 29)) 0 tmJ [(101, .agg [.int .i64 xt, .sl (.i .i64 xn), .sl (.s xs), .sl (.v xl)]), (100, .int .i64 k)] (tmJ.inst [.vs a, .int b, .int c, .vs h])) =
  ((((Bool.true = Bool.true) ∧ True) ∧ (((Bool.true = Bool.true) ∧ True) ∧ (((Bool.true = Bool.true) ∧ True) ∧ (((Bool.true = Bool.true) ∧ True) ∧ (((Bool.true = Bool.true) ∧ (((O.real.fit (O.real.vlen h) (1 : Int) 80)).p ∧ True)) ∧ (((Bool.true = Bool.true) ∧ (((O.real.inb (O.real.vlen h) (O.real.vlen (O.real.vapp h [(VT.mk (0 : Int) [] [] [])])))).p ∧ True)) ∧ (((Bool.true = Bool.true) ∧ (((O.real.inb (O.real.vlen h) (O.real.vlen (O.real.vapp h [(VT.mk (0 : Int) [] [] [])])))).p ∧ True)) ∧ (((Bool.true = Bool.true) ∧ True) ∧ True)))))))) ∧ Q [(Lf.vs a), (Lf.int b), (Lf.int c), (Lf.vs (O.real.vset (O.real.vapp h [(VT.mk (0 : Int) [] [] [])]) (O.real.vlen h) (VT.mk xt xn xs xl)))]) := by kernel_rfl
end Go.Qv
/- Contracts: values one behind the other. No condition. -/
set_option linter.unusedVariables false
set_option linter.unusedSimpArgs false
set_option maxRecDepth 100000
namespace Go.Qv
open Go Go.RowKit Go.Proofs
theorem partB_mk {t n s l} : partB (.mk t n s l) = decide (0 ≤ t ∧ t ≤ 5) := rfl
theorem flatB_mk {t n s l} : flatB (.mk t n s l) = decide ((1 ≤ t ∧ t ≤ 5) ∨ (-5 ≤ t ∧ t < 0)) := rfl
theorem baseI_mk {t n s l} : baseI (.mk t n s l) = if t < 0 then IntKind.i64.wrap (0 - t) else t := rfl
theorem partB_iff {a : VT} : partB a = true ↔ partP a := by unfold partB partP; simp
theorem ok28 : Pure1 Try.prog 28 spPart := by
  intro xs F w cs R ha h
  obtain ⟨x, a, rfl, h1, h⟩ := onV_inv h
  have ha := ha.conv1 (fun v => as_V h1)
  obtain ⟨t, n, s, l⟩ := a
  refine contract (fn := Try.f28) (walked (PureOk.none _) 14) (by kernel_rfl) w28C_ok (by rfl) (by rfl) (by rfl) (by rfl) (by rfl) ha (ρ := [.int t, .is n, .ss s, .vs l]) (Rh.go (w28_9999 t n s l _) ?_) h
  simp only [o_add, o_sub, o_mul, o_neg, o_conv, o_lt, o_le, o_eq, o_not, o_and, o_or, o_sel, o_isel, o_ssel, o_beq, o_seq, o_slt, o_slen, o_sat, o_scut, o_sadd, o_ilen, o_blen, o_vlen, o_rlen, o_iget, o_bget, o_vget, o_rget, o_iset, o_bset, o_vset, o_iapp, o_bapp, o_vapp, o_rapp, o_icut, o_bcut, o_vcut, o_irep, o_vt, o_vn, o_vs, o_vl, o_imax, o_imin, o_inb, o_sfit, o_cutb, o_fit, o_mkfit, RhQ, decT, decF, true_and, and_true, eq_self, implies_true, forall_const, Bool.not_eq_true', Bool.not_eq_false', Bool.not_true, Bool.not_false, Bool.and_eq_true, Bool.or_eq_true, Bool.and_eq_false_iff, Bool.or_eq_false_iff, Bool.true_and, Bool.and_true, Bool.false_and, Bool.and_false, Bool.or_false, Bool.false_or, Bool.true_or, Bool.or_true, Int.toNat_natCast, VT.eta, not_true, not_false_iff, false_implies, if_true, if_false, Int.toNat_zero, Int.toNat_one, ns0, ns4]
  exact Ret.bool (by rw [Bool.eq_iff_iff, partB_mk]; simp only [Bool.and_eq_true, decide_eq_true_eq])
theorem ok37 : Pure1 Try.prog 37 spPart := by
  intro xs F w cs R ha h
  obtain ⟨x, a, rfl, h1, h⟩ := onV_inv h
  have ha := ha.conv1 (fun v => as_V h1)
  obtain ⟨t, n, s, l⟩ := a
  refine contract (fn := Try.f37) (walked (PureOk.none _) 14) (by kernel_rfl) w37C_ok (by rfl) (by rfl) (by rfl) (by rfl) (by rfl) ha (ρ := [.int t, .is n, .ss s, .vs l]) (Rh.go (w37_9999 t n s l _) ?_) h
  simp only [o_add, o_sub, o_mul, o_neg, o_conv, o_lt, o_le, o_eq, o_not, o_and, o_or, o_sel, o_isel, o_ssel, o_beq, o_seq, o_slt, o_slen, o_sat, o_scut, o_sadd, o_ilen, o_blen, o_vlen, o_rlen, o_iget, o_bget, o_vget, o_rget, o_iset, o_bset, o_vset, o_iapp, o_bapp, o_vapp, o_rapp, o_icut, o_bcut, o_vcut, o_irep, o_vt, o_vn, o_vs, o_vl, o_imax, o_imin, o_inb, o_sfit, o_cutb, o_fit, o_mkfit, RhQ, decT, decF, true_and, and_true, eq_self, implies_true, forall_const, Bool.not_eq_true', Bool.not_eq_false', Bool.not_true, Bool.not_false, Bool.and_eq_true, Bool.or_eq_true, Bool.and_eq_false_iff, Bool.or_eq_false_iff, Bool.true_and, Bool.and_true, Bool.false_and, Bool.and_false, Bool.or_false, Bool.false_or, Bool.true_or, Bool.or_true, Int.toNat_natCast, VT.eta, not_true, not_false_iff, false_implies, if_true, if_false, Int.toNat_zero, Int.toNat_one, ns0, ns4]
  exact Ret.bool (by rw [Bool.eq_iff_iff, partB_mk]; simp only [Bool.and_eq_true, Bool.or_eq_true, decide_eq_true_eq]; omega)
theorem ok30 : Pure1 Try.prog 30 spFlat := by
  intro xs F w cs R ha h
  obtain ⟨x, a, rfl, h1, h⟩ := onV_inv h
  have ha := ha.conv1 (fun v => as_V h1)
  obtain ⟨t, n, s, l⟩ := a
  refine contract (fn := Try.f30) (walked (PureOk.none _) 14) (by kernel_rfl) w30C_ok (by rfl) (by rfl) (by rfl) (by rfl) (by rfl) ha (ρ := [.int t, .is n, .ss s, .vs l]) (Rh.go (w30_9999 t n s l _) ?_) h
  simp only [o_add, o_sub, o_mul, o_neg, o_conv, o_lt, o_le, o_eq, o_not, o_and, o_or, o_sel, o_isel, o_ssel, o_beq, o_seq, o_slt, o_slen, o_sat, o_scut, o_sadd, o_ilen, o_blen, o_vlen, o_rlen, o_iget, o_bget, o_vget, o_rget, o_iset, o_bset, o_vset, o_iapp, o_bapp, o_vapp, o_rapp, o_icut, o_bcut, o_vcut, o_irep, o_vt, o_vn, o_vs, o_vl, o_imax, o_imin, o_inb, o_sfit, o_cutb, o_fit, o_mkfit, RhQ, decT, decF, true_and, and_true, eq_self, implies_true, forall_const, Bool.not_eq_true', Bool.not_eq_false', Bool.not_true, Bool.not_false, Bool.and_eq_true, Bool.or_eq_true, Bool.and_eq_false_iff, Bool.or_eq_false_iff, Bool.true_and, Bool.and_true, Bool.false_and, Bool.and_false, Bool.or_false, Bool.false_or, Bool.true_or, Bool.or_true, Int.toNat_natCast, VT.eta, not_true, not_false_iff, false_implies, if_true, if_false, Int.toNat_zero, Int.toNat_one, ns0, ns4]
  refine Ret.bool ?_
  rw [Bool.eq_iff_iff, flatB_mk]
  simp only [Bool.and_eq_true, Bool.or_eq_true, decide_eq_true_eq, IntKind.wrap_i64]
  split <;> omega
theorem ok38 : Pure1 Try.prog 38 spFlat := by
  intro xs F w cs R ha h
  obtain ⟨x, a, rfl, h1, h⟩ := onV_inv h
  have ha := ha.conv1 (fun v => as_V h1)
  obtain ⟨t, n, s, l⟩ := a
  refine contract (fn := Try.f38) (walked (PureOk.none _) 14) (by kernel_rfl) w38C_ok (by rfl) (by rfl) (by rfl) (by rfl) (by rfl) ha (ρ := [.int t, .is n, .ss s, .vs l]) (Rh.go (w38_9999 t n s l _) ?_) h
  simp only [o_add, o_sub, o_mul, o_neg, o_conv, o_lt, o_le, o_eq, o_not, o_and, o_or, o_sel, o_isel, o_ssel, o_beq, o_seq, o_slt, o_slen, o_sat, o_scut, o_sadd, o_ilen, o_blen, o_vlen, o_rlen, o_iget, o_bget, o_vget, o_rget, o_iset, o_bset, o_vset, o_iapp, o_bapp, o_vapp, o_rapp, o_icut, o_bcut, o_vcut, o_irep, o_vt, o_vn, o_vs, o_vl, o_imax, o_imin, o_inb, o_sfit, o_cutb, o_fit, o_mkfit, RhQ, decT, decF, true_and, and_true, eq_self, implies_true, forall_const, Bool.not_eq_true', Bool.not_eq_false', Bool.not_true, Bool.not_false, Bool.and_eq_true, Bool.or_eq_true, Bool.and_eq_false_iff, Bool.or_eq_false_iff, Bool.true_and, Bool.and_true, Bool.false_and, Bool.and_false, Bool.or_false, Bool.false_or, Bool.true_or, Bool.or_true, Int.toNat_natCast, VT.eta, not_true, not_false_iff, false_implies, if_true, if_false, Int.toNat_zero, Int.toNat_one, ns0, ns4]
  refine Ret.bool ?_
  rw [Bool.eq_iff_iff, flatB_mk]
  simp only [Bool.and_eq_true, Bool.or_eq_true, decide_eq_true_eq]
  omega
theorem ok31 : Pure1 Try.prog 31 spBase := by
  intro xs F w cs R ha h
  obtain ⟨x, a, rfl, h1, h⟩ := onV_inv h
  have ha := ha.conv1 (fun v => as_V h1)
  obtain ⟨t, n, s, l⟩ := a
  refine contract (fn := Try.f31) (walked (PureOk.none _) 14) (by kernel_rfl) w31C_ok (by rfl) (by rfl) (by rfl) (by rfl) (by rfl) ha (ρ := [.int t, .is n, .ss s, .vs l]) (Rh.go (w31_9999 t n s l _) ?_) h
  simp only [o_add, o_sub, o_mul, o_neg, o_conv, o_lt, o_le, o_eq, o_not, o_and, o_or, o_sel, o_isel, o_ssel, o_beq, o_seq, o_slt, o_slen, o_sat, o_scut, o_sadd, o_ilen, o_blen, o_vlen, o_rlen, o_iget, o_bget, o_vget, o_rget, o_iset, o_bset, o_vset, o_iapp, o_bapp, o_vapp, o_rapp, o_icut, o_bcut, o_vcut, o_irep, o_vt, o_vn, o_vs, o_vl, o_imax, o_imin, o_inb, o_sfit, o_cutb, o_fit, o_mkfit, RhQ, decT, decF, true_and, and_true, eq_self, implies_true, forall_const, Bool.not_eq_true', Bool.not_eq_false', Bool.not_true, Bool.not_false, Bool.and_eq_true, Bool.or_eq_true, Bool.and_eq_false_iff, Bool.or_eq_false_iff, Bool.true_and, Bool.and_true, Bool.false_and, Bool.and_false, Bool.or_false, Bool.false_or, Bool.true_or, Bool.or_true, Int.toNat_natCast, VT.eta, not_true, not_false_iff, false_implies, if_true, if_false, Int.toNat_zero, Int.toNat_one, ns0, ns4]
  exact ⟨fun h => Ret.int (by rw [baseI_mk, if_pos h]), fun h => Ret.int (by rw [baseI_mk, if_neg h])⟩
theorem ok39 : Pure1 Try.prog 39 spBase := by
  intro xs F w cs R ha h
  obtain ⟨x, a, rfl, h1, h⟩ := onV_inv h
  have ha := ha.conv1 (fun v => as_V h1)
  obtain ⟨t, n, s, l⟩ := a
  refine contract (fn := Try.f39) (walked (PureOk.none _) 14) (by kernel_rfl) w39C_ok (by rfl) (by rfl) (by rfl) (by rfl) (by rfl) ha (ρ := [.int t, .is n, .ss s, .vs l]) (Rh.go (w39_9999 t n s l _) ?_) h
  simp only [o_add, o_sub, o_mul, o_neg, o_conv, o_lt, o_le, o_eq, o_not, o_and, o_or, o_sel, o_isel, o_ssel, o_beq, o_seq, o_slt, o_slen, o_sat, o_scut, o_sadd, o_ilen, o_blen, o_vlen, o_rlen, o_iget, o_bget, o_vget, o_rget, o_iset, o_bset, o_vset, o_iapp, o_bapp, o_vapp, o_rapp, o_icut, o_bcut, o_vcut, o_irep, o_vt, o_vn, o_vs, o_vl, o_imax, o_imin, o_inb, o_sfit, o_cutb, o_fit, o_mkfit, RhQ, decT, decF, true_and, and_true, eq_self, implies_true, forall_const, Bool.not_eq_true', Bool.not_eq_false', Bool.not_true, Bool.not_false, Bool.and_eq_true, Bool.or_eq_true, Bool.and_eq_false_iff, Bool.or_eq_false_iff, Bool.true_and, Bool.and_true, Bool.false_and, Bool.and_false, Bool.or_false, Bool.false_or, Bool.true_or, Bool.or_true, Int.toNat_natCast, VT.eta, not_true, not_false_iff, false_implies, if_true, if_false, Int.toNat_zero, Int.toNat_one, ns0, ns4]
  exact ⟨fun h => Ret.int (by rw [baseI_mk, if_pos h]), fun h => Ret.int (by rw [baseI_mk, if_neg h])⟩
theorem loop63j (l : List VT) (hl : l.length ≤ maxLen) (i : Nat) (h1 : i ≤ l.length) : Rh w63jS (Ret (.int .i64 (nilIdx (l.drop i) i))) (2, [.vs l, .int l.length, .int i]) := by
  refine Rh.go (w63j_2 l l.length i _) ?_
  simp only [o_add, o_sub, o_mul, o_neg, o_conv, o_lt, o_le, o_eq, o_not, o_and, o_or, o_sel, o_isel, o_ssel, o_beq, o_seq, o_slt, o_slen, o_sat, o_scut, o_sadd, o_ilen, o_blen, o_vlen, o_rlen, o_iget, o_bget, o_vget, o_rget, o_iset, o_bset, o_vset, o_iapp, o_bapp, o_vapp, o_rapp, o_icut, o_bcut, o_vcut, o_irep, o_vt, o_vn, o_vs, o_vl, o_imax, o_imin, o_inb, o_sfit, o_cutb, o_fit, o_mkfit, RhQ, decT, decF, true_and, and_true, eq_self, implies_true, forall_const, Bool.not_eq_true', Bool.not_eq_false', Bool.not_true, Bool.not_false, Bool.and_eq_true, Bool.or_eq_true, Bool.and_eq_false_iff, Bool.or_eq_false_iff, Bool.true_and, Bool.and_true, Bool.false_and, Bool.and_false, Bool.or_false, Bool.false_or, Bool.true_or, Bool.or_true, Int.toNat_natCast, VT.eta, not_true, not_false_iff, false_implies, if_true, if_false, Int.toNat_zero, Int.toNat_one, ns0, ns4]
  refine ⟨fun h => ⟨⟨by omega, by omega⟩, fun h2 => ?_, fun h2 => ?_⟩, fun h => ?_⟩
  · rw [drop_at l default (show i < l.length by omega)]
    exact Ret.int (by rw [nilIdx, if_pos h2])
  · have e := loop63j l hl (i + 1) (by omega)
    rw [inc hl (by omega), drop_at l default (show i < l.length by omega), nilIdx, if_neg h2]
    exact e
  · rw [List.drop_of_length_le (by omega)]; exact Ret.int rfl
termination_by l.length - i
theorem ok63j : Pure1 Try.prog 63 spNilIdx := by
  intro xs F w cs R ha h
  obtain ⟨x, a, rfl, h1, h⟩ := onVsG_inv h
  have ha := ha.conv2 (fun v => as_Vs h1) (fun v h => h)
  obtain ⟨v, hv⟩ := ha.at 0 rfl
  refine contract (fn := Try.f63) (walked (PureOk.none _) 14) (by kernel_rfl) w63jC_ok (by rfl) (by rfl) (by rfl) (by rfl) (by rfl) ha (ρ := [.vs a]) (Rh.go (w63j_9999 a _) ?_) h
  simp only [o_add, o_sub, o_mul, o_neg, o_conv, o_lt, o_le, o_eq, o_not, o_and, o_or, o_sel, o_isel, o_ssel, o_beq, o_seq, o_slt, o_slen, o_sat, o_scut, o_sadd, o_ilen, o_blen, o_vlen, o_rlen, o_iget, o_bget, o_vget, o_rget, o_iset, o_bset, o_vset, o_iapp, o_bapp, o_vapp, o_rapp, o_icut, o_bcut, o_vcut, o_irep, o_vt, o_vn, o_vs, o_vl, o_imax, o_imin, o_inb, o_sfit, o_cutb, o_fit, o_mkfit, RhQ, decT, decF, true_and, and_true, eq_self, implies_true, forall_const, Bool.not_eq_true', Bool.not_eq_false', Bool.not_true, Bool.not_false, Bool.and_eq_true, Bool.or_eq_true, Bool.and_eq_false_iff, Bool.or_eq_false_iff, Bool.true_and, Bool.and_true, Bool.false_and, Bool.and_false, Bool.or_false, Bool.false_or, Bool.true_or, Bool.or_true, Int.toNat_natCast, VT.eta, not_true, not_false_iff, false_implies, if_true, if_false, Int.toNat_zero, Int.toNat_one, ns0, ns4]
  exact loop63j a hv.len 0 (by omega)
/-! ### a value's elements by their bulk -/
theorem eachs_len (v : VT) : (eachs v).length = (rCount v).toNat := by unfold eachs; simp
theorem eachs_at {v : VT} {k : Nat} (h : k < (rCount v).toNat) : (eachs v).getD k default = atV v k := by
  unfold eachs
  rw [List.getD_eq_getElem?_getD, List.getElem?_map, List.getElem?_range h]; rfl
theorem eachs_take {v : VT} {k : Nat} (h : k < (rCount v).toNat) : (eachs v).take (k + 1) = (eachs v).take k ++ [atV v k] := by
  rw [take_at _ default (by rw [eachs_len]; exact h), eachs_at h]
theorem part_ok2 {v : VT} (h : partP v) : ok2 v := by
  unfold partP at h; unfold ok2; exact ⟨fun e => by omega, fun e => by omega⟩
theorem map_range {α : Type} (l : List α) (d : α) : (List.range l.length).map (fun k => l.getD k d) = l := by
  apply List.ext_getElem
  · simp
  · intro i h1 h2
    simp only [List.getElem_map, List.getElem_range, List.getD_eq_getElem?_getD, List.getElem?_eq_getElem h2, Option.getD_some]
theorem bks_map_const {α : Type} (f : α → VT) (c : Nat) : ∀ l : List α, (∀ x ∈ l, (f x).bk ≤ c) → bks (l.map f) ≤ c * l.length
  | [], _ => by simp [bks]
  | x :: l, h => by
    have h1 := bks_map_const f c l (fun y hy => h y (List.mem_cons_of_mem _ hy))
    have h2 := h x List.mem_cons_self
    rw [List.map_cons, bks_cons, List.length_cons, Nat.mul_succ]; omega
theorem bks_syms : ∀ s : List ByteArray, bks (s.map fun x => VT.mk (-3) [] [x] []) ≤ 2 * strs s
  | [] => by simp [bks]
  | x :: s => by
    have := bks_syms s
    rw [List.map_cons, bks_cons, VT.bk_eq]
    simp only [List.length_nil, strs, bks]
    omega
theorem atomV_bk (t n : Int) : (atomV t n).bk ≤ 2 := by
  unfold atomV
  split <;> · rw [VT.bk_eq]; simp [strs, bks]
theorem rCount_mk {t n s l} : rCount (.mk t n s l) = if t = 3 then (s.length : Int) else if isVecT t then (n.length : Int) else if t = 0 then (l.length : Int) else match l with
    | [] => 1
    | x :: _ => if t = 98 ∨ t = 99 then rCount x else 1 := by rw [rCount.eq_def]; rfl
theorem at0_mk {t n s l} {i : Nat} : at0 (.mk t n s l) i = if t = 3 then .mk (-3) [] [s.getD i ⟨#[]⟩] [] else if isVecT t then atomV t (n.getD i 0) else if t = 0 then l.getD i default else .mk t n s l := rfl
theorem eachs_bk {v : VT} (h : partP v) : bks (eachs v) ≤ 2 * v.bk := by
  obtain ⟨t, n, s, l⟩ := v
  have ht : 0 ≤ t ∧ t ≤ 5 := h
  have e : eachs (.mk t n s l) = (List.range (rCount (.mk t n s l)).toNat).map fun (k : Nat) => at0 (.mk t n s l) k := by
    unfold eachs
    refine List.map_congr_left fun k hk => ?_
    have hk := List.mem_range.1 hk
    rw [at_0 (by omega) (by show t ≠ 98; omega) (by show t ≠ 99; omega), Int.toNat_natCast]
  rw [e]
  by_cases h3 : t = 3
  · have hc : (rCount (.mk t n s l)).toNat = s.length := by rw [rCount_mk, if_pos h3, Int.toNat_natCast]
    rw [hc]
    have : (List.range s.length).map (fun (k : Nat) => at0 (.mk t n s l) k) = s.map fun x => VT.mk (-3) [] [x] [] := by
      conv => rhs; rw [← map_range s ⟨#[]⟩]
      rw [List.map_map]
      refine List.map_congr_left fun k _ => ?_
      simp only [at0_mk, if_pos h3, Function.comp]
    rw [this, VT.bk_eq]
    have := bks_syms s
    omega
  · by_cases h0 : t = 0
    · have hc : (rCount (.mk t n s l)).toNat = l.length := by rw [rCount_mk, if_neg h3, if_neg (by unfold isVecT; omega), if_pos h0, Int.toNat_natCast]
      rw [hc]
      have : (List.range l.length).map (fun (k : Nat) => at0 (.mk t n s l) k) = l := by
        conv => rhs; rw [← map_range l default]
        refine List.map_congr_left fun k _ => ?_
        simp only [at0_mk, if_neg h3, if_neg (show ¬ isVecT t by unfold isVecT; omega), if_pos h0]
      rw [this, VT.bk_eq]
      omega
    · have hv : isVecT t := by unfold isVecT; omega
      have hc : (rCount (.mk t n s l)).toNat = n.length := by rw [rCount_mk, if_neg h3, if_pos hv, Int.toNat_natCast]
      rw [hc]
      have := bks_map_const (fun (k : Nat) => at0 (.mk t n s l) k) 2 (List.range n.length) (fun k _ => by
        rw [at0_mk, if_neg h3, if_pos hv]; exact atomV_bk _ _)
      rw [List.length_range] at this
      rw [VT.bk_eq]
      omega
/-! ### what Join answers -/
def partsJ (x : VT) : List VT := if partB x then eachs x else [x]
def cntJ (x : VT) : Int := if partB x then rCount x else 1
def sumJ : List VT → Int
  | [] => 0
  | x :: l => cntJ x + sumJ l
def allJ (b : Int) (l : List VT) : Bool := l.all fun x => flatB x && decide (baseI x = b)
def alikeJ (l : List VT) : Bool := decide (0 < (l.length : Int)) && allJ (baseI (l.getD 0 default)) l
def joinV (l : List VT) : VT :=
  if 65536 < sumJ l then .mk 0 [] [] [] else if 0 ≤ nilIdx l 0 then .mk 0 [] [] []
  else if alikeJ l then .mk (baseI (l.getD 0 default)) (l.flatMap VT.n) (l.flatMap VT.s) []
  else if 32 < rDepth (ofV (l.flatMap partsJ)) then .mk 0 [] [] [] else ofV (l.flatMap partsJ)
def joinE (l : List VT) : Int :=
  if 65536 < sumJ l then 6 else if 0 ≤ nilIdx l 0 then 31 else if alikeJ l then 0
  else if 32 < rDepth (ofV (l.flatMap partsJ)) then 6 else 0
def joinOk (l : List VT) : Prop := bks l ≤ 268435456
theorem joinOk.tames {l : List VT} (h : joinOk l) : tames l := by unfold joinOk at h; unfold Qv.tames; omega
theorem partsJ_bk (x : VT) : bks (partsJ x) ≤ 2 * x.bk := by
  unfold partsJ
  split
  · rename_i h; exact eachs_bk (partB_iff.1 h)
  · rw [bks_cons]; simp [bks]; omega
theorem parts_bk : ∀ l : List VT, bks (l.flatMap partsJ) ≤ 2 * bks l
  | [] => by simp [bks]
  | x :: l => by have := partsJ_bk x; have := parts_bk l; rw [List.flatMap_cons, bks_append, bks_cons]; omega
theorem joinOk.parts {l : List VT} (h : joinOk l) (i : Nat) : bks ((l.take i).flatMap partsJ) ≤ 536870912 := by
  have := parts_bk (l.take i); have := bks_take l i; unfold joinOk at h; omega
theorem cntJ_bk (x : VT) : 0 ≤ cntJ x ∧ cntJ x ≤ x.bk := by
  unfold cntJ
  split
  · rename_i h; exact ⟨rCount_nn x, (cnt_bk x).2 (partB_iff.1 h)⟩
  · have := bk_pos x; omega
theorem sumJ_bk : ∀ l : List VT, 0 ≤ sumJ l ∧ sumJ l ≤ bks l
  | [] => by simp [sumJ, bks]
  | x :: l => by have := cntJ_bk x; have := sumJ_bk l; rw [sumJ, bks_cons]; omega
theorem sumJ_append : ∀ a b : List VT, sumJ (a ++ b) = sumJ a + sumJ b
  | [], b => by simp [sumJ]
  | x :: a, b => by rw [List.cons_append, sumJ, sumJ, sumJ_append a b]; omega
theorem sumJ_take {l : List VT} {i : Nat} (h : i < l.length) : sumJ (l.take (i + 1)) = sumJ (l.take i) + cntJ (l.getD i default) := by
  rw [take_at l default h, sumJ_append]; simp [sumJ]
theorem joinOk.sum {l : List VT} (h : joinOk l) (i : Nat) : 0 ≤ sumJ (l.take i) ∧ sumJ (l.take i) ≤ 268435456 := by
  have := sumJ_bk (l.take i); have := bks_take l i; unfold joinOk at h; omega
theorem allJ_take {b : Int} {l : List VT} {i : Nat} (h : i < l.length) : allJ b (l.take (i + 1)) = (allJ b (l.take i) && (flatB (l.getD i default) && decide (baseI (l.getD i default) = b))) := by
  rw [take_at l default h]; unfold allJ; rw [List.all_append]; simp
theorem set_new {α : Type} (h : List α) (z x : α) : (h ++ [z]).set h.length x = h ++ [x] := by
  rw [List.set_append_right _ _ (Nat.le_refl _), Nat.sub_self]; rfl
/-! ### the loop over a value's elements -/
theorem roundJ (aa : List VT) (bb cc k : Int) (h : List VT) (hl : h.length ≤ 1073741824) (t n s l) : Sat (roundT O.real tb (inl O.real tb fns noOrc noKnown (fun _ => false) 300 14) (rfA (rfAt Try.f9 29)) (rfB (rfAt Try.f9 29)) 0 tmJ [(101, .agg [.int .i64 t, .sl (.i .i64 n), .sl (.s s), .sl (.v l)]), (100, .int .i64 k)] (tmJ.inst [.vs aa, .int bb, .int cc, .vs h])) (fun r => r = [.vs aa, .int bb, .int cc, .vs (h ++ [.mk t n s l])]) := by
  refine ⟨?_⟩
  have e := wJR aa bb cc k h t n s l (fun r => r = [.vs aa, .int bb, .int cc, .vs (h ++ [.mk t n s l])])
  generalize roundT O.real tb (inl O.real tb fns noOrc noKnown (fun _ => false) 300 14) (rfA (rfAt Try.f9 29)) (rfB (rfAt Try.f9 29)) 0 tmJ [(101, .agg [.int .i64 t, .sl (.i .i64 n), .sl (.s s), .sl (.v l)]), (100, .int .i64 k)] (tmJ.inst [.vs aa, .int bb, .int cc, .vs h]) = X at e ⊢
  refine ob_of noB_ok _ _ e ?_
  simp only [o_add, o_sub, o_mul, o_neg, o_conv, o_lt, o_le, o_eq, o_not, o_and, o_or, o_sel, o_isel, o_ssel, o_beq, o_seq, o_slt, o_slen, o_sat, o_scut, o_sadd, o_ilen, o_blen, o_vlen, o_rlen, o_iget, o_bget, o_vget, o_rget, o_iset, o_bset, o_vset, o_iapp, o_bapp, o_vapp, o_rapp, o_icut, o_bcut, o_vcut, o_irep, o_vt, o_vn, o_vs, o_vl, o_imax, o_imin, o_inb, o_sfit, o_cutb, o_fit, o_mkfit, RhQ, decT, decF, true_and, and_true, eq_self, implies_true, forall_const, Bool.not_eq_true', Bool.not_eq_false', Bool.not_true, Bool.not_false, Bool.and_eq_true, Bool.or_eq_true, Bool.and_eq_false_iff, Bool.or_eq_false_iff, Bool.true_and, Bool.and_true, Bool.false_and, Bool.and_false, Bool.or_false, Bool.false_or, Bool.true_or, Bool.or_true, Int.toNat_natCast, VT.eta, not_true, not_false_iff, false_implies, if_true, if_false, Int.toNat_zero, Int.toNat_one, ns0, ns4, List.length_append, List.length_cons, List.length_nil, set_new]
  repeat' apply And.intro
  all_goals first | rfl | omega
theorem lpJ_ok : LpOk none Try.prog 0 lpJ := lpOf_ok noLp_ok (fun c hC hB hn hmd y ρ K hs Q hQ β F a w hrs hy => by
  unfold spLpJ at hs
  split at hs
  · rename_i t n s l aa bb cc hh
    obtain ⟨ht, h2, hf, hK⟩ := hs
    have ht : tame (.mk t n s l) := ht
    have h2 : ok2 (.mk t n s l) := h2
    have hf : fitJ hh (.mk t n s l) := hf
    unfold fitJ at hf
    have h0 := rCount_nn (.mk t n s l)
    obtain ⟨c0, hc0⟩ : ∃ c0, c0 = rCount (.mk t n s l) := ⟨_, rfl⟩
    have e : rfAt Try.f9 29 = .rangeFunc (.tmp 99) #[100, 101] (rfA (rfAt Try.f9 29)) (rfB (rfAt Try.f9 29)) := by kernel_rfl
    have e2 : rfF (rfAt Try.f9 29) = .tmp 99 := by kernel_rfl
    rw [e2] at hy
    rw [e]
    refine each_ok mixed tbOk (walked0 (kn := noKnown) (md := fun _ => false) 14) fnsOk hC hB hmd (by decide) (tm := tmJ) (ρs := fun k => [.vs aa, .int bb, .int cc, .vs (hh ++ (eachs (.mk t n s l)).take k)]) (N := (rCount (.mk t n s l)).toNat) (els := elsV (.mk t n s l)) (fun k => rfl) (fng := Try.f65) (by kernel_rfl) (each65 ht h2 (by omega)) (fun k => by rfl) (fun k => by rfl) (fun k => by rfl) (by decide) (fun k x0 x1 hk hx => ?_) (fun β F a w h => hQ _ hK β F a w ?_) (by simpa using hrs) hy
    · rw [hn]
      injection hx with hx0 hx
      injection hx with hx1 hx
      subst hx0; subst hx1
      have hlt : ((eachs (.mk t n s l)).take k).length = k := by rw [List.length_take, eachs_len]; omega
      have key := roundJ aa bb cc k (hh ++ (eachs (.mk t n s l)).take k) (by rw [List.length_append, hlt]; omega) (VT.t (atV (.mk t n s l) k)) (VT.n (atV (.mk t n s l) k)) (VT.s (atV (.mk t n s l) k)) (VT.l (atV (.mk t n s l) k))
      rw [VT.eta, List.append_assoc, ← eachs_take hk] at key
      exact key
    · rw [show appV hh (eachs (.mk t n s l)) = hh ++ (eachs (.mk t n s l)).take (rCount (.mk t n s l)).toNat by rw [List.take_of_length_le (by rw [eachs_len]; exact Nat.le_refl _)]; rfl]
      exact h
  · exact hs.elim)
end Go.Qv
