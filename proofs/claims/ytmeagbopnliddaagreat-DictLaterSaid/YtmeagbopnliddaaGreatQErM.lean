/- What is put one behind the other: definitions. No condition. -/
import Derived.Test.YtmeagbopnliddaaGreatQDeM
set_option linter.unusedVariables false
set_option linter.unusedSimpArgs false
set_option maxRecDepth 100000
namespace Go.Qv
open Go Go.RowKit Go.Proofs
/-- A value's elements. -/
def eachs (v : VT) : List VT := (List.range (rCount v).toNat).map fun (k : Nat) => atV v (k : Int)
def appV (h e : List VT) : List VT := h ++ e
def fitJ (h : List VT) (v : VT) : Prop := (h.length : Int) + rCount v ≤ 1073741824
def nilIdx : List VT → Int → Int
  | [], _ => -1
  | x :: l, i => if x.t = 101 then i else nilIdx l (i + 1)
def flatB (a : VT) : Bool := decide ((1 ≤ a.t ∧ a.t ≤ 5) ∨ (-5 ≤ a.t ∧ a.t < 0))
def baseI (a : VT) : Int := if a.t < 0 then IntKind.i64.wrap (0 - a.t) else a.t
noncomputable def spNilIdx := onVsG 127 fun l => .leaf (.int .i64 (nilIdx l 0))
noncomputable def tmJ : TS := ⟨[(2, .one (.ptr 0 0)), (3, .one (.fix (.int .i64 0))), (11, .one (.ptr 576 0)), (83, .one (.sl .v)), (84, .one (.int .i64)), (85, .one (.int .i64))], [(0, .cells [.fix (.int .i64 0), .fix .nils, .fix .nils, .fix .nils]), (576, .cells [.own 1409]), (1409, .arr 26 .v)], 1472, 116⟩
noncomputable def spLpJ : AV → List Lf → T (List Lf × Jp)
  | .fn 107 [.rp [.int .i64 t, .sl (.i .i64 n), .sl (.s s), .sl (.v l)]], [.vs a, .int b, .int c, .vs h] =>
    when_ (tame (.mk t n s l)) (when_ (ok2 (.mk t n s l)) (when_ (fitJ h (.mk t n s l)) (.leaf ([.vs a, .int b, .int c, .vs (appV h (eachs (.mk t n s l)))], .go))))
  | _, _ => .stuck "loop's arguments"
noncomputable def lpJ : LP := lpOf 0 Go.Proofs.Tryz.f91 29 tmJ spLpJ noLp
noncomputable def spFlat := onV fun a => .leaf (.bool (flatB a))
noncomputable def spBase := onV fun a => .leaf (.int .i64 (baseI a))

end Go.Qv
/- Walks of dictionaries. (Printed.) -/
set_option linter.unusedVariables false
set_option maxRecDepth 100000
namespace Go.Qv
open Go Go.RowKit
noncomputable def w144jC : List Cut := [(⟨9999, ⟨[(0, (.one (.sl .v))), (1, (.one (.fix (.fn 127 []))))], [], 0, 19⟩, [It.code (bodyOf Go.Proofs.Tryz.f144)], []⟩ : Cut),
  (⟨2, ⟨[(0, (.one (.sl .v))), (1, (.one (.fix (.fn 127 [])))), (4, (.one (.fix (.int IntKind.i64 (0 : Int))))), (7, (.one (.int IntKind.i64))), (8, (.one (.int IntKind.i64)))], [], 64, 19⟩, (codeAt Go.Proofs.Tryz.f144 2), []⟩ : Cut)]
theorem w144jC_ok : cutsOk w144jC = true := by kernel_rfl
noncomputable def w144jS  : Nat × List Lf → T Gt := stepX O.real Go.Qv.tb (inl O.real Go.Qv.tb Go.Qv.fns (pureOrc PS.none) (fun f => false) (fun _ => false) 300 14) Go.Proofs.Tryz.f144.results ([]) 0 w144jC
theorem w144j_9999  (t0 : List VT) (Q : Gt → Prop) : T.ob noB Q (.S (.S .E)) (w144jS  (9999, [Lf.vs t0])) =
  ((codeAt Go.Proofs.Tryz.f144 2 = codeAt Go.Proofs.Tryz.f144 2) ∧ Q (.inl (2, [(Lf.vs t0), (Lf.int (O.real.vlen t0)), (Lf.int (0 : Int))]))) := by kernel_rfl
theorem w144j_2  (t0 : List VT) (t7 : Int) (t8 : Int) (Q : Gt → Prop) : T.ob noB Q (.B (.S (.B (.S .E) (.S .E))) (.S .E)) (w144jS  (2, [Lf.vs t0, Lf.int t7, Lf.int t8])) =
  (((O.real.lt t8 t7) = true → (((O.real.inb t8 (O.real.vlen t0))).p ∧ (((O.real.eq (O.real.vt (O.real.vget t0 t8)) (101 : Int)) = true → Q (.inr ⟨(AV.int IntKind.i64 t8), [], [], []⟩)) ∧ ((O.real.eq (O.real.vt (O.real.vget t0 t8)) (101 : Int)) = false → Q (.inl (2, [(Lf.vs t0), (Lf.int t7), (Lf.int (O.real.add IntKind.i64 t8 (1 : Int)))])))))) ∧ ((O.real.lt t8 t7) = false → Q (.inr ⟨(AV.int IntKind.i64 (Int.negSucc 0)), [], [], []⟩))) := by kernel_rfl

noncomputable def w92C : List Cut := [(⟨9999, ⟨[(0, (.agg [(.int .i64), (.sl (.i .i64)), (.sl .s), (.sl .v)]))], [], 0, 11⟩, [It.code (bodyOf Go.Proofs.Tryz.f92)], []⟩ : Cut)]
theorem w92C_ok : cutsOk w92C = true := by kernel_rfl
noncomputable def w92S  : Nat × List Lf → T Gt := stepX O.real Go.Qv.tb (inl O.real Go.Qv.tb Go.Qv.fns (pureOrc PS.none) (fun f => false) (fun _ => false) 300 14) Go.Proofs.Tryz.f92.results ([]) 0 w92C
theorem w92_9999  (t0 : Int) (t0_1 : List Int) (t0_2 : List ByteArray) (t0_3 : List VT) (Q : Gt → Prop) : T.ob noB Q (.D 1 (.S (.D 1 (.S (.D 1 (.S (.S .E))))))) (w92S  (9999, [Lf.int t0, Lf.is t0_1, Lf.ss t0_2, Lf.vs t0_3])) =
  ((((O.real.le (0 : Int) t0) = Bool.true) → True) ∧ ((((O.real.le (0 : Int) t0) = Bool.true) → True) ∧ ((((O.real.le (0 : Int) t0) = Bool.true) → True) ∧ Q (.inr ⟨(AV.bool (O.real.and (O.real.le (0 : Int) t0) (O.real.le t0 (5 : Int)))), [], [], []⟩)))) := by kernel_rfl

noncomputable def w125C : List Cut := [(⟨9999, ⟨[(0, (.agg [(.int .i64), (.sl (.i .i64)), (.sl .s), (.sl .v)]))], [], 0, 21⟩, [It.code (bodyOf Go.Proofs.Tryz.f125)], []⟩ : Cut)]
theorem w125C_ok : cutsOk w125C = true := by kernel_rfl
noncomputable def w125S  : Nat × List Lf → T Gt := stepX O.real Go.Qv.tb (inl O.real Go.Qv.tb Go.Qv.fns (pureOrc PS.none) (fun f => false) (fun _ => false) 300 14) Go.Proofs.Tryz.f125.results ([]) 0 w125C
theorem w125_9999  (t0 : Int) (t0_1 : List Int) (t0_2 : List ByteArray) (t0_3 : List VT) (Q : Gt → Prop) : T.ob noB Q (.S (.S (.D 1 (.S (.D 1 (.S (.D 1 (.S (.D 1 (.S (.D 1 (.S (.D 1 (.S (.D 1 (.S (.D 1 (.S (.D 1 (.S (.S .E))))))))))))))))))))) (w125S  (9999, [Lf.int t0, Lf.is t0_1, Lf.ss t0_2, Lf.vs t0_3])) =
  ((((O.real.lt t0 (0 : Int)) = Bool.true) → True) ∧ ((((O.real.lt t0 (0 : Int)) = Bool.false) → True) ∧ ((((O.real.le (1 : Int) (O.real.isel (O.real.lt t0 (0 : Int)) (O.real.neg IntKind.i64 t0) t0)) = Bool.true) → True) ∧ ((((O.real.le (1 : Int) (O.real.isel (O.real.lt t0 (0 : Int)) (O.real.neg IntKind.i64 t0) t0)) = Bool.true) → True) ∧ ((((O.real.and (O.real.le (1 : Int) (O.real.isel (O.real.lt t0 (0 : Int)) (O.real.neg IntKind.i64 t0) t0)) (O.real.le (O.real.isel (O.real.lt t0 (0 : Int)) (O.real.neg IntKind.i64 t0) t0) (5 : Int))) = Bool.true) → True) ∧ ((((O.real.and (O.real.le (1 : Int) (O.real.isel (O.real.lt t0 (0 : Int)) (O.real.neg IntKind.i64 t0) t0)) (O.real.le (O.real.isel (O.real.lt t0 (0 : Int)) (O.real.neg IntKind.i64 t0) t0) (5 : Int))) = Bool.true) → True) ∧ ((((O.real.and (O.real.le (1 : Int) (O.real.isel (O.real.lt t0 (0 : Int)) (O.real.neg IntKind.i64 t0) t0)) (O.real.le (O.real.isel (O.real.lt t0 (0 : Int)) (O.real.neg IntKind.i64 t0) t0) (5 : Int))) = Bool.true) → True) ∧ ((((O.real.and (O.real.le (1 : Int) (O.real.isel (O.real.lt t0 (0 : Int)) (O.real.neg IntKind.i64 t0) t0)) (O.real.le (O.real.isel (O.real.lt t0 (0 : Int)) (O.real.neg IntKind.i64 t0) t0) (5 : Int))) = Bool.true) → True) ∧ ((((O.real.lt (0 : Int) t0) = Bool.false) → (((O.real.and (O.real.le (1 : Int) (O.real.isel (O.real.lt t0 (0 : Int)) (O.real.neg IntKind.i64 t0) t0)) (O.real.le (O.real.isel (O.real.lt t0 (0 : Int)) (O.real.neg IntKind.i64 t0) t0) (5 : Int))) = Bool.true) → True)) ∧ ((((O.real.lt (0 : Int) t0) = Bool.false) → (((O.real.and (O.real.le (1 : Int) (O.real.isel (O.real.lt t0 (0 : Int)) (O.real.neg IntKind.i64 t0) t0)) (O.real.le (O.real.isel (O.real.lt t0 (0 : Int)) (O.real.neg IntKind.i64 t0) t0) (5 : Int))) = Bool.true) → ((Bool.true = Bool.true) ∧ ((((O.real.lt t0 (0 : Int)) = Bool.true) → True) ∧ ((Bool.true = Bool.true) ∧ ((((O.real.lt t0 (0 : Int)) = Bool.true) → True) ∧ ((Bool.true = Bool.true) ∧ ((((O.real.lt t0 (0 : Int)) = Bool.true) → True) ∧ True)))))))) ∧ ((((O.real.and (O.real.le (1 : Int) (O.real.isel (O.real.lt t0 (0 : Int)) (O.real.neg IntKind.i64 t0) t0)) (O.real.le (O.real.isel (O.real.lt t0 (0 : Int)) (O.real.neg IntKind.i64 t0) t0) (5 : Int))) = Bool.true) → True) ∧ Q (.inr ⟨(AV.bool (O.real.and (O.real.and (O.real.le (1 : Int) (O.real.isel (O.real.lt t0 (0 : Int)) (O.real.neg IntKind.i64 t0) t0)) (O.real.le (O.real.isel (O.real.lt t0 (0 : Int)) (O.real.neg IntKind.i64 t0) t0) (5 : Int))) (O.real.or (O.real.lt (0 : Int) t0) (O.real.and (O.real.lt t0 (0 : Int)) (O.real.le (Int.negSucc 4) t0))))), [], [], []⟩)))))))))))) := by kernel_rfl

noncomputable def w126C : List Cut := [(⟨9999, ⟨[(0, (.agg [(.int .i64), (.sl (.i .i64)), (.sl .s), (.sl .v)]))], [], 0, 11⟩, [It.code (bodyOf Go.Proofs.Tryz.f126)], []⟩ : Cut)]
theorem w126C_ok : cutsOk w126C = true := by kernel_rfl
noncomputable def w126S  : Nat × List Lf → T Gt := stepX O.real Go.Qv.tb (inl O.real Go.Qv.tb Go.Qv.fns (pureOrc PS.none) (fun f => false) (fun _ => false) 300 14) Go.Proofs.Tryz.f126.results ([]) 0 w126C
theorem w126_9999  (t0 : Int) (t0_1 : List Int) (t0_2 : List ByteArray) (t0_3 : List VT) (Q : Gt → Prop) : T.ob noB Q (.B (.S .E) (.S .E)) (w126S  (9999, [Lf.int t0, Lf.is t0_1, Lf.ss t0_2, Lf.vs t0_3])) =
  (((O.real.lt t0 (0 : Int)) = true → Q (.inr ⟨(AV.int IntKind.i64 (O.real.neg IntKind.i64 t0)), [], [], []⟩)) ∧ ((O.real.lt t0 (0 : Int)) = false → Q (.inr ⟨(AV.int IntKind.i64 t0), [], [], []⟩))) := by kernel_rfl

noncomputable def w91C : List Cut := [(⟨28, ⟨[(2, (.one (.ptr 0 0))), (3, (.one (.fix (.int IntKind.i64 (0 : Int))))), (11, (.one (.ptr 576 0))), (13, (.one (.ptr 832 0))), (83, (.one (.sl .v))), (84, (.one (.int IntKind.i64))), (85, (.one (.int IntKind.i64)))], [(0, (.cells [(.fix (.int IntKind.i64 (0 : Int))), (.fix .nils), (.fix .nils), (.fix .nils)])), (576, (.cells [(.own 1665)])), (832, (.cells [(.int IntKind.i64), (.sl (.i IntKind.i64)), (.sl .s), (.sl .v)])), (1665, (.arr 26 .v))], 1728, 116⟩, (codeAt Go.Proofs.Tryz.f91 28), []⟩ : Cut),
  (⟨9999, ⟨[(0, (.one (.sl .v)))], [], 0, 116⟩, [It.code (bodyOf Go.Proofs.Tryz.f91)], [28]⟩ : Cut),
  (⟨3, ⟨[(0, (.one (.sl .v))), (2, (.one (.ptr 0 0))), (3, (.one (.fix (.int IntKind.i64 (0 : Int))))), (4, (.one (.int IntKind.i64))), (5, (.one .bool)), (20, (.one (.sl .v))), (21, (.one (.int IntKind.i64))), (22, (.one (.int IntKind.i64)))], [(0, (.cells [(.fix (.int IntKind.i64 (0 : Int))), (.fix .nils), (.fix .nils), (.fix .nils)]))], 64, 116⟩, (codeAt Go.Proofs.Tryz.f91 3), [28]⟩ : Cut),
  (⟨17, ⟨[(0, (.one (.sl .v))), (2, (.one (.ptr 0 0))), (3, (.one (.fix (.int IntKind.i64 (0 : Int))))), (8, (.one (.ptr 896 0))), (63, (.one (.sl .v))), (64, (.one (.int IntKind.i64))), (65, (.one (.int IntKind.i64)))], [(0, (.cells [(.fix (.int IntKind.i64 (0 : Int))), (.fix .nils), (.fix .nils), (.fix .nils)])), (896, (.cells [(.int IntKind.i64), (.own 1857), (.own 1858), (.fix .nils)])), (1857, (.arr 2 (.i IntKind.i64))), (1858, (.arr 9 .s))], 1920, 116⟩, (codeAt Go.Proofs.Tryz.f91 17), [28]⟩ : Cut),
  (⟨24, ⟨[(2, (.one (.ptr 0 0))), (3, (.one (.fix (.int IntKind.i64 (0 : Int))))), (11, (.one (.ptr 576 0))), (83, (.one (.sl .v))), (84, (.one (.int IntKind.i64))), (85, (.one (.int IntKind.i64)))], [(0, (.cells [(.fix (.int IntKind.i64 (0 : Int))), (.fix .nils), (.fix .nils), (.fix .nils)])), (576, (.cells [(.own 1409)])), (1409, (.arr 26 .v))], 1472, 116⟩, (codeAt Go.Proofs.Tryz.f91 24), [28]⟩ : Cut)]
theorem w91C_ok : cutsOk w91C = true := by kernel_rfl
noncomputable def w91S  : Nat × List Lf → T Gt := stepL (lpJ) O.real Go.Qv.tb (inl O.real Go.Qv.tb Go.Qv.fns (pureOrc (PS.also 47 sp47f (PS.also 67 sp67 (PS.also 68 sp68 (PS.also 86 sp86f (PS.also 144 spNilIdx (PS.also 92 spPart (PS.also 125 spFlat (PS.also 126 spBase PS.none))))))))) (fun f => Nat.beq f 47 || Nat.beq f 67 || Nat.beq f 68 || Nat.beq f 86 || Nat.beq f 144 || Nat.beq f 92 || Nat.beq f 125 || Nat.beq f 126) (fun _ => false) 300 14) Go.Proofs.Tryz.f91.results ([]) 0 w91C
theorem w91_28  (t83 : List VT) (t84 : Int) (t85 : Int) (h832 : Int) (h832_1 : List Int) (h832_2 : List ByteArray) (h832_3 : List VT) (h1665 : List VT) (Q : Gt → Prop) : T.ob noB Q (.S (.S (.S (.S (.S (.S .E)))))) (w91S  (28, [Lf.vs t83, Lf.int t84, Lf.int t85, Lf.int h832, Lf.is h832_1, Lf.ss h832_2, Lf.vs h832_3, Lf.vs h1665])) =
  ((tame (VT.mk h832 h832_1 h832_2 h832_3)) ∧ ((rfAt Go.Proofs.Tryz.f91 29 = rfAt Go.Proofs.Tryz.f91 29) ∧ ((tame (VT.mk h832 h832_1 h832_2 h832_3)) ∧ ((ok2 (VT.mk h832 h832_1 h832_2 h832_3)) ∧ ((fitJ h1665 (VT.mk h832 h832_1 h832_2 h832_3)) ∧ Q (.inl (24, [(Lf.vs t83), (Lf.int t84), (Lf.int (O.real.add IntKind.i64 t85 (1 : Int))), (Lf.vs (appV h1665 (eachs (VT.mk h832 h832_1 h832_2 h832_3))))]))))))) := by kernel_rfl
theorem w91_9999  (t0 : List VT) (Q : Gt → Prop) : T.ob noB Q (.S (.S .E)) (w91S  (9999, [Lf.vs t0])) =
  ((codeAt Go.Proofs.Tryz.f91 3 = codeAt Go.Proofs.Tryz.f91 3) ∧ Q (.inl (3, [(Lf.vs t0), (Lf.int (0 : Int)), (Lf.bool (O.real.lt (0 : Int) (O.real.vlen t0))), (Lf.vs t0), (Lf.int (O.real.vlen t0)), (Lf.int (0 : Int))]))) := by kernel_rfl
theorem w91_3  (t0 : List VT) (t4 : Int) (t5 : Bool) (t20 : List VT) (t21 : Int) (t22 : Int) (Q : Gt → Prop) : T.ob noB Q (.B (.S (.B (.S (.S .E)) (.S (.S .E)))) (.B (.S .E) (.B (.S .E) (.B (.S (.S (.S .E))) (.S (.S .E)))))) (w91S  (3, [Lf.vs t0, Lf.int t4, Lf.bool t5, Lf.vs t20, Lf.int t21, Lf.int t22])) =
  (((O.real.lt t22 t21) = true → (((O.real.inb t22 (O.real.vlen t20))).p ∧ (((partB (etaO (O.real.vget t20 t22))) = true → ((((Bool.true = Bool.true) ∧ True) ∧ (((Bool.true = Bool.true) ∧ True) ∧ (((Bool.true = Bool.true) ∧ ((t5 = Bool.true) → True)) ∧ (((Bool.true = Bool.true) ∧ ((t5 = Bool.true) → True)) ∧ (((Bool.true = Bool.true) ∧ True) ∧ (((Bool.true = Bool.true) ∧ True) ∧ (((Bool.true = Bool.true) ∧ (((O.real.and t5 (flatB (etaO (O.real.vget t20 t22)))) = Bool.true) → True)) ∧ (((Bool.true = Bool.true) ∧ (((O.real.and t5 (flatB (etaO (O.real.vget t20 t22)))) = Bool.true) → True)) ∧ (((Bool.true = Bool.true) ∧ (((O.real.and t5 (flatB (etaO (O.real.vget t20 t22)))) = Bool.true) → True)) ∧ (((Bool.true = Bool.true) ∧ (((O.real.and t5 (flatB (etaO (O.real.vget t20 t22)))) = Bool.true) → (((O.real.inb (0 : Int) (O.real.vlen t0))).p ∧ True))) ∧ (((Bool.true = Bool.true) ∧ (((O.real.and t5 (flatB (etaO (O.real.vget t20 t22)))) = Bool.true) → True)) ∧ (((Bool.true = Bool.true) ∧ (((O.real.and t5 (flatB (etaO (O.real.vget t20 t22)))) = Bool.true) → True)) ∧ (((Bool.true = Bool.true) ∧ (((O.real.and t5 (flatB (etaO (O.real.vget t20 t22)))) = Bool.true) → True)) ∧ (((Bool.true = Bool.true) ∧ True) ∧ (((Bool.true = Bool.true) ∧ True) ∧ True))))))))))))))) ∧ Q (.inl (3, [(Lf.vs t0), (Lf.int (O.real.add IntKind.i64 t4 (rCount (etaO (O.real.vget t20 t22))))), (Lf.bool (O.real.and (O.real.and t5 (flatB (etaO (O.real.vget t20 t22)))) (O.real.eq (baseI (etaO (O.real.vget t20 t22))) (baseI (etaO (O.real.vget t0 (0 : Int))))))), (Lf.vs t20), (Lf.int t21), (Lf.int (O.real.add IntKind.i64 t22 (1 : Int)))])))) ∧ ((partB (etaO (O.real.vget t20 t22))) = false → ((((Bool.true = Bool.true) ∧ True) ∧ (((Bool.true = Bool.true) ∧ True) ∧ (((Bool.true = Bool.true) ∧ ((t5 = Bool.true) → True)) ∧ (((Bool.true = Bool.true) ∧ ((t5 = Bool.true) → True)) ∧ (((Bool.true = Bool.true) ∧ True) ∧ (((Bool.true = Bool.true) ∧ True) ∧ (((Bool.true = Bool.true) ∧ (((O.real.and t5 (flatB (etaO (O.real.vget t20 t22)))) = Bool.true) → True)) ∧ (((Bool.true = Bool.true) ∧ (((O.real.and t5 (flatB (etaO (O.real.vget t20 t22)))) = Bool.true) → True)) ∧ (((Bool.true = Bool.true) ∧ (((O.real.and t5 (flatB (etaO (O.real.vget t20 t22)))) = Bool.true) → True)) ∧ (((Bool.true = Bool.true) ∧ (((O.real.and t5 (flatB (etaO (O.real.vget t20 t22)))) = Bool.true) → (((O.real.inb (0 : Int) (O.real.vlen t0))).p ∧ True))) ∧ (((Bool.true = Bool.true) ∧ (((O.real.and t5 (flatB (etaO (O.real.vget t20 t22)))) = Bool.true) → True)) ∧ (((Bool.true = Bool.true) ∧ (((O.real.and t5 (flatB (etaO (O.real.vget t20 t22)))) = Bool.true) → True)) ∧ (((Bool.true = Bool.true) ∧ (((O.real.and t5 (flatB (etaO (O.real.vget t20 t22)))) = Bool.true) → True)) ∧ (((Bool.true = Bool.true) ∧ True) ∧ (((Bool.true = Bool.true) ∧ True) ∧ True))))))))))))))) ∧ Q (.inl (3, [(Lf.vs t0), (Lf.int (O.real.add IntKind.i64 t4 (1 : Int))), (Lf.bool (O.real.and (O.real.and t5 (flatB (etaO (O.real.vget t20 t22)))) (O.real.eq (baseI (etaO (O.real.vget t20 t22))) (baseI (etaO (O.real.vget t0 (0 : Int))))))), (Lf.vs t20), (Lf.int t21), (Lf.int (O.real.add IntKind.i64 t22 (1 : Int)))]))))))) ∧ ((O.real.lt t22 t21) = false → (((O.real.lt (65536 : Int) t4) = true → Q (.inr ⟨(AV.tup [(AV.agg [(AV.int IntKind.i64 (0 : Int)), AV.nils, AV.nils, AV.nils]), (AV.int IntKind.i64 (6 : Int))]), [], [], []⟩)) ∧ ((O.real.lt (65536 : Int) t4) = false → (((O.real.le (0 : Int) (nilIdx t0 (0 : Int))) = true → Q (.inr ⟨(AV.tup [(AV.agg [(AV.int IntKind.i64 (0 : Int)), AV.nils, AV.nils, AV.nils]), (AV.int IntKind.i64 (31 : Int))]), [], [], []⟩)) ∧ ((O.real.le (0 : Int) (nilIdx t0 (0 : Int))) = false → ((t5 = true → (((O.real.inb (0 : Int) (O.real.vlen t0))).p ∧ ((codeAt Go.Proofs.Tryz.f91 17 = codeAt Go.Proofs.Tryz.f91 17) ∧ Q (.inl (17, [(Lf.vs t0), (Lf.vs t0), (Lf.int (O.real.vlen t0)), (Lf.int (0 : Int)), (Lf.int (baseI (etaO (O.real.vget t0 (0 : Int))))), (Lf.is []), (Lf.ss [])]))))) ∧ (t5 = false → ((codeAt Go.Proofs.Tryz.f91 24 = codeAt Go.Proofs.Tryz.f91 24) ∧ Q (.inl (24, [(Lf.vs t0), (Lf.int (O.real.vlen t0)), (Lf.int (0 : Int)), (Lf.vs [])]))))))))))) := by kernel_rfl
theorem w91_17  (t0 : List VT) (t63 : List VT) (t64 : Int) (t65 : Int) (h896 : Int) (h1857 : List Int) (h1858 : List ByteArray) (Q : Gt → Prop) : T.ob noB Q (.B (.S (.S (.S .E))) (.S .E)) (w91S  (17, [Lf.vs t0, Lf.vs t63, Lf.int t64, Lf.int t65, Lf.int h896, Lf.is h1857, Lf.ss h1858])) =
  (((O.real.lt t65 t64) = true → (((O.real.inb t65 (O.real.vlen t63))).p ∧ ((((Bool.true = Bool.true) ∧ True) ∧ (((Bool.true = Bool.true) ∧ True) ∧ (((Bool.true = Bool.true) ∧ True) ∧ (((Bool.true = Bool.true) ∧ True) ∧ (((Bool.true = Bool.true) ∧ (((O.real.fit (O.real.ilen h1857) (O.real.ilen (O.real.vn (O.real.vget t63 t65))) 8)).p ∧ True)) ∧ (((Bool.true = Bool.true) ∧ True) ∧ (((Bool.true = Bool.true) ∧ True) ∧ (((Bool.true = Bool.true) ∧ True) ∧ (((Bool.true = Bool.true) ∧ True) ∧ (((Bool.true = Bool.true) ∧ (((O.real.fit (O.real.blen h1858) (O.real.blen (O.real.vs (O.real.vget t63 t65))) 16)).p ∧ True)) ∧ (((Bool.true = Bool.true) ∧ True) ∧ (((Bool.true = Bool.true) ∧ True) ∧ (((Bool.true = Bool.true) ∧ True) ∧ (((Bool.true = Bool.true) ∧ True) ∧ True)))))))))))))) ∧ Q (.inl (17, [(Lf.vs t0), (Lf.vs t63), (Lf.int t64), (Lf.int (O.real.add IntKind.i64 t65 (1 : Int))), (Lf.int h896), (Lf.is (O.real.iapp h1857 (O.real.vn (O.real.vget t63 t65)))), (Lf.ss (O.real.bapp h1858 (O.real.vs (O.real.vget t63 t65))))]))))) ∧ ((O.real.lt t65 t64) = false → Q (.inr ⟨(AV.tup [(AV.agg [(AV.int IntKind.i64 h896), (AV.own 0), (AV.own 1), AV.nils]), (AV.int IntKind.i64 (0 : Int))]), [], [], [(HObj.arr 2 (LS.i IntKind.i64 h1857)), (HObj.arr 9 (LS.s h1858))]⟩))) := by kernel_rfl
theorem w91_24  (t83 : List VT) (t84 : Int) (t85 : Int) (h1409 : List VT) (Q : Gt → Prop) : T.ob noB Q (.B (.S (.B (.S (.S .E)) (.S (.S .E)))) (.S (.B (.S .E) (.S .E)))) (w91S  (24, [Lf.vs t83, Lf.int t84, Lf.int t85, Lf.vs h1409])) =
  (((O.real.lt t85 t84) = true → (((O.real.inb t85 (O.real.vlen t83))).p ∧ (((O.real.not (partB (etaO (O.real.vget t83 t85)))) = true → ((((Bool.true = Bool.true) ∧ True) ∧ (((Bool.true = Bool.true) ∧ True) ∧ (((Bool.true = Bool.true) ∧ True) ∧ (((Bool.true = Bool.true) ∧ True) ∧ (((Bool.true = Bool.true) ∧ (((O.real.fit (O.real.vlen h1409) (1 : Int) 80)).p ∧ True)) ∧ (((Bool.true = Bool.true) ∧ (((O.real.inb (O.real.vlen h1409) (O.real.vlen (O.real.vapp h1409 [(VT.mk (0 : Int) [] [] [])])))).p ∧ True)) ∧ (((Bool.true = Bool.true) ∧ (((O.real.inb (O.real.vlen h1409) (O.real.vlen (O.real.vapp h1409 [(VT.mk (0 : Int) [] [] [])])))).p ∧ True)) ∧ (((Bool.true = Bool.true) ∧ True) ∧ True)))))))) ∧ Q (.inl (24, [(Lf.vs t83), (Lf.int t84), (Lf.int (O.real.add IntKind.i64 t85 (1 : Int))), (Lf.vs (O.real.vset (O.real.vapp h1409 [(VT.mk (0 : Int) [] [] [])]) (O.real.vlen h1409) (etaO (O.real.vget t83 t85))))])))) ∧ ((O.real.not (partB (etaO (O.real.vget t83 t85)))) = false → ((codeAt Go.Proofs.Tryz.f91 28 = codeAt Go.Proofs.Tryz.f91 28) ∧ Q (.inl (28, [(Lf.vs t83), (Lf.int t84), (Lf.int t85), (Lf.int (O.real.vt (O.real.vget t83 t85))), (Lf.is (O.real.vn (O.real.vget t83 t85))), (Lf.ss (O.real.vs (O.real.vget t83 t85))), (Lf.vs (O.real.vl (O.real.vget t83 t85))), (Lf.vs h1409)]))))))) ∧ ((O.real.lt t85 t84) = false → ((tames h1409) ∧ (((O.real.lt (32 : Int) (rDepth (VT.mk (VT.t (ofV h1409)) (VT.n (ofV h1409)) (VT.s (ofV h1409)) (VT.l (ofV h1409))))) = true → Q (.inr ⟨(AV.tup [(AV.agg [(AV.int IntKind.i64 (0 : Int)), AV.nils, AV.nils, AV.nils]), (AV.int IntKind.i64 (6 : Int))]), [], [], []⟩)) ∧ ((O.real.lt (32 : Int) (rDepth (VT.mk (VT.t (ofV h1409)) (VT.n (ofV h1409)) (VT.s (ofV h1409)) (VT.l (ofV h1409))))) = false → Q (.inr ⟨(AV.tup [(AV.agg [(AV.int IntKind.i64 (VT.t (ofV h1409))), (AV.sl (LS.i IntKind.i64 (VT.n (ofV h1409)))), (AV.sl (LS.s (VT.s (ofV h1409)))), (AV.sl (LS.v (VT.l (ofV h1409))))]), (AV.int IntKind.i64 (0 : Int))]), [], [], []⟩)))))) := by kernel_rfl
end Go.Qv
/- Walks of dictionaries. (Printed.) -/
set_option linter.unusedVariables false
set_option maxRecDepth 100000
namespace Go.Qv
open Go Go.RowKit
theorem wJR (a : List VT) (b c k : Int) (h : List VT) (xt : Int) (xn : List Int) (xs : List ByteArray) (xl : List VT) (Q : List Lf × Jp → Prop) : T.ob noB Q (.S (.S .E)) (roundT O.real Go.Qv.tb (inl O.real Go.Qv.tb Go.Qv.fns noOrc noKnown (fun _ => false) 300 14) (rfA (rfAt Go.Proofs.Tryz.f91 29)) (rfB (rfAt Go.Proofs.Tryz.f91 29)) 0 tmJ [(101, .agg [.int .i64 xt, .sl (.i .i64 xn), .sl (.s xs), .sl (.v xl)]), (100, .int .i64 k)] (tmJ.inst [.vs a, .int b, .int c, .vs h])) =
  ((((Bool.true = Bool.true) ∧ True) ∧ (((Bool.true = Bool.true) ∧ True) ∧ (((Bool.true = Bool.true) ∧ True) ∧ (((Bool.true = Bool.true) ∧ True) ∧ (((Bool.true = Bool.true) ∧ (((O.real.fit (O.real.vlen h) (1 : Int) 80)).p ∧ True)) ∧ (((Bool.true = Bool.true) ∧ (((O.real.inb (O.real.vlen h) (O.real.vlen (O.real.vapp h [(VT.mk (0 : Int) [] [] [])])))).p ∧ True)) ∧ (((Bool.true = Bool.true) ∧ (((O.real.inb (O.real.vlen h) (O.real.vlen (O.real.vapp h [(VT.mk (0 : Int) [] [] [])])))).p ∧ True)) ∧ (((Bool.true = Bool.true) ∧ True) ∧ True)))))))) ∧ Q ([(Lf.vs a), (Lf.int b), (Lf.int c), (Lf.vs (O.real.vset (O.real.vapp h [(VT.mk (0 : Int) [] [] [])]) (O.real.vlen h) (VT.mk xt xn xs xl)))], Jp.go)) := by kernel_rfl
end Go.Qv
/- Contracts: values one behind the other. No condition. -/
set_option linter.unusedVariables false
set_option linter.unusedSimpArgs false
set_option maxRecDepth 100000
namespace Go.Qv
open Go Go.RowKit Go.Proofs
theorem flatB_mk {t n s l} : flatB (.mk t n s l) = decide ((1 ≤ t ∧ t ≤ 5) ∨ (-5 ≤ t ∧ t < 0)) := rfl
theorem baseI_mk {t n s l} : baseI (.mk t n s l) = if t < 0 then IntKind.i64.wrap (0 - t) else t := rfl
theorem ok92 : Pure1 Tryz.prog 92 spPart := by
  intro xs F w cs R ha h
  obtain ⟨x, a, rfl, h1, h⟩ := onV_inv h
  have ha := ha.conv1 (fun v => as_V h1)
  obtain ⟨t, n, s, l⟩ := a
  refine contract (fn := Tryz.f92) (walked (PureOk.none _) 14) (by kernel_rfl) w92C_ok (by rfl) (by rfl) (by rfl) (by rfl) (by rfl) ha (ρ := [.int t, .is n, .ss s, .vs l]) (Rh.go (w92_9999 t n s l _) ?_) h
  simp only [SQ, RhQ, eq_self, implies_true, forall_const, VT.eta, if_true, if_false]
  exact Ret.bool (by rw [Bool.eq_iff_iff, partB_mk]; simp only [Bool.and_eq_true, decide_eq_true_eq])
theorem ok125 : Pure1 Tryz.prog 125 spFlat := by
  intro xs F w cs R ha h
  obtain ⟨x, a, rfl, h1, h⟩ := onV_inv h
  have ha := ha.conv1 (fun v => as_V h1)
  obtain ⟨t, n, s, l⟩ := a
  refine contract (fn := Tryz.f125) (walked (PureOk.none _) 14) (by kernel_rfl) w125C_ok (by rfl) (by rfl) (by rfl) (by rfl) (by rfl) ha (ρ := [.int t, .is n, .ss s, .vs l]) (Rh.go (w125_9999 t n s l _) ?_) h
  simp only [SQ, RhQ, eq_self, implies_true, forall_const, VT.eta, if_true, if_false]
  refine Ret.bool ?_
  rw [Bool.eq_iff_iff, flatB_mk]
  simp only [Bool.and_eq_true, Bool.or_eq_true, decide_eq_true_eq, IntKind.wrap_i64]
  split <;> omega
theorem ok126 : Pure1 Tryz.prog 126 spBase := by
  intro xs F w cs R ha h
  obtain ⟨x, a, rfl, h1, h⟩ := onV_inv h
  have ha := ha.conv1 (fun v => as_V h1)
  obtain ⟨t, n, s, l⟩ := a
  refine contract (fn := Tryz.f126) (walked (PureOk.none _) 14) (by kernel_rfl) w126C_ok (by rfl) (by rfl) (by rfl) (by rfl) (by rfl) ha (ρ := [.int t, .is n, .ss s, .vs l]) (Rh.go (w126_9999 t n s l _) ?_) h
  simp only [SQ, RhQ, eq_self, implies_true, forall_const, VT.eta, if_true, if_false]
  exact ⟨fun h => Ret.int (by rw [baseI_mk, if_pos h]), fun h => Ret.int (by rw [baseI_mk, if_neg h])⟩
theorem loop144j (l : List VT) (hl : l.length ≤ maxLen) (i : Nat) (h1 : i ≤ l.length) : Rh w144jS (Ret (.int .i64 (nilIdx (l.drop i) i))) (2, [.vs l, .int l.length, .int i]) := by
  refine Rh.go (w144j_2 l l.length i _) ?_
  simp only [SQ, RhQ, eq_self, implies_true, forall_const, VT.eta, if_true, if_false]
  refine ⟨fun h => ⟨⟨by omega, by omega⟩, fun h2 => ?_, fun h2 => ?_⟩, fun h => ?_⟩
  · rw [drop_at l default (show i < l.length by omega)]
    exact Ret.int (by rw [nilIdx, if_pos h2])
  · have e := loop144j l hl (i + 1) (by omega)
    rw [inc hl (by omega), drop_at l default (show i < l.length by omega), nilIdx, if_neg h2]
    exact e
  · rw [List.drop_of_length_le (by omega)]; exact Ret.int rfl
termination_by l.length - i
theorem ok144j : Pure1 Tryz.prog 144 spNilIdx := by
  intro xs F w cs R ha h
  obtain ⟨x, a, rfl, h1, h⟩ := onVsG_inv h
  have ha := ha.conv2 (fun v => as_Vs h1) (fun v h => h)
  obtain ⟨v, hv⟩ := ha.at 0 rfl
  refine contract (fn := Tryz.f144) (walked (PureOk.none _) 14) (by kernel_rfl) w144jC_ok (by rfl) (by rfl) (by rfl) (by rfl) (by rfl) ha (ρ := [.vs a]) (Rh.go (w144j_9999 a _) ?_) h
  simp only [SQ, RhQ, eq_self, implies_true, forall_const, VT.eta, if_true, if_false]
  exact loop144j a hv.len 0 (by omega)
/-! ### a value's elements by their bulk -/
theorem eachs_len (v : VT) : (eachs v).length = (rCount v).toNat := by unfold eachs; simp
theorem eachs_at {v : VT} {k : Nat} (h : k < (rCount v).toNat) : (eachs v).getD k default = atV v k := by
  unfold eachs
  rw [List.getD_eq_getElem?_getD, List.getElem?_map, List.getElem?_range h]; rfl
theorem eachs_take {v : VT} {k : Nat} (h : k < (rCount v).toNat) : (eachs v).take (k + 1) = (eachs v).take k ++ [atV v k] := by
  rw [take_at _ default (by rw [eachs_len]; exact h), eachs_at h]
theorem map_range {α : Type} (l : List α) (d : α) : (List.range l.length).map (fun k => l.getD k d) = l := by
  apply List.ext_getElem
  · simp
  · intro i h1 h2
    simp only [List.getElem_map, List.getElem_range, List.getD_eq_getElem?_getD, List.getElem?_eq_getElem h2, Option.getD_some]
theorem bks_map_const {α : Type} (f : α → VT) (c : Nat) : ∀ l : List α, (∀ x ∈ l, (f x).bk ≤ c) → bks (l.map f) ≤ c * l.length
  | [], _ => by simp [bks]
  | x :: l, h => by
    have h1 := bks_map_const f c l (fun y hy => h y (List.mem_cons_of_mem _ hy))
    have h2 := h x List.mem_cons_self
    rw [List.map_cons, bks_cons, List.length_cons, Nat.mul_succ]; omega
theorem bks_syms : ∀ s : List ByteArray, bks (s.map fun x => VT.mk (-3) [] [x] []) ≤ 2 * strs s
  | [] => by simp [bks]
  | x :: s => by
    have := bks_syms s
    rw [List.map_cons, bks_cons, VT.bk_eq]
    simp only [List.length_nil, strs, bks]
    omega
theorem atomV_bk (t n : Int) : (atomV t n).bk ≤ 2 := by
  unfold atomV
  split <;> · rw [VT.bk_eq]; simp [strs, bks]
theorem rCount_mk {t n s l} : rCount (.mk t n s l) = if t = 3 then (s.length : Int) else if isVecT t then (n.length : Int) else if t = 0 then (l.length : Int) else match l with
    | [] => 1
    | x :: _ => if t = 98 ∨ t = 99 then rCount x else 1 := by rw [rCount.eq_def]; rfl
theorem eachs_bk {v : VT} (h : partP v) : bks (eachs v) ≤ 2 * v.bk := by
  obtain ⟨t, n, s, l⟩ := v
  have ht : 0 ≤ t ∧ t ≤ 5 := h
  have e : eachs (.mk t n s l) = (List.range (rCount (.mk t n s l)).toNat).map fun (k : Nat) => at0 (.mk t n s l) k := by
    unfold eachs
    refine List.map_congr_left fun k hk => ?_
    have hk := List.mem_range.1 hk
    rw [at_0 (by omega) (by show t ≠ 98; omega) (by show t ≠ 99; omega), Int.toNat_natCast]
  rw [e]
  by_cases h3 : t = 3
  · have hc : (rCount (.mk t n s l)).toNat = s.length := by rw [rCount_mk, if_pos h3, Int.toNat_natCast]
    rw [hc]
    have : (List.range s.length).map (fun (k : Nat) => at0 (.mk t n s l) k) = s.map fun x => VT.mk (-3) [] [x] [] := by
      conv => rhs; rw [← map_range s ⟨#[]⟩]
      rw [List.map_map]
      refine List.map_congr_left fun k _ => ?_
      simp only [at0_mk, if_pos h3, Function.comp]
    rw [this, VT.bk_eq]
    have := bks_syms s
    omega
  · by_cases h0 : t = 0
    · have hc : (rCount (.mk t n s l)).toNat = l.length := by rw [rCount_mk, if_neg h3, if_neg (by unfold isVecT; omega), if_pos h0, Int.toNat_natCast]
      rw [hc]
      have : (List.range l.length).map (fun (k : Nat) => at0 (.mk t n s l) k) = l := by
        conv => rhs; rw [← map_range l default]
        refine List.map_congr_left fun k _ => ?_
        simp only [at0_mk, if_neg h3, if_neg (show ¬ isVecT t by unfold isVecT; omega), if_pos h0]
      rw [this, VT.bk_eq]
      omega
    · have hv : isVecT t := by unfold isVecT; omega
      have hc : (rCount (.mk t n s l)).toNat = n.length := by rw [rCount_mk, if_neg h3, if_pos hv, Int.toNat_natCast]
      rw [hc]
      have := bks_map_const (fun (k : Nat) => at0 (.mk t n s l) k) 2 (List.range n.length) (fun k _ => by
        rw [at0_mk, if_neg h3, if_pos hv]; exact atomV_bk _ _)
      rw [List.length_range] at this
      rw [VT.bk_eq]
      omega
/-! ### what Join answers -/
def partsJ (x : VT) : List VT := if partB x then eachs x else [x]
def cntJ (x : VT) : Int := if partB x then rCount x else 1
def sumJ : List VT → Int
  | [] => 0
  | x :: l => cntJ x + sumJ l
def allJ (b : Int) (l : List VT) : Bool := l.all fun x => flatB x && decide (baseI x = b)
def alikeJ (l : List VT) : Bool := decide (0 < (l.length : Int)) && allJ (baseI (l.getD 0 default)) l
def joinV (l : List VT) : VT :=
  if 65536 < sumJ l then .mk 0 [] [] [] else if 0 ≤ nilIdx l 0 then .mk 0 [] [] []
  else if alikeJ l then .mk (baseI (l.getD 0 default)) (l.flatMap VT.n) (l.flatMap VT.s) []
  else if 32 < rDepth (ofV (l.flatMap partsJ)) then .mk 0 [] [] [] else ofV (l.flatMap partsJ)
def joinE (l : List VT) : Int :=
  if 65536 < sumJ l then 6 else if 0 ≤ nilIdx l 0 then 31 else if alikeJ l then 0
  else if 32 < rDepth (ofV (l.flatMap partsJ)) then 6 else 0
def joinOk (l : List VT) : Prop := bks l ≤ 268435456
theorem joinOk.tames {l : List VT} (h : joinOk l) : tames l := by unfold joinOk at h; unfold Qv.tames; omega
theorem partsJ_bk (x : VT) : bks (partsJ x) ≤ 2 * x.bk := by
  unfold partsJ
  split
  · rename_i h; exact eachs_bk (partB_iff.1 h)
  · rw [bks_cons]; simp [bks]; omega
theorem parts_bk : ∀ l : List VT, bks (l.flatMap partsJ) ≤ 2 * bks l
  | [] => by simp [bks]
  | x :: l => by have := partsJ_bk x; have := parts_bk l; rw [List.flatMap_cons, bks_append, bks_cons]; omega
theorem joinOk.parts {l : List VT} (h : joinOk l) (i : Nat) : bks ((l.take i).flatMap partsJ) ≤ 536870912 := by
  have := parts_bk (l.take i); have := bks_take l i; unfold joinOk at h; omega
theorem cntJ_bk (x : VT) : 0 ≤ cntJ x ∧ cntJ x ≤ x.bk := by
  unfold cntJ
  split
  · rename_i h; exact ⟨rCount_nn x, (cnt_bk x).2 (partB_iff.1 h)⟩
  · have := bk_pos x; omega
theorem sumJ_bk : ∀ l : List VT, 0 ≤ sumJ l ∧ sumJ l ≤ bks l
  | [] => by simp [sumJ, bks]
  | x :: l => by have := cntJ_bk x; have := sumJ_bk l; rw [sumJ, bks_cons]; omega
theorem sumJ_append : ∀ a b : List VT, sumJ (a ++ b) = sumJ a + sumJ b
  | [], b => by simp [sumJ]
  | x :: a, b => by rw [List.cons_append, sumJ, sumJ, sumJ_append a b]; omega
theorem sumJ_take {l : List VT} {i : Nat} (h : i < l.length) : sumJ (l.take (i + 1)) = sumJ (l.take i) + cntJ (l.getD i default) := by
  rw [take_at l default h, sumJ_append]; simp [sumJ]
theorem joinOk.sum {l : List VT} (h : joinOk l) (i : Nat) : 0 ≤ sumJ (l.take i) ∧ sumJ (l.take i) ≤ 268435456 := by
  have := sumJ_bk (l.take i); have := bks_take l i; unfold joinOk at h; omega
theorem allJ_take {b : Int} {l : List VT} {i : Nat} (h : i < l.length) : allJ b (l.take (i + 1)) = (allJ b (l.take i) && (flatB (l.getD i default) && decide (baseI (l.getD i default) = b))) := by
  rw [take_at l default h]; unfold allJ; rw [List.all_append]; simp
theorem set_new {α : Type} (h : List α) (z x : α) : (h ++ [z]).set h.length x = h ++ [x] := by
  rw [List.set_append_right _ _ (Nat.le_refl _), Nat.sub_self]; rfl
/-! ### the loop over a value's elements -/
theorem roundJ (aa : List VT) (bb cc k : Int) (h : List VT) (hl : h.length ≤ 1073741824) (t n s l) {Q : List Lf × Jp → Prop} (hQ : Q ([.vs aa, .int bb, .int cc, .vs (h ++ [.mk t n s l])], .go)) : Sat (roundT O.real tb (inl O.real tb fns noOrc noKnown (fun _ => false) 300 14) (rfA (rfAt Tryz.f91 29)) (rfB (rfAt Tryz.f91 29)) 0 tmJ [(101, .agg [.int .i64 t, .sl (.i .i64 n), .sl (.s s), .sl (.v l)]), (100, .int .i64 k)] (tmJ.inst [.vs aa, .int bb, .int cc, .vs h])) Q := by
  refine ⟨?_⟩
  have e := wJR aa bb cc k h t n s l Q
  generalize roundT O.real tb (inl O.real tb fns noOrc noKnown (fun _ => false) 300 14) (rfA (rfAt Tryz.f91 29)) (rfB (rfAt Tryz.f91 29)) 0 tmJ [(101, .agg [.int .i64 t, .sl (.i .i64 n), .sl (.s s), .sl (.v l)]), (100, .int .i64 k)] (tmJ.inst [.vs aa, .int bb, .int cc, .vs h]) = X at e ⊢
  refine ob_of noB_ok _ _ e ?_
  simp only [SQ, RhQ, eq_self, implies_true, forall_const, VT.eta, if_true, if_false, List.length_append, List.length_cons, List.length_nil, set_new]
  repeat' apply And.intro
  all_goals first | exact hQ | omega
theorem lpJ_ok : LpOk none Tryz.prog 0 lpJ := lpOf_ok noLp_ok (fun c hC hB hn hmd y ρ K hs Q hQ β F a w hrs hy => by
  unfold spLpJ at hs
  split at hs
  · rename_i t n s l aa bb cc hh
    obtain ⟨ht, h2, hf, hK⟩ := hs
    have ht : tame (.mk t n s l) := ht
    have h2 : ok2 (.mk t n s l) := h2
    have hf : fitJ hh (.mk t n s l) := hf
    unfold fitJ at hf
    have h0 := rCount_nn (.mk t n s l)
    obtain ⟨c0, hc0⟩ : ∃ c0, c0 = rCount (.mk t n s l) := ⟨_, rfl⟩
    have e : rfAt Tryz.f91 29 = .rangeFunc (.tmp 99) #[100, 101] (rfA (rfAt Tryz.f91 29)) (rfB (rfAt Tryz.f91 29)) := by kernel_rfl
    have e2 : rfF (rfAt Tryz.f91 29) = .tmp 99 := by kernel_rfl
    rw [e2] at hy
    rw [e]
    refine each_ok mixed tbOk (walked0 (kn := noKnown) (md := fun _ => false) 14) fnsOk hC hB hmd (by decide) (tm := tmJ) (ρs := fun k => [.vs aa, .int bb, .int cc, .vs (hh ++ (eachs (.mk t n s l)).take k)]) (N := (rCount (.mk t n s l)).toNat) (els := elsV (.mk t n s l)) (fun k => rfl) (fng := Tryz.f107) (by kernel_rfl) (each107 ht h2 (by omega)) (fun k => by rfl) (fun k => by rfl) (fun k => by rfl) (by decide) (X := fun _ _ => False) (M := (rCount (.mk t n s l)).toNat) (fun k x0 x1 hk hM hx => ?_) (fun _ β F a w h => hQ _ _ hK β F a w ?_) (fun r j h => h.elim) (by simpa using hrs) hy
    · rw [hn]
      injection hx with hx0 hx
      injection hx with hx1 hx
      subst hx0; subst hx1
      have hlt : ((eachs (.mk t n s l)).take k).length = k := by rw [List.length_take, eachs_len]; omega
      refine roundJ aa bb cc k (hh ++ (eachs (.mk t n s l)).take k) (by rw [List.length_append, hlt]; omega) (VT.t (atV (.mk t n s l) k)) (VT.n (atV (.mk t n s l) k)) (VT.s (atV (.mk t n s l) k)) (VT.l (atV (.mk t n s l) k)) (.inl ⟨hk, rfl, ?_⟩)
      rw [VT.eta, List.append_assoc, ← eachs_take hk]
    · rw [show appV hh (eachs (.mk t n s l)) = hh ++ (eachs (.mk t n s l)).take (rCount (.mk t n s l)).toNat by rw [List.take_of_length_le (by rw [eachs_len]; exact Nat.le_refl _)]; rfl]
      exact h
  · exact hs.elim)
end Go.Qv
/- Contracts: the two Joins. No condition. -/
set_option linter.unusedVariables false
set_option linter.unusedSimpArgs false
set_option maxRecDepth 100000
namespace Go.Qv
open Go Go.RowKit Go.Proofs
noncomputable def spJoin := onVs fun l => when_ (joinOk l) (.leaf (.tup [vcl (joinV l), .int .i64 (joinE l)]))
theorem joinR_many {l : List VT} (h : 65536 < sumJ l) : joinV l = .mk 0 [] [] [] ∧ joinE l = 6 := by unfold joinV joinE; rw [if_pos h, if_pos h]; exact ⟨rfl, rfl⟩
theorem joinR_nil {l : List VT} (h : ¬ 65536 < sumJ l) (h2 : 0 ≤ nilIdx l 0) : joinV l = .mk 0 [] [] [] ∧ joinE l = 31 := by unfold joinV joinE; rw [if_neg h, if_neg h, if_pos h2, if_pos h2]; exact ⟨rfl, rfl⟩
theorem joinR_alike {l : List VT} (h : ¬ 65536 < sumJ l) (h2 : ¬ 0 ≤ nilIdx l 0) (h3 : alikeJ l = true) : joinV l = .mk (baseI (l.getD 0 default)) (l.flatMap VT.n) (l.flatMap VT.s) [] ∧ joinE l = 0 := by
  unfold joinV joinE; rw [if_neg h, if_neg h, if_neg h2, if_neg h2, if_pos h3, if_pos h3]; exact ⟨rfl, rfl⟩
theorem joinR_deep {l : List VT} (h : ¬ 65536 < sumJ l) (h2 : ¬ 0 ≤ nilIdx l 0) (h3 : alikeJ l = false) (h4 : 32 < rDepth (ofV (l.flatMap partsJ))) : joinV l = .mk 0 [] [] [] ∧ joinE l = 6 := by
  unfold joinV joinE; rw [if_neg h, if_neg h, if_neg h2, if_neg h2, h3]; simp [h4]
theorem joinR_mixed {l : List VT} (h : ¬ 65536 < sumJ l) (h2 : ¬ 0 ≤ nilIdx l 0) (h3 : alikeJ l = false) (h4 : ¬ 32 < rDepth (ofV (l.flatMap partsJ))) : joinV l = ofV (l.flatMap partsJ) ∧ joinE l = 0 := by
  unfold joinV joinE; rw [if_neg h, if_neg h, if_neg h2, if_neg h2, h3]; simp [h4]
theorem flatMap_take {l : List VT} {i : Nat} (h : i < l.length) : (l.take (i + 1)).flatMap partsJ = (l.take i).flatMap partsJ ++ partsJ (l.getD i default) := by
  rw [take_at l default h, List.flatMap_append]; simp
theorem parts_yes {x : VT} (h : partB x = true) : partsJ x = eachs x := by unfold partsJ; rw [if_pos h]
theorem parts_no {x : VT} (h : partB x = false) : partsJ x = [x] := by unfold partsJ; rw [h]; rfl
theorem joinOk.hlen {l : List VT} (h : joinOk l) (i : Nat) : ((l.take i).flatMap partsJ).length ≤ 536870912 := by have := h.parts i; have := len_bks ((l.take i).flatMap partsJ); omega
theorem joinOk.all {l : List VT} (h : joinOk l) : Qv.tames (l.flatMap partsJ) := by have := parts_bk l; unfold joinOk at h; unfold Qv.tames; omega
/-! ### vec.Join -/
theorem loop91m (l : List VT) (ho : joinOk l) (h1 : ¬ 65536 < sumJ l) (h2 : ¬ 0 ≤ nilIdx l 0) (h3 : alikeJ l = false) (i : Nat) (hi : i ≤ l.length) :
    Rh w91S (Ret (.tup [vcl (joinV l), .int .i64 (joinE l)])) (24, [.vs l, .int l.length, .int i, .vs ((l.take i).flatMap partsJ)]) := by
  refine Rh.go (w91_24 l l.length i _ _) ?_
  have hl := ho.tames.len
  have hh := ho.hlen i
  simp only [SQ, RhQ, eq_self, implies_true, forall_const, VT.eta, if_true, if_false, List.length_append, List.length_cons, List.length_nil, set_new]
  refine ⟨fun h => ?_, fun h => ?_⟩
  · have hx := getD_mem l default (i := i) (by omega)
    have e := loop91m l ho h1 h2 h3 (i + 1) (by omega)
    rw [flatMap_take (by omega)] at e
    refine ⟨⟨by omega, by omega⟩, fun hp => ?_, fun hp => ?_⟩
    · rw [parts_no (by simpa using hp)] at e
      rw [inc (mlen hl) (by omega)]
      repeat' apply And.intro
      all_goals first | exact e | omega
    · have hp : partB (l.getD i default) = true := by simpa using hp
      rw [parts_yes hp] at e
      refine Rh.go (w91_28 _ _ _ _ _ _ _ _ _) ?_
      simp only [SQ, RhQ, eq_self, implies_true, forall_const, VT.eta, if_true, if_false]
      rw [inc (mlen hl) (by omega)]
      have ht := ho.tames.mem hx
      have hb := bk_mem hx
      have hc := (cnt_bk (l.getD i default)).2 (partB_iff.1 hp)
      have hob : bks l ≤ 268435456 := ho
      refine ⟨ht, ht, part_ok2 (partB_iff.1 hp), ?_, e⟩
      unfold fitJ
      omega
  · have e : l.take i = l := List.take_of_length_le (by omega)
    rw [e]
    refine ⟨ho.all, fun h4 => ?_, fun h4 => ?_⟩
    · obtain ⟨e1, e2⟩ := joinR_deep h1 h2 h3 h4; exact Ret.ve e1 e2 rfl
    · obtain ⟨e1, e2⟩ := joinR_mixed h1 h2 h3 h4; exact Ret.ve e1 e2 rfl
termination_by l.length - i
theorem loop91a (l : List VT) (ho : joinOk l) (h1 : ¬ 65536 < sumJ l) (h2 : ¬ 0 ≤ nilIdx l 0) (h3 : alikeJ l = true) (i : Nat) (hi : i ≤ l.length) :
    Rh w91S (Ret (.tup [vcl (joinV l), .int .i64 (joinE l)])) (17, [.vs l, .vs l, .int l.length, .int i, .int (baseI (l.getD 0 default)), .is ((l.take i).flatMap VT.n), .ss ((l.take i).flatMap VT.s)]) := by
  refine Rh.go (w91_17 l l l.length i _ _ _ _) ?_
  have hl := ho.tames.len
  simp only [SQ, RhQ, eq_self, implies_true, forall_const, VT.eta, if_true, if_false]
  refine ⟨fun h => ?_, fun h => ?_⟩
  · have e := loop91a l ho h1 h2 h3 (i + 1) (by omega)
    rw [flat_take VT.n l (by omega), flat_take VT.s l (by omega)] at e
    rw [inc (mlen hl) (by omega)]
    have q1 := ho.tames.flat_n (i + 1)
    have q2 := ho.tames.flat_s (i + 1)
    rw [flat_take VT.n l (by omega), List.length_append] at q1
    rw [flat_take VT.s l (by omega), List.length_append] at q2
    repeat' apply And.intro
    all_goals first | exact e | omega
  · rw [List.take_of_length_le (by omega)]
    obtain ⟨e1, e2⟩ := joinR_alike h1 h2 h3
    exact Ret.ve e1 e2 rfl
termination_by l.length - i
theorem loop91n (l : List VT) (ho : joinOk l) (i : Nat) (hi : i ≤ l.length) :
    Rh w91S (Ret (.tup [vcl (joinV l), .int .i64 (joinE l)])) (3, [.vs l, .int (sumJ (l.take i)), .bool (decide (0 < (l.length : Int)) && allJ (baseI (l.getD 0 default)) (l.take i)), .vs l, .int l.length, .int i]) := by
  refine Rh.go (w91_3 l _ _ l l.length i _) ?_
  have hl := ho.tames.len
  simp only [SQ, RhQ, eq_self, implies_true, forall_const, VT.eta, if_true, if_false]
  refine ⟨fun h => ?_, fun h => ?_⟩
  · have e := loop91n l ho (i + 1) (by omega)
    have s1 := ho.sum (i + 1)
    have s2 := ho.sum i
    rw [sumJ_take (by omega)] at s1
    rw [sumJ_take (by omega), allJ_take (by omega), ← Bool.and_assoc] at e
    rw [inc (mlen hl) (by omega)]
    refine ⟨⟨by omega, by omega⟩, fun hp => ?_, fun hp => ?_⟩
    · have hc : cntJ (l.getD i default) = rCount (l.getD i default) := by unfold cntJ; rw [if_pos hp]
      rw [hc] at s1 e
      rw [w64 (by omega) (by omega)]
      rw [← Bool.and_assoc] at e
      repeat' apply And.intro
      all_goals first | exact e | (intros; omega)
    · have hc : cntJ (l.getD i default) = 1 := by unfold cntJ; rw [if_neg (by simpa using hp)]
      rw [hc] at s1 e
      rw [w64 (by omega) (by omega)]
      rw [← Bool.and_assoc] at e
      repeat' apply And.intro
      all_goals first | exact e | (intros; omega)
  · have e0 : l.take i = l := List.take_of_length_le (by omega)
    rw [e0]
    have ha : (decide (0 < (l.length : Int)) && allJ (baseI (l.getD 0 default)) l) = alikeJ l := rfl
    refine ⟨fun h1 => ?_, fun h1 => ⟨fun h2 => ?_, fun h2 => ⟨fun h3 => ?_, fun h3 => ?_⟩⟩⟩
    · obtain ⟨e1, e2⟩ := joinR_many h1; exact Ret.ve e1 e2 rfl
    · obtain ⟨e1, e2⟩ := joinR_nil h1 h2; exact Ret.ve e1 e2 rfl
    · have hal : alikeJ l = true := by rw [← ha, Bool.and_eq_true, decide_eq_true_eq]; exact h3
      have h0 : 0 < (l.length : Int) := h3.1
      exact ⟨⟨by omega, by omega⟩, loop91a l ho h1 h2 hal 0 (by omega)⟩
    · have hal : alikeJ l = false := by rw [← ha, Bool.and_eq_false_iff, decide_eq_false_iff_not]; exact h3
      exact loop91m l ho h1 h2 hal 0 (by omega)
termination_by l.length - i
theorem okP91 : PureOk Tryz.prog (PS.also 47 sp47f (PS.also 67 sp67 (PS.also 68 sp68 (PS.also 86 sp86f (PS.also 144 spNilIdx (PS.also 92 spPart (PS.also 125 spFlat (PS.also 126 spBase PS.none)))))))) :=
  PureOk.also ok47 (PureOk.also ok67 (PureOk.also ok68 (PureOk.also ok86 (PureOk.also ok144j (PureOk.also ok92 (PureOk.also ok125 (PureOk.also ok126 (PureOk.none _))))))))
theorem ok91 : Pure1 Tryz.prog 91 spJoin := by
  intro xs F w cs R ha h
  obtain ⟨x, l, rfl, h1, h⟩ := onVs_inv h
  obtain ⟨ho, h⟩ := when_inv h
  have ha := ha.conv1 (fun v => as_Vs h1)
  refine contractL lpJ_ok (fn := Tryz.f91) (walked okP91 14) (by kernel_rfl) w91C_ok (by rfl) (by rfl) (by rfl) (by rfl) (by rfl) ha (ρ := [.vs l]) (Rh.go (w91_9999 l _) ?_) h
  simp only [SQ, RhQ, eq_self, implies_true, forall_const, VT.eta, if_true, if_false]
  have e := loop91n l ho 0 (by omega)
  have e2 : (decide (0 < (l.length : Int)) && allJ (baseI (l.getD 0 default)) (l.take 0)) = decide (0 < (l.length : Int)) := by simp [allJ]
  rw [e2] at e
  exact e
/-! ### R.Join -/
end Go.Qv
