/- Walks of readers: dictionaries. (Printed.) -/
import Derived.Test.YtmeagbopnliddaaGreatQDa
set_option linter.unusedVariables false
set_option maxRecDepth 100000
namespace Go.Qv
open Go Go.RowKit
noncomputable def w98C : List Cut := [(⟨9999, ⟨[(0, (.agg [(.int .i64), (.sl (.i .i64)), (.sl .s), (.sl .v)]))], [], 0, 11⟩, [It.code (bodyOf Go.Proofs.Tryz.f98)], []⟩ : Cut)]
theorem w98C_ok : cutsOk w98C = true := by kernel_rfl
noncomputable def w98S  : Nat × List Lf → T Gt := stepX O.real Go.Qv.tb (inl O.real Go.Qv.tb Go.Qv.fns (pureOrc PS.none) (fun f => false) (fun _ => false) 300 14) Go.Proofs.Tryz.f98.results ([]) 0 w98C
theorem w98_9999  (t0 : Int) (t0_1 : List Int) (t0_2 : List ByteArray) (t0_3 : List VT) (Q : Gt → Prop) : T.ob noB Q (.D 1 (.S (.D 1 (.S (.D 1 (.S (.S .E))))))) (w98S  (9999, [Lf.int t0, Lf.is t0_1, Lf.ss t0_2, Lf.vs t0_3])) =
  ((((O.real.le (0 : Int) t0) = Bool.true) → True) ∧ ((((O.real.le (0 : Int) t0) = Bool.true) → True) ∧ ((((O.real.le (0 : Int) t0) = Bool.true) → True) ∧ Q (.inr ⟨(AV.bool (O.real.and (O.real.le (0 : Int) t0) (O.real.le t0 (5 : Int)))), [], [], []⟩)))) := by kernel_rfl

noncomputable def w59C : List Cut := [(⟨9999, ⟨[(0, (.agg [(.int .i64), (.sl (.i .i64)), (.sl .s), (.sl .v)]))], [], 0, 11⟩, [It.code (bodyOf Go.Proofs.Tryz.f59)], []⟩ : Cut)]
theorem w59C_ok : cutsOk w59C = true := by kernel_rfl
noncomputable def w59S  : Nat × List Lf → T Gt := stepX O.real Go.Qv.tb (inl O.real Go.Qv.tb Go.Qv.fns (pureOrc PS.none) (fun f => false) (fun _ => false) 300 14) Go.Proofs.Tryz.f59.results ([]) 0 w59C
theorem w59_9999  (t0 : Int) (t0_1 : List Int) (t0_2 : List ByteArray) (t0_3 : List VT) (Q : Gt → Prop) : T.ob noB Q (.D 1 (.S (.D 1 (.S (.D 1 (.S (.S .E))))))) (w59S  (9999, [Lf.int t0, Lf.is t0_1, Lf.ss t0_2, Lf.vs t0_3])) =
  ((((O.real.le (0 : Int) t0) = Bool.true) → True) ∧ ((((O.real.le (0 : Int) t0) = Bool.true) → True) ∧ ((((O.real.le (0 : Int) t0) = Bool.true) → True) ∧ Q (.inr ⟨(AV.bool (O.real.and (O.real.le (0 : Int) t0) (O.real.le t0 (5 : Int)))), [], [], []⟩)))) := by kernel_rfl

noncomputable def w46C : List Cut := [(⟨9999, ⟨[(0, (.agg [(.int .i64), (.sl (.i .i64)), (.sl .s), (.sl .v)]))], [], 0, 13⟩, [It.code (bodyOf Go.Proofs.Tryz.f46)], []⟩ : Cut)]
theorem w46C_ok : cutsOk w46C = true := by kernel_rfl
noncomputable def w46S  : Nat × List Lf → T Gt := stepX O.real Go.Qv.tb (inl O.real Go.Qv.tb Go.Qv.fns (pureOrc (PS.also 59 spPart PS.none)) (fun f => Nat.beq f 59) (fun _ => false) 300 14) Go.Proofs.Tryz.f46.results ([]) 0 w46C
theorem w46_9999  (t0 : Int) (t0_1 : List Int) (t0_2 : List ByteArray) (t0_3 : List VT) (Q : Gt → Prop) : T.ob noB Q (.D 1 (.S (.D 1 (.S (.D 1 (.S (.D 1 (.S (.D 1 (.S (.S .E))))))))))) (w46S  (9999, [Lf.int t0, Lf.is t0_1, Lf.ss t0_2, Lf.vs t0_3])) =
  ((((O.real.eq t0 (99 : Int)) = Bool.true) → True) ∧ ((((O.real.eq t0 (99 : Int)) = Bool.true) → True) ∧ ((((O.real.eq t0 (99 : Int)) = Bool.true) → (((O.real.inb (0 : Int) (O.real.vlen t0_3))).p ∧ True)) ∧ ((((O.real.eq t0 (99 : Int)) = Bool.true) → True) ∧ ((((O.real.eq t0 (99 : Int)) = Bool.true) → True) ∧ Q (.inr ⟨(AV.bool (O.real.and (O.real.eq t0 (99 : Int)) (partB (etaO (O.real.vget t0_3 (0 : Int)))))), [], [], []⟩)))))) := by kernel_rfl

noncomputable def w57C : List Cut := [(⟨9999, ⟨[(0, (.agg [(.int .i64), (.sl (.i .i64)), (.sl .s), (.sl .v)])), (1, (.agg [(.int .i64), (.sl (.i .i64)), (.sl .s), (.sl .v)]))], [], 0, 21⟩, [It.code (bodyOf Go.Proofs.Tryz.f57)], []⟩ : Cut)]
theorem w57C_ok : cutsOk w57C = true := by kernel_rfl
noncomputable def w57S  : Nat × List Lf → T Gt := stepL (lpFind) O.real Go.Qv.tb (inl O.real Go.Qv.tb Go.Qv.fns (pureOrc (PS.also 98 spPart (PS.also 67 sp67 (PS.also 99 sp99f (PS.also 47 sp47f PS.none))))) (fun f => Nat.beq f 98 || Nat.beq f 67 || Nat.beq f 99 || Nat.beq f 47) (fun _ => false) 300 14) Go.Proofs.Tryz.f57.results ([]) 0 w57C
theorem w57_9999  (t0 : Int) (t0_1 : List Int) (t0_2 : List ByteArray) (t0_3 : List VT) (t1 : Int) (t1_1 : List Int) (t1_2 : List ByteArray) (t1_3 : List VT) (Q : Gt → Prop) : T.ob noB Q (.B (.S .E) (.S (.S (.S (.B (.S .E) (.S .E)))))) (w57S  (9999, [Lf.int t0, Lf.is t0_1, Lf.ss t0_2, Lf.vs t0_3, Lf.int t1, Lf.is t1_1, Lf.ss t1_2, Lf.vs t1_3])) =
  (((O.real.not (partB (VT.mk t0 t0_1 t0_2 t0_3))) = true → Q (.inr ⟨(AV.tup [(AV.int IntKind.i64 (0 : Int)), (AV.int IntKind.i64 (31 : Int))]), [], [], []⟩)) ∧ ((O.real.not (partB (VT.mk t0 t0_1 t0_2 t0_3))) = false → ((tame (VT.mk t0 t0_1 t0_2 t0_3)) ∧ ((rfAt Go.Proofs.Tryz.f57 4 = rfAt Go.Proofs.Tryz.f57 4) ∧ ((fndOk (VT.mk t0 t0_1 t0_2 t0_3)) ∧ (((fndB (VT.mk t0 t0_1 t0_2 t0_3) (VT.mk t1 t1_1 t1_2 t1_3)) = true → Q (.inr ⟨(AV.tup [(AV.int IntKind.i64 (findG (VT.mk t0 t0_1 t0_2 t0_3) (VT.mk t1 t1_1 t1_2 t1_3))), (AV.int IntKind.i64 (0 : Int))]), [], [], []⟩)) ∧ ((fndB (VT.mk t0 t0_1 t0_2 t0_3) (VT.mk t1 t1_1 t1_2 t1_3)) = false → Q (.inr ⟨(AV.tup [(AV.int IntKind.i64 (rCount (VT.mk t0 t0_1 t0_2 t0_3))), (AV.int IntKind.i64 (0 : Int))]), [], [], []⟩)))))))) := by kernel_rfl

noncomputable def w16C : List Cut := [(⟨9999, ⟨[(0, (.agg [(.int .i64), (.sl (.i .i64)), (.sl .s), (.sl .v)])), (1, (.agg [(.int .i64), (.sl (.i .i64)), (.sl .s), (.sl .v)]))], [], 0, 17⟩, [It.code (bodyOf Go.Proofs.Tryz.f16)], []⟩ : Cut)]
theorem w16C_ok : cutsOk w16C = true := by kernel_rfl
noncomputable def w16S  : Nat × List Lf → T Gt := stepX O.real Go.Qv.tb (inl O.real Go.Qv.tb Go.Qv.fns (pureOrc (PS.also 46 spIsD (PS.also 57 spFindS PS.none))) (fun f => Nat.beq f 46 || Nat.beq f 57) (fun _ => false) 300 14) Go.Proofs.Tryz.f16.results ([]) 0 w16C
theorem w16_9999  (t0 : Int) (t0_1 : List Int) (t0_2 : List ByteArray) (t0_3 : List VT) (t1 : Int) (t1_1 : List Int) (t1_2 : List ByteArray) (t1_3 : List VT) (Q : Gt → Prop) : T.ob noB Q (.S (.B (.S .E) (.S (.S .E)))) (w16S  (9999, [Lf.int t0, Lf.is t0_1, Lf.ss t0_2, Lf.vs t0_3, Lf.int t1, Lf.is t1_1, Lf.ss t1_2, Lf.vs t1_3])) =
  ((dOk (VT.mk t0 t0_1 t0_2 t0_3)) ∧ (((O.real.not (isD (VT.mk t0 t0_1 t0_2 t0_3))) = true → Q (.inr ⟨(AV.tup [(AV.int IntKind.i64 (0 : Int)), (AV.int IntKind.i64 (31 : Int))]), [], [], []⟩)) ∧ ((O.real.not (isD (VT.mk t0 t0_1 t0_2 t0_3))) = false → ((((Bool.true = Bool.true) ∧ True) ∧ (((Bool.true = Bool.true) ∧ True) ∧ (((Bool.true = Bool.true) ∧ (((O.real.inb (0 : Int) (O.real.vlen t0_3))).p ∧ True)) ∧ (((Bool.true = Bool.true) ∧ True) ∧ (((Bool.true = Bool.true) ∧ True) ∧ (((Bool.true = Bool.true) ∧ ((tame (etaO (O.real.vget t0_3 (0 : Int)))) ∧ True)) ∧ (((Bool.true = Bool.true) ∧ True) ∧ (((Bool.true = Bool.true) ∧ True) ∧ (((Bool.true = Bool.true) ∧ True) ∧ (((Bool.true = Bool.true) ∧ True) ∧ True)))))))))) ∧ Q (.inr ⟨(AV.tup [(AV.int IntKind.i64 (findI (etaO (O.real.vget t0_3 (0 : Int))) (VT.mk t1 t1_1 t1_2 t1_3))), (AV.int IntKind.i64 (findE (etaO (O.real.vget t0_3 (0 : Int)))))]), [], [], []⟩))))) := by kernel_rfl

noncomputable def w17C : List Cut := [(⟨9999, ⟨[(0, (.agg [(.int .i64), (.sl (.i .i64)), (.sl .s), (.sl .v)]))], [], 0, 13⟩, [It.code (bodyOf Go.Proofs.Tryz.f17)], []⟩ : Cut)]
theorem w17C_ok : cutsOk w17C = true := by kernel_rfl
noncomputable def w17S  : Nat × List Lf → T Gt := stepX O.real Go.Qv.tb (inl O.real Go.Qv.tb Go.Qv.fns (pureOrc (PS.also 46 spIsD (PS.also 50 sp50f PS.none))) (fun f => Nat.beq f 46 || Nat.beq f 50) (fun _ => false) 300 14) Go.Proofs.Tryz.f17.results ([]) 0 w17C
theorem w17_9999  (t0 : Int) (t0_1 : List Int) (t0_2 : List ByteArray) (t0_3 : List VT) (Q : Gt → Prop) : T.ob noB Q (.S (.B (.S .E) (.S (.S (.S .E))))) (w17S  (9999, [Lf.int t0, Lf.is t0_1, Lf.ss t0_2, Lf.vs t0_3])) =
  ((dOk (VT.mk t0 t0_1 t0_2 t0_3)) ∧ (((O.real.not (isD (VT.mk t0 t0_1 t0_2 t0_3))) = true → Q (.inr ⟨(AV.tup [(AV.agg [(AV.int IntKind.i64 (0 : Int)), AV.nils, AV.nils, AV.nils]), (AV.int IntKind.i64 (31 : Int))]), [], [], []⟩)) ∧ ((O.real.not (isD (VT.mk t0 t0_1 t0_2 t0_3))) = false → (((O.real.inb (0 : Int) (O.real.vlen t0_3))).p ∧ ((tame (etaO (O.real.vget t0_3 (0 : Int)))) ∧ Q (.inr ⟨(AV.tup [(AV.agg [(AV.int IntKind.i64 (O.real.vt (O.real.vget t0_3 (0 : Int)))), (AV.sl (LS.i IntKind.i64 (O.real.vn (O.real.vget t0_3 (0 : Int))))), (AV.sl (LS.s (O.real.vs (O.real.vget t0_3 (0 : Int))))), (AV.sl (LS.v (O.real.vl (O.real.vget t0_3 (0 : Int)))))]), (AV.int IntKind.i64 (0 : Int))]), [], [], []⟩)))))) := by kernel_rfl

noncomputable def w22C : List Cut := [(⟨9999, ⟨[(0, (.agg [(.int .i64), (.sl (.i .i64)), (.sl .s), (.sl .v)]))], [], 0, 13⟩, [It.code (bodyOf Go.Proofs.Tryz.f22)], []⟩ : Cut)]
theorem w22C_ok : cutsOk w22C = true := by kernel_rfl
noncomputable def w22S  : Nat × List Lf → T Gt := stepX O.real Go.Qv.tb (inl O.real Go.Qv.tb Go.Qv.fns (pureOrc (PS.also 46 spIsD (PS.also 50 sp50f PS.none))) (fun f => Nat.beq f 46 || Nat.beq f 50) (fun _ => false) 300 14) Go.Proofs.Tryz.f22.results ([]) 0 w22C
theorem w22_9999  (t0 : Int) (t0_1 : List Int) (t0_2 : List ByteArray) (t0_3 : List VT) (Q : Gt → Prop) : T.ob noB Q (.S (.B (.S .E) (.S (.S (.S .E))))) (w22S  (9999, [Lf.int t0, Lf.is t0_1, Lf.ss t0_2, Lf.vs t0_3])) =
  ((dOk (VT.mk t0 t0_1 t0_2 t0_3)) ∧ (((O.real.not (isD (VT.mk t0 t0_1 t0_2 t0_3))) = true → Q (.inr ⟨(AV.tup [(AV.agg [(AV.int IntKind.i64 (0 : Int)), AV.nils, AV.nils, AV.nils]), (AV.int IntKind.i64 (31 : Int))]), [], [], []⟩)) ∧ ((O.real.not (isD (VT.mk t0 t0_1 t0_2 t0_3))) = false → (((O.real.inb (1 : Int) (O.real.vlen t0_3))).p ∧ ((tame (etaO (O.real.vget t0_3 (1 : Int)))) ∧ Q (.inr ⟨(AV.tup [(AV.agg [(AV.int IntKind.i64 (O.real.vt (O.real.vget t0_3 (1 : Int)))), (AV.sl (LS.i IntKind.i64 (O.real.vn (O.real.vget t0_3 (1 : Int))))), (AV.sl (LS.s (O.real.vs (O.real.vget t0_3 (1 : Int))))), (AV.sl (LS.v (O.real.vl (O.real.vget t0_3 (1 : Int)))))]), (AV.int IntKind.i64 (0 : Int))]), [], [], []⟩)))))) := by kernel_rfl

end Go.Qv
