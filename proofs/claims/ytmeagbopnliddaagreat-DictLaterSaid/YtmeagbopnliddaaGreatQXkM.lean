/- Walks of dictionaries. (Printed.) -/
import Derived.Test.YtmeagbopnliddaaGreatQEuM
set_option linter.unusedVariables false
set_option maxRecDepth 100000
namespace Go.Qv
open Go Go.RowKit
noncomputable def w51C : List Cut := [(⟨9999, ⟨[(0, (.agg [(.int .i64), (.sl (.i .i64)), (.sl .s), (.sl .v)])), (1, (.one (.int IntKind.i64))), (2, (.agg [(.int .i64), (.sl (.i .i64)), (.sl .s), (.sl .v)]))], [], 0, 50⟩, [It.code (bodyOf Go.Proofs.Tryz.f51)], []⟩ : Cut)]
theorem w51C_ok : cutsOk w51C = true := by kernel_rfl
noncomputable def w51S  : Nat × List Lf → T Gt := stepX O.real Go.Qv.tb (inl O.real Go.Qv.tb Go.Qv.fns (effOrc (fun f => Nat.beq f 90 || Nat.beq f 50) (ES.also 90 seEls (ES.also 50 seCl ES.none)) (PS.also 68 sp68 PS.none)) (fun f => Nat.beq f 90 || Nat.beq f 50 || Nat.beq f 68) (fun _ => false) 300 14) Go.Proofs.Tryz.f51.results ([]) 0 w51C
theorem w51_9999  (t0 : Int) (t0_1 : List Int) (t0_2 : List ByteArray) (t0_3 : List VT) (t1 : Int) (t2 : Int) (t2_1 : List Int) (t2_2 : List ByteArray) (t2_3 : List VT) (Q : Gt → Prop) : T.ob noB Q (.D 1 (.S (.D 1 (.S (.D 1 (.S (.D 1 (.S (.D 1 (.S (.D 1 (.S (.B (.S (.B (.B (.S (.S .E)) .E) (.B .E (.S (.S .E))))) (.S (.S (.S (.S (.S .E)))))))))))))))))) (w51S  (9999, [Lf.int t0, Lf.is t0_1, Lf.ss t0_2, Lf.vs t0_3, Lf.int t1, Lf.int t2, Lf.is t2_1, Lf.ss t2_2, Lf.vs t2_3])) =
  ((((O.real.not (O.real.eq t0 (0 : Int))) = Bool.true) → True) ∧ ((((O.real.not (O.real.eq t0 (0 : Int))) = Bool.true) → True) ∧ ((((O.real.not (O.real.eq t0 (0 : Int))) = Bool.true) → True) ∧ ((((O.real.not (O.real.eq t0 (0 : Int))) = Bool.true) → True) ∧ ((((O.real.not (O.real.eq t0 (0 : Int))) = Bool.true) → True) ∧ ((((O.real.not (O.real.eq t0 (0 : Int))) = Bool.true) → True) ∧ (((O.real.and (O.real.not (O.real.eq t0 (0 : Int))) (O.real.eq t2 (O.real.neg IntKind.i64 t0))) = true → ((clnOk (VT.mk t0 t0_1 t0_2 t0_3)) ∧ (((symB t0) = true → (((O.real.eq t0 (3 : Int)) = true → ((((Bool.true = Bool.true) ∧ True) ∧ (((Bool.true = Bool.true) ∧ True) ∧ (((Bool.true = Bool.true) ∧ True) ∧ (((Bool.true = Bool.true) ∧ True) ∧ (((Bool.true = Bool.true) ∧ True) ∧ (((Bool.true = Bool.true) ∧ (((O.real.inb (0 : Int) (O.real.blen t2_2))).p ∧ True)) ∧ (((Bool.true = Bool.true) ∧ True) ∧ (((Bool.true = Bool.true) ∧ (((O.real.inb t1 (O.real.blen t0_2))).p ∧ True)) ∧ (((Bool.true = Bool.true) ∧ (((O.real.inb t1 (O.real.blen t0_2))).p ∧ True)) ∧ True))))))))) ∧ Q (.inr ⟨(AV.agg [(AV.int IntKind.i64 t0), (AV.sl (LS.i IntKind.i64 t0_1)), (AV.own 0), (AV.sl (LS.v t0_3))]), [], [], [(HObj.arr 9 (LS.s (O.real.bset t0_2 t1 (O.real.bget t2_2 (0 : Int)))))]⟩))) ∧ ((O.real.eq t0 (3 : Int)) = false → (Bool.false = Bool.true)))) ∧ ((symB t0) = false → (((O.real.eq t0 (3 : Int)) = true → (Bool.false = Bool.true)) ∧ ((O.real.eq t0 (3 : Int)) = false → ((((Bool.true = Bool.true) ∧ True) ∧ (((Bool.true = Bool.true) ∧ True) ∧ (((Bool.true = Bool.true) ∧ True) ∧ (((Bool.true = Bool.true) ∧ True) ∧ (((Bool.true = Bool.true) ∧ True) ∧ (((Bool.true = Bool.true) ∧ (((O.real.inb (0 : Int) (O.real.ilen t2_1))).p ∧ True)) ∧ (((Bool.true = Bool.true) ∧ True) ∧ (((Bool.true = Bool.true) ∧ (((O.real.inb t1 (O.real.ilen t0_1))).p ∧ True)) ∧ (((Bool.true = Bool.true) ∧ (((O.real.inb t1 (O.real.ilen t0_1))).p ∧ True)) ∧ True))))))))) ∧ Q (.inr ⟨(AV.agg [(AV.int IntKind.i64 t0), (AV.own 0), (AV.sl (LS.s t0_2)), (AV.sl (LS.v t0_3))]), [], [], [(HObj.arr 2 (LS.i IntKind.i64 (O.real.iset t0_1 t1 (O.real.iget t2_1 (0 : Int)))))]⟩)))))))) ∧ ((O.real.and (O.real.not (O.real.eq t0 (0 : Int))) (O.real.eq t2 (O.real.neg IntKind.i64 t0))) = false → ((elsOk (VT.mk t0 t0_1 t0_2 t0_3)) ∧ (((O.real.inb t1 (O.real.vlen (eachs (VT.mk t0 t0_1 t0_2 t0_3))))).p ∧ (((O.real.inb t1 (O.real.vlen (eachs (VT.mk t0 t0_1 t0_2 t0_3))))).p ∧ ((tames (O.real.vset (eachs (VT.mk t0 t0_1 t0_2 t0_3)) t1 (VT.mk t2 t2_1 t2_2 t2_3))) ∧ Q (.inr ⟨(AV.agg [(AV.int IntKind.i64 (VT.t (ofV (O.real.vset (eachs (VT.mk t0 t0_1 t0_2 t0_3)) t1 (VT.mk t2 t2_1 t2_2 t2_3))))), (AV.sl (LS.i IntKind.i64 (VT.n (ofV (O.real.vset (eachs (VT.mk t0 t0_1 t0_2 t0_3)) t1 (VT.mk t2 t2_1 t2_2 t2_3)))))), (AV.sl (LS.s (VT.s (ofV (O.real.vset (eachs (VT.mk t0 t0_1 t0_2 t0_3)) t1 (VT.mk t2 t2_1 t2_2 t2_3)))))), (AV.sl (LS.v (VT.l (ofV (O.real.vset (eachs (VT.mk t0 t0_1 t0_2 t0_3)) t1 (VT.mk t2 t2_1 t2_2 t2_3))))))]), [], [], []⟩))))))))))))) := by kernel_rfl

noncomputable def w52C : List Cut := [(⟨9999, ⟨[(0, (.agg [(.int .i64), (.sl (.i .i64)), (.sl .s), (.sl .v)])), (1, (.agg [(.int .i64), (.sl (.i .i64)), (.sl .s), (.sl .v)]))], [], 0, 48⟩, [It.code (bodyOf Go.Proofs.Tryz.f52)], []⟩ : Cut)]
theorem w52C_ok : cutsOk w52C = true := by kernel_rfl
noncomputable def w52S  : Nat × List Lf → T Gt := stepX O.real Go.Qv.tb (inl O.real Go.Qv.tb Go.Qv.fns (effOrc (fun f => Nat.beq f 90) (ES.also 90 seEls ES.none) (PS.also 59 spPart (PS.also 47 sp47f (PS.also 91 spJoin (PS.also 68 sp68 (PS.also 48 spBound PS.none)))))) (fun f => Nat.beq f 90 || Nat.beq f 59 || Nat.beq f 47 || Nat.beq f 91 || Nat.beq f 68 || Nat.beq f 48) (fun _ => false) 300 14) Go.Proofs.Tryz.f52.results ([]) 0 w52C
theorem w52_9999  (t0 : Int) (t0_1 : List Int) (t0_2 : List ByteArray) (t0_3 : List VT) (t1 : Int) (t1_1 : List Int) (t1_2 : List ByteArray) (t1_3 : List VT) (Q : Gt → Prop) : T.ob noB Q (.D 1 (.S (.D 1 (.S (.D 1 (.S (.B (.S .E) (.B (.S .E) (.D 1 (.S (.D 1 (.S (.D 1 (.S (.D 1 (.S (.D 1 (.S (.D 1 (.S (.B (.S (.S .E)) (.S (.S .E))))))))))))))))))))))) (w52S  (9999, [Lf.int t0, Lf.is t0_1, Lf.ss t0_2, Lf.vs t0_3, Lf.int t1, Lf.is t1_1, Lf.ss t1_2, Lf.vs t1_3])) =
  ((((O.real.not (partB (VT.mk t0 t0_1 t0_2 t0_3))) = Bool.false) → True) ∧ ((((O.real.not (partB (VT.mk t0 t0_1 t0_2 t0_3))) = Bool.false) → True) ∧ ((((O.real.not (partB (VT.mk t0 t0_1 t0_2 t0_3))) = Bool.false) → True) ∧ (((O.real.or (O.real.not (partB (VT.mk t0 t0_1 t0_2 t0_3))) (O.real.eq t1 (101 : Int))) = true → Q (.inr ⟨(AV.tup [(AV.agg [(AV.int IntKind.i64 (0 : Int)), AV.nils, AV.nils, AV.nils]), (AV.int IntKind.i64 (31 : Int))]), [], [], []⟩)) ∧ ((O.real.or (O.real.not (partB (VT.mk t0 t0_1 t0_2 t0_3))) (O.real.eq t1 (101 : Int))) = false → (((O.real.le (65536 : Int) (rCount (VT.mk t0 t0_1 t0_2 t0_3))) = true → Q (.inr ⟨(AV.tup [(AV.agg [(AV.int IntKind.i64 (0 : Int)), AV.nils, AV.nils, AV.nils]), (AV.int IntKind.i64 (6 : Int))]), [], [], []⟩)) ∧ ((O.real.le (65536 : Int) (rCount (VT.mk t0 t0_1 t0_2 t0_3))) = false → ((((O.real.not (O.real.eq t0 (0 : Int))) = Bool.true) → True) ∧ ((((O.real.not (O.real.eq t0 (0 : Int))) = Bool.true) → True) ∧ ((((O.real.not (O.real.eq t0 (0 : Int))) = Bool.true) → True) ∧ ((((O.real.not (O.real.eq t0 (0 : Int))) = Bool.true) → True) ∧ ((((O.real.not (O.real.eq t0 (0 : Int))) = Bool.true) → True) ∧ ((((O.real.not (O.real.eq t0 (0 : Int))) = Bool.true) → True) ∧ (((O.real.and (O.real.not (O.real.eq t0 (0 : Int))) (O.real.eq t1 (O.real.neg IntKind.i64 t0))) = true → ((joinOk [(VT.mk t0 t0_1 t0_2 t0_3), (VT.mk t1 t1_1 t1_2 t1_3)]) ∧ Q (.inr ⟨(AV.tup [(AV.agg [(AV.int IntKind.i64 (VT.t (joinV [(VT.mk t0 t0_1 t0_2 t0_3), (VT.mk t1 t1_1 t1_2 t1_3)]))), (AV.sl (LS.i IntKind.i64 (VT.n (joinV [(VT.mk t0 t0_1 t0_2 t0_3), (VT.mk t1 t1_1 t1_2 t1_3)])))), (AV.sl (LS.s (VT.s (joinV [(VT.mk t0 t0_1 t0_2 t0_3), (VT.mk t1 t1_1 t1_2 t1_3)])))), (AV.sl (LS.v (VT.l (joinV [(VT.mk t0 t0_1 t0_2 t0_3), (VT.mk t1 t1_1 t1_2 t1_3)]))))]), (AV.int IntKind.i64 (joinE [(VT.mk t0 t0_1 t0_2 t0_3), (VT.mk t1 t1_1 t1_2 t1_3)]))]), [], [], []⟩))) ∧ ((O.real.and (O.real.not (O.real.eq t0 (0 : Int))) (O.real.eq t1 (O.real.neg IntKind.i64 t0))) = false → ((((Bool.true = Bool.true) ∧ True) ∧ (((Bool.true = Bool.true) ∧ ((elsOk (VT.mk t0 t0_1 t0_2 t0_3)) ∧ True)) ∧ (((Bool.true = Bool.true) ∧ True) ∧ (((Bool.true = Bool.true) ∧ True) ∧ (((Bool.true = Bool.true) ∧ (((O.real.fit (O.real.vlen (eachs (VT.mk t0 t0_1 t0_2 t0_3))) (O.real.vlen [(VT.mk t1 t1_1 t1_2 t1_3)]) 80)).p ∧ True)) ∧ (((Bool.true = Bool.true) ∧ ((tames (O.real.vapp (eachs (VT.mk t0 t0_1 t0_2 t0_3)) [(VT.mk t1 t1_1 t1_2 t1_3)])) ∧ True)) ∧ (((Bool.true = Bool.true) ∧ True) ∧ (((Bool.true = Bool.true) ∧ True) ∧ (((Bool.true = Bool.true) ∧ True) ∧ (((Bool.true = Bool.true) ∧ True) ∧ (((Bool.true = Bool.true) ∧ True) ∧ True))))))))))) ∧ Q (.inr ⟨(AV.tup [(AV.agg [(AV.int IntKind.i64 (VT.t (boundV (VT.mk (VT.t (ofV (O.real.vapp (eachs (VT.mk t0 t0_1 t0_2 t0_3)) [(VT.mk t1 t1_1 t1_2 t1_3)]))) (VT.n (ofV (O.real.vapp (eachs (VT.mk t0 t0_1 t0_2 t0_3)) [(VT.mk t1 t1_1 t1_2 t1_3)]))) (VT.s (ofV (O.real.vapp (eachs (VT.mk t0 t0_1 t0_2 t0_3)) [(VT.mk t1 t1_1 t1_2 t1_3)]))) (VT.l (ofV (O.real.vapp (eachs (VT.mk t0 t0_1 t0_2 t0_3)) [(VT.mk t1 t1_1 t1_2 t1_3)])))) (0 : Int)))), (AV.sl (LS.i IntKind.i64 (VT.n (boundV (VT.mk (VT.t (ofV (O.real.vapp (eachs (VT.mk t0 t0_1 t0_2 t0_3)) [(VT.mk t1 t1_1 t1_2 t1_3)]))) (VT.n (ofV (O.real.vapp (eachs (VT.mk t0 t0_1 t0_2 t0_3)) [(VT.mk t1 t1_1 t1_2 t1_3)]))) (VT.s (ofV (O.real.vapp (eachs (VT.mk t0 t0_1 t0_2 t0_3)) [(VT.mk t1 t1_1 t1_2 t1_3)]))) (VT.l (ofV (O.real.vapp (eachs (VT.mk t0 t0_1 t0_2 t0_3)) [(VT.mk t1 t1_1 t1_2 t1_3)])))) (0 : Int))))), (AV.sl (LS.s (VT.s (boundV (VT.mk (VT.t (ofV (O.real.vapp (eachs (VT.mk t0 t0_1 t0_2 t0_3)) [(VT.mk t1 t1_1 t1_2 t1_3)]))) (VT.n (ofV (O.real.vapp (eachs (VT.mk t0 t0_1 t0_2 t0_3)) [(VT.mk t1 t1_1 t1_2 t1_3)]))) (VT.s (ofV (O.real.vapp (eachs (VT.mk t0 t0_1 t0_2 t0_3)) [(VT.mk t1 t1_1 t1_2 t1_3)]))) (VT.l (ofV (O.real.vapp (eachs (VT.mk t0 t0_1 t0_2 t0_3)) [(VT.mk t1 t1_1 t1_2 t1_3)])))) (0 : Int))))), (AV.sl (LS.v (VT.l (boundV (VT.mk (VT.t (ofV (O.real.vapp (eachs (VT.mk t0 t0_1 t0_2 t0_3)) [(VT.mk t1 t1_1 t1_2 t1_3)]))) (VT.n (ofV (O.real.vapp (eachs (VT.mk t0 t0_1 t0_2 t0_3)) [(VT.mk t1 t1_1 t1_2 t1_3)]))) (VT.s (ofV (O.real.vapp (eachs (VT.mk t0 t0_1 t0_2 t0_3)) [(VT.mk t1 t1_1 t1_2 t1_3)]))) (VT.l (ofV (O.real.vapp (eachs (VT.mk t0 t0_1 t0_2 t0_3)) [(VT.mk t1 t1_1 t1_2 t1_3)])))) (0 : Int)))))]), (AV.int IntKind.i64 (boundE (VT.mk (VT.t (ofV (O.real.vapp (eachs (VT.mk t0 t0_1 t0_2 t0_3)) [(VT.mk t1 t1_1 t1_2 t1_3)]))) (VT.n (ofV (O.real.vapp (eachs (VT.mk t0 t0_1 t0_2 t0_3)) [(VT.mk t1 t1_1 t1_2 t1_3)]))) (VT.s (ofV (O.real.vapp (eachs (VT.mk t0 t0_1 t0_2 t0_3)) [(VT.mk t1 t1_1 t1_2 t1_3)]))) (VT.l (ofV (O.real.vapp (eachs (VT.mk t0 t0_1 t0_2 t0_3)) [(VT.mk t1 t1_1 t1_2 t1_3)])))) (0 : Int)))]), [], [], []⟩))))))))))))))))) := by kernel_rfl

noncomputable def w11C : List Cut := [(⟨9999, ⟨[(0, (.agg [(.int .i64), (.sl (.i .i64)), (.sl .s), (.sl .v)])), (1, (.agg [(.int .i64), (.sl (.i .i64)), (.sl .s), (.sl .v)])), (2, (.agg [(.int .i64), (.sl (.i .i64)), (.sl .s), (.sl .v)]))], [], 0, 83⟩, [It.code (bodyOf Go.Proofs.Tryz.f11)], []⟩ : Cut)]
theorem w11C_ok : cutsOk w11C = true := by kernel_rfl
noncomputable def w11S  : Nat × List Lf → T Gt := stepX O.real Go.Qv.tb (inl O.real Go.Qv.tb Go.Qv.fns (pureOrc (PS.also 46 spIsD (PS.also 16 spFindD (PS.also 47 sp47f (PS.also 50 sp50f (PS.also 51 spSet (PS.also 52 spApp (PS.also 48 spBound PS.none)))))))) (fun f => Nat.beq f 46 || Nat.beq f 16 || Nat.beq f 47 || Nat.beq f 50 || Nat.beq f 51 || Nat.beq f 52 || Nat.beq f 48) (fun _ => false) 300 14) Go.Proofs.Tryz.f11.results ([]) 0 w11C
theorem w11_9999  (t0 : Int) (t0_1 : List Int) (t0_2 : List ByteArray) (t0_3 : List VT) (t1 : Int) (t1_1 : List Int) (t1_2 : List ByteArray) (t1_3 : List VT) (t2 : Int) (t2_1 : List Int) (t2_2 : List ByteArray) (t2_3 : List VT) (Q : Gt → Prop) : T.ob noB Q (.S (.D 1 (.S (.D 1 (.S (.D 1 (.S (.D 1 (.S (.D 1 (.S (.D 1 (.S (.B (.S .E) (.S (.S (.B (.S (.S .E)) (.S (.B (.S .E) (.S (.S .E))))))))))))))))))))) (w11S  (9999, [Lf.int t0, Lf.is t0_1, Lf.ss t0_2, Lf.vs t0_3, Lf.int t1, Lf.is t1_1, Lf.ss t1_2, Lf.vs t1_3, Lf.int t2, Lf.is t2_1, Lf.ss t2_2, Lf.vs t2_3])) =
  ((dOk (VT.mk t0 t0_1 t0_2 t0_3)) ∧ ((((O.real.not (isD (VT.mk t0 t0_1 t0_2 t0_3))) = Bool.false) → True) ∧ ((((O.real.not (isD (VT.mk t0 t0_1 t0_2 t0_3))) = Bool.false) → True) ∧ ((((O.real.not (isD (VT.mk t0 t0_1 t0_2 t0_3))) = Bool.false) → True) ∧ ((((O.real.or (O.real.not (isD (VT.mk t0 t0_1 t0_2 t0_3))) (O.real.eq t1 (101 : Int))) = Bool.false) → True) ∧ ((((O.real.or (O.real.not (isD (VT.mk t0 t0_1 t0_2 t0_3))) (O.real.eq t1 (101 : Int))) = Bool.false) → True) ∧ ((((O.real.or (O.real.not (isD (VT.mk t0 t0_1 t0_2 t0_3))) (O.real.eq t1 (101 : Int))) = Bool.false) → True) ∧ (((O.real.or (O.real.or (O.real.not (isD (VT.mk t0 t0_1 t0_2 t0_3))) (O.real.eq t1 (101 : Int))) (O.real.eq t2 (101 : Int))) = true → Q (.inr ⟨(AV.tup [(AV.agg [(AV.int IntKind.i64 (0 : Int)), AV.nils, AV.nils, AV.nils]), (AV.int IntKind.i64 (31 : Int))]), [], [], []⟩)) ∧ ((O.real.or (O.real.or (O.real.not (isD (VT.mk t0 t0_1 t0_2 t0_3))) (O.real.eq t1 (101 : Int))) (O.real.eq t2 (101 : Int))) = false → ((dOk (VT.mk t0 t0_1 t0_2 t0_3)) ∧ ((tame (VT.mk t0 t0_1 t0_2 t0_3)) ∧ (((O.real.lt (findDI (VT.mk t0 t0_1 t0_2 t0_3) (VT.mk t1 t1_1 t1_2 t1_3)) (rCount (VT.mk t0 t0_1 t0_2 t0_3))) = true → ((((Bool.true = Bool.true) ∧ True) ∧ (((Bool.true = Bool.true) ∧ True) ∧ (((Bool.true = Bool.true) ∧ (((O.real.inb (0 : Int) (O.real.vlen t0_3))).p ∧ True)) ∧ (((Bool.true = Bool.true) ∧ True) ∧ (((Bool.true = Bool.true) ∧ ((tame (etaO (O.real.vget t0_3 (0 : Int)))) ∧ True)) ∧ (((Bool.true = Bool.true) ∧ True) ∧ (((Bool.true = Bool.true) ∧ True) ∧ (((Bool.true = Bool.true) ∧ (((O.real.inb (1 : Int) (O.real.vlen t0_3))).p ∧ True)) ∧ (((Bool.true = Bool.true) ∧ True) ∧ (((Bool.true = Bool.true) ∧ True) ∧ (((Bool.true = Bool.true) ∧ True) ∧ (((Bool.true = Bool.true) ∧ ((setOk (etaO (O.real.vget t0_3 (1 : Int))) (findDI (VT.mk t0 t0_1 t0_2 t0_3) (VT.mk t1 t1_1 t1_2 t1_3)) (VT.mk t2 t2_1 t2_2 t2_3)) ∧ True)) ∧ (((Bool.true = Bool.true) ∧ True) ∧ (((Bool.true = Bool.true) ∧ True) ∧ (((Bool.true = Bool.true) ∧ True) ∧ (((Bool.true = Bool.true) ∧ True) ∧ (((Bool.true = Bool.true) ∧ True) ∧ (((Bool.true = Bool.true) ∧ True) ∧ True)))))))))))))))))) ∧ Q (.inr ⟨(AV.tup [(AV.agg [(AV.int IntKind.i64 (VT.t (boundV (VT.mk (99 : Int) [] [] [(etaO (O.real.vget t0_3 (0 : Int))), (VT.mk (VT.t (setV (etaO (O.real.vget t0_3 (1 : Int))) (findDI (VT.mk t0 t0_1 t0_2 t0_3) (VT.mk t1 t1_1 t1_2 t1_3)) (VT.mk t2 t2_1 t2_2 t2_3))) (VT.n (setV (etaO (O.real.vget t0_3 (1 : Int))) (findDI (VT.mk t0 t0_1 t0_2 t0_3) (VT.mk t1 t1_1 t1_2 t1_3)) (VT.mk t2 t2_1 t2_2 t2_3))) (VT.s (setV (etaO (O.real.vget t0_3 (1 : Int))) (findDI (VT.mk t0 t0_1 t0_2 t0_3) (VT.mk t1 t1_1 t1_2 t1_3)) (VT.mk t2 t2_1 t2_2 t2_3))) (VT.l (setV (etaO (O.real.vget t0_3 (1 : Int))) (findDI (VT.mk t0 t0_1 t0_2 t0_3) (VT.mk t1 t1_1 t1_2 t1_3)) (VT.mk t2 t2_1 t2_2 t2_3))))]) (0 : Int)))), (AV.sl (LS.i IntKind.i64 (VT.n (boundV (VT.mk (99 : Int) [] [] [(etaO (O.real.vget t0_3 (0 : Int))), (VT.mk (VT.t (setV (etaO (O.real.vget t0_3 (1 : Int))) (findDI (VT.mk t0 t0_1 t0_2 t0_3) (VT.mk t1 t1_1 t1_2 t1_3)) (VT.mk t2 t2_1 t2_2 t2_3))) (VT.n (setV (etaO (O.real.vget t0_3 (1 : Int))) (findDI (VT.mk t0 t0_1 t0_2 t0_3) (VT.mk t1 t1_1 t1_2 t1_3)) (VT.mk t2 t2_1 t2_2 t2_3))) (VT.s (setV (etaO (O.real.vget t0_3 (1 : Int))) (findDI (VT.mk t0 t0_1 t0_2 t0_3) (VT.mk t1 t1_1 t1_2 t1_3)) (VT.mk t2 t2_1 t2_2 t2_3))) (VT.l (setV (etaO (O.real.vget t0_3 (1 : Int))) (findDI (VT.mk t0 t0_1 t0_2 t0_3) (VT.mk t1 t1_1 t1_2 t1_3)) (VT.mk t2 t2_1 t2_2 t2_3))))]) (0 : Int))))), (AV.sl (LS.s (VT.s (boundV (VT.mk (99 : Int) [] [] [(etaO (O.real.vget t0_3 (0 : Int))), (VT.mk (VT.t (setV (etaO (O.real.vget t0_3 (1 : Int))) (findDI (VT.mk t0 t0_1 t0_2 t0_3) (VT.mk t1 t1_1 t1_2 t1_3)) (VT.mk t2 t2_1 t2_2 t2_3))) (VT.n (setV (etaO (O.real.vget t0_3 (1 : Int))) (findDI (VT.mk t0 t0_1 t0_2 t0_3) (VT.mk t1 t1_1 t1_2 t1_3)) (VT.mk t2 t2_1 t2_2 t2_3))) (VT.s (setV (etaO (O.real.vget t0_3 (1 : Int))) (findDI (VT.mk t0 t0_1 t0_2 t0_3) (VT.mk t1 t1_1 t1_2 t1_3)) (VT.mk t2 t2_1 t2_2 t2_3))) (VT.l (setV (etaO (O.real.vget t0_3 (1 : Int))) (findDI (VT.mk t0 t0_1 t0_2 t0_3) (VT.mk t1 t1_1 t1_2 t1_3)) (VT.mk t2 t2_1 t2_2 t2_3))))]) (0 : Int))))), (AV.sl (LS.v (VT.l (boundV (VT.mk (99 : Int) [] [] [(etaO (O.real.vget t0_3 (0 : Int))), (VT.mk (VT.t (setV (etaO (O.real.vget t0_3 (1 : Int))) (findDI (VT.mk t0 t0_1 t0_2 t0_3) (VT.mk t1 t1_1 t1_2 t1_3)) (VT.mk t2 t2_1 t2_2 t2_3))) (VT.n (setV (etaO (O.real.vget t0_3 (1 : Int))) (findDI (VT.mk t0 t0_1 t0_2 t0_3) (VT.mk t1 t1_1 t1_2 t1_3)) (VT.mk t2 t2_1 t2_2 t2_3))) (VT.s (setV (etaO (O.real.vget t0_3 (1 : Int))) (findDI (VT.mk t0 t0_1 t0_2 t0_3) (VT.mk t1 t1_1 t1_2 t1_3)) (VT.mk t2 t2_1 t2_2 t2_3))) (VT.l (setV (etaO (O.real.vget t0_3 (1 : Int))) (findDI (VT.mk t0 t0_1 t0_2 t0_3) (VT.mk t1 t1_1 t1_2 t1_3)) (VT.mk t2 t2_1 t2_2 t2_3))))]) (0 : Int)))))]), (AV.int IntKind.i64 (boundE (VT.mk (99 : Int) [] [] [(etaO (O.real.vget t0_3 (0 : Int))), (VT.mk (VT.t (setV (etaO (O.real.vget t0_3 (1 : Int))) (findDI (VT.mk t0 t0_1 t0_2 t0_3) (VT.mk t1 t1_1 t1_2 t1_3)) (VT.mk t2 t2_1 t2_2 t2_3))) (VT.n (setV (etaO (O.real.vget t0_3 (1 : Int))) (findDI (VT.mk t0 t0_1 t0_2 t0_3) (VT.mk t1 t1_1 t1_2 t1_3)) (VT.mk t2 t2_1 t2_2 t2_3))) (VT.s (setV (etaO (O.real.vget t0_3 (1 : Int))) (findDI (VT.mk t0 t0_1 t0_2 t0_3) (VT.mk t1 t1_1 t1_2 t1_3)) (VT.mk t2 t2_1 t2_2 t2_3))) (VT.l (setV (etaO (O.real.vget t0_3 (1 : Int))) (findDI (VT.mk t0 t0_1 t0_2 t0_3) (VT.mk t1 t1_1 t1_2 t1_3)) (VT.mk t2 t2_1 t2_2 t2_3))))]) (0 : Int)))]), [], [], []⟩))) ∧ ((O.real.lt (findDI (VT.mk t0 t0_1 t0_2 t0_3) (VT.mk t1 t1_1 t1_2 t1_3)) (rCount (VT.mk t0 t0_1 t0_2 t0_3))) = false → ((((Bool.true = Bool.true) ∧ True) ∧ (((Bool.true = Bool.true) ∧ True) ∧ (((Bool.true = Bool.true) ∧ (((O.real.inb (0 : Int) (O.real.vlen t0_3))).p ∧ True)) ∧ (((Bool.true = Bool.true) ∧ True) ∧ (((Bool.true = Bool.true) ∧ True) ∧ (((Bool.true = Bool.true) ∧ ((appOk (etaO (O.real.vget t0_3 (0 : Int))) (VT.mk t1 t1_1 t1_2 t1_3)) ∧ True)) ∧ (((Bool.true = Bool.true) ∧ True) ∧ (((Bool.true = Bool.true) ∧ True) ∧ (((Bool.true = Bool.true) ∧ True) ∧ (((Bool.true = Bool.true) ∧ True) ∧ (((Bool.true = Bool.true) ∧ True) ∧ (((Bool.true = Bool.true) ∧ True) ∧ True)))))))))))) ∧ (((O.real.not (O.real.eq (appendE (etaO (O.real.vget t0_3 (0 : Int))) (VT.mk t1 t1_1 t1_2 t1_3)) (0 : Int))) = true → Q (.inr ⟨(AV.tup [(AV.agg [(AV.int IntKind.i64 (0 : Int)), AV.nils, AV.nils, AV.nils]), (AV.int IntKind.i64 (appendE (etaO (O.real.vget t0_3 (0 : Int))) (VT.mk t1 t1_1 t1_2 t1_3)))]), [], [], []⟩)) ∧ ((O.real.not (O.real.eq (appendE (etaO (O.real.vget t0_3 (0 : Int))) (VT.mk t1 t1_1 t1_2 t1_3)) (0 : Int))) = false → ((((Bool.true = Bool.true) ∧ True) ∧ (((Bool.true = Bool.true) ∧ True) ∧ (((Bool.true = Bool.true) ∧ (((O.real.inb (1 : Int) (O.real.vlen t0_3))).p ∧ True)) ∧ (((Bool.true = Bool.true) ∧ True) ∧ (((Bool.true = Bool.true) ∧ True) ∧ (((Bool.true = Bool.true) ∧ ((appOk (etaO (O.real.vget t0_3 (1 : Int))) (VT.mk t2 t2_1 t2_2 t2_3)) ∧ True)) ∧ (((Bool.true = Bool.true) ∧ True) ∧ (((Bool.true = Bool.true) ∧ True) ∧ (((Bool.true = Bool.true) ∧ True) ∧ (((Bool.true = Bool.true) ∧ True) ∧ (((Bool.true = Bool.true) ∧ True) ∧ (((Bool.true = Bool.true) ∧ True) ∧ True)))))))))))) ∧ Q (.inr ⟨(AV.tup [(AV.agg [(AV.int IntKind.i64 (VT.t (boundV (VT.mk (99 : Int) [] [] [(VT.mk (VT.t (appendV (etaO (O.real.vget t0_3 (0 : Int))) (VT.mk t1 t1_1 t1_2 t1_3))) (VT.n (appendV (etaO (O.real.vget t0_3 (0 : Int))) (VT.mk t1 t1_1 t1_2 t1_3))) (VT.s (appendV (etaO (O.real.vget t0_3 (0 : Int))) (VT.mk t1 t1_1 t1_2 t1_3))) (VT.l (appendV (etaO (O.real.vget t0_3 (0 : Int))) (VT.mk t1 t1_1 t1_2 t1_3)))), (VT.mk (VT.t (appendV (etaO (O.real.vget t0_3 (1 : Int))) (VT.mk t2 t2_1 t2_2 t2_3))) (VT.n (appendV (etaO (O.real.vget t0_3 (1 : Int))) (VT.mk t2 t2_1 t2_2 t2_3))) (VT.s (appendV (etaO (O.real.vget t0_3 (1 : Int))) (VT.mk t2 t2_1 t2_2 t2_3))) (VT.l (appendV (etaO (O.real.vget t0_3 (1 : Int))) (VT.mk t2 t2_1 t2_2 t2_3))))]) (appendE (etaO (O.real.vget t0_3 (1 : Int))) (VT.mk t2 t2_1 t2_2 t2_3))))), (AV.sl (LS.i IntKind.i64 (VT.n (boundV (VT.mk (99 : Int) [] [] [(VT.mk (VT.t (appendV (etaO (O.real.vget t0_3 (0 : Int))) (VT.mk t1 t1_1 t1_2 t1_3))) (VT.n (appendV (etaO (O.real.vget t0_3 (0 : Int))) (VT.mk t1 t1_1 t1_2 t1_3))) (VT.s (appendV (etaO (O.real.vget t0_3 (0 : Int))) (VT.mk t1 t1_1 t1_2 t1_3))) (VT.l (appendV (etaO (O.real.vget t0_3 (0 : Int))) (VT.mk t1 t1_1 t1_2 t1_3)))), (VT.mk (VT.t (appendV (etaO (O.real.vget t0_3 (1 : Int))) (VT.mk t2 t2_1 t2_2 t2_3))) (VT.n (appendV (etaO (O.real.vget t0_3 (1 : Int))) (VT.mk t2 t2_1 t2_2 t2_3))) (VT.s (appendV (etaO (O.real.vget t0_3 (1 : Int))) (VT.mk t2 t2_1 t2_2 t2_3))) (VT.l (appendV (etaO (O.real.vget t0_3 (1 : Int))) (VT.mk t2 t2_1 t2_2 t2_3))))]) (appendE (etaO (O.real.vget t0_3 (1 : Int))) (VT.mk t2 t2_1 t2_2 t2_3)))))), (AV.sl (LS.s (VT.s (boundV (VT.mk (99 : Int) [] [] [(VT.mk (VT.t (appendV (etaO (O.real.vget t0_3 (0 : Int))) (VT.mk t1 t1_1 t1_2 t1_3))) (VT.n (appendV (etaO (O.real.vget t0_3 (0 : Int))) (VT.mk t1 t1_1 t1_2 t1_3))) (VT.s (appendV (etaO (O.real.vget t0_3 (0 : Int))) (VT.mk t1 t1_1 t1_2 t1_3))) (VT.l (appendV (etaO (O.real.vget t0_3 (0 : Int))) (VT.mk t1 t1_1 t1_2 t1_3)))), (VT.mk (VT.t (appendV (etaO (O.real.vget t0_3 (1 : Int))) (VT.mk t2 t2_1 t2_2 t2_3))) (VT.n (appendV (etaO (O.real.vget t0_3 (1 : Int))) (VT.mk t2 t2_1 t2_2 t2_3))) (VT.s (appendV (etaO (O.real.vget t0_3 (1 : Int))) (VT.mk t2 t2_1 t2_2 t2_3))) (VT.l (appendV (etaO (O.real.vget t0_3 (1 : Int))) (VT.mk t2 t2_1 t2_2 t2_3))))]) (appendE (etaO (O.real.vget t0_3 (1 : Int))) (VT.mk t2 t2_1 t2_2 t2_3)))))), (AV.sl (LS.v (VT.l (boundV (VT.mk (99 : Int) [] [] [(VT.mk (VT.t (appendV (etaO (O.real.vget t0_3 (0 : Int))) (VT.mk t1 t1_1 t1_2 t1_3))) (VT.n (appendV (etaO (O.real.vget t0_3 (0 : Int))) (VT.mk t1 t1_1 t1_2 t1_3))) (VT.s (appendV (etaO (O.real.vget t0_3 (0 : Int))) (VT.mk t1 t1_1 t1_2 t1_3))) (VT.l (appendV (etaO (O.real.vget t0_3 (0 : Int))) (VT.mk t1 t1_1 t1_2 t1_3)))), (VT.mk (VT.t (appendV (etaO (O.real.vget t0_3 (1 : Int))) (VT.mk t2 t2_1 t2_2 t2_3))) (VT.n (appendV (etaO (O.real.vget t0_3 (1 : Int))) (VT.mk t2 t2_1 t2_2 t2_3))) (VT.s (appendV (etaO (O.real.vget t0_3 (1 : Int))) (VT.mk t2 t2_1 t2_2 t2_3))) (VT.l (appendV (etaO (O.real.vget t0_3 (1 : Int))) (VT.mk t2 t2_1 t2_2 t2_3))))]) (appendE (etaO (O.real.vget t0_3 (1 : Int))) (VT.mk t2 t2_1 t2_2 t2_3))))))]), (AV.int IntKind.i64 (boundE (VT.mk (99 : Int) [] [] [(VT.mk (VT.t (appendV (etaO (O.real.vget t0_3 (0 : Int))) (VT.mk t1 t1_1 t1_2 t1_3))) (VT.n (appendV (etaO (O.real.vget t0_3 (0 : Int))) (VT.mk t1 t1_1 t1_2 t1_3))) (VT.s (appendV (etaO (O.real.vget t0_3 (0 : Int))) (VT.mk t1 t1_1 t1_2 t1_3))) (VT.l (appendV (etaO (O.real.vget t0_3 (0 : Int))) (VT.mk t1 t1_1 t1_2 t1_3)))), (VT.mk (VT.t (appendV (etaO (O.real.vget t0_3 (1 : Int))) (VT.mk t2 t2_1 t2_2 t2_3))) (VT.n (appendV (etaO (O.real.vget t0_3 (1 : Int))) (VT.mk t2 t2_1 t2_2 t2_3))) (VT.s (appendV (etaO (O.real.vget t0_3 (1 : Int))) (VT.mk t2 t2_1 t2_2 t2_3))) (VT.l (appendV (etaO (O.real.vget t0_3 (1 : Int))) (VT.mk t2 t2_1 t2_2 t2_3))))]) (appendE (etaO (O.real.vget t0_3 (1 : Int))) (VT.mk t2 t2_1 t2_2 t2_3))))]), [], [], []⟩)))))))))))))))))) := by kernel_rfl
end Go.Qv
/- Dictionaries: what is put: contracts. No condition. -/
set_option linter.unusedVariables false
set_option linter.unusedSimpArgs false
set_option maxRecDepth 100000
namespace Go.Qv
open Go Go.RowKit Go.Proofs
theorem wneg {t : Int} (h : 0 ≤ t ∧ t ≤ 5) : IntKind.i64.wrap (0 - t) = -t := by rw [w64 (by omega) (by omega)]; omega
theorem set_sym {n s l i x} (hx : x.t = -3) : setV (.mk 3 n s l) i x = .mk 3 n (s.set i.toNat (x.s.getD 0 ⟨#[]⟩)) l := by
  unfold setV
  rw [if_pos ⟨by show ¬ (3 : Int) = 0; omega, hx⟩, if_pos (show (VT.mk 3 n s l).t = 3 from rfl)]; rfl
theorem set_num {t n s l i x} (h0 : t ≠ 0) (h3 : t ≠ 3) (hx : x.t = -t) : setV (.mk t n s l) i x = .mk t (n.set i.toNat (x.n.getD 0 0)) s l := by
  unfold setV
  rw [if_pos ⟨h0, hx⟩, if_neg (show ¬ (VT.mk t n s l).t = 3 from h3)]; rfl
theorem set_list {v i x} (h : ¬ (v.t ≠ 0 ∧ x.t = -v.t)) : setV v i x = ofV ((eachs v).set i.toNat x) := if_neg h
theorem okSet : Pure1 Tryz.prog 51 spSet := by
  intro xs F w cs R ha h
  obtain ⟨x, i, y, a, b, rfl, h1, h2, h⟩ := onVnV_inv h
  obtain ⟨ho, h⟩ := when_inv h
  have ha := ha.conv3 (fun v => as_V h1) (fun v h => h) (fun v => as_V h2)
  obtain ⟨t, n, s, l⟩ := a
  obtain ⟨t', n', s', l'⟩ := b
  obtain ⟨o1, o2, o3, o4, o7, o5, o6⟩ := ho
  have o2 : 0 ≤ t ∧ t ≤ 5 := o2
  have hel : (eachs (.mk t n s l)).length = (rCount (.mk t n s l)).toNat := eachs_len _
  have hlb := (cnt_bk (.mk t n s l)).2 o2
  have ht' : (VT.mk t n s l).bk ≤ 1073741824 := o1
  refine contract (fn := Tryz.f51) (inl_ok mixed tbOk fnsOk (effOrc_ok (EffOk.also oke90 (EffOk.also oke50 (EffOk.none _))) (PureOk.also ok68 (PureOk.none _))) 14) (by kernel_rfl) w51C_ok (by rfl) (by rfl) (by rfl) (by rfl) (by rfl) ha (ρ := [.int t, .is n, .ss s, .vs l, .int i, .int t', .is n', .ss s', .vs l']) (Rh.go (w51_9999 t n s l i t' n' s' l' _) ?_) h
  simp only [SQ, RhQ, eq_self, implies_true, forall_const, VT.eta, if_true, if_false]
  rw [wneg o2]
  refine ⟨fun hh => ?_, fun hh => ?_⟩
  · obtain ⟨h0, hx⟩ := hh
    obtain ⟨p1, p2, p3⟩ := o5 ⟨h0, hx⟩
    have p1 : l = [] := p1
    subst p1
    refine ⟨⟨o1, rfl, fun e => ?_, fun e => ?_⟩, fun hs => ?_, fun hs => ?_⟩
    · have := (p2 e).2; have e2 : rCount (.mk t n s []) = s.length := this; show 0 < s.length; omega
    · have := (p3 e).2; have e2 : rCount (.mk t n s []) = n.length := this; show 0 < n.length; omega
    · have ht : t = 3 := of_decide_eq_true hs
      subst ht
      have q := p2 rfl
      have q1 : 0 < s'.length := q.1
      have q2 : rCount (.mk 3 n s []) = s.length := q.2
      refine ⟨fun _ => ⟨⟨⟨by omega, by omega⟩, ⟨by omega, by omega⟩, ⟨by omega, by omega⟩⟩, Ret.v (set_sym (x := .mk t' n' s' l') hx) rfl⟩, fun h => absurd rfl h⟩
    · have ht : t ≠ 3 := of_decide_eq_false hs
      have q := p3 ht
      have q1 : 0 < n'.length := q.1
      have q2 : rCount (.mk t n s []) = n.length := q.2
      refine ⟨fun h => absurd h ht, fun _ => ⟨⟨⟨by omega, by omega⟩, ⟨by omega, by omega⟩, ⟨by omega, by omega⟩⟩, Ret.v (set_num (x := .mk t' n' s' l') h0 ht hx) rfl⟩⟩
  · have hn : ¬ ((VT.mk t n s l).t ≠ 0 ∧ (VT.mk t' n' s' l').t = -(VT.mk t n s l).t) := fun h => by
      have h1 : t ≠ 0 := h.1
      have h2 : t' = -t := h.2
      rcases hh with hh | hh
      · exact h1 hh
      · exact hh h2
    refine ⟨⟨o1, part_ok2 o2, by omega⟩, ⟨by omega, by omega⟩, ⟨by omega, by omega⟩, o6, Ret.v (set_list hn) rfl⟩
theorem app_bad {v x : VT} (h : partB v = false ∨ x.t = 101) : appendV v x = zeroV ∧ appendE v x = 31 := by unfold appendV appendE; rw [if_pos h, if_pos h]; exact ⟨rfl, rfl⟩
theorem app_many {v x : VT} (h : ¬ (partB v = false ∨ x.t = 101)) (h2 : 65536 ≤ rCount v) : appendV v x = zeroV ∧ appendE v x = 6 := by unfold appendV appendE; rw [if_neg h, if_neg h, if_pos h2, if_pos h2]; exact ⟨rfl, rfl⟩
theorem app_join {v x : VT} (h : ¬ (partB v = false ∨ x.t = 101)) (h2 : ¬ 65536 ≤ rCount v) (h3 : v.t ≠ 0 ∧ x.t = -v.t) : appendV v x = joinV [v, x] ∧ appendE v x = joinE [v, x] := by
  unfold appendV appendE; rw [if_neg h, if_neg h, if_neg h2, if_neg h2, if_pos h3, if_pos h3]; exact ⟨rfl, rfl⟩
theorem app_list {v x : VT} (h : ¬ (partB v = false ∨ x.t = 101)) (h2 : ¬ 65536 ≤ rCount v) (h3 : ¬ (v.t ≠ 0 ∧ x.t = -v.t)) : appendV v x = boundV (moreV v x) 0 ∧ appendE v x = boundE (moreV v x) 0 := by
  unfold appendV appendE; rw [if_neg h, if_neg h, if_neg h2, if_neg h2, if_neg h3, if_neg h3]; exact ⟨rfl, rfl⟩
theorem okApp : Pure1 Tryz.prog 52 spApp := by
  intro xs F w cs R ha h
  obtain ⟨x, y, a, b, rfl, h1, h2, h⟩ := onVV_inv h
  obtain ⟨ho, h⟩ := when_inv h
  have ha := ha.conv2 (fun v => as_V h1) (fun v => as_V h2)
  obtain ⟨t, n, s, l⟩ := a
  obtain ⟨t', n', s', l'⟩ := b
  refine contract (fn := Tryz.f52) (inl_ok mixed tbOk fnsOk (effOrc_ok (EffOk.also oke90 (EffOk.none _)) (PureOk.also ok59 (PureOk.also ok47 (PureOk.also ok91 (PureOk.also ok68 (PureOk.also okBound (PureOk.none _))))))) 14) (by kernel_rfl) w52C_ok (by rfl) (by rfl) (by rfl) (by rfl) (by rfl) ha (ρ := [.int t, .is n, .ss s, .vs l, .int t', .is n', .ss s', .vs l']) (Rh.go (w52_9999 t n s l t' n' s' l' _) ?_) h
  simp only [SQ, RhQ, eq_self, implies_true, forall_const, VT.eta, if_true, if_false, List.length_cons, List.length_nil]
  refine ⟨fun hh => Ret.ve (app_bad hh).1 (app_bad hh).2 rfl, fun hh => ?_⟩
  obtain ⟨hp, hx⟩ := hh
  have hb : ¬ (partB (.mk t n s l) = false ∨ (VT.mk t' n' s' l').t = 101) := fun h => by
    rcases h with h | h
    · rw [hp] at h; cases h
    · exact hx h
  obtain ⟨o1, o2, o3⟩ := ho hp
  have hp' : 0 ≤ t ∧ t ≤ 5 := partB_iff.1 hp
  rw [wneg hp']
  refine ⟨fun hm => Ret.ve (app_many hb hm).1 (app_many hb hm).2 rfl, fun hm => ?_⟩
  have hm : ¬ 65536 ≤ rCount (.mk t n s l) := by omega
  refine ⟨fun h3 => ⟨o2, Ret.ve (app_join hb hm h3).1 (app_join hb hm h3).2 rfl⟩, fun h3 => ?_⟩
  have h3 : ¬ ((VT.mk t n s l).t ≠ 0 ∧ (VT.mk t' n' s' l').t = -(VT.mk t n s l).t) := fun h => by
    have h1 : t ≠ 0 := h.1
    have h2 : t' = -t := h.2
    rcases h3 with h3 | h3
    · exact h1 h3
    · exact h3 h2
  have hel : (eachs (.mk t n s l)).length = (rCount (.mk t n s l)).toNat := eachs_len _
  exact ⟨⟨o1, by omega, o3⟩, Ret.ve (app_list hb hm h3).1 (app_list hb hm h3).2 rfl⟩
theorem put_bad {d x y : VT} (h : isD d = false ∨ x.t = 101 ∨ y.t = 101) : putV d x y = zeroV ∧ putE d x y = 31 := by unfold putV putE; rw [if_pos h, if_pos h]; exact ⟨rfl, rfl⟩
theorem put_there {d x y : VT} (h : ¬ (isD d = false ∨ x.t = 101 ∨ y.t = 101)) (h2 : findDI d x < rCount d) : putV d x y = boundV (put1 d x y) 0 ∧ putE d x y = boundE (put1 d x y) 0 := by
  unfold putV putE; rw [if_neg h, if_neg h, if_pos h2, if_pos h2]; exact ⟨rfl, rfl⟩
theorem put_key {d x y : VT} (h : ¬ (isD d = false ∨ x.t = 101 ∨ y.t = 101)) (h2 : ¬ findDI d x < rCount d) (h3 : appendE (keyV d) x ≠ 0) : putV d x y = zeroV ∧ putE d x y = appendE (keyV d) x := by
  unfold putV putE; rw [if_neg h, if_neg h, if_neg h2, if_neg h2, if_pos h3, if_pos h3]; exact ⟨rfl, rfl⟩
theorem put_new {d x y : VT} (h : ¬ (isD d = false ∨ x.t = 101 ∨ y.t = 101)) (h2 : ¬ findDI d x < rCount d) (h3 : ¬ appendE (keyV d) x ≠ 0) : putV d x y = boundV (put2 d x y) (appendE (side1 d) y) ∧ putE d x y = boundE (put2 d x y) (appendE (side1 d) y) := by
  unfold putV putE; rw [if_neg h, if_neg h, if_neg h2, if_neg h2, if_neg h3, if_neg h3]; exact ⟨rfl, rfl⟩
theorem okPut : Pure1 Tryz.prog 11 spPut := by
  intro xs F w cs R ha h
  obtain ⟨x, y, z, a, b, c, rfl, h1, h2, h3, h⟩ := onV3V_inv h
  obtain ⟨ho, h⟩ := when_inv h
  have ha := ha.conv3 (fun v => as_V h1) (fun v => as_V h2) (fun v => as_V h3)
  obtain ⟨t, n, s, l⟩ := a
  obtain ⟨t', n', s', l'⟩ := b
  obtain ⟨t2, n2, s2, l2⟩ := c
  obtain ⟨o1, o2, o3⟩ := ho
  refine contract (fn := Tryz.f11) (walked (PureOk.also ok46 (PureOk.also ok16 (PureOk.also ok47 (PureOk.also ok50 (PureOk.also okSet (PureOk.also okApp (PureOk.also okBound (PureOk.none _)))))))) 14) (by kernel_rfl) w11C_ok (by rfl) (by rfl) (by rfl) (by rfl) (by rfl) ha (ρ := [.int t, .is n, .ss s, .vs l, .int t', .is n', .ss s', .vs l', .int t2, .is n2, .ss s2, .vs l2]) (Rh.go (w11_9999 t n s l t' n' s' l' t2 n2 s2 l2 _) ?_) h
  simp only [SQ, RhQ, eq_self, implies_true, forall_const, VT.eta, if_true, if_false]
  refine ⟨o1, fun hh => ?_, fun hh => ?_⟩
  · have hb : isD (.mk t n s l) = false ∨ (VT.mk t' n' s' l').t = 101 ∨ (VT.mk t2 n2 s2 l2).t = 101 := by
      rcases hh with (hh | hh) | hh
      · exact .inl hh
      · exact .inr (.inl hh)
      · exact .inr (.inr hh)
    exact Ret.ve (put_bad hb).1 (put_bad hb).2 rfl
  · obtain ⟨⟨hd, hx⟩, hy⟩ := hh
    have hb : ¬ (isD (.mk t n s l) = false ∨ (VT.mk t' n' s' l').t = 101 ∨ (VT.mk t2 n2 s2 l2).t = 101) := fun h => by
      rcases h with h | h | h
      · rw [hd] at h; cases h
      · exact hx h
      · exact hy h
    obtain ⟨p1, p2, p3⟩ := o3 hd
    obtain ⟨q1, q2⟩ := isD_yes hd
    have hl : l.length = 2 := o1 q1
    have m0 := getD_mem l default (i := 0) (by omega)
    refine ⟨o1, o2, fun hf => ?_, fun hf => ?_⟩
    · exact ⟨⟨⟨by omega, by omega⟩, o2.mem m0, ⟨by omega, by omega⟩, p3 hf⟩, Ret.ve (put_there hb hf).1 (put_there hb hf).2 rfl⟩
    · have hf : ¬ findDI (.mk t n s l) (.mk t' n' s' l') < rCount (.mk t n s l) := by omega
      refine ⟨⟨⟨by omega, by omega⟩, p1⟩, fun h3 => Ret.ve (put_key hb hf h3).1 (put_key hb hf h3).2 rfl, fun h3 => ?_⟩
      have h3 : ¬ appendE (keyV (.mk t n s l)) (.mk t' n' s' l') ≠ 0 := fun h => h h3
      exact ⟨⟨⟨by omega, by omega⟩, p2⟩, Ret.ve (put_new hb hf h3).1 (put_new hb hf h3).2 rfl⟩
end Go.Qv
/- Dictionaries: what was put is there: plain facts. No condition. -/
set_option linter.unusedVariables false
set_option linter.unusedSimpArgs false
set_option maxRecDepth 100000
namespace Go.Qv
open Go Go.RowKit Go.Proofs
/-- A sequence and its elements. -/
structure El (v : VT) (L : List VT) : Prop where
  part : partP v
  cnt : rCount v = L.length
  at_ : ∀ k : Nat, k < L.length → atV v (k : Int) = L.getD k default
theorem El.self {v : VT} (h : partP v) : El v (eachs v) := by
  have h0 := rCount_nn v
  refine ⟨h, by rw [eachs_len]; omega, fun k hk => (eachs_at (by rw [eachs_len] at hk; exact hk)).symm⟩
theorem El.eq {v : VT} {L : List VT} (h : El v L) : eachs v = L := by
  have h1 := El.self h.part
  have hl : (eachs v).length = L.length := by have := h1.cnt; have := h.cnt; omega
  refine List.ext_getElem hl (fun k a b => ?_)
  have e1 := h1.at_ k a
  have e2 := h.at_ k b
  rw [e1] at e2
  rwa [List.getD_eq_getElem?_getD, List.getElem?_eq_getElem a, List.getD_eq_getElem?_getD, List.getElem?_eq_getElem b] at e2
theorem vecN_El {t : Int} (ht : 1 ≤ t ∧ t ≤ 5) (h3 : t ≠ 3) (n s l) : El (.mk t n s l) (n.map fun m => .mk (-t) [m] [] []) := by
  refine ⟨show 0 ≤ t ∧ t ≤ 5 by omega, by rw [cnt_n h3 ht, List.length_map], fun k hk => ?_⟩
  rw [List.length_map] at hk
  obtain ⟨e1, e2, _⟩ := flatAt (v := .mk t n s l) (show 0 ≤ t ∧ t ≤ 5 by omega) (k := (k : Int)) (by omega) (by rw [cnt_n h3 ht]; omega)
  rw [e1, e2, at0_n h3 ht, atomV_t ht h3, Int.toNat_natCast, List.getD_eq_getElem?_getD, List.getD_eq_getElem?_getD, List.getElem?_map, List.getElem?_eq_getElem hk]; rfl
theorem vecS_El (n s l) : El (.mk 3 n s l) (s.map fun m => .mk (-3) [] [m] []) := by
  refine ⟨show (0 : Int) ≤ 3 ∧ (3 : Int) ≤ 5 by omega, by rw [cnt_s, List.length_map], fun k hk => ?_⟩
  rw [List.length_map] at hk
  obtain ⟨e1, e2, _⟩ := flatAt (v := .mk 3 n s l) (show (0 : Int) ≤ 3 ∧ (3 : Int) ≤ 5 by omega) (k := (k : Int)) (by omega) (by rw [cnt_s]; omega)
  rw [e1, e2, at0_s, Int.toNat_natCast, List.getD_eq_getElem?_getD, List.getD_eq_getElem?_getD, List.getElem?_map, List.getElem?_eq_getElem hk]; rfl
theorem list_El (n s l) : El (.mk 0 n s l) l := by
  refine ⟨show (0 : Int) ≤ 0 ∧ (0 : Int) ≤ 5 by omega, by rw [cnt_l], fun k hk => ?_⟩
  obtain ⟨e1, e2, _⟩ := flatAt (v := .mk 0 n s l) (show (0 : Int) ≤ 0 ∧ (0 : Int) ≤ 5 by omega) (k := (k : Int)) (by omega) (by rw [cnt_l]; omega)
  rw [e1, e2, at0_l, Int.toNat_natCast]
/-- An atom of a vector's kind. -/
def AtomOf (t : Int) (x : VT) : Prop := (t = 3 → ∃ s, x = .mk (-3) [] [s] []) ∧ (t ≠ 3 → ∃ n, x = .mk (-t) [n] [] [])
theorem atom_of {t : Int} {x : VT} (ht : 1 ≤ t ∧ t ≤ 5) (hx : x.t = -t) (hg : x.Good) (hb : x.bk ≤ 1073741824) : AtomOf t x := by
  obtain ⟨t', n, s, l⟩ := x
  have hx : t' = -t := hx
  subst hx
  have ha : rAbs (-t) = t := by unfold rAbs; rw [if_pos (by omega)]; first | omega | (rw [w64 (by omega) (by omega)]; omega)
  obtain ⟨f1, f2, f3, _, _, f6⟩ := good_flat hg (by rw [ha]; exact ht)
  rw [ha] at f2 f3
  have hw := f6 (by omega)
  have hs := len_strs s
  rw [VT.bk_eq] at hb
  rw [w64 (by omega) (by omega)] at hw
  subst f1
  refine ⟨fun e => ?_, fun e => ?_⟩
  · have n0 := (f2 e).1
    subst n0
    subst e
    match s, hw with
    | [y], _ => exact ⟨y, rfl⟩
    | [], hw => simp at hw
    | _ :: _ :: _, hw => simp at hw; omega
  · have s0 := f3 e
    subst s0
    match n, hw with
    | [y], _ => exact ⟨y, rfl⟩
    | [], hw => simp at hw
    | _ :: _ :: _, hw => simp at hw; omega
theorem atoms_s : ∀ L : List VT, (∀ x ∈ L, AtomOf 3 x) → (L.flatMap VT.s).map (fun m => VT.mk (-3) [] [m] []) = L
  | [], _ => rfl
  | x :: L, h => by
    obtain ⟨s, rfl⟩ := (h _ List.mem_cons_self).1 rfl
    rw [List.flatMap_cons, List.map_append, atoms_s L (fun y hy => h y (List.mem_cons_of_mem _ hy))]; rfl
theorem atoms_n {t : Int} (h3 : t ≠ 3) : ∀ L : List VT, (∀ x ∈ L, AtomOf t x) → (L.flatMap VT.n).map (fun m => VT.mk (-t) [m] [] []) = L
  | [], _ => rfl
  | x :: L, h => by
    obtain ⟨n, rfl⟩ := (h _ List.mem_cons_self).2 h3
    rw [List.flatMap_cons, List.map_append, atoms_n h3 L (fun y hy => h y (List.mem_cons_of_mem _ hy))]; rfl
theorem ofV_El {L : List VT} (h : ∀ x ∈ L, x.Good ∧ x.bk ≤ 1073741824) : El (ofV L) L := by
  cases hb : alikeB L with
  | false => rw [ofV_list hb]; exact list_El [] [] L
  | true =>
    obtain ⟨p1, p2⟩ := alikeB_pos hb
    obtain ⟨t, ht⟩ : ∃ t, t = -(L.getD 0 default).t := ⟨_, rfl⟩
    have h0 := (p2 _ (getD_mem L default p1)).1
    unfold isAtomT at h0
    have h15 : 1 ≤ t ∧ t ≤ 5 := by omega
    have ha : ∀ x ∈ L, AtomOf t x := fun x hx => atom_of h15 (by rw [(p2 x hx).2]; omega) (h x hx).1 (h x hx).2
    rw [ofV_vec hb, ← ht]
    by_cases h3 : t = 3
    · subst h3
      have := vecS_El (L.flatMap VT.n) (L.flatMap VT.s) []
      rw [atoms_s L ha] at this; exact this
    · have := vecN_El h15 h3 (L.flatMap VT.n) (L.flatMap VT.s) []
      rw [atoms_n h3 L ha] at this; exact this
/-- The elements of a value are values. -/
theorem eachs_good {v : VT} (hg : v.Good) (hp : partP v) (hb : v.bk ≤ 26214800) : ∀ x ∈ eachs v, x.Good ∧ x.bk ≤ 26214800 := by
  obtain ⟨t, n, s, l⟩ := v
  have hp : 0 ≤ t ∧ t ≤ 5 := hp
  intro x hx
  by_cases h0 : t = 0
  · subst h0
    rw [(list_El n s l).eq] at hx
    rw [VT.bk_eq] at hb
    have := bk_mem hx
    cases hg with
    | mk _ _ _ _ g1 g2 g3 g4 g5 g6 g7 g8 g9 => exact ⟨g9 x hx, by omega⟩
  · obtain ⟨k, hk, rfl⟩ := List.getElem_of_mem hx
    have hk' : k < (rCount (.mk t n s l)).toNat := by rw [eachs_len] at hk; exact hk
    have e : (eachs (.mk t n s l))[k] = atV (.mk t n s l) k := by
      have := eachs_at hk'
      rwa [List.getD_eq_getElem?_getD, List.getElem?_eq_getElem hk] at this
    rw [e]
    refine ⟨vec_elem hg (show 1 ≤ t ∧ t ≤ 5 by omega) (by omega) (by omega), ?_⟩
    have hf := (flatAt (v := .mk t n s l) hp (k := (k : Int)) (by omega) (by omega)).1
    rw [hf]
    exact Nat.le_trans (at1V_bk _ _) hb
theorem joinJ2 {t n s l x} (ht : 1 ≤ t ∧ t ≤ 5) (hx : x.t = -t) (he : joinE [.mk t n s l, x] = 0) : joinV [.mk t n s l, x] = .mk t (n ++ x.n) (s ++ x.s) [] := by
  by_cases h1 : 65536 < sumJ [.mk t n s l, x]
  · rw [(joinR_many h1).2] at he; cases he
  by_cases h2 : 0 ≤ nilIdx [.mk t n s l, x] 0
  · rw [(joinR_nil h1 h2).2] at he; cases he
  have hb1 : baseI (.mk t n s l) = t := by rw [baseI_mk, if_neg (by omega)]
  have hb2 : baseI x = t := by
    obtain ⟨t', n', s', l'⟩ := x
    have hx : t' = -t := hx
    subst hx
    rw [baseI_mk, if_pos (by omega), w64 (by omega) (by omega)]; omega
  have hf1 : flatB (.mk t n s l) = true := by rw [flatB_mk]; exact decide_eq_true (.inl ht)
  have hf2 : flatB x = true := by
    obtain ⟨t', n', s', l'⟩ := x
    have hx : t' = -t := hx
    rw [flatB_mk]; exact decide_eq_true (.inr (by omega))
  have h3 : alikeJ [.mk t n s l, x] = true := by
    unfold alikeJ allJ
    simp [hb1, hb2, hf1, hf2]
  rw [(joinR_alike h1 h2 h3).1]
  show VT.mk (baseI (.mk t n s l)) _ _ [] = _
  rw [hb1]
  simp [List.flatMap_cons, VT.n, VT.s]
theorem bks_set : ∀ (l : List VT) (i : Nat) (y : VT), bks (l.set i y) ≤ bks l + y.bk
  | [], _, _ => by simp [bks]
  | x :: l, 0, y => by simp only [List.set_cons_zero, bks_cons]; omega
  | x :: l, i + 1, y => by have := bks_set l i y; simp only [List.set_cons_succ, bks_cons]; omega
/-! ### the first place -/
theorem find_facts {v x : VT} {L : List VT} (h : El v L) : 0 ≤ findG v x ∧ findG v x ≤ L.length ∧ (findG v x < L.length → L.getD (findG v x).toNat default = x) ∧ ∀ j : Nat, (j : Int) < findG v x → L.getD j default ≠ x := by
  obtain ⟨g1, g2, g3, g4⟩ := findG_spec v x
  rw [h.cnt] at g2 g3
  have e : findG v x = ((findG v x).toNat : Int) := by omega
  refine ⟨g1, g2, fun hl => ?_, fun j hj hx => ?_⟩
  · have := veq_iff.1 (g3 hl)
    rw [e, h.at_ _ (by omega)] at this
    exact this.symm
  · have h1 := g4 j hj
    rw [h.at_ j (by omega), hx, veq_self] at h1
    cases h1
theorem find_is {v x : VT} {L : List VT} (h : El v L) {k : Nat} (hk : k ≤ L.length) (hx : k < L.length → L.getD k default = x) (hb : ∀ j, j < k → L.getD j default ≠ x) : findG v x = k := by
  obtain ⟨f1, f2, f3, f4⟩ := find_facts (x := x) h
  rcases Int.lt_trichotomy (findG v x) k with h1 | h1 | h1
  · exact absurd (f3 (by omega)) (hb _ (by omega))
  · exact h1
  · exact absurd (hx (by omega)) (f4 k h1)
end Go.Qv
