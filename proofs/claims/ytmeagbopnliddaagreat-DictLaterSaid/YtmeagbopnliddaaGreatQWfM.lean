/- Walks of readers: elements, one by one. (Printed.) -/
import Derived.Test.YtmeagbopnliddaaGreatQPk
import Derived.Test.YtmeagbopnliddaaGreatQRlM
set_option linter.unusedVariables false
set_option maxRecDepth 100000
namespace Go.Qv
open Go Go.RowKit
noncomputable def w67C : List Cut := [(⟨9999, ⟨[(0, (.agg [(.int .i64), (.sl (.i .i64)), (.sl .s), (.sl .v)]))], [], 0, 6⟩, [It.code (bodyOf Go.Proofs.Tryz.f67)], []⟩ : Cut)]
theorem w67C_ok : cutsOk w67C = true := by kernel_rfl
noncomputable def w67S  : Nat × List Lf → T Gt := stepX O.real Go.Qv.tb (inl O.real Go.Qv.tb Go.Qv.fns (pureOrc (PS.also 50 sp50f PS.none)) (fun f => Nat.beq f 50) (fun _ => false) 300 14) Go.Proofs.Tryz.f67.results ([]) 0 w67C
theorem w67_9999  (t0 : Int) (t0_1 : List Int) (t0_2 : List ByteArray) (t0_3 : List VT) (Q : Gt → Prop) : T.ob noB Q (.S (.S .E)) (w67S  (9999, [Lf.int t0, Lf.is t0_1, Lf.ss t0_2, Lf.vs t0_3])) =
  ((tame (VT.mk t0 t0_1 t0_2 t0_3)) ∧ Q (.inr ⟨(AV.fn 107 [(AV.ptr 0 0)]), [], [], [(HObj.cells [(AV.int IntKind.i64 t0), (AV.sl (LS.i IntKind.i64 t0_1)), (AV.sl (LS.s t0_2)), (AV.sl (LS.v t0_3))])]⟩)) := by kernel_rfl

theorem w107A (yv : Value) (t : Int) (n : List Int) (s : List ByteArray) (l : List VT) (Q : List AV → Prop) : T.ob noB Q (.S (.S .E)) (eachA O.real Go.Qv.tb (inl O.real Go.Qv.tb Go.Qv.fns (pureOrc (PS.also 47 sp47f (PS.also 54 sp54 PS.none))) (fun f => Nat.beq f 47 || Nat.beq f 54) (fun _ => false) 300 14) Go.Proofs.Tryz.f107 (codeAt Go.Proofs.Tryz.f107 1) [.raw yv, (AV.rp [.int .i64 t, .sl (.i .i64 n), .sl (.s s), .sl (.v l)])] [0, 1, 7, 8]) =
  ((codeAt Go.Proofs.Tryz.f107 1 = codeAt Go.Proofs.Tryz.f107 1) ∧ Q [(AV.raw yv), (AV.rp [(AV.int IntKind.i64 t), (AV.sl (LS.i IntKind.i64 n)), (AV.sl (LS.s s)), (AV.sl (LS.v l))]), (AV.int IntKind.i64 (rCount (VT.mk t n s l))), (AV.int IntKind.i64 (0 : Int))]) := by kernel_rfl

theorem w107B (yv : Value) (t : Int) (n : List Int) (s : List ByteArray) (l : List VT) (c k : Int) (Q : Option (List AV) → Prop) : T.ob noB Q (.B (.S (.S (.S (.S .E)))) (.S .E)) (eachB O.real Go.Qv.tb (inl O.real Go.Qv.tb Go.Qv.fns (pureOrc (PS.also 47 sp47f (PS.also 54 sp54 PS.none))) (fun f => Nat.beq f 47 || Nat.beq f 54) (fun _ => false) 300 14) Go.Proofs.Tryz.f107 (codeAt Go.Proofs.Tryz.f107 1) (codeAt Go.Proofs.Tryz.f107 4) [4] 3 [(0, none, .raw yv), (1, none, (AV.rp [.int .i64 t, .sl (.i .i64 n), .sl (.s s), .sl (.v l)])), (7, none, .int .i64 c), (8, none, .int .i64 k)] [0, 1, 7, 8, 17, 18, 19]) =
  (((O.real.lt k c) = true → ((tame (VT.mk t n s l)) ∧ ((ok2 (VT.mk t n s l)) ∧ ((codeAt Go.Proofs.Tryz.f107 4 = codeAt Go.Proofs.Tryz.f107 4) ∧ Q (Option.some [(AV.raw yv), (AV.rp [(AV.int IntKind.i64 t), (AV.sl (LS.i IntKind.i64 n)), (AV.sl (LS.s s)), (AV.sl (LS.v l))]), (AV.int IntKind.i64 c), (AV.int IntKind.i64 k), (AV.raw yv), (AV.int IntKind.i64 k), (AV.agg [(AV.int IntKind.i64 (VT.t (atV (VT.mk t n s l) k))), (AV.sl (LS.i IntKind.i64 (VT.n (atV (VT.mk t n s l) k)))), (AV.sl (LS.s (VT.s (atV (VT.mk t n s l) k)))), (AV.sl (LS.v (VT.l (atV (VT.mk t n s l) k))))])]))))) ∧ ((O.real.lt k c) = false → Q (Option.none))) := by kernel_rfl

theorem w107C (yv : Value) (t : Int) (n : List Int) (s : List ByteArray) (l : List VT) (c k : Int) (Q : List AV → Prop) : T.ob noB Q (.D 1 (.S .E)) (eachC O.real Go.Qv.tb (inl O.real Go.Qv.tb Go.Qv.fns (pureOrc (PS.also 47 sp47f (PS.also 54 sp54 PS.none))) (fun f => Nat.beq f 47 || Nat.beq f 54) (fun _ => false) 300 14) Go.Proofs.Tryz.f107 (codeAt Go.Proofs.Tryz.f107 4) 3 [(20, none, .bool true), (0, none, .raw yv), (1, none, (AV.rp [.int .i64 t, .sl (.i .i64 n), .sl (.s s), .sl (.v l)])), (7, none, .int .i64 c), (8, none, .int .i64 k)] [0, 1, 7, 8]) =
  Q [(AV.raw yv), (AV.rp [(AV.int IntKind.i64 t), (AV.sl (LS.i IntKind.i64 n)), (AV.sl (LS.s s)), (AV.sl (LS.v l))]), (AV.int IntKind.i64 c), (AV.int IntKind.i64 (O.real.add IntKind.i64 k (1 : Int)))] := by kernel_rfl

theorem w107D (yv : Value) (t : Int) (n : List Int) (s : List ByteArray) (l : List VT) (c k : Int) (Q : Unit → Prop) : T.ob noB Q (.D 1 (.S .E)) (eachD O.real Go.Qv.tb (inl O.real Go.Qv.tb Go.Qv.fns (pureOrc (PS.also 47 sp47f (PS.also 54 sp54 PS.none))) (fun f => Nat.beq f 47 || Nat.beq f 54) (fun _ => false) 300 14) Go.Proofs.Tryz.f107 (codeAt Go.Proofs.Tryz.f107 4) 3 [(20, none, .bool false), (0, none, .raw yv), (1, none, (AV.rp [.int .i64 t, .sl (.i .i64 n), .sl (.s s), .sl (.v l)])), (7, none, .int .i64 c), (8, none, .int .i64 k)]) =
  Q PUnit.unit := by kernel_rfl
end Go.Qv
/- Contracts: a value's elements, one by one. No condition. -/
set_option linter.unusedVariables false
set_option linter.unusedSimpArgs false
set_option maxRecDepth 100000
namespace Go.Qv
open Go Go.RowKit Go.Proofs
noncomputable def sp67 := onV fun a => when_ (tame a) (.leaf (.fn 107 [.rp [.int .i64 a.t, .sl (.i .i64 a.n), .sl (.s a.s), .sl (.v a.l)]]))

theorem ok67 : Pure1 Tryz.prog 67 sp67 := by
  intro xs F w cs R ha h
  obtain ⟨x, a, rfl, h1, h⟩ := onV_inv h
  obtain ⟨ht, h⟩ := when_inv h
  have ha := ha.conv1 (fun v => as_V h1)
  obtain ⟨t, n, s, l⟩ := a
  refine contract (fn := Tryz.f67) (walked (PureOk.also ok50 (PureOk.none _)) 14) (by kernel_rfl) w67C_ok (by rfl) (by rfl) (by rfl) (by rfl) (by rfl) ha (ρ := [.int t, .is n, .ss s, .vs l]) (Rh.go (w67_9999 t n s l _) ?_) h
  simp only [SQ, RhQ, eq_self, implies_true, forall_const, VT.eta, if_true, if_false]
  exact ⟨ht, rfl⟩
/-- The elements, as they are given. -/
def elsV (a : VT) (k : Nat) : List AV := [.int .i64 k, .agg [.int .i64 (VT.t (atV a k)), .sl (.i .i64 (VT.n (atV a k))), .sl (.s (VT.s (atV a k))), .sl (.v (VT.l (atV a k)))]]
theorem each107 {t n s l} (ht : tame (.mk t n s l)) (h2 : ok2 (.mk t n s l)) (hc : rCount (.mk t n s l) ≤ 9223372036854775807) :
    EachOk Tryz.prog 107 [.rp [.int .i64 t, .sl (.i .i64 n), .sl (.s s), .sl (.v l)]] (rCount (.mk t n s l)).toNat (elsV (.mk t n s l)) := by
  have h0 := rCount_nn (.mk t n s l)
  refine iter_ok (fn := Tryz.f107) mixed tbOk (walked (kn := fun f => Nat.beq f 47 || Nat.beq f 54) (md := fun _ => false) (PureOk.also ok47 (PureOk.also ok54 (PureOk.none _))) 14) fnsOk (by kernel_rfl) (by rfl) (by rfl) (by rfl) (by rfl) (by rfl) (by rfl) (by rfl) (by rfl) (by rfl) (fun k => rfl) (c := rCount (.mk t n s l)) (fun yv => ?_) (fun yv k hk => ?_) (fun yv k hk => ?_) (fun yv k hk => ?_)
  · refine ob_of noB_ok _ _ (w107A yv t n s l _) ?_
    exact ⟨rfl, rfl⟩
  · refine ob_of noB_ok _ _ (w107B yv t n s l _ k _) ?_
    simp only [SQ, RhQ, eq_self, implies_true, forall_const, VT.eta, if_true, if_false]
    exact ⟨fun h => ⟨ht, h2, by omega, rfl⟩, fun h => by omega⟩
  · refine ob_of noB_ok _ _ (w107C yv t n s l _ k _) ?_
    simp only [SQ, RhQ, eq_self, implies_true, forall_const, VT.eta, if_true, if_false]
    rw [w64 (by omega) (by omega)]
    rfl
  · exact ob_of noB_ok _ _ (w107D yv t n s l _ k _) trivial
end Go.Qv
