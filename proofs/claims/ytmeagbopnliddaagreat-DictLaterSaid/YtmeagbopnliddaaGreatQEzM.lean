/- Dictionaries: joined: definitions. No condition. -/
import Derived.Test.YtmeagbopnliddaaGreatQXkM
set_option linter.unusedVariables false
set_option linter.unusedSimpArgs false
set_option maxRecDepth 100000
namespace Go.Qv
open Go Go.RowKit Go.Proofs
/-- What was there, and k pairs put into it. -/
noncomputable def jnSt (K d o : VT) : Nat → VT
  | 0 => o
  | k + 1 => putV (jnSt K d o k) (atV K (k : Int)) (atV (side1 d) (k : Int))
noncomputable def jnErr (K d o : VT) (k : Nat) : Int := putE (jnSt K d o k) (atV K (k : Int)) (atV (side1 d) (k : Int))
/-- How many pairs are put ahead of the first error. -/
noncomputable def jnM (K d o : VT) : Nat → Nat → Nat
  | k, 0 => k
  | k, n + 1 => if jnErr K d o k = 0 then jnM K d o (k + 1) n else k
noncomputable def jnN (K d o : VT) : Nat := jnM K d o 0 (rCount K).toNat
noncomputable def jnB (K d o : VT) : Bool := decide (jnN K d o < (rCount K).toNat)
noncomputable def jnE (K d o : VT) : Int := jnErr K d o (jnN K d o)
noncomputable def jnV (K d o : VT) : VT := jnSt K d o (rCount K).toNat
def jnOk (K d o : VT) : Prop := tame K ∧ partP K ∧ d.l.length = 2 ∧ tame (side1 d) ∧ partP (side1 d) ∧ ∀ k : Nat, k < (rCount K).toNat → (∀ j, j < k → jnErr K d o j = 0) → putOk (jnSt K d o k) (atV K (k : Int)) (atV (side1 d) (k : Int))
theorem jnM_spec (K d o : VT) : ∀ (n k : Nat), k ≤ jnM K d o k n ∧ jnM K d o k n ≤ k + n ∧ (jnM K d o k n < k + n → jnErr K d o (jnM K d o k n) ≠ 0) ∧ ∀ j, k ≤ j → j < jnM K d o k n → jnErr K d o j = 0
  | 0, k => by simp only [jnM]; exact ⟨Nat.le_refl _, Nat.le_refl _, fun h => by omega, fun j h1 h2 => by omega⟩
  | n + 1, k => by
    rw [jnM]
    by_cases h : jnErr K d o k = 0
    · rw [if_pos h]
      obtain ⟨a, b, c, e⟩ := jnM_spec K d o n (k + 1)
      refine ⟨by omega, by omega, fun hl => c (by omega), fun j h1 h2 => ?_⟩
      rcases Nat.eq_or_lt_of_le h1 with h3 | h3
      · subst h3; exact h
      · exact e j h3 h2
    · rw [if_neg h]
      exact ⟨Nat.le_refl _, by omega, fun _ => h, fun j h1 h2 => by omega⟩
theorem jnN_spec (K d o : VT) : jnN K d o ≤ (rCount K).toNat ∧ (jnN K d o < (rCount K).toNat → jnErr K d o (jnN K d o) ≠ 0) ∧ ∀ j, j < jnN K d o → jnErr K d o j = 0 := by
  obtain ⟨a, b, c, e⟩ := jnM_spec K d o (rCount K).toNat 0
  unfold jnN
  rw [Nat.zero_add] at b c
  exact ⟨b, c, fun j h => e j (Nat.zero_le _) h⟩
/-- Two dictionaries in one. -/
def jn2Ok (l : List VT) : Prop := l.length = 2 ∧ dOk (l.getD 0 default) ∧ tame (l.getD 0 default) ∧ dOk (l.getD 1 default) ∧ (isD (l.getD 0 default) = true → isD (l.getD 1 default) = true → jnOk (keyV (l.getD 1 default)) (l.getD 1 default) (l.getD 0 default))
noncomputable def jnxV (d e : VT) : VT := if isD e then (if jnB (keyV e) e d then zeroV else jnV (keyV e) e d) else zeroV
noncomputable def jnxE (d e : VT) : Int := if isD e then (if jnB (keyV e) e d then jnE (keyV e) e d else 0) else 31
noncomputable def jn2V (l : List VT) : VT := if isD (l.getD 0 default) then jnxV (l.getD 0 default) (l.getD 1 default) else zeroV
noncomputable def jn2E (l : List VT) : Int := if isD (l.getD 0 default) then jnxE (l.getD 0 default) (l.getD 1 default) else 31
noncomputable def tmJn : TS := ⟨[(2, .one (.ptr 0 0)), (3, .one (.ptr 64 0)), (4, .one (.ptr 896 0)), (6, .one (.ptr 1152 0)), (29, .one (.sl .v)), (30, .one (.int .i64)), (31, .one (.int .i64))], [(0, .cells [.fix (.int .i64 0), .fix .nils, .fix .nils, .fix .nils]), (64, .cells [.int .i64]), (896, .cells [.int .i64, .sl (.i .i64), .sl .s, .sl .v]), (1152, .cells [.int .i64, .sl (.i .i64), .sl .s, .sl .v])], 1216, 68⟩
noncomputable def spLpJn : AV → List Lf → T (List Lf × Jp)
  | .fn 107 [.rp [.int .i64 t, .sl (.i .i64 n), .sl (.s s), .sl (.v l)]], [.vs a, .int b, .int c, .int r, .int ot, .is on, .ss os, .vs ol, .int dt, .is dn, .ss ds, .vs dl] =>
    when_ (jnOk (.mk t n s l) (.mk dt dn ds dl) (.mk ot on os ol)) (.ite (jnB (.mk t n s l) (.mk dt dn ds dl) (.mk ot on os ol))
      (.leaf ([.vs a, .int b, .int c, .int (jnE (.mk t n s l) (.mk dt dn ds dl) (.mk ot on os ol)), .int 0, .is [], .ss [], .vs [], .int dt, .is dn, .ss ds, .vs dl], .ret))
      (.leaf ([.vs a, .int b, .int c, .int r, .int (VT.t (jnV (.mk t n s l) (.mk dt dn ds dl) (.mk ot on os ol))), .is (VT.n (jnV (.mk t n s l) (.mk dt dn ds dl) (.mk ot on os ol))), .ss (VT.s (jnV (.mk t n s l) (.mk dt dn ds dl) (.mk ot on os ol))), .vs (VT.l (jnV (.mk t n s l) (.mk dt dn ds dl) (.mk ot on os ol))), .int dt, .is dn, .ss ds, .vs dl], .go)))
  | _, _ => .stuck "loop's arguments"
noncomputable def lpJn : LP := lpOf 0 Go.Proofs.Tryz.f34 12 tmJn spLpJn noLp
noncomputable def spJn2 := onVs fun l => when_ (jn2Ok l) (.leaf (.tup [vcl (jn2V l), .int .i64 (jn2E l)]))

end Go.Qv
/- Walks of dictionaries. (Printed.) -/
set_option linter.unusedVariables false
set_option maxRecDepth 100000
namespace Go.Qv
open Go Go.RowKit
noncomputable def w34C : List Cut := [(⟨9999, ⟨[(0, (.one (.sl .v)))], [], 0, 68⟩, [It.code (bodyOf Go.Proofs.Tryz.f34)], []⟩ : Cut),
  (⟨7, ⟨[(2, (.one (.ptr 0 0))), (3, (.one (.ptr 64 0))), (4, (.one (.ptr 896 0))), (29, (.one (.sl .v))), (30, (.one (.int IntKind.i64))), (31, (.one (.int IntKind.i64)))], [(0, (.cells [(.fix (.int IntKind.i64 (0 : Int))), (.fix .nils), (.fix .nils), (.fix .nils)])), (64, (.cells [(.fix (.int IntKind.i64 (0 : Int)))])), (896, (.cells [(.int IntKind.i64), (.sl (.i IntKind.i64)), (.sl .s), (.sl .v)]))], 960, 68⟩, (codeAt Go.Proofs.Tryz.f34 7), []⟩ : Cut)]
theorem w34C_ok : cutsOk w34C = true := by kernel_rfl
noncomputable def w34S  : Nat × List Lf → T Gt := stepL (lpJn) O.real Go.Qv.tb (inl O.real Go.Qv.tb Go.Qv.fns (pureOrc (PS.also 46 spIsD (PS.also 50 sp50f (PS.also 67 sp67 PS.none)))) (fun f => Nat.beq f 46 || Nat.beq f 50 || Nat.beq f 67) (fun _ => false) 300 14) Go.Proofs.Tryz.f34.results ([]) 0 w34C
theorem w34_9999  (t0 : List VT) (Q : Gt → Prop) : T.ob noB Q (.B (.D 22 (.S .E)) (.S (.S (.B (.S .E) (.S (.S (.S (.S (.S .E))))))))) (w34S  (9999, [Lf.vs t0])) =
  (((O.real.eq (O.real.vlen t0) (0 : Int)) = true → Q (.inr ⟨(AV.tup [(AV.agg [(AV.int IntKind.i64 (99 : Int)), AV.nils, AV.nils, (AV.own 0)]), (AV.int IntKind.i64 (0 : Int))]), [], [], [(HObj.arr 26 (LS.v [(VT.mk (0 : Int) [] [] []), (VT.mk (0 : Int) [] [] [])]))]⟩)) ∧ ((O.real.eq (O.real.vlen t0) (0 : Int)) = false → (((O.real.inb (0 : Int) (O.real.vlen t0))).p ∧ ((dOk (etaO (O.real.vget t0 (0 : Int)))) ∧ (((O.real.not (isD (etaO (O.real.vget t0 (0 : Int))))) = true → Q (.inr ⟨(AV.tup [(AV.agg [(AV.int IntKind.i64 (0 : Int)), AV.nils, AV.nils, AV.nils]), (AV.int IntKind.i64 (31 : Int))]), [], [], []⟩)) ∧ ((O.real.not (isD (etaO (O.real.vget t0 (0 : Int))))) = false → (((O.real.inb (0 : Int) (O.real.vlen t0))).p ∧ ((tame (etaO (O.real.vget t0 (0 : Int)))) ∧ (((O.real.cutb (1 : Int) (O.real.vlen t0) (O.real.vlen t0))).p ∧ ((codeAt Go.Proofs.Tryz.f34 7 = codeAt Go.Proofs.Tryz.f34 7) ∧ Q (.inl (7, [(Lf.vs (O.real.vcut t0 (1 : Int) (O.real.vlen t0))), (Lf.int (O.real.vlen (O.real.vcut t0 (1 : Int) (O.real.vlen t0)))), (Lf.int (0 : Int)), (Lf.int (O.real.vt (O.real.vget t0 (0 : Int)))), (Lf.is (O.real.vn (O.real.vget t0 (0 : Int)))), (Lf.ss (O.real.vs (O.real.vget t0 (0 : Int)))), (Lf.vs (O.real.vl (O.real.vget t0 (0 : Int))))])))))))))))) := by kernel_rfl
theorem w34_7  (t29 : List VT) (t30 : Int) (t31 : Int) (h896 : Int) (h896_1 : List Int) (h896_2 : List ByteArray) (h896_3 : List VT) (Q : Gt → Prop) : T.ob noB Q (.B (.S (.S (.B (.S .E) (.S (.S (.S (.S (.B (.S .E) (.S .E))))))))) (.S .E)) (w34S  (7, [Lf.vs t29, Lf.int t30, Lf.int t31, Lf.int h896, Lf.is h896_1, Lf.ss h896_2, Lf.vs h896_3])) =
  (((O.real.lt t31 t30) = true → (((O.real.inb t31 (O.real.vlen t29))).p ∧ ((dOk (etaO (O.real.vget t29 t31))) ∧ (((O.real.not (isD (etaO (O.real.vget t29 t31)))) = true → Q (.inr ⟨(AV.tup [(AV.agg [(AV.int IntKind.i64 (0 : Int)), AV.nils, AV.nils, AV.nils]), (AV.int IntKind.i64 (31 : Int))]), [], [], []⟩)) ∧ ((O.real.not (isD (etaO (O.real.vget t29 t31)))) = false → (((O.real.inb (0 : Int) (O.real.vlen (O.real.vl (O.real.vget t29 t31))))).p ∧ ((tame (etaO (O.real.vget (O.real.vl (O.real.vget t29 t31)) (0 : Int)))) ∧ ((rfAt Go.Proofs.Tryz.f34 12 = rfAt Go.Proofs.Tryz.f34 12) ∧ ((jnOk (etaO (O.real.vget (O.real.vl (O.real.vget t29 t31)) (0 : Int))) (VT.mk (O.real.vt (O.real.vget t29 t31)) (O.real.vn (O.real.vget t29 t31)) (O.real.vs (O.real.vget t29 t31)) (O.real.vl (O.real.vget t29 t31))) (VT.mk h896 h896_1 h896_2 h896_3)) ∧ (((jnB (etaO (O.real.vget (O.real.vl (O.real.vget t29 t31)) (0 : Int))) (etaO (O.real.vget t29 t31)) (VT.mk h896 h896_1 h896_2 h896_3)) = true → Q (.inr ⟨(AV.tup [(AV.agg [(AV.int IntKind.i64 (0 : Int)), AV.nils, AV.nils, AV.nils]), (AV.int IntKind.i64 (jnE (etaO (O.real.vget (O.real.vl (O.real.vget t29 t31)) (0 : Int))) (VT.mk (O.real.vt (O.real.vget t29 t31)) (O.real.vn (O.real.vget t29 t31)) (O.real.vs (O.real.vget t29 t31)) (O.real.vl (O.real.vget t29 t31))) (VT.mk h896 h896_1 h896_2 h896_3)))]), [], [], []⟩)) ∧ ((jnB (etaO (O.real.vget (O.real.vl (O.real.vget t29 t31)) (0 : Int))) (etaO (O.real.vget t29 t31)) (VT.mk h896 h896_1 h896_2 h896_3)) = false → Q (.inl (7, [(Lf.vs t29), (Lf.int t30), (Lf.int (O.real.add IntKind.i64 t31 (1 : Int))), (Lf.int (VT.t (jnV (etaO (O.real.vget (O.real.vl (O.real.vget t29 t31)) (0 : Int))) (VT.mk (O.real.vt (O.real.vget t29 t31)) (O.real.vn (O.real.vget t29 t31)) (O.real.vs (O.real.vget t29 t31)) (O.real.vl (O.real.vget t29 t31))) (VT.mk h896 h896_1 h896_2 h896_3)))), (Lf.is (VT.n (jnV (etaO (O.real.vget (O.real.vl (O.real.vget t29 t31)) (0 : Int))) (VT.mk (O.real.vt (O.real.vget t29 t31)) (O.real.vn (O.real.vget t29 t31)) (O.real.vs (O.real.vget t29 t31)) (O.real.vl (O.real.vget t29 t31))) (VT.mk h896 h896_1 h896_2 h896_3)))), (Lf.ss (VT.s (jnV (etaO (O.real.vget (O.real.vl (O.real.vget t29 t31)) (0 : Int))) (VT.mk (O.real.vt (O.real.vget t29 t31)) (O.real.vn (O.real.vget t29 t31)) (O.real.vs (O.real.vget t29 t31)) (O.real.vl (O.real.vget t29 t31))) (VT.mk h896 h896_1 h896_2 h896_3)))), (Lf.vs (VT.l (jnV (etaO (O.real.vget (O.real.vl (O.real.vget t29 t31)) (0 : Int))) (etaO (O.real.vget t29 t31)) (VT.mk h896 h896_1 h896_2 h896_3))))]))))))))))))) ∧ ((O.real.lt t31 t30) = false → Q (.inr ⟨(AV.tup [(AV.agg [(AV.int IntKind.i64 h896), (AV.sl (LS.i IntKind.i64 h896_1)), (AV.sl (LS.s h896_2)), (AV.sl (LS.v h896_3))]), (AV.int IntKind.i64 (0 : Int))]), [], [], []⟩))) := by kernel_rfl

theorem wJnR (a : List VT) (b c r : Int) (ot : Int) (on : List Int) (os : List ByteArray) (ol : List VT) (dt : Int) (dn : List Int) (ds : List ByteArray) (dl : List VT) (k : Int) (xt : Int) (xn : List Int) (xs : List ByteArray) (xl : List VT) (Q : List Lf × Jp → Prop) : T.ob noB Q (.S (.S (.S (.S (.B (.S .E) (.S .E)))))) (roundT O.real Go.Qv.tb (inl O.real Go.Qv.tb Go.Qv.fns (pureOrc (PS.also 54 sp54 (PS.also 11 spPut PS.none))) (fun f => Nat.beq f 54 || Nat.beq f 11) (fun _ => false) 300 14) (rfA (rfAt Go.Proofs.Tryz.f34 12)) (rfB (rfAt Go.Proofs.Tryz.f34 12)) 0 tmJn [(45, .agg [.int .i64 xt, .sl (.i .i64 xn), .sl (.s xs), .sl (.v xl)]), (44, .int .i64 k)] (tmJn.inst [.vs a, .int b, .int c, .int r, .int ot, .is on, .ss os, .vs ol, .int dt, .is dn, .ss ds, .vs dl])) =
  (((O.real.inb (1 : Int) (O.real.vlen dl))).p ∧ ((tame (etaO (O.real.vget dl (1 : Int)))) ∧ ((ok2 (etaO (O.real.vget dl (1 : Int)))) ∧ ((putOk (VT.mk ot on os ol) (VT.mk xt xn xs xl) (VT.mk (VT.t (atV (etaO (O.real.vget dl (1 : Int))) k)) (VT.n (atV (etaO (O.real.vget dl (1 : Int))) k)) (VT.s (atV (etaO (O.real.vget dl (1 : Int))) k)) (VT.l (atV (etaO (O.real.vget dl (1 : Int))) k)))) ∧ (((O.real.not (O.real.eq (putE (VT.mk ot on os ol) (VT.mk xt xn xs xl) (VT.mk (VT.t (atV (etaO (O.real.vget dl (1 : Int))) k)) (VT.n (atV (etaO (O.real.vget dl (1 : Int))) k)) (VT.s (atV (etaO (O.real.vget dl (1 : Int))) k)) (VT.l (atV (etaO (O.real.vget dl (1 : Int))) k)))) (0 : Int))) = true → Q ([(Lf.vs a), (Lf.int b), (Lf.int c), (Lf.int (putE (VT.mk ot on os ol) (VT.mk xt xn xs xl) (VT.mk (VT.t (atV (etaO (O.real.vget dl (1 : Int))) k)) (VT.n (atV (etaO (O.real.vget dl (1 : Int))) k)) (VT.s (atV (etaO (O.real.vget dl (1 : Int))) k)) (VT.l (atV (etaO (O.real.vget dl (1 : Int))) k))))), (Lf.int (VT.t (putV (VT.mk ot on os ol) (VT.mk xt xn xs xl) (VT.mk (VT.t (atV (etaO (O.real.vget dl (1 : Int))) k)) (VT.n (atV (etaO (O.real.vget dl (1 : Int))) k)) (VT.s (atV (etaO (O.real.vget dl (1 : Int))) k)) (VT.l (atV (etaO (O.real.vget dl (1 : Int))) k)))))), (Lf.is (VT.n (putV (VT.mk ot on os ol) (VT.mk xt xn xs xl) (VT.mk (VT.t (atV (etaO (O.real.vget dl (1 : Int))) k)) (VT.n (atV (etaO (O.real.vget dl (1 : Int))) k)) (VT.s (atV (etaO (O.real.vget dl (1 : Int))) k)) (VT.l (atV (etaO (O.real.vget dl (1 : Int))) k)))))), (Lf.ss (VT.s (putV (VT.mk ot on os ol) (VT.mk xt xn xs xl) (VT.mk (VT.t (atV (etaO (O.real.vget dl (1 : Int))) k)) (VT.n (atV (etaO (O.real.vget dl (1 : Int))) k)) (VT.s (atV (etaO (O.real.vget dl (1 : Int))) k)) (VT.l (atV (etaO (O.real.vget dl (1 : Int))) k)))))), (Lf.vs (VT.l (putV (VT.mk ot on os ol) (VT.mk xt xn xs xl) (VT.mk (VT.t (atV (etaO (O.real.vget dl (1 : Int))) k)) (VT.n (atV (etaO (O.real.vget dl (1 : Int))) k)) (VT.s (atV (etaO (O.real.vget dl (1 : Int))) k)) (VT.l (atV (etaO (O.real.vget dl (1 : Int))) k)))))), (Lf.int dt), (Lf.is dn), (Lf.ss ds), (Lf.vs dl)], Jp.ret)) ∧ ((O.real.not (O.real.eq (putE (VT.mk ot on os ol) (VT.mk xt xn xs xl) (VT.mk (VT.t (atV (etaO (O.real.vget dl (1 : Int))) k)) (VT.n (atV (etaO (O.real.vget dl (1 : Int))) k)) (VT.s (atV (etaO (O.real.vget dl (1 : Int))) k)) (VT.l (atV (etaO (O.real.vget dl (1 : Int))) k)))) (0 : Int))) = false → Q ([(Lf.vs a), (Lf.int b), (Lf.int c), (Lf.int r), (Lf.int (VT.t (putV (VT.mk ot on os ol) (VT.mk xt xn xs xl) (VT.mk (VT.t (atV (etaO (O.real.vget dl (1 : Int))) k)) (VT.n (atV (etaO (O.real.vget dl (1 : Int))) k)) (VT.s (atV (etaO (O.real.vget dl (1 : Int))) k)) (VT.l (atV (etaO (O.real.vget dl (1 : Int))) k)))))), (Lf.is (VT.n (putV (VT.mk ot on os ol) (VT.mk xt xn xs xl) (VT.mk (VT.t (atV (etaO (O.real.vget dl (1 : Int))) k)) (VT.n (atV (etaO (O.real.vget dl (1 : Int))) k)) (VT.s (atV (etaO (O.real.vget dl (1 : Int))) k)) (VT.l (atV (etaO (O.real.vget dl (1 : Int))) k)))))), (Lf.ss (VT.s (putV (VT.mk ot on os ol) (VT.mk xt xn xs xl) (VT.mk (VT.t (atV (etaO (O.real.vget dl (1 : Int))) k)) (VT.n (atV (etaO (O.real.vget dl (1 : Int))) k)) (VT.s (atV (etaO (O.real.vget dl (1 : Int))) k)) (VT.l (atV (etaO (O.real.vget dl (1 : Int))) k)))))), (Lf.vs (VT.l (putV (VT.mk ot on os ol) (VT.mk xt xn xs xl) (VT.mk (VT.t (atV (etaO (O.real.vget dl (1 : Int))) k)) (VT.n (atV (etaO (O.real.vget dl (1 : Int))) k)) (VT.s (atV (etaO (O.real.vget dl (1 : Int))) k)) (VT.l (atV (etaO (O.real.vget dl (1 : Int))) k)))))), (Lf.int dt), (Lf.is dn), (Lf.ss ds), (Lf.vs dl)], Jp.go))))))) := by kernel_rfl
end Go.Qv
/- Dictionaries: two joined: contract. No condition. -/
set_option linter.unusedVariables false
set_option linter.unusedSimpArgs false
set_option maxRecDepth 100000
namespace Go.Qv
open Go Go.RowKit Go.Proofs
theorem put_err {d x y : VT} (h : putE d x y ≠ 0) : putV d x y = zeroV := by
  by_cases hb : isD d = false ∨ x.t = 101 ∨ y.t = 101
  · exact (put_bad hb).1
  by_cases hf : findDI d x < rCount d
  · obtain ⟨e1, e2⟩ := put_there hb hf
    rw [e2] at h
    by_cases hd : 32 < rDepth (put1 d x y)
    · rw [e1, (bnd_deep (by omega) hd).1]
    · exact absurd (bnd_ok (v := put1 d x y) (e := 0) (by omega) hd).2 h
  · by_cases h3 : appendE (keyV d) x ≠ 0
    · exact (put_key hb hf h3).1
    · obtain ⟨e1, e2⟩ := put_new hb hf h3
      rw [e2] at h
      by_cases h4 : appendE (side1 d) y ≠ 0
      · rw [e1, (bnd_bad h4).1]
      · by_cases hd : 32 < rDepth (put2 d x y)
        · rw [e1, (bnd_deep h4 hd).1]
        · exact absurd (bnd_ok (v := put2 d x y) h4 hd).2 h
theorem roundJn (a : List VT) (b c r : Int) (o : VT) (dt dn ds dl) (k : Int) (x : VT) (h2 : dl.length = 2) (ht : tame (dl.getD 1 default)) (hp : partP (dl.getD 1 default)) (hk : putOk o x (atV (dl.getD 1 default) k)) {Q : List Lf × Jp → Prop}
    (hret : putE o x (atV (dl.getD 1 default) k) ≠ 0 → Q ([.vs a, .int b, .int c, .int (putE o x (atV (dl.getD 1 default) k)), .int 0, .is [], .ss [], .vs [], .int dt, .is dn, .ss ds, .vs dl], .ret))
    (hgo : putE o x (atV (dl.getD 1 default) k) = 0 → Q ([.vs a, .int b, .int c, .int r, .int (VT.t (putV o x (atV (dl.getD 1 default) k))), .is (VT.n (putV o x (atV (dl.getD 1 default) k))), .ss (VT.s (putV o x (atV (dl.getD 1 default) k))), .vs (VT.l (putV o x (atV (dl.getD 1 default) k))), .int dt, .is dn, .ss ds, .vs dl], .go)) :
    Sat (roundT O.real Go.Qv.tb (inl O.real Go.Qv.tb Go.Qv.fns (pureOrc (PS.also 54 sp54 (PS.also 11 spPut PS.none))) (fun f => Nat.beq f 54 || Nat.beq f 11) (fun _ => false) 300 14) (rfA (rfAt Tryz.f34 12)) (rfB (rfAt Tryz.f34 12)) 0 tmJn
      [(45, .agg [.int .i64 x.t, .sl (.i .i64 x.n), .sl (.s x.s), .sl (.v x.l)]), (44, .int .i64 k)] (tmJn.inst [.vs a, .int b, .int c, .int r, .int o.t, .is o.n, .ss o.s, .vs o.l, .int dt, .is dn, .ss ds, .vs dl])) Q := by
  refine ⟨?_⟩
  have e := wJnR a b c r o.t o.n o.s o.l dt dn ds dl k x.t x.n x.s x.l Q
  generalize roundT O.real Go.Qv.tb _ _ _ 0 tmJn _ _ = X at e ⊢
  refine ob_of noB_ok _ _ e ?_
  simp only [SQ, RhQ, eq_self, implies_true, forall_const, VT.eta, if_true, if_false]
  refine ⟨⟨by omega, by omega⟩, ht, part_ok2 hp, hk, fun h => ?_, hgo⟩
  rw [put_err h]
  exact hret h
theorem lpJn_ok : LpOk none Tryz.prog 0 lpJn := lpOf_ok noLp_ok (fun c hC hB hn hmd y ρ K hs Q hQ β F a w hrs hy => by
  unfold spLpJn at hs
  split at hs
  · rename_i t n s l la lb lc r ot on os ol dt dn ds dl
    obtain ⟨hok, hs⟩ := hs
    obtain ⟨o1, o2, o3, o4, o5, o6⟩ : jnOk (.mk t n s l) (.mk dt dn ds dl) (.mk ot on os ol) := hok
    have h0 := rCount_nn (.mk t n s l)
    have hc := (cnt_bk (.mk t n s l)).2 o2
    have ht' : (VT.mk t n s l).bk ≤ 1073741824 := o1
    obtain ⟨g1, g2, g3⟩ := jnN_spec (.mk t n s l) (.mk dt dn ds dl) (.mk ot on os ol)
    have e : rfAt Tryz.f34 12 = .rangeFunc (.tmp 43) #[44, 45] (rfA (rfAt Tryz.f34 12)) (rfB (rfAt Tryz.f34 12)) := by kernel_rfl
    have e2 : rfF (rfAt Tryz.f34 12) = .tmp 43 := by kernel_rfl
    rw [e2] at hy
    rw [e]
    have hB' : jnB (.mk t n s l) (.mk dt dn ds dl) (.mk ot on os ol) = true ↔ jnN (.mk t n s l) (.mk dt dn ds dl) (.mk ot on os ol) < (rCount (.mk t n s l)).toNat := by unfold jnB; exact decide_eq_true_iff
    refine each_ok mixed tbOk (walked (kn := fun f => Nat.beq f 54 || Nat.beq f 11) (md := fun _ => false) (PureOk.also ok54 (PureOk.also okPut (PureOk.none _))) 14) fnsOk hC hB hmd (by decide) (tm := tmJn)
      (ρs := fun k => [.vs la, .int lb, .int lc, .int r, .int (VT.t (jnSt (.mk t n s l) (.mk dt dn ds dl) (.mk ot on os ol) k)), .is (VT.n (jnSt (.mk t n s l) (.mk dt dn ds dl) (.mk ot on os ol) k)), .ss (VT.s (jnSt (.mk t n s l) (.mk dt dn ds dl) (.mk ot on os ol) k)), .vs (VT.l (jnSt (.mk t n s l) (.mk dt dn ds dl) (.mk ot on os ol) k)), .int dt, .is dn, .ss ds, .vs dl])
      (N := (rCount (.mk t n s l)).toNat) (els := elsV (.mk t n s l)) (fun k => rfl) (fng := Tryz.f107) (by kernel_rfl) (each107 o1 (part_ok2 o2) (by omega)) (fun k => by rfl) (fun k => by rfl) (fun k => by rfl) (by decide)
      (X := fun r j => jnB (.mk t n s l) (.mk dt dn ds dl) (.mk ot on os ol) = true ∧ r = [.vs la, .int lb, .int lc, .int (jnE (.mk t n s l) (.mk dt dn ds dl) (.mk ot on os ol)), .int 0, .is [], .ss [], .vs [], .int dt, .is dn, .ss ds, .vs dl] ∧ j = .ret) (M := jnN (.mk t n s l) (.mk dt dn ds dl) (.mk ot on os ol)) (fun k x0 x1 hk hM hx => ?_) (fun hNM β F a w h => ?_) (fun r j ⟨hX, hr, hj⟩ => ?_) hrs hy
    · rw [hn]
      injection hx with hx0 hx
      injection hx with hx1 hx
      subst hx0; subst hx1
      refine roundJn la lb lc r (jnSt (.mk t n s l) (.mk dt dn ds dl) (.mk ot on os ol) k) dt dn ds dl k (atV (.mk t n s l) k) o3 o4 o5 (o6 k hk (fun j hj => g3 j (by omega))) (fun hv => ?_) (fun hv => ?_)
      · have hk' : jnN (.mk t n s l) (.mk dt dn ds dl) (.mk ot on os ol) = k := by
          rcases Nat.eq_or_lt_of_le hM with h | h
          · exact h.symm
          · exact absurd (g3 k h) hv
        refine .inr ⟨by simp, hB'.2 (by omega), ?_, rfl⟩
        unfold jnE
        rw [hk']; rfl
      · have hne : k ≠ jnN (.mk t n s l) (.mk dt dn ds dl) (.mk ot on os ol) := fun h => by
          have := g2 (by omega)
          rw [← h] at this
          exact this hv
        exact .inl ⟨by omega, rfl, rfl⟩
    · have hb : ¬ jnB (.mk t n s l) (.mk dt dn ds dl) (.mk ot on os ol) = true := fun hb => by have := hB'.1 hb; omega
      exact hQ _ _ (hs.2 (by simpa using hb)) β F a w h
    · subst hr; subst hj
      exact hQ _ _ (hs.1 hX)
  · exact hs.elim)
theorem end34 (e v : VT) : Rh w34S (Ret (.tup [vcl v, .int .i64 0])) (7, [.vs [e], .int 1, .int 1, .int v.t, .is v.n, .ss v.s, .vs v.l]) := by
  refine Rh.go (w34_7 [e] 1 1 v.t v.n v.s v.l _) ?_
  simp only [SQ, RhQ, eq_self, implies_true, forall_const, VT.eta, if_true, if_false]
  exact ⟨fun h => absurd h (by omega), fun _ => rfl⟩
theorem step34 (d e : VT) (o5 : dOk e) (o6 : isD e = true → jnOk (keyV e) e d) (m : List VT) (hm : m = [e]) (c : Int) (hc : c = 1) :
    Rh w34S (Ret (.tup [vcl (jnxV d e), .int .i64 (jnxE d e)])) (7, [.vs m, .int c, .int 0, .int d.t, .is d.n, .ss d.s, .vs d.l]) := by
  subst hm; subst hc
  refine Rh.go (w34_7 [e] 1 0 d.t d.n d.s d.l _) ?_
  have ge : [e].getD 0 default = e := rfl
  have h1 : (([e] : List VT).length : Int) = 1 := rfl
  simp only [SQ, RhQ, eq_self, implies_true, forall_const, VT.eta, if_true, if_false, ge, h1]
  have w0 : IntKind.i64.wrap (0 + 1) = 1 := by decide
  refine ⟨fun _ => ⟨⟨by omega, by omega⟩, o5, fun hb => ?_, fun hb => ?_⟩, fun h => absurd (by omega) h⟩
  · have e1 : jnxV d e = zeroV := if_neg (by show ¬ isD e = true; rw [hb]; decide)
    have e2 : jnxE d e = 31 := if_neg (by show ¬ isD e = true; rw [hb]; decide)
    exact Ret.ve e1 e2 rfl
  · obtain ⟨p1, p2, p3, p4, p5, p6⟩ := o6 hb
    have e1 : jnxV d e = if jnB (keyV e) e d then zeroV else jnV (keyV e) e d := if_pos hb
    have e2 : jnxE d e = if jnB (keyV e) e d then jnE (keyV e) e d else 0 := if_pos hb
    refine ⟨⟨by omega, by omega⟩, p1, ⟨p1, p2, p3, p4, p5, p6⟩, fun hj => ?_, fun hj => ?_⟩
    · have hj : jnB (keyV e) e d = true := hj
      rw [hj, if_pos rfl] at e1 e2
      exact Ret.ve e1 e2 rfl
    · have hj : jnB (keyV e) e d = false := hj
      rw [hj, if_neg (by decide)] at e1 e2
      rw [w0, e1, e2]
      exact end34 e (jnV (keyV e) e d)
theorem okJn2 : Pure1 Tryz.prog 34 spJn2 := by
  intro xs F w cs R ha h
  obtain ⟨x, a, rfl, h1, h⟩ := onVs_inv h
  obtain ⟨ho, h⟩ := when_inv h
  have ha := ha.conv1 (fun v => as_Vs h1)
  obtain ⟨o1, o3, o4, o5, o6⟩ := ho
  match a, o1 with
  | [d, e], _ =>
    have g0 : [d, e].getD 0 default = d := rfl
    have g1 : [d, e].getD 1 default = e := rfl
    have hl : ([d, e] : List VT).length = 2 := rfl
    have hcut : O.real.vcut [d, e] 1 2 = [e] := rfl
    refine contractL lpJn_ok (fn := Tryz.f34) (walked (PureOk.also ok46 (PureOk.also ok50 (PureOk.also ok67 (PureOk.none _)))) 14) (by kernel_rfl) w34C_ok (by rfl) (by rfl) (by rfl) (by rfl) (by rfl) ha (ρ := [.vs [d, e]]) (Rh.go (w34_9999 [d, e] _) ?_) h
    simp only [SQ, RhQ, eq_self, implies_true, forall_const, VT.eta, if_true, if_false, g0, List.length_cons, List.length_nil]
    refine ⟨fun h => absurd h (by omega), fun _ => ⟨⟨by omega, by omega⟩, o3, fun h => ?_, fun h => ⟨⟨by omega, by omega⟩, o4, ⟨by omega, by omega, by omega⟩, ?_⟩⟩⟩
    · have h : isD d = false := h
      exact Ret.ve (x := jn2V [d, e]) (a := jn2E [d, e]) (y := zeroV) (b := 31) (if_neg (by show ¬ isD d = true; rw [h]; decide)) (if_neg (by show ¬ isD d = true; rw [h]; decide)) rfl
    · have h : isD d = true := h
      have e1 : jn2V [d, e] = jnxV d e := if_pos h
      have e2 : jn2E [d, e] = jnxE d e := if_pos h
      rw [e1, e2]
      exact step34 d e o5 (o6 h) _ rfl _ rfl
end Go.Qv
/- Dictionaries: what is put into one is a value still. No condition. -/
set_option linter.unusedVariables false
set_option linter.unusedSimpArgs false
set_option maxRecDepth 100000
namespace Go.Qv
open Go Go.RowKit Go.Proofs
mutual
def dpt : VT → Nat
  | .mk _ _ _ l => dpts l + 1
def dpts : List VT → Nat
  | [] => 0
  | x :: l => max (dpt x) (dpts l)
end
theorem dpts_mem : ∀ {l : List VT} {x : VT}, x ∈ l → dpt x ≤ dpts l
  | y :: l, x, h => by
    rw [dpts]
    rcases List.mem_cons.1 h with rfl | h
    · omega
    · have := dpts_mem h; omega
theorem dpts_le : ∀ {l : List VT} {d : Nat}, (∀ x ∈ l, dpt x ≤ d) → dpts l ≤ d
  | [], d, _ => by simp [dpts]
  | y :: l, d, h => by
    have h1 := h y List.mem_cons_self
    have h2 := dpts_le (l := l) (d := d) (fun x hx => h x (List.mem_cons_of_mem _ hx))
    rw [dpts]; omega
theorem good_vec {t : Int} {n : List Int} {s : List ByteArray} (ht : 1 ≤ t ∧ t ≤ 5) (h3 : t = 3 → n = [] ∧ ∀ x ∈ s, noZero x = true) (h4 : t ≠ 3 → s = []) (h1 : t = 1 → ∀ x ∈ n, x = 0 ∨ x = 1) (hs : ∀ x ∈ s, (x.size : Int) ≤ 64)
    (hn : n.length ≤ 65536) (hsl : s.length ≤ 65536) : VT.Good (.mk t n s []) := by
  have b : t = 1 ∨ t = 2 ∨ t = 3 ∨ t = 4 ∨ t = 5 := by omega
  have d1 : decide ((65536 : Int) < (n.length : Int)) = false := decide_eq_false (by omega)
  have d2 : decide ((65536 : Int) < (s.length : Int)) = false := decide_eq_false (by omega)
  rcases b with rfl | rfl | rfl | rfl | rfl
  · obtain rfl := h4 (by omega)
    refine .mk 1 n [] [] (by decide) (.inl (by decide)) (.inr rfl) (.inr rfl) ?_ d1 rfl (.inr (fun x hx => by simp at hx)) (fun x hx => by simp at hx)
    rw [show rPlain (.mk 1 n [] []) = n.all (fun x => decide (x = 0 ∨ x = 1)) from rfl, List.all_eq_true]
    exact fun x hx => decide_eq_true (h1 rfl x hx)
  · obtain rfl := h4 (by omega)
    exact .mk 2 n [] [] (by decide) (.inl (by decide)) (.inr rfl) (.inr rfl) rfl d1 rfl (.inr (fun x hx => by simp at hx)) (fun x hx => by simp at hx)
  · obtain ⟨rfl, hz⟩ := h3 rfl
    refine .mk 3 [] s [] (by decide) (.inr rfl) (.inl (by decide)) (.inr rfl) ?_ d2 (long_iff.2 hs) (.inr (fun x hx => by simp at hx)) (fun x hx => by simp at hx)
    rw [show rPlain (.mk 3 [] s []) = rSyms s from rfl]
    exact syms_iff.2 hz
  · obtain rfl := h4 (by omega)
    exact .mk 4 n [] [] (by decide) (.inl (by decide)) (.inr rfl) (.inr rfl) rfl d1 rfl (.inr (fun x hx => by simp at hx)) (fun x hx => by simp at hx)
  · obtain rfl := h4 (by omega)
    exact .mk 5 n [] [] (by decide) (.inl (by decide)) (.inr rfl) (.inr rfl) rfl d1 rfl (.inr (fun x hx => by simp at hx)) (fun x hx => by simp at hx)
theorem listGo_nil {t0 : Int} : ∀ {l : List VT} {b : Bool}, rListGo t0 b l = true → ∀ x ∈ l, x.t ≠ 101
  | y :: l, b, h, x, hx => by
    rw [rListGo] at h
    split at h
    · cases h
    · rename_i h1
      rcases List.mem_cons.1 hx with rfl | hx
      · exact h1
      · exact listGo_nil h x hx
theorem listGo_of {t0 : Int} : ∀ {l : List VT} {b : Bool}, (∀ x ∈ l, x.t ≠ 101) → alikeGo t0 b l = false → rListGo t0 b l = true
  | [], b, _, h => by simp [alikeGo] at h; simp [rListGo, h]
  | x :: l, b, h, ha => by
    rw [rListGo, if_neg (h x List.mem_cons_self)]
    refine listGo_of (fun y hy => h y (List.mem_cons_of_mem _ hy)) ?_
    rw [← ha]
    simp only [alikeGo, List.all_cons, Bool.and_assoc]
theorem listGo_alike {t0 : Int} : ∀ {l : List VT} {b : Bool}, rListGo t0 b l = true → alikeGo t0 b l = false
  | [], b, h => by simp [rListGo] at h; simp [alikeGo, h]
  | x :: l, b, h => by
    rw [rListGo] at h
    split at h
    · cases h
    · rw [← listGo_alike h]
      simp only [alikeGo, List.all_cons, Bool.and_assoc]
theorem good_list {l : List VT} (hn : ∀ x ∈ l, x.t ≠ 101) (ha : alikeB l = false) (hl : l.length ≤ 65536) (hg : ∀ x ∈ l, x.Good) : VT.Good (.mk 0 [] [] l) := by
  refine .mk 0 [] [] l (by decide) (.inr rfl) (.inr rfl) (.inl (by decide)) ?_ ?_ rfl (.inl rfl) hg
  · rw [show rPlain (.mk 0 [] [] l) = rList (.mk 0 [] [] l) from rfl]
    exact listGo_of hn ha
  · show (decide ((0 : Int) = 0) && decide ((65536 : Int) < (l.length : Int))) = false
    rw [decide_eq_false (show ¬ (65536 : Int) < (l.length : Int) by omega), Bool.and_false]
theorem good_in_list {n s l} (hg : (VT.mk 0 n s l).Good) : (∀ x ∈ l, x.t ≠ 101) ∧ alikeB l = false ∧ n = [] ∧ s = [] := by
  cases hg with
  | mk _ _ _ _ g1 g2 g3 g4 g5 =>
    rw [show rPlain (.mk 0 n s l) = rList (.mk 0 n s l) from by rw [rPlain_mk, if_neg (by unfold isAtomT; omega), if_neg (by unfold rAbs; omega), if_neg (by omega), if_pos rfl]] at g5
    have g5 : rListGo (l.getD 0 default).t (decide (0 < l.length)) l = true := g5
    refine ⟨listGo_nil g5, listGo_alike g5, ?_, ?_⟩
    · rcases g2 with g2 | g2
      · exact absurd g2 (by decide)
      · exact g2
    · rcases g3 with g3 | g3
      · exact absurd g3 (by decide)
      · exact g3
structure Elem (x : VT) (d : Nat) : Prop where
  good : x.Good
  nil : x.t ≠ 101
  dep : dpt x ≤ d
theorem alike_iff {l : List VT} : alikeB l = true ↔ 0 < l.length ∧ ∀ x ∈ l, isAtomT x.t ∧ x.t = (l.getD 0 default).t := by
  unfold alikeB alikeGo
  rw [Bool.and_eq_true, List.all_eq_true]
  simp
theorem flat_one {α : Type} {f : VT → List α} : ∀ {l : List VT}, (∀ x ∈ l, (f x).length = 1) → (l.flatMap f).length = l.length
  | [], _ => rfl
  | x :: l, h => by
    rw [List.flatMap_cons, List.length_append, h x List.mem_cons_self, flat_one (fun y hy => h y (List.mem_cons_of_mem _ hy)), List.length_cons]; omega
theorem flat_no {α : Type} {f : VT → List α} : ∀ {l : List VT}, (∀ x ∈ l, f x = []) → l.flatMap f = []
  | [], _ => rfl
  | x :: l, h => by
    rw [List.flatMap_cons, h x List.mem_cons_self, flat_no (fun y hy => h y (List.mem_cons_of_mem _ hy))]; rfl
theorem of_good {l : List VT} {d : Nat} (h : ∀ x ∈ l, Elem x d) (hb : ∀ x ∈ l, x.bk ≤ 4611686018427387904) (hl : l.length ≤ 65536) : (ofV l).Good ∧ isColT (ofV l).t ∧ rCount (ofV l) = l.length ∧ dpt (ofV l) ≤ d + 1 := by
  cases ha : alikeB l with
  | false =>
    have e : ofV l = .mk 0 [] [] l := by unfold ofV; rw [ha]; rfl
    rw [e]
    refine ⟨good_list (fun x hx => (h x hx).nil) ha hl (fun x hx => (h x hx).good), .inr rfl, ?_, ?_⟩
    · rw [cnt_mk, if_neg (by omega), if_neg (by unfold isVecT; omega), if_pos rfl]
    · rw [dpt]; have := dpts_le (l := l) (d := d) (fun x hx => (h x hx).dep); omega
  | true =>
    have e : ofV l = .mk (-(l.getD 0 default).t) (l.flatMap VT.n) (l.flatMap VT.s) [] := by unfold ofV; rw [if_pos ha]
    obtain ⟨hp, hall⟩ := alike_iff.1 ha
    obtain ⟨hA, _⟩ := hall _ (getD_mem l default hp)
    rw [e]
    generalize ht : (l.getD 0 default).t = t at *
    have hA' : t < 0 ∧ -5 ≤ t := hA
    have h5 : 1 ≤ rAbs t ∧ rAbs t ≤ 5 := by unfold rAbs; rw [if_pos hA']; omega
    have hab : rAbs t = -t := by unfold rAbs; rw [if_pos hA']
    have hx : ∀ x ∈ l, (t = -3 → x.n = [] ∧ x.s.length = 1 ∧ ∀ y ∈ x.s, noZero y = true) ∧ (t ≠ -3 → x.s = [] ∧ x.n.length = 1) ∧ (t = -1 → ∀ y ∈ x.n, y = 0 ∨ y = 1) ∧ ∀ y ∈ x.s, (y.size : Int) ≤ 64 := by
      intro x hx
      obtain ⟨t', n, s, l'⟩ := x
      have hb' := hb _ hx
      rw [VT.bk_eq] at hb'
      have q := len_strs s
      have e2 : t' = t := (hall _ hx).2
      subst e2
      obtain ⟨f1, f2, f3, f4, f5, f6⟩ := good_flat (h _ hx).good h5
      rw [hab] at f2 f3 f4
      have f6 := f6 hA'.1
      rw [w64 (by omega) (by omega)] at f6
      refine ⟨fun e3 => ?_, fun e3 => ?_, fun e3 => f4 (by omega), f5⟩
      · obtain ⟨a, b⟩ := f2 (by omega)
        subst a
        exact ⟨rfl, show s.length = 1 by simp only [List.length_nil] at f6; omega, b⟩
      · have a := f3 (by omega)
        subst a
        exact ⟨rfl, show n.length = 1 by simp only [List.length_nil] at f6; omega⟩
    have c3 : t = -3 → l.flatMap VT.n = [] ∧ (l.flatMap VT.s).length = l.length := fun e3 => ⟨flat_no (fun x hx' => ((hx x hx').1 e3).1), flat_one (fun x hx' => ((hx x hx').1 e3).2.1)⟩
    have c4 : t ≠ -3 → l.flatMap VT.s = [] ∧ (l.flatMap VT.n).length = l.length := fun e3 => ⟨flat_no (fun x hx' => ((hx x hx').2.1 e3).1), flat_one (fun x hx' => ((hx x hx').2.1 e3).2)⟩
    refine ⟨good_vec (by omega) (fun e3 => ⟨(c3 (by omega)).1, fun y hy => ?_⟩) (fun e3 => (c4 (by omega)).1) (fun e3 y hy => ?_) (fun y hy => ?_) ?_ ?_, .inl (show 1 ≤ -t ∧ -t ≤ 5 by omega), ?_, by simp [dpt, dpts]⟩
    · obtain ⟨x, hx', hy'⟩ := List.mem_flatMap.1 hy
      exact ((hx x hx').1 (by omega)).2.2 y hy'
    · obtain ⟨x, hx', hy'⟩ := List.mem_flatMap.1 hy
      exact (hx x hx').2.2.1 (by omega) y hy'
    · obtain ⟨x, hx', hy'⟩ := List.mem_flatMap.1 hy
      exact (hx x hx').2.2.2 y hy'
    · by_cases e3 : t = -3
      · rw [(c3 e3).1]; simp
      · rw [(c4 e3).2]; exact hl
    · by_cases e3 : t = -3
      · rw [(c3 e3).2]; exact hl
      · rw [(c4 e3).1]; simp
    · rw [cnt_mk]
      by_cases e3 : t = -3
      · rw [if_pos (by omega), (c3 e3).2]
      · rw [if_neg (by omega), if_pos (show isVecT (-t) from ⟨by omega, by omega⟩), (c4 e3).2]
/-- An element that a sequence may have. -/
structure Ele (x : VT) (c : Nat) : Prop where
  good : x.Good
  nil : x.t ≠ 101
  bk : x.bk ≤ c
theorem of_eles {L : List VT} {c : Nat} (h : ∀ x ∈ L, Ele x c) (hc : c ≤ 1073741824) (hl : L.length ≤ 65536) : (ofV L).Good ∧ El (ofV L) L := by
  obtain ⟨a, _⟩ := of_good (l := L) (d := dpts L) (fun x hx => ⟨(h x hx).good, (h x hx).nil, dpts_mem hx⟩) (fun x hx => Nat.le_trans (h x hx).bk (by omega)) hl
  exact ⟨a, ofV_El (fun x hx => ⟨(h x hx).good, Nat.le_trans (h x hx).bk hc⟩)⟩
/-- A sequence that is a value, of elements of a bulk. -/
structure Sq (v : VT) (L : List VT) (c : Nat) : Prop where
  el : El v L
  good : v.Good
  ele : ∀ x ∈ L, Ele x c
theorem Sq.of {v : VT} {c : Nat} (hg : v.Good) (hp : partP v) (hb : v.bk ≤ c) : Sq v (eachs v) c := by
  refine ⟨El.self hp, hg, ?_⟩
  obtain ⟨t, n, s, l⟩ := v
  have hp : 0 ≤ t ∧ t ≤ 5 := hp
  intro x hx
  by_cases h0 : t = 0
  · subst h0
    rw [(list_El n s l).eq] at hx
    rw [VT.bk_eq] at hb
    have := bk_mem hx
    obtain ⟨q1, _⟩ := good_in_list hg
    refine ⟨?_, q1 x hx, by omega⟩
    cases hg with
    | mk _ _ _ _ g1 g2 g3 g4 g5 g6 g7 g8 g9 => exact g9 x hx
  · obtain ⟨k, hk, rfl⟩ := List.getElem_of_mem hx
    have hk' : k < (rCount (.mk t n s l)).toNat := by rw [eachs_len] at hk; exact hk
    have e : (eachs (.mk t n s l))[k] = atV (.mk t n s l) k := by
      have := eachs_at hk'
      rwa [List.getD_eq_getElem?_getD, List.getElem?_eq_getElem hk] at this
    rw [e]
    obtain ⟨hf, hf2, _⟩ := flatAt (v := .mk t n s l) hp (k := (k : Int)) (by omega) (by omega)
    refine ⟨vec_elem hg (show 1 ≤ t ∧ t ≤ 5 by omega) (by omega) (by omega), ?_, ?_⟩
    · rw [hf, hf2, at0_t (v := .mk t n s l) (show 1 ≤ t ∧ t ≤ 5 by omega)]; show -t ≠ 101; omega
    · rw [hf]; exact Nat.le_trans (at1V_bk _ _) hb
theorem Sq.cnt {v L c} (h : Sq v L c) : L.length ≤ 65536 := by have := cnt_part h.good h.el.part; have := h.el.cnt; omega
/-- The elements' bulk is the value's. -/
theorem Sq.bk {v L c} (h : Sq v L c) : v.bk ≤ 2 * bks L + 1 := by
  obtain ⟨e, g, _⟩ := h
  obtain ⟨t, n, s, l⟩ := v
  have hp : 0 ≤ t ∧ t ≤ 5 := e.part
  rw [← e.eq]
  by_cases h0 : t = 0
  · subst h0
    obtain ⟨_, _, hn, hs⟩ := good_in_list g
    subst hn; subst hs
    rw [(list_El [] [] l).eq, VT.bk_eq]; simp only [List.length_nil, strs]; omega
  · have h15 : 1 ≤ t ∧ t ≤ 5 := by omega
    obtain ⟨f1, f2, f3, _⟩ := good_flat g (by rw [abs_vec h15]; exact h15)
    rw [abs_vec h15] at f2 f3
    subst f1
    have b0 : bks ([] : List VT) = 0 := rfl
    rw [VT.bk_eq, b0]
    by_cases h3 : t = 3
    · subst h3
      have hn := (f2 rfl).1
      subst hn
      rw [(vecS_El [] s []).eq]
      have : ∀ s : List ByteArray, strs s ≤ bks (s.map fun m => VT.mk (-3) [] [m] []) := by
        intro s
        induction s with
        | nil => simp [strs]
        | cons x s ih => rw [List.map_cons, bks_cons, VT.bk_eq]; simp only [strs, List.length_nil, bks]; omega
      have := this s
      simp only [List.length_nil]; omega
    · have hs := f3 h3
      subst hs
      rw [(vecN_El h15 h3 n [] []).eq]
      have : ∀ n : List Int, n.length ≤ bks (n.map fun m => VT.mk (-t) [m] [] []) := by
        intro n
        induction n with
        | nil => simp
        | cons x n ih => rw [List.map_cons, bks_cons, VT.bk_eq]; simp only [strs, List.length_cons, List.length_nil, bks]; omega
      have := this n
      simp only [strs]; omega
/-- Behind a sequence. -/
theorem Sq.app {v L c x} (h : Sq v L c) (hx : Ele x c) (hc : c ≤ 26214800) (he : appendE v x = 0) : Sq (appendV v x) (L ++ [x]) c ∧ rCount v < 65536 := by
  have hp := h.el.part
  by_cases hb : partB v = false ∨ x.t = 101
  · rw [(app_bad hb).2] at he; cases he
  by_cases hm : 65536 ≤ rCount v
  · rw [(app_many hb hm).2] at he; cases he
  have hr : rCount v < 65536 := by omega
  have hele : ∀ y ∈ L ++ [x], Ele y c := fun y hy => by
    rcases List.mem_append.1 hy with hy | hy
    · exact h.ele y hy
    · simp only [List.mem_singleton] at hy; subst hy; exact hx
  have hlen : (L ++ [x]).length ≤ 65536 := by have := h.el.cnt; rw [List.length_append, List.length_singleton]; omega
  refine ⟨?_, hr⟩
  by_cases h3 : v.t ≠ 0 ∧ x.t = -v.t
  · obtain ⟨e1, e2⟩ := app_join hb hm h3
    rw [e2] at he
    have hE := h.el.eq
    obtain ⟨t, n, s, l⟩ := v
    have hp : 0 ≤ t ∧ t ≤ 5 := hp
    have h0 : t ≠ 0 := h3.1
    have h15 : 1 ≤ t ∧ t ≤ 5 := by omega
    have hxt : x.t = -t := h3.2
    have ha := atom_of h15 hxt hx.good (by have := hx.bk; omega)
    rw [e1, joinJ2 h15 hxt he]
    obtain ⟨f1, f2, f3, f4, f5, _⟩ := good_flat h.good (by rw [abs_vec h15]; exact h15)
    rw [abs_vec h15] at f2 f3 f4
    have hxg := hx.good
    by_cases ht : t = 3
    · subst ht
      obtain ⟨y, rfl⟩ := ha.1 rfl
      obtain ⟨k1, k2, k3, k4, k5, _⟩ := good_flat hxg (by decide)
      obtain ⟨hn, hz⟩ := f2 rfl
      subst hn
      rw [cnt_s] at hr
      have hel := vecS_El [] (s ++ [y]) []
      rw [List.map_append, ← (vecS_El [] s l).eq, hE] at hel
      refine ⟨hel, good_vec (by omega) (fun _ => ⟨rfl, fun z hz' => ?_⟩) (fun e => absurd rfl e) (fun e => absurd e (by decide)) (fun z hz' => ?_) (Nat.zero_le _) (by show (s ++ [y]).length ≤ 65536; rw [List.length_append, List.length_singleton]; omega), hele⟩
      · rcases List.mem_append.1 hz' with hz' | hz'
        · exact hz z hz'
        · exact (k2 (by decide)).2 z hz'
      · rcases List.mem_append.1 hz' with hz' | hz'
        · exact f5 z hz'
        · exact k5 z hz'
    · obtain ⟨y, rfl⟩ := ha.2 ht
      have hab : rAbs (-t) = t := by unfold rAbs; rw [if_pos (by omega)]; omega
      obtain ⟨k1, k2, k3, k4, k5, _⟩ := good_flat hxg (by rw [hab]; exact h15)
      rw [hab] at k4
      have hs := f3 ht
      subst hs
      rw [cnt_n ht h15] at hr
      have hel := vecN_El h15 ht (n ++ [y]) [] []
      rw [List.map_append, ← (vecN_El h15 ht n [] l).eq, hE] at hel
      refine ⟨hel, good_vec h15 (fun e => absurd e ht) (fun _ => rfl) (fun e z hz' => ?_) (fun z hz' => absurd (show z ∈ ([] : List ByteArray) from hz') (by simp)) (by show (n ++ [y]).length ≤ 65536; rw [List.length_append, List.length_singleton]; omega) (Nat.zero_le _), hele⟩
      rcases List.mem_append.1 hz' with hz' | hz'
      · exact f4 e z hz'
      · exact k4 e z hz'
  · obtain ⟨e1, e2⟩ := app_list hb hm h3
    rw [e2] at he
    have hd : ¬ 32 < rDepth (moreV v x) := fun hd => by rw [(bnd_deep (by omega) hd).2] at he; cases he
    rw [e1, (bnd_ok (by omega) hd).1]
    obtain ⟨a, b⟩ := of_eles hele (by omega) hlen
    have e : moreV v x = ofV (L ++ [x]) := by unfold moreV; rw [h.el.eq]
    rw [e]
    exact ⟨b, a, hele⟩
/-- Another element at a place. -/
theorem Sq.set {v L c y} {i : Int} (h : Sq v L c) (hy : Ele y c) (hc : c ≤ 26214800) (h0 : 0 ≤ i) (hi : i < rCount v) : Sq (setV v i y) (L.set i.toNat y) c := by
  have hp := h.el.part
  have hele : ∀ z ∈ L.set i.toNat y, Ele z c := fun z hz => by
    rcases List.mem_or_eq_of_mem_set hz with hz | rfl
    · exact h.ele z hz
    · exact hy
  have hlen := h.cnt
  by_cases h3 : v.t ≠ 0 ∧ y.t = -v.t
  · have hE := h.el.eq
    have hcnt := h.el.cnt
    obtain ⟨t, n, s, l⟩ := v
    have hp : 0 ≤ t ∧ t ≤ 5 := hp
    have ht0 : t ≠ 0 := h3.1
    have h15 : 1 ≤ t ∧ t ≤ 5 := by omega
    have hxt : y.t = -t := h3.2
    have ha := atom_of h15 hxt hy.good (by have := hy.bk; omega)
    obtain ⟨f1, f2, f3, f4, f5, _⟩ := good_flat h.good (by rw [abs_vec h15]; exact h15)
    rw [abs_vec h15] at f2 f3 f4
    subst f1
    have hyg := hy.good
    by_cases ht : t = 3
    · subst ht
      obtain ⟨z, rfl⟩ := ha.1 rfl
      obtain ⟨k1, k2, k3, k4, k5, _⟩ := good_flat hyg (by decide)
      obtain ⟨hn, hz⟩ := f2 rfl
      subst hn
      rw [cnt_s] at hcnt
      rw [set_sym (x := .mk (-3) [] [z] []) rfl]
      have hel := vecS_El [] (s.set i.toNat z) []
      rw [List.map_set, ← (vecS_El [] s []).eq, hE] at hel
      refine ⟨hel, good_vec (by omega) (fun _ => ⟨rfl, fun w hw => ?_⟩) (fun e => absurd rfl e) (fun e => absurd e (by decide)) (fun w hw => ?_) (Nat.zero_le _) (by show (s.set i.toNat z).length ≤ 65536; rw [List.length_set]; omega), hele⟩
      · rcases List.mem_or_eq_of_mem_set hw with hw | rfl
        · exact hz w hw
        · exact (k2 (by decide)).2 _ (by simp)
      · rcases List.mem_or_eq_of_mem_set hw with hw | rfl
        · exact f5 w hw
        · exact k5 _ (by simp)
    · obtain ⟨z, rfl⟩ := ha.2 ht
      have hab : rAbs (-t) = t := by unfold rAbs; rw [if_pos (by omega)]; omega
      obtain ⟨k1, k2, k3, k4, k5, _⟩ := good_flat hyg (by rw [hab]; exact h15)
      rw [hab] at k4
      have hs := f3 ht
      subst hs
      rw [cnt_n ht h15] at hcnt
      rw [set_num (x := .mk (-t) [z] [] []) ht0 ht rfl]
      have hel := vecN_El h15 ht (n.set i.toNat z) [] []
      rw [List.map_set, ← (vecN_El h15 ht n [] []).eq, hE] at hel
      refine ⟨hel, good_vec h15 (fun e => absurd e ht) (fun _ => rfl) (fun e w hw => ?_) (fun w hw => by simp at hw) (by show (n.set i.toNat z).length ≤ 65536; rw [List.length_set]; omega) (Nat.zero_le _), hele⟩
      rcases List.mem_or_eq_of_mem_set hw with hw | rfl
      · exact f4 e w hw
      · exact k4 e _ (by simp)
  · rw [set_list h3, h.el.eq]
    obtain ⟨a, b⟩ := of_eles hele (by omega) (by rw [List.length_set]; exact hlen)
    exact ⟨b, a, hele⟩
end Go.Qv
