/- Scaled products, an order of numbers: there is an answer. No condition. -/
import Derived.Test.YteaeogofidakiaaQXbM
set_option linter.unusedVariables false
set_option linter.unusedSimpArgs false
set_option maxRecDepth 100000
namespace Go.Qv
open Go Go.RowKit Go.Proofs
def EX2 (E : Eff) : Prop := ∃ q r, resE E = some (.tup [.int .i64 q, .bool r])
def EX1 (E : Eff) : Prop := ∃ q, resE E = some (.int .i64 q)
theorem absU_u {a : Int} (h : isI a) : isU (absU a) := by unfold isI at h; unfold isU absU; split <;> omega
theorem absU_le {a : Int} (h : isI a) : 0 ≤ absU a ∧ absU a ≤ 9223372036854775808 := by unfold isI at h; unfold absU; split <;> omega
theorem absU_pos {a : Int} (h : a ≠ 0) : 0 < absU a := by unfold absU; split <;> omega
theorem sc_dv {a b d : Int} (ha : isI a) (hb : isI b) (hd : isI d) (hlt : ¬ absU d ≤ mulHi (absU a) (absU b)) : dvOk (mulHi (absU a) (absU b)) (mulLo (absU a) (absU b)) (absU d) := by
  have h1 := absU_le ha
  have h2 := absU_le hb
  have h3 := absU_u hd
  have p1 := Int.mul_nonneg h1.1 h2.1
  have p2 := mul_le_ h1.1 h2.1 h1.2 h2.2
  refine ⟨?_, ?_, h3, by omega⟩
  · unfold isU mulHi; omega
  · unfold isU mulLo; omega
section
attribute [local irreducible] isU isI dvOk
theorem sc_ex {a b d : Int} (ha : isI a) (hb : isI b) (hd : isI d) (h0 : d ≠ 0) : Rn w94xS EX2 (9999, [.int a, .int b, .int d]) := by
  refine Rn.go (w94x_9999 a b d _) (by kernel_rfl) ?_
  simp only [o_add, o_sub, o_mul, o_neg, o_conv, o_lt, o_le, o_eq, o_not, o_and, o_or, o_sel, o_isel, o_ssel, o_beq, o_seq, o_slt, o_slen, o_sat, o_scut, o_sadd, o_ilen, o_blen, o_vlen, o_rlen, o_iget, o_bget, o_vget, o_rget, o_iset, o_bset, o_vset, o_iapp, o_bapp, o_vapp, o_rapp, o_icut, o_bcut, o_vcut, o_irep, o_vt, o_vn, o_vs, o_vl, o_imax, o_imin, o_inb, o_sfit, o_cutb, o_fit, o_mkfit, RhQ, decT, decF, true_and, and_true, eq_self, implies_true, forall_const, Bool.not_eq_true', Bool.not_eq_false', Bool.not_true, Bool.not_false, Bool.and_eq_true, Bool.or_eq_true, Bool.and_eq_false_iff, Bool.or_eq_false_iff, Bool.true_and, Bool.and_true, Bool.false_and, Bool.and_false, Bool.or_false, Bool.false_or, Bool.true_or, Bool.or_true, Int.toNat_natCast, VT.eta, not_true, not_false_iff, false_implies, if_true, if_false, Int.toNat_zero, Int.toNat_one, ns0, ns4, RnQ]
  refine ⟨ha, hb, ⟨absU_u ha, absU_u hb⟩, hd, fun _ => ⟨_, _, rfl⟩, fun hlt => ⟨sc_dv ha hb hd hlt, ?_⟩⟩
  repeat' (first | apply And.intro | intro _)
  all_goals exact ⟨_, _, rfl⟩
end
noncomputable def scP (a b d : Int) : Int × Bool := Classical.epsilon fun p => Rh w94xS (Ret (.tup [.int .i64 p.1, .bool p.2])) (9999, [.int a, .int b, .int d])
noncomputable def scN (a b d : Int) : Int := (scP a b d).1
noncomputable def scB (a b d : Int) : Bool := (scP a b d).2
theorem sc_run {a b d : Int} (ha : isI a) (hb : isI b) (hd : isI d) (h0 : d ≠ 0) : Rh w94xS (Ret (.tup [.int .i64 (scN a b d), .bool (scB a b d)])) (9999, [.int a, .int b, .int d]) := by
  obtain ⟨E, ⟨q, r, hE⟩, n, hn⟩ := (sc_ex ha hb hd h0).one
  have : ∃ p : Int × Bool, Rh w94xS (Ret (.tup [.int .i64 p.1, .bool p.2])) (9999, [.int a, .int b, .int d]) := ⟨(q, r), n, FS.imp' (fun E' h => by subst h; exact hE) hn⟩
  exact Classical.epsilon_spec this
def ordBase (a ta b tb : Int) : Prop := a = -9223372036854775808 ∨ b = -9223372036854775808 ∨ ta = tb ∨ ta ≠ 2
theorem ordb_ex {a ta b tb : Int} (hb : ordBase a ta b tb) : Rn w72bS EX1 (9999, [.int a, .int ta, .int b, .int tb]) := by
  refine Rn.go (w72b_9999 a ta b tb _) (by kernel_rfl) ?_
  unfold ordBase at hb
  simp only [o_add, o_sub, o_mul, o_neg, o_conv, o_lt, o_le, o_eq, o_not, o_and, o_or, o_sel, o_isel, o_ssel, o_beq, o_seq, o_slt, o_slen, o_sat, o_scut, o_sadd, o_ilen, o_blen, o_vlen, o_rlen, o_iget, o_bget, o_vget, o_rget, o_iset, o_bset, o_vset, o_iapp, o_bapp, o_vapp, o_rapp, o_icut, o_bcut, o_vcut, o_irep, o_vt, o_vn, o_vs, o_vl, o_imax, o_imin, o_inb, o_sfit, o_cutb, o_fit, o_mkfit, RhQ, decT, decF, true_and, and_true, eq_self, implies_true, forall_const, Bool.not_eq_true', Bool.not_eq_false', Bool.not_true, Bool.not_false, Bool.and_eq_true, Bool.or_eq_true, Bool.and_eq_false_iff, Bool.or_eq_false_iff, Bool.true_and, Bool.and_true, Bool.false_and, Bool.and_false, Bool.or_false, Bool.false_or, Bool.true_or, Bool.or_true, Int.toNat_natCast, VT.eta, not_true, not_false_iff, false_implies, if_true, if_false, Int.toNat_zero, Int.toNat_one, ns0, ns4, RnQ, null63]
  refine ⟨fun _ => ?_, fun hn => ⟨fun h2 => ?_, fun _ => ?_⟩⟩
  case refine_2 => exfalso; omega
  all_goals repeat' (first | apply And.intro | intro _)
  all_goals exact ⟨_, rfl⟩
noncomputable def ordB (a ta b tb : Int) : Int := Classical.epsilon fun p => Rh w72bS (Ret (.int .i64 p)) (9999, [.int a, .int ta, .int b, .int tb])
theorem ordb_run {a ta b tb : Int} (hb : ordBase a ta b tb) : Rh w72bS (Ret (.int .i64 (ordB a ta b tb))) (9999, [.int a, .int ta, .int b, .int tb]) := by
  obtain ⟨E, ⟨q, hE⟩, n, hn⟩ := (ordb_ex hb).one
  have : ∃ p : Int, Rh w72bS (Ret (.int .i64 p)) (9999, [.int a, .int ta, .int b, .int tb]) := ⟨q, n, FS.imp' (fun E' h => by subst h; exact hE) hn⟩
  exact Classical.epsilon_spec this
noncomputable def sp94x : List AV → T AV
  | [.int .i64 a, .int .i64 b, .int .i64 d] => when_ (isI a ∧ isI b ∧ isI d ∧ d ≠ 0) (.leaf (.tup [.int .i64 (scN a b d), .bool (scB a b d)]))
  | _ => .stuck "sp94x"
noncomputable def sp72b : List AV → T AV
  | [.int .i64 a, .int .i64 ta, .int .i64 b, .int .i64 tb] => when_ (ordBase a ta b tb) (.leaf (.int .i64 (ordB a ta b tb)))
  | _ => .stuck "sp72b"
theorem ok94x : Pure1 Try.prog 94 sp94x := by
  intro xs F w cs R ha h
  unfold sp94x at h
  split at h
  · rename_i a b d
    obtain ⟨⟨h1, h2, h3, h4⟩, h⟩ := when_inv h
    exact contract (fn := Try.f94) (walked (PureOk.also ok105 (PureOk.also ok106 (PureOk.also ok107x (PureOk.none _)))) 14) (by kernel_rfl) w94xC_ok (by rfl) (by rfl) (by rfl) (by rfl) (by rfl) ha (sc_run h1 h2 h3 h4) h
  · exact h.elim
theorem okNo {f : FuncId} : Pure1 Try.prog f spNo := by
  intro xs F w cs R ha h
  exact h.elim
theorem ok72b : Pure1 Try.prog 72 sp72b := by
  intro xs F w cs R ha h
  unfold sp72b at h
  split at h
  · rename_i a ta b tb
    obtain ⟨hb, h⟩ := when_inv h
    exact contract (fn := Try.f72) (walked (PureOk.also okNo (PureOk.none _)) 14) (by kernel_rfl) w72bC_ok (by rfl) (by rfl) (by rfl) (by rfl) (by rfl) ha (ordb_run hb) h
  · exact h.elim
end Go.Qv
/- Walks of operations, 3. (Printed.) -/
set_option linter.unusedVariables false
set_option maxRecDepth 100000
namespace Go.Qv
open Go Go.RowKit
noncomputable def w72xC : List Cut := [(⟨9999, ⟨[(0, (.one (.int IntKind.i64))), (1, (.one (.int IntKind.i64))), (2, (.one (.int IntKind.i64))), (3, (.one (.int IntKind.i64)))], [], 0, 55⟩, [It.code (bodyOf Go.Proofs.Try.f72)], []⟩ : Cut)]
theorem w72xC_ok : cutsOk w72xC = true := by kernel_rfl
noncomputable def w72xS  : Nat × List Lf → T Gt := stepX O.real Go.Qv.tb (inl O.real Go.Qv.tb Go.Qv.fns (pureOrc (PS.also 72 sp72b PS.none)) (fun f => Nat.beq f 72) (fun _ => false) 300 14) Go.Proofs.Try.f72.results ([]) 0 w72xC
theorem w72x_9999  (t0 : Int) (t1 : Int) (t2 : Int) (t3 : Int) (Q : Gt → Prop) : T.ob noB Q (.D 1 (.S (.D 1 (.S (.D 1 (.S (.D 1 (.S (.D 1 (.S (.B (.B (.S .E) (.B (.S .E) (.S .E))) (.B (.S (.S .E)) (.D 2 (.B (.B (.B (.S .E) (.B (.S .E) (.S .E))) (.B (.S .E) (.B (.S .E) (.S .E)))) (.B (.B (.S .E) (.B (.S .E) (.S .E))) (.B (.S .E) (.B (.S .E) (.S .E)))))))))))))))))) (w72xS  (9999, [Lf.int t0, Lf.int t1, Lf.int t2, Lf.int t3])) =
  ((((O.real.eq t0 (Int.negSucc 9223372036854775807)) = Bool.false) → True) ∧ ((((O.real.eq t0 (Int.negSucc 9223372036854775807)) = Bool.false) → True) ∧ ((((O.real.or (O.real.eq t0 (Int.negSucc 9223372036854775807)) (O.real.eq t2 (Int.negSucc 9223372036854775807))) = Bool.false) → True) ∧ ((((O.real.or (O.real.eq t0 (Int.negSucc 9223372036854775807)) (O.real.eq t2 (Int.negSucc 9223372036854775807))) = Bool.false) → True) ∧ ((((O.real.or (O.real.eq t0 (Int.negSucc 9223372036854775807)) (O.real.eq t2 (Int.negSucc 9223372036854775807))) = Bool.false) → True) ∧ (((O.real.or (O.real.or (O.real.eq t0 (Int.negSucc 9223372036854775807)) (O.real.eq t2 (Int.negSucc 9223372036854775807))) (O.real.eq t1 t3)) = true → (((O.real.lt t0 t2) = true → Q (.inr ⟨(AV.int IntKind.i64 (Int.negSucc 0)), [], [], []⟩)) ∧ ((O.real.lt t0 t2) = false → (((O.real.lt t2 t0) = true → Q (.inr ⟨(AV.int IntKind.i64 (1 : Int)), [], [], []⟩)) ∧ ((O.real.lt t2 t0) = false → Q (.inr ⟨(AV.int IntKind.i64 (0 : Int)), [], [], []⟩)))))) ∧ ((O.real.or (O.real.or (O.real.eq t0 (Int.negSucc 9223372036854775807)) (O.real.eq t2 (Int.negSucc 9223372036854775807))) (O.real.eq t1 t3)) = false → (((O.real.eq t1 (2 : Int)) = true → ((ordBase t2 t3 t0 t1) ∧ Q (.inr ⟨(AV.int IntKind.i64 (O.real.neg IntKind.i64 (ordB t2 t3 t0 t1))), [], [], []⟩))) ∧ ((O.real.eq t1 (2 : Int)) = false → (((O.real.lt (O.real.rem t0 (10000 : Int)) (0 : Int)) = true → (((O.real.not (O.real.eq (O.real.sub IntKind.i64 (O.real.quo IntKind.i64 t0 (10000 : Int)) (1 : Int)) t2)) = true → (((O.real.lt (O.real.sub IntKind.i64 (O.real.quo IntKind.i64 t0 (10000 : Int)) (1 : Int)) t2) = true → Q (.inr ⟨(AV.int IntKind.i64 (Int.negSucc 0)), [], [], []⟩)) ∧ ((O.real.lt (O.real.sub IntKind.i64 (O.real.quo IntKind.i64 t0 (10000 : Int)) (1 : Int)) t2) = false → (((O.real.lt t2 (O.real.sub IntKind.i64 (O.real.quo IntKind.i64 t0 (10000 : Int)) (1 : Int))) = true → Q (.inr ⟨(AV.int IntKind.i64 (1 : Int)), [], [], []⟩)) ∧ ((O.real.lt t2 (O.real.sub IntKind.i64 (O.real.quo IntKind.i64 t0 (10000 : Int)) (1 : Int))) = false → Q (.inr ⟨(AV.int IntKind.i64 (0 : Int)), [], [], []⟩)))))) ∧ ((O.real.not (O.real.eq (O.real.sub IntKind.i64 (O.real.quo IntKind.i64 t0 (10000 : Int)) (1 : Int)) t2)) = false → (((O.real.lt (O.real.add IntKind.i64 (O.real.rem t0 (10000 : Int)) (10000 : Int)) (0 : Int)) = true → Q (.inr ⟨(AV.int IntKind.i64 (Int.negSucc 0)), [], [], []⟩)) ∧ ((O.real.lt (O.real.add IntKind.i64 (O.real.rem t0 (10000 : Int)) (10000 : Int)) (0 : Int)) = false → (((O.real.lt (0 : Int) (O.real.add IntKind.i64 (O.real.rem t0 (10000 : Int)) (10000 : Int))) = true → Q (.inr ⟨(AV.int IntKind.i64 (1 : Int)), [], [], []⟩)) ∧ ((O.real.lt (0 : Int) (O.real.add IntKind.i64 (O.real.rem t0 (10000 : Int)) (10000 : Int))) = false → Q (.inr ⟨(AV.int IntKind.i64 (0 : Int)), [], [], []⟩)))))))) ∧ ((O.real.lt (O.real.rem t0 (10000 : Int)) (0 : Int)) = false → (((O.real.not (O.real.eq (O.real.quo IntKind.i64 t0 (10000 : Int)) t2)) = true → (((O.real.lt (O.real.quo IntKind.i64 t0 (10000 : Int)) t2) = true → Q (.inr ⟨(AV.int IntKind.i64 (Int.negSucc 0)), [], [], []⟩)) ∧ ((O.real.lt (O.real.quo IntKind.i64 t0 (10000 : Int)) t2) = false → (((O.real.lt t2 (O.real.quo IntKind.i64 t0 (10000 : Int))) = true → Q (.inr ⟨(AV.int IntKind.i64 (1 : Int)), [], [], []⟩)) ∧ ((O.real.lt t2 (O.real.quo IntKind.i64 t0 (10000 : Int))) = false → Q (.inr ⟨(AV.int IntKind.i64 (0 : Int)), [], [], []⟩)))))) ∧ ((O.real.not (O.real.eq (O.real.quo IntKind.i64 t0 (10000 : Int)) t2)) = false → (((O.real.lt (O.real.rem t0 (10000 : Int)) (0 : Int)) = true → Q (.inr ⟨(AV.int IntKind.i64 (Int.negSucc 0)), [], [], []⟩)) ∧ ((O.real.lt (O.real.rem t0 (10000 : Int)) (0 : Int)) = false → (((O.real.lt (0 : Int) (O.real.rem t0 (10000 : Int))) = true → Q (.inr ⟨(AV.int IntKind.i64 (1 : Int)), [], [], []⟩)) ∧ ((O.real.lt (0 : Int) (O.real.rem t0 (10000 : Int))) = false → Q (.inr ⟨(AV.int IntKind.i64 (0 : Int)), [], [], []⟩)))))))))))))))))) := by kernel_rfl

noncomputable def w90xC : List Cut := [(⟨9999, ⟨[(0, (.agg [(.int .i64), (.int .i64)])), (1, (.agg [(.int .i64), (.int .i64)]))], [], 0, 31⟩, [It.code (bodyOf Go.Proofs.Try.f90)], []⟩ : Cut)]
theorem w90xC_ok : cutsOk w90xC = true := by kernel_rfl
noncomputable def w90xS  : Nat × List Lf → T Gt := stepX O.real Go.Qv.tb (inl O.real Go.Qv.tb Go.Qv.fns (pureOrc (PS.also 94 sp94x PS.none)) (fun f => Nat.beq f 94) (fun _ => false) 300 14) Go.Proofs.Try.f90.results ([]) 0 w90xC
theorem w90x_9999  (t0 : Int) (t0_1 : Int) (t1 : Int) (t1_1 : Int) (Q : Gt → Prop) : T.ob noB Q (.D 1 (.S (.D 1 (.S (.D 1 (.S (.D 1 (.S (.D 1 (.S (.D 1 (.S (.B (.S .E) (.S (.S .E))))))))))))))) (w90xS  (9999, [Lf.int t0, Lf.int t0_1, Lf.int t1, Lf.int t1_1])) =
  ((((O.real.not (O.real.eq t0_1 (2 : Int))) = Bool.false) → True) ∧ ((((O.real.not (O.real.eq t0_1 (2 : Int))) = Bool.false) → True) ∧ ((((O.real.not (O.real.eq t0_1 (2 : Int))) = Bool.false) → True) ∧ ((((O.real.or (O.real.not (O.real.eq t0_1 (2 : Int))) (O.real.not (O.real.eq t1_1 (5 : Int)))) = Bool.false) → True) ∧ ((((O.real.or (O.real.not (O.real.eq t0_1 (2 : Int))) (O.real.not (O.real.eq t1_1 (5 : Int)))) = Bool.false) → True) ∧ ((((O.real.or (O.real.not (O.real.eq t0_1 (2 : Int))) (O.real.not (O.real.eq t1_1 (5 : Int)))) = Bool.false) → True) ∧ (((O.real.or (O.real.or (O.real.not (O.real.eq t0_1 (2 : Int))) (O.real.not (O.real.eq t1_1 (5 : Int)))) (O.real.eq t0 (Int.negSucc 9223372036854775807))) = true → Q (.inr ⟨(AV.tup [(AV.agg [(AV.int IntKind.i64 t0), (AV.int IntKind.i64 t0_1)]), (AV.bool Bool.true)]), [], [], []⟩)) ∧ ((O.real.or (O.real.or (O.real.not (O.real.eq t0_1 (2 : Int))) (O.real.not (O.real.eq t1_1 (5 : Int)))) (O.real.eq t0 (Int.negSucc 9223372036854775807))) = false → (((isI t0) ∧ ((isI (10000 : Int)) ∧ ((isI (1 : Int)) ∧ (((1 : Int) = (0 : Int)) → False)))) ∧ Q (.inr ⟨(AV.tup [(AV.agg [(AV.int IntKind.i64 (scN t0 (10000 : Int) (1 : Int))), (AV.int IntKind.i64 (5 : Int))]), (AV.bool (scB t0 (10000 : Int) (1 : Int)))]), [], [], []⟩)))))))))) := by kernel_rfl
end Go.Qv
