/- quiverlaw07.VecWhole: the law over contracts. No condition. -/
import Derived.Test.YteaeogofidakiaaQPw
import Derived.Test.YteaeogofidakiaaQPlM
set_option linter.unusedVariables false
set_option linter.unusedSimpArgs false
set_option maxRecDepth 100000
namespace Go.Qv
open Go Go.RowKit Go.Proofs
theorem iota_snoc (i : Nat) : iotaI ((i : Nat) : Int) ++ [(i : Int)] = iotaI ((i + 1 : Nat) : Int) := by
  unfold iotaI
  rw [Int.toNat_natCast, Int.toNat_natCast, List.range_succ, List.map_append]; rfl
theorem pick_iota {v : VT} (hb : v.bk ≤ 1048576) (hc : cntOk v) : pickOk v (iotaI (rCount v)) := by
  intro hh
  have h1 := hc hh
  refine ⟨by rw [iotaI_len]; omega, fun h0 => ?_⟩
  obtain ⟨n, s, l, rfl⟩ := t0 h0
  unfold tames
  rw [at_all]
  have := list_bks hb
  omega
theorem loop6 (t n s l) (hp : partP (.mk t n s l)) (hb : (VT.mk t n s l).bk ≤ 1048576) (hc : cntOk (.mk t n s l)) (hy : pickV (.mk t n s l) (iotaI (rCount (.mk t n s l))) = .mk t n s l) (i : Nat) (hi : (i : Int) ≤ rCount (.mk t n s l)) :
    Rh w6S IsTrue (10, [.int 0, .int 0, .int 0, .int 0, .int 0, .int i, .int t, .is n, .ss s, .vs l, .int t, .is n, .ss s, .vs l, .int t, .is n, .ss s, .vs l, .is (iotaI i)]) := by
  refine Rh.go (w6_10 0 0 0 0 0 i t n s l t n s l t n s l (iotaI i) _) ?_
  have hc1 := hc hp
  have hl : (iotaI (i : Int)).length = i := by rw [iotaI_len, Int.toNat_natCast]
  have ht : tame (.mk t n s l) := by unfold tame; omega
  simp only [o_add, o_sub, o_mul, o_neg, o_conv, o_lt, o_le, o_eq, o_not, o_and, o_or, o_sel, o_isel, o_ssel, o_beq, o_seq, o_slt, o_slen, o_sat, o_scut, o_sadd, o_ilen, o_blen, o_vlen, o_rlen, o_iget, o_bget, o_vget, o_rget, o_iset, o_bset, o_vset, o_iapp, o_bapp, o_vapp, o_rapp, o_icut, o_bcut, o_vcut, o_irep, o_vt, o_vn, o_vs, o_vl, o_imax, o_imin, o_inb, o_sfit, o_cutb, o_fit, o_mkfit, RhQ, decT, decF, true_and, and_true, eq_self, implies_true, forall_const, Bool.not_eq_true', Bool.not_eq_false', Bool.not_true, Bool.not_false, Bool.and_eq_true, Bool.or_eq_true, Bool.and_eq_false_iff, Bool.or_eq_false_iff, Bool.true_and, Bool.and_true, Bool.false_and, Bool.and_false, Bool.or_false, Bool.false_or, Bool.true_or, Bool.or_true, Int.toNat_natCast, VT.eta, not_true, not_false_iff, false_implies, if_true, if_false, Int.toNat_zero, Int.toNat_one, ns0, ns4, hl, List.length_cons, List.length_nil, iota_snoc]
  refine ⟨fun h => ?_, fun h => ?_⟩
  · have e := loop6 t n s l hp hb hc hy (i + 1) (by omega)
    rw [w64 (by omega) (by omega)]
    exact ⟨by omega, e⟩
  · have e : (i : Int) = rCount (.mk t n s l) := by omega
    rw [e]
    have o2 : opE (.mk t n s l) = 0 := (op_yes (v := .mk t n s l) (a := []) hp).2
    have o1 : opV (.mk t n s l) (iotaI (rCount (.mk t n s l))) = .mk t n s l := by rw [(op_yes (v := .mk t n s l) hp).1, hy]
    simp only [o1, o2, veq_self, Int.add_zero]
    refine ⟨ht, hc, pick_iota hb hc, ?_⟩
    have w0 : IntKind.i64.wrap 0 = 0 := by rw [w64 (by omega) (by omega)]
    simp only [w0, o_add, o_sub, o_mul, o_neg, o_conv, o_lt, o_le, o_eq, o_not, o_and, o_or, o_sel, o_isel, o_ssel, o_beq, o_seq, o_slt, o_slen, o_sat, o_scut, o_sadd, o_ilen, o_blen, o_vlen, o_rlen, o_iget, o_bget, o_vget, o_rget, o_iset, o_bset, o_vset, o_iapp, o_bapp, o_vapp, o_rapp, o_icut, o_bcut, o_vcut, o_irep, o_vt, o_vn, o_vs, o_vl, o_imax, o_imin, o_inb, o_sfit, o_cutb, o_fit, o_mkfit, RhQ, decT, decF, true_and, and_true, eq_self, implies_true, forall_const, Bool.not_eq_true', Bool.not_eq_false', Bool.not_true, Bool.not_false, Bool.and_eq_true, Bool.or_eq_true, Bool.and_eq_false_iff, Bool.or_eq_false_iff, Bool.true_and, Bool.and_true, Bool.false_and, Bool.and_false, Bool.or_false, Bool.false_or, Bool.true_or, Bool.or_true, Int.toNat_natCast, VT.eta, not_true, not_false_iff, false_implies, if_true, if_false, Int.toNat_zero, Int.toNat_one, ns0, ns4]
    exact ⟨fun h => by simp at h, IsTrue.of (by simp)⟩
termination_by (rCount (.mk t n s l)).toNat - i
decreasing_by omega
theorem whole (x : Int) (t n s l) (hf : (VT.mk t n s l).Fine) (hb : (VT.mk t n s l).bk ≤ 1048576) (hx : i64P x) : Rh w6S IsTrue (9999, [.int t, .is n, .ss s, .vs l, .int x]) := by
  refine Rh.go (w6_9999 t n s l x _) ?_
  simp only [o_add, o_sub, o_mul, o_neg, o_conv, o_lt, o_le, o_eq, o_not, o_and, o_or, o_sel, o_isel, o_ssel, o_beq, o_seq, o_slt, o_slen, o_sat, o_scut, o_sadd, o_ilen, o_blen, o_vlen, o_rlen, o_iget, o_bget, o_vget, o_rget, o_iset, o_bset, o_vset, o_iapp, o_bapp, o_vapp, o_rapp, o_icut, o_bcut, o_vcut, o_irep, o_vt, o_vn, o_vs, o_vl, o_imax, o_imin, o_inb, o_sfit, o_cutb, o_fit, o_mkfit, RhQ, decT, decF, true_and, and_true, eq_self, implies_true, forall_const, Bool.not_eq_true', Bool.not_eq_false', Bool.not_true, Bool.not_false, Bool.and_eq_true, Bool.or_eq_true, Bool.and_eq_false_iff, Bool.or_eq_false_iff, Bool.true_and, Bool.and_true, Bool.false_and, Bool.and_false, Bool.or_false, Bool.false_or, Bool.true_or, Bool.or_true, Int.toNat_natCast, VT.eta, not_true, not_false_iff, false_implies, if_true, if_false, Int.toNat_zero, Int.toNat_one, ns0, ns4]
  refine ⟨fun y hy => by simp at hy; subst hy; exact hf, fun _ => IsTrue.of rfl, fun hg => ?_⟩
  obtain ⟨⟨⟨hr, hv⟩, h0⟩, h1⟩ := hg
  have hp : partP (.mk t n s l) := show 0 ≤ t ∧ t ≤ 5 by omega
  have hck : checkV (.mk t n s l) = 0 := by
    unfold rightB checkB at hr
    simp only [List.all_cons, List.all_nil, Bool.and_true, Bool.and_eq_true, decide_eq_true_eq] at hr
    exact hr.2
  have hw := whole_of x hp hb hck
  have hc := cnt_ok (checkV_parts hck)
  have hc1 := hc hp
  have ht : tame (.mk t n s l) := by unfold tame; omega
  have htl : takeL x (.mk t n s l) = (iotaI (rCount (.mk t n s l))).take x.toNat := take_iota (by omega) (by omega)
  have hdl : dropL x (.mk t n s l) = (iotaI (rCount (.mk t n s l))).drop x.toNat := drop_iota (by omega)
  have hT : takeV x (.mk t n s l) = pickV (.mk t n s l) ((iotaI (rCount (.mk t n s l))).take x.toNat) := by unfold takeV; rw [if_pos hp, if_neg (by omega), htl]
  have hT0 : takeE x (.mk t n s l) = 0 := by unfold takeE; rw [if_pos hp, if_neg (by omega)]
  have hD : opV (.mk t n s l) (dropL x (.mk t n s l)) = pickV (.mk t n s l) ((iotaI (rCount (.mk t n s l))).drop x.toNat) := by rw [(op_yes (v := .mk t n s l) hp).1, hdl]
  have hR : opV (.mk t n s l) (revL (.mk t n s l)) = pickV (.mk t n s l) (iotaI (rCount (.mk t n s l))).reverse := (op_yes (v := .mk t n s l) hp).1
  have o2 : opE (.mk t n s l) = 0 := (op_yes (v := .mk t n s l) (a := []) hp).2
  have p1 := pick_rev hb hc
  have p2 := pick_drop x hb hc
  have p4 : takeOk x (.mk t n s l) := fun h => by
    rw [htl]
    intro hh
    refine ⟨by rw [List.length_take, iotaI_len]; omega, fun h0 => ?_⟩
    obtain ⟨n', s', l', e⟩ := t0 h0
    rw [e] at hb ⊢
    unfold tames
    rw [List.map_take, at_all]
    have := list_bks hb
    have := bks_take l' x.toNat
    omega
  have hRR : opV (pickV (.mk t n s l) (iotaI (rCount (.mk t n s l))).reverse) (revL (pickV (.mk t n s l) (iotaI (rCount (.mk t n s l))).reverse)) = .mk t n s l := by
    rw [(op_yes hw.dp).1]
    show pickV _ (iotaI (rCount _)).reverse = _
    rw [hw.dc, hw.dv]
  have oD : opE (pickV (.mk t n s l) (iotaI (rCount (.mk t n s l))).reverse) = 0 := (op_yes (a := []) hw.dp).2
  have cD : cntOk (pickV (.mk t n s l) (iotaI (rCount (.mk t n s l))).reverse) := fun _ => by rw [hw.dc]; exact hc1
  have tD : tame (pickV (.mk t n s l) (iotaI (rCount (.mk t n s l))).reverse) := by have := hw.db; unfold tame; omega
  have pD := pick_rev hw.db cD
  have jb := hw.jb
  have e := loop6 t n s l hp hb hc hw.iv 0 (by omega)
  rw [hT, hD, hR, hT0, o2, oD, hRR, hw.jv, hw.je]
  exact ⟨ht, hc, p4, hx, ht, hc, p2, jb, ht, hc, p1, tD, cD, pD, e⟩
theorem wholeOrc : OrcOk Try.prog (inl O.real Go.Qv.tb Go.Qv.fns (pureOrc (PS.also 8 spLive (PS.also 7 sp7 (PS.also 15 sp15f (PS.also 16 sp16 (PS.also 22 sp22 (PS.also 9 spJoin (PS.also 23 sp23 (PS.also 24 sp24 (PS.also 11 sp11f PS.none)))))))))) (fun f => Nat.beq f 8 || Nat.beq f 7 || Nat.beq f 15 || Nat.beq f 16 || Nat.beq f 22 || Nat.beq f 9 || Nat.beq f 23 || Nat.beq f 24 || Nat.beq f 11) (fun _ => false) 300 14) (fun _ => True) :=
  walked (PureOk.also okLive (PureOk.also ok7 (PureOk.also ok15 (PureOk.also ok16 (PureOk.also ok22 (PureOk.also ok9 (PureOk.also ok23 (PureOk.also ok24 (PureOk.also ok11 (PureOk.none _)))))))))) 14
end Go.Qv
