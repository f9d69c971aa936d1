/- quiverlaw07.VecParts: the law over contracts. No condition. -/
import Derived.Test.YteaeogofidakiaaGreatQWe
import Derived.Test.YteaeogofidakiaaGreatQPe
set_option linter.unusedVariables false
set_option linter.unusedSimpArgs false
set_option maxRecDepth 100000
namespace Go.Qv
open Go Go.RowKit Go.Proofs
noncomputable def closedF : Orc := inl O.real tbF fns noOrc noKnown shutM 300 14
theorem closedF_ok : OrcOk Tryz.prog closedF (fun _ => True) := inl_ok mixed tbF_ok fnsOk (noOrc_ok _ _) 14
noncomputable def closedL : Orc := inl O.real tbF fns (pureOrc (PS.also 34 (runP closedF 34) PS.none)) (fun f => Nat.beq f 34) shutM 300 14
theorem closedL_ok : OrcOk Tryz.prog closedL (fun _ => True) := inl_ok mixed tbF_ok fnsOk (pureOrc_ok (PureOk.also (runP_ok closedF_ok 34) (PureOk.none _))) 14
theorem live8 : (closedL 6 0 [] []).okB (fun E => isT E && E.hw.isEmpty && E.frz.isEmpty && E.new.isEmpty) = true := by kernel_rfl
theorem okLive : Pure1 Tryz.prog 6 spLive := ok_live closedL_ok live8
theorem veq_self (v : VT) : veq v v = true := veq_iff.2 rfl
theorem ns999 : Int.negSucc 999 = -1000 := rfl
theorem ns59 : Int.negSucc 59 = -60 := rfl
/-! ### what the guards leave -/
theorem parts_many {t n s l k} (h : rParts (.mk t n s l) k = 0) : rMany (.mk t n s l) = false := by
  rw [rParts] at h
  split at h
  · omega
  · split at h
    · omega
    · rename_i h2; simpa using h2
theorem checkV_parts {v : VT} (h : checkV v = 0) : rParts v 1048576 = 0 := by
  unfold checkV at h
  split at h
  · omega
  · exact h
theorem cnt_ok {v : VT} (h : rParts v 1048576 = 0) : cntOk v := by
  obtain ⟨t, n, s, l⟩ := v
  intro hh
  have hh : 0 ≤ t ∧ t ≤ 5 := hh
  have hm := parts_many h
  have em : rMany (.mk t n s l) = if t = 3 then decide ((65536 : Int) < s.length) else if 1 ≤ t ∧ t ≤ 5 then decide ((65536 : Int) < n.length) else if t = 98 then decide ((64 : Int) < s.length) || decide ((64 : Int) < l.length) else decide (t = 0) && decide ((65536 : Int) < l.length) := rfl
  rw [em] at hm
  clear em
  by_cases h3 : t = 3
  · subst h3
    rw [if_pos rfl, decide_eq_false_iff_not] at hm
    rw [cnt_s]; omega
  · rw [if_neg h3] at hm
    by_cases h0 : t = 0
    · subst h0
      rw [if_neg (by omega), if_neg (by omega)] at hm
      simp only [decide_true, Bool.true_and, decide_eq_false_iff_not] at hm
      rw [cnt_l]; omega
    · rw [if_pos (by omega), decide_eq_false_iff_not] at hm
      rw [cnt_n h3 (by omega)]; omega
theorem bks_reverse : ∀ l : List VT, bks l.reverse = bks l
  | [] => rfl
  | x :: l => by rw [List.reverse_cons, bks_append, bks_reverse l, bks_cons, bks_cons]; simp only [bks]; omega
theorem at_all (n s l) : (iotaI (rCount (.mk 0 n s l))).map (at1V (.mk 0 n s l)) = l := by
  rw [cnt_l]
  apply List.ext_getElem
  · simp [iotaI_len]
  · intro i h1 h2
    rw [List.getElem_map, iotaI_get, at1_yes (by rw [cnt_l]; omega), at0_l, List.getD_eq_getElem?_getD, show ((i : Nat) : Int).toNat = i by omega, List.getElem?_eq_getElem h2]; rfl
theorem t0 {v : VT} (h : v.t = 0) : ∃ n s l, v = .mk 0 n s l := by
  obtain ⟨t, n, s, l⟩ := v
  have h : t = 0 := h
  subst h
  exact ⟨n, s, l, rfl⟩
theorem list_bks {n s l} (h : (VT.mk 0 n s l).bk ≤ 1048576) : bks l ≤ 1048576 := by rw [VT.bk_eq] at h; omega
theorem pick_rev {v : VT} (hb : v.bk ≤ 1048576) (hc : cntOk v) : pickOk v (revL v) := by
  intro hh
  have h1 := hc hh
  refine ⟨by unfold revL; rw [List.length_reverse, iotaI_len]; omega, fun h0 => ?_⟩
  obtain ⟨n, s, l, rfl⟩ := t0 h0
  unfold revL tames
  rw [List.map_reverse, at_all, bks_reverse]
  have := list_bks hb
  omega
theorem pick_drop {v : VT} (x : Int) (hb : v.bk ≤ 1048576) (hc : cntOk v) : pickOk v (dropL x v) := by
  intro hh
  have h1 := hc hh
  have h2 := rCount_nn v
  refine ⟨?_, fun h0 => ?_⟩
  · unfold dropL dropI
    split
    · rw [List.length_drop, iotaI_len]; omega
    · rw [List.length_take, iotaI_len]; omega
  · obtain ⟨n, s, l, rfl⟩ := t0 h0
    have := list_bks hb
    unfold dropL dropI tames
    split
    · rw [List.map_drop, at_all]; have := bks_drop l x.toNat; omega
    · rw [List.map_take, at_all]; have := bks_take l (rCount (.mk 0 n s l) + x).toNat; omega
theorem bks_few {v : VT} : ∀ a : List Int, bks (a.map (at1V v)) ≤ a.length * v.bk
  | [] => by simp [bks]
  | x :: a => by
    have h1 := bks_few (v := v) a
    have h2 := at1V_bk v x
    rw [List.map_cons, bks_cons, List.length_cons, Nat.add_mul]; omega
theorem pick_few {v : VT} {a : List Int} (hb : v.bk ≤ 1048576) (ha : a.length ≤ 1000) : pickOk v a := by
  intro hh
  refine ⟨by omega, fun _ => ?_⟩
  unfold tames
  have h1 := bks_few (v := v) a
  have h2 : a.length * v.bk ≤ 1000 * 1048576 := Nat.mul_le_mul ha hb
  omega
theorem parts (x : Int) (a : List Int) (t n s l) (hf : (VT.mk t n s l).Fine) (hb : (VT.mk t n s l).bk ≤ 1048576) (hx : i64P x) : Rh w3S IsTrue (9999, [.int t, .is n, .ss s, .vs l, .int x, .is a]) := by
  refine Rh.go (w3_9999 t n s l x a _) ?_
  simp only [o_add, o_sub, o_mul, o_neg, o_conv, o_lt, o_le, o_eq, o_not, o_and, o_or, o_sel, o_isel, o_ssel, o_beq, o_seq, o_slt, o_slen, o_sat, o_scut, o_sadd, o_ilen, o_blen, o_vlen, o_rlen, o_iget, o_bget, o_vget, o_rget, o_iset, o_bset, o_vset, o_iapp, o_bapp, o_vapp, o_rapp, o_icut, o_bcut, o_vcut, o_irep, o_vt, o_vn, o_vs, o_vl, o_imax, o_imin, o_inb, o_sfit, o_cutb, o_fit, o_mkfit, RhQ, decT, decF, true_and, and_true, eq_self, implies_true, forall_const, Bool.not_eq_true', Bool.not_eq_false', Bool.not_true, Bool.not_false, Bool.and_eq_true, Bool.or_eq_true, Bool.and_eq_false_iff, Bool.or_eq_false_iff, Bool.true_and, Bool.and_true, Bool.false_and, Bool.and_false, Bool.or_false, Bool.false_or, Bool.true_or, Bool.or_true, Int.toNat_natCast, VT.eta, not_true, not_false_iff, false_implies, if_true, if_false, Int.toNat_zero, Int.toNat_one, ns0, ns4, veq_self, ns65, ns999, ns59]
  refine ⟨fun y hy => by simp at hy; subst hy; exact hf, fun _ => IsTrue.of rfl, fun hg => ⟨fun _ => IsTrue.of rfl, fun _ => ?_⟩⟩
  have hr := hg.1.1
  have hck : checkV (.mk t n s l) = 0 := by
    unfold rightB checkB at hr
    simp only [List.all_cons, List.all_nil, Bool.and_true, Bool.and_eq_true, decide_eq_true_eq] at hr
    exact hr.2
  have hc := cnt_ok (checkV_parts hck)
  have ht : tame (.mk t n s l) := by unfold tame; omega
  have p1 := pick_rev hb hc
  have p2 := pick_drop x hb hc
  have p3 : pickOk (.mk t n s l) a := pick_few hb (by have := hg.1.2; omega)
  have p4 : takeOk x (.mk t n s l) := fun h => pick_few hb (by unfold takeL; rw [takeI_len]; omega)
  exact ⟨ht, ht, hc, p1, ht, hc, p1, ht, hc, p4, ht, hc, p4, hx, ht, hc, p2, hx, ht, hc, p2, ht, hc, p3, ht, hc, p3, IsTrue.of (by simp)⟩
theorem wOrc : OrcOk Tryz.prog (inl O.real Go.Qv.tb Go.Qv.fns (pureOrc (PS.also 6 spLive (PS.also 5 sp5 (PS.also 7 sp7f (PS.also 8 sp8f (PS.also 11 sp11f (PS.also 9 sp9 (PS.also 10 sp10 (PS.also 13 sp13 (PS.also 14 sp14 (PS.also 15 sp15 (PS.also 16 sp16 (PS.also 17 sp17 (PS.also 18 sp18 PS.none)))))))))))))) (fun f => Nat.beq f 6 || Nat.beq f 5 || Nat.beq f 7 || Nat.beq f 8 || Nat.beq f 11 || Nat.beq f 9 || Nat.beq f 10 || Nat.beq f 13 || Nat.beq f 14 || Nat.beq f 15 || Nat.beq f 16 || Nat.beq f 17 || Nat.beq f 18) (fun _ => false) 300 14) (fun _ => True) :=
  walked (PureOk.also okLive (PureOk.also ok5 (PureOk.also ok7 (PureOk.also ok8 (PureOk.also ok11 (PureOk.also ok9 (PureOk.also ok10 (PureOk.also ok13 (PureOk.also ok14 (PureOk.also ok15 (PureOk.also ok16 (PureOk.also ok17 (PureOk.also ok18 (PureOk.none _)))))))))))))) 14
end Go.Qv
