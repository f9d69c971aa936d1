/- quiverlaw20.KernelParts: the law. No condition. -/
import Derived.Test.YtpbjikomdljphaaGreatQWt
import Derived.Test.YtpbjikomdljphaaGreatQKc
import Derived.Test.YtpbjikomdljphaaGreatQKl0M
set_option linter.unusedVariables false
set_option linter.unusedSimpArgs false
set_option maxRecDepth 100000
namespace Go.Qv
open Go Go.RowKit Go.Proofs
def pairsR : List (List AV) := [[.sl (.i .i64 [0, 5])], [.sl (.i .i64 [1, 4])], [.sl (.i .i64 [2, 3])]]
theorem pairs_at {k : Nat} (hk : k < 3) : ∃ a b, O.real.rInts (pairsR.getD k []) 0 = [a, b] ∧ opp a b ∧ opOk a ∧ opOk b := by
  match k, hk with
  | 0, _ => exact ⟨0, 5, rfl, opp05, ⟨by decide, by decide⟩, ⟨by decide, by decide⟩⟩
  | 1, _ => exact ⟨1, 4, rfl, opp14, ⟨by decide, by decide⟩, ⟨by decide, by decide⟩⟩
  | 2, _ => exact ⟨2, 3, rfl, opp23, ⟨by decide, by decide⟩, ⟨by decide, by decide⟩⟩
  | k + 3, h => omega
theorem loopP (t n s l t' n' s' l') (ht : tame (.mk t n s l)) (h1 : 1 ≤ t ∧ t ≤ 5) (hw : t' = -t) (hc : rCount (.mk t n s l) ≤ 536870912) (k : Nat) (hk : k ≤ 3) : Rh w4S IsTrue (5, [.rs pairsR, .int k, .int t, .is n, .ss s, .vs l, .int t', .is n', .ss s', .vs l']) := by
  refine Rh.go (w4_5 pairsR k t n s l t' n' s' l' _) ?_
  simp only [o_add, o_sub, o_mul, o_neg, o_conv, o_lt, o_le, o_eq, o_not, o_and, o_or, o_sel, o_isel, o_ssel, o_beq, o_seq, o_slt, o_slen, o_sat, o_scut, o_sadd, o_ilen, o_blen, o_vlen, o_rlen, o_iget, o_bget, o_vget, o_rget, o_iset, o_bset, o_vset, o_iapp, o_bapp, o_vapp, o_rapp, o_icut, o_bcut, o_vcut, o_irep, o_vt, o_vn, o_vs, o_vl, o_imax, o_imin, o_inb, o_sfit, o_cutb, o_fit, o_mkfit, RhQ, decT, decF, true_and, and_true, eq_self, implies_true, forall_const, Bool.not_eq_true', Bool.not_eq_false', Bool.not_true, Bool.not_false, Bool.and_eq_true, Bool.or_eq_true, Bool.and_eq_false_iff, Bool.or_eq_false_iff, Bool.true_and, Bool.and_true, Bool.false_and, Bool.and_false, Bool.or_false, Bool.false_or, Bool.true_or, Bool.or_true, Int.toNat_natCast, VT.eta, not_true, not_false_iff, false_implies, if_true, if_false, Int.toNat_zero, Int.toNat_one, ns0, ns4]
  have hlen : pairsR.length = 3 := rfl
  rw [hlen]
  refine ⟨fun h => ?_, fun h => IsTrue.of rfl⟩
  obtain ⟨a, b, hr, hopp, ha, hb⟩ := pairs_at (show k < 3 by omega)
  rw [hr]
  simp only [show ∀ x y : Int, [x, y].getD 0 0 = x from fun _ _ => rfl, show ∀ x y : Int, [x, y].getD 1 0 = y from fun _ _ => rfl]
  have sa : scanOk (.mk t n s l) a (.mk t' n' s' l') := ⟨ht, h1.1, h1.2, hw, ha, hc⟩
  have sb : scanOk (.mk t n s l) b (.mk t' n' s' l') := ⟨ht, h1.1, h1.2, hw, hb, hc⟩
  have hl := opp_len hopp (.mk t n s l) (.mk t' n' s' l')
  have hand := opp_and hopp (.mk t n s l) (.mk t' n' s' l')
  have h0 := rCount_nn (.mk t n s l)
  have n1 : (scanL (.mk t n s l) a (.mk t' n' s' l')).length ≤ 536870912 := by omega
  have n2 : (scanL (.mk t n s l) b (.mk t' n' s' l')).length ≤ 536870912 := by omega
  rw [show IntKind.i64.wrap (((scanL (.mk t n s l) a (.mk t' n' s' l')).length : Int) + (scanL (.mk t n s l) b (.mk t' n' s' l')).length) = ((scanL (.mk t n s l) a (.mk t' n' s' l')).length : Int) + (scanL (.mk t n s l) b (.mk t' n' s' l')).length from w64 (by omega) (by omega)]
  refine ⟨⟨⟨by omega, h⟩, ⟨by omega, by simp⟩, sa⟩, ⟨⟨by omega, h⟩, ⟨by omega, by simp⟩, sb⟩, fun _ => ⟨by simp, by simp, fun m hm => ?_⟩, fun hh => ?_, fun _ => ?_⟩
  · simp only [List.mem_cons, List.not_mem_nil, or_false] at hm
    rcases hm with rfl | rfl
    · show (scanL (.mk t n s l) a (.mk t' n' s' l')).length ≤ _; omega
    · show (scanL (.mk t n s l) b (.mk t' n' s' l')).length ≤ _; omega
  · exfalso
    rcases hh with hh | hh
    · exact hh hl
    · rw [hand] at hh; exact hh rfl
  · have e := loopP t n s l t' n' s' l' ht h1 hw hc (k + 1) (by omega)
    rw [w64 (by omega) (by omega)]
    exact e
termination_by 3 - k
theorem partsL (t n s l t' n' s' l') (fa : (VT.mk t n s l).Fine) (fb : (VT.mk t' n' s' l').Fine) : Rh w4S IsTrue (9999, [.int t, .is n, .ss s, .vs l, .int t', .is n', .ss s', .vs l']) := by
  refine Rh.go (w4_9999 t n s l t' n' s' l' _) ?_
  simp only [o_add, o_sub, o_mul, o_neg, o_conv, o_lt, o_le, o_eq, o_not, o_and, o_or, o_sel, o_isel, o_ssel, o_beq, o_seq, o_slt, o_slen, o_sat, o_scut, o_sadd, o_ilen, o_blen, o_vlen, o_rlen, o_iget, o_bget, o_vget, o_rget, o_iset, o_bset, o_vset, o_iapp, o_bapp, o_vapp, o_rapp, o_icut, o_bcut, o_vcut, o_irep, o_vt, o_vn, o_vs, o_vl, o_imax, o_imin, o_inb, o_sfit, o_cutb, o_fit, o_mkfit, RhQ, decT, decF, true_and, and_true, eq_self, implies_true, forall_const, Bool.not_eq_true', Bool.not_eq_false', Bool.not_true, Bool.not_false, Bool.and_eq_true, Bool.or_eq_true, Bool.and_eq_false_iff, Bool.or_eq_false_iff, Bool.true_and, Bool.and_true, Bool.false_and, Bool.and_false, Bool.or_false, Bool.false_or, Bool.true_or, Bool.or_true, Int.toNat_natCast, VT.eta, not_true, not_false_iff, false_implies, if_true, if_false, Int.toNat_zero, Int.toNat_one, ns0, ns4]
  refine ⟨fun x hx => ?_, fun _ => IsTrue.of rfl, fun hh => ?_⟩
  · simp only [List.mem_cons, List.not_mem_nil, or_false] at hx
    rcases hx with rfl | rfl
    · exact fa
    · exact fb
  · obtain ⟨⟨hs, h1⟩, hw⟩ := hh
    rw [w64 (by omega) (by omega)] at hw
    have hv : smallV (.mk t n s l) = true := by
      unfold smallB at hs
      rw [List.all_cons, Bool.and_eq_true] at hs
      exact hs.1
    have hc : checkV (.mk t n s l) = 0 := by
      unfold smallV at hv
      simp only [Bool.and_eq_true, decide_eq_true_eq] at hv
      exact hv.2
    have hb := vec_small hc h1
    have hn := (cnt_bk (.mk t n s l)).2 (show 0 ≤ t ∧ t ≤ 5 by omega)
    exact loopP t n s l t' n' s' l' (by unfold tame; omega) h1 (by omega) (by omega) 0 (by omega)
theorem partsOrc : OrcOk Tryz.prog (inl O.real Go.Qv.tbF Go.Qv.fns (pureOrc (PS.also 6 sp6 (PS.also 8 spScan (PS.also 18 sp18 (PS.also 17 sp17f (PS.also 7 spLive PS.none)))))) (fun f => Nat.beq f 6 || Nat.beq f 8 || Nat.beq f 18 || Nat.beq f 17 || Nat.beq f 7) (fun _ => false) 300 14) (fun _ => True) :=
  inl_ok mixed tbF_ok fnsOk (pureOrc_ok (PureOk.also ok6 (PureOk.also okScan (PureOk.also ok18 (PureOk.also ok17 (PureOk.also okLive (PureOk.none _))))))) 14
end Go.Qv
