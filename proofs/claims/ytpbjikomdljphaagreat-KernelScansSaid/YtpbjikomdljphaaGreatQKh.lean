/- quiverlaw20.KernelScans: the law. No condition. -/
import Derived.Test.YtpbjikomdljphaaGreatQWx
import Derived.Test.YtpbjikomdljphaaGreatQKg
import Derived.Test.YtpbjikomdljphaaGreatQKl0M
import Derived.Test.YtpbjikomdljphaaGreatQCi
set_option linter.unusedVariables false
set_option linter.unusedSimpArgs false
set_option maxRecDepth 100000
namespace Go.Qv
open Go Go.RowKit Go.Proofs
theorem small_tst {v : VT} (hL : v.Len) (h : smallV v = true) : tstOk v := by
  obtain ⟨hg, hb, hc⟩ := small_good hL h
  exact ⟨by unfold tame; omega, ok2_of hg, by omega⟩
theorem fstN_congr {p q : Nat → Bool} : ∀ (n k : Nat), (∀ j, k ≤ j → j < k + n → p j = q j) → fstN p k n = fstN q k n
  | 0, k, _ => rfl
  | n + 1, k, h => by
    unfold fstN
    rw [h k (Nat.le_refl _) (by omega), fstN_congr n (k + 1) (fun j h1 h2 => h j (by omega) (by omega))]
/-- On values the two comparisons agree. -/
theorem cmp_eq {a b : VT} (ha : a.Good) (hb : b.Good) : vcmp a b = rcmp a b := (cmp_good _ a b (Nat.le_refl _) ha hb).1
theorem chkE_ok {op k : Int} {w : VT} (h : chkE op w k = 0) : w.t = (if 6 ≤ op then k else -k) ∧ ¬ (op = 7 ∧ rCount w ≠ 2) := by
  unfold chkE at h
  by_cases h1 : op < 0 ∨ 7 < op
  · rw [if_pos h1] at h; exact absurd h (by decide)
  · rw [if_neg h1] at h
    by_cases h2 : ¬ (1 ≤ k ∧ k ≤ 5)
    · rw [if_pos h2] at h; exact absurd h (by decide)
    · rw [if_neg h2] at h
      by_cases h3 : w.t ≠ (if 6 ≤ op then k else -k)
      · rw [if_pos h3] at h; exact absurd h (by decide)
      · rw [if_neg h3] at h
        by_cases h4 : op = 7 ∧ rCount w ≠ 2
        · rw [if_pos h4] at h; exact absurd h (by decide)
        · exact ⟨Decidable.not_not.1 h3, h4⟩
theorem pass_eq {v w : VT} {op : Int} (hv : v.Good) (hw : w.Good) (he : scE v op w = 0) {i : Int} (h0 : 0 ≤ i) (hi : i < rCount v) : passT (atV v i) op w = passR (atV v i) op w := by
  have hvt : 1 ≤ v.t ∧ v.t ≤ 5 := Classical.byContradiction fun hh => by unfold scE at he; rw [if_pos hh] at he; cases he
  have hc : chkE op w v.t = 0 := by unfold scE at he; rw [if_neg (by omega)] at he; exact he
  have hx := vec_elem hv hvt h0 hi
  obtain ⟨c3, c4⟩ := chkE_ok hc
  have hwv : 6 ≤ op → 1 ≤ w.t ∧ w.t ≤ 5 := fun h => by rw [if_pos h] at c3; omega
  unfold passT passR
  by_cases h6 : op = 6
  · rw [if_pos h6, if_pos h6]
    unfold anyEq anyEqR fstEq
    rw [fstN_congr (p := eqAt w (atV v i)) (q := eqAtR w (atV v i)) _ 0 (fun j _ hj => by
      unfold eqAt eqAtR
      rw [cmp_eq hx (vec_elem hw (hwv (by omega)) (by omega) (by omega))])]
  · rw [if_neg h6, if_neg h6]
    by_cases h7 : op = 7
    · rw [if_pos h7, if_pos h7]
      have hn : rCount w = 2 := Classical.byContradiction fun hh => c4 ⟨h7, hh⟩
      rw [cmp_eq hx (vec_elem hw (hwv (by omega)) (by omega) (by omega)), cmp_eq hx (vec_elem hw (hwv (by omega)) (by omega) (by omega))]
    · rw [if_neg h7, if_neg h7, cmp_eq hx hw]
theorem sc_eq {v w : VT} {op : Int} (hv : v.Good) (hw : w.Good) : scTL v op w = scRL v op w := by
  unfold scTL scRL
  by_cases he : scE v op w = 0
  · rw [if_pos he, if_pos he]
    unfold scanT scanTN scanRN
    congr 1
    refine List.filter_congr fun k hk => ?_
    have hk := List.mem_range.1 hk
    exact pass_eq hv hw he (by omega) (by omega)
  · rw [if_neg he, if_neg he]
theorem wi_eq {v w : VT} {op : Int} {r : List Int} (hv : v.Good) (hw : w.Good) : wiTL r v op w = wiRL r v op w := by
  unfold wiTL wiRL
  by_cases he : wiE r v op w = 0
  · rw [if_pos he, if_pos he]
    rw [wiE_mk] at he
    by_cases h1 : scE v op w = 0
    · rw [if_neg (by omega)] at he
      split at he
      · cases he
      · rename_i hx
        refine List.filter_congr fun i hi => ?_
        have hb : outB v i = false := by
          cases hb : outB v i with
          | false => rfl
          | true => exact absurd (List.any_eq_true.2 ⟨i, hi, hb⟩) hx
        have hb := of_decide_eq_false hb
        exact pass_eq hv hw h1 (by omega) (by omega)
    · rw [if_pos h1] at he; exact absurd he h1
  · rw [if_neg he, if_neg he]
theorem eqIs_self (a : List Int) : eqIs a a = true := decide_eq_true rfl
theorem scansL (t n s l op t' n' s' l' kind) (r : List Int) (fa : (VT.mk t n s l).Fine) (fb : (VT.mk t' n' s' l').Fine) (la : (VT.mk t n s l).Len) (lb : (VT.mk t' n' s' l').Len) : Rh w3S IsTrue (9999, [.int t, .is n, .ss s, .vs l, .int op, .int t', .is n', .ss s', .vs l', .int kind, .is r]) := by
  refine Rh.go (w3_9999 t n s l op t' n' s' l' kind r _) ?_
  simp only [o_add, o_sub, o_mul, o_neg, o_conv, o_lt, o_le, o_eq, o_not, o_and, o_or, o_sel, o_isel, o_ssel, o_beq, o_seq, o_slt, o_slen, o_sat, o_scut, o_sadd, o_ilen, o_blen, o_vlen, o_rlen, o_iget, o_bget, o_vget, o_rget, o_iset, o_bset, o_vset, o_iapp, o_bapp, o_vapp, o_rapp, o_icut, o_bcut, o_vcut, o_irep, o_vt, o_vn, o_vs, o_vl, o_imax, o_imin, o_inb, o_sfit, o_cutb, o_fit, o_mkfit, RhQ, decT, decF, true_and, and_true, eq_self, implies_true, forall_const, Bool.not_eq_true', Bool.not_eq_false', Bool.not_true, Bool.not_false, Bool.and_eq_true, Bool.or_eq_true, Bool.and_eq_false_iff, Bool.or_eq_false_iff, Bool.true_and, Bool.and_true, Bool.false_and, Bool.and_false, Bool.or_false, Bool.false_or, Bool.true_or, Bool.or_true, Int.toNat_natCast, VT.eta, not_true, not_false_iff, false_implies, if_true, if_false, Int.toNat_zero, Int.toNat_one, ns0, ns4, List.nil_append]
  refine ⟨fun x hx => ?_, fun _ => IsTrue.of rfl, fun hh => ?_⟩
  · simp only [List.mem_cons, List.not_mem_nil, or_false] at hx
    rcases hx with rfl | rfl
    · exact fa
    · exact fb
  · obtain ⟨hs, hr⟩ := hh
    have h2 : smallV (.mk t n s l) = true ∧ smallV (.mk t' n' s' l') = true := by
      unfold smallB at hs
      rw [List.all_cons, List.all_cons, List.all_nil, Bool.and_true, Bool.and_eq_true] at hs
      exact hs
    have hv := small_tst la h2.1
    have hw := small_tst lb h2.2
    have hg := (small_good la h2.1).1
    have hg' := (small_good lb h2.2).1
    rw [sc_eq hg hg', wi_eq hg hg', eqIs_self, eqIs_self]
    have hf : fewI r := by unfold fewI; omega
    refine ⟨hv, hw, hv, hw, ⟨by omega, hf, hv, hw⟩, hf, hv, hw, IsTrue.of ?_⟩
    simp
theorem scansOrc : OrcOk Tryz.prog (inl O.real Go.Qv.tbF Go.Qv.fns (pureOrc (PS.also 6 sp6 (PS.also 8 spScanT (PS.also 9 spScanR (PS.also 10 spWinT (PS.also 11 spWinR (PS.also 13 spChk (PS.also 14 spChk (PS.also 15 spIntsR (PS.also 7 spLive PS.none)))))))))) (fun f => Nat.beq f 6 || Nat.beq f 8 || Nat.beq f 9 || Nat.beq f 10 || Nat.beq f 11 || Nat.beq f 13 || Nat.beq f 14 || Nat.beq f 15 || Nat.beq f 7) (fun _ => false) 300 14) (fun _ => True) :=
  inl_ok mixed tbF_ok fnsOk (pureOrc_ok (PureOk.also ok6 (PureOk.also okScanT (PureOk.also okScanR (PureOk.also okWinT (PureOk.also okWinR (PureOk.also okChk13 (PureOk.also okChk14 (PureOk.also okIntsR (PureOk.also okLive (PureOk.none _))))))))))) 14
end Go.Qv
