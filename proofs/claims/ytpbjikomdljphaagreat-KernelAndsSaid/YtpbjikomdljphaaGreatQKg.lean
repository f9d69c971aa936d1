/- Contracts: the places that pass any test. No condition. -/
import Derived.Test.YtpbjikomdljphaaGreatQKf
set_option linter.unusedVariables false
set_option linter.unusedSimpArgs false
set_option maxRecDepth 100000
namespace Go.Qv
open Go Go.RowKit Go.Proofs
def fltN (p : Nat → Bool) (n : Nat) : List Int := ((List.range n).filter p).map fun (k : Nat) => (k : Int)
theorem fltN_succ (p : Nat → Bool) (n : Nat) : fltN p (n + 1) = fltN p n ++ (if p n = true then [(n : Int)] else []) := by
  unfold fltN
  rw [List.range_succ, List.filter_append, List.map_append]
  congr 1
  rw [List.filter_cons]
  split <;> rfl
theorem fltN_len (p : Nat → Bool) (n : Nat) : (fltN p n).length ≤ n := by
  unfold fltN
  rw [List.length_map]
  have := List.length_filter_le p (List.range n)
  rw [List.length_range] at this
  exact this
theorem scanTN_flt (v : VT) (op : Int) (w : VT) (n : Nat) : scanTN v op w n = fltN (fun k => passT (atV v (k : Nat)) op w) n := rfl
theorem roundT2 (op t n s l) (h : List Int) (hl : h.length ≤ 1073741824) (k : Int) (xt xn xs xl) (ho : tstOk (.mk t n s l)) {Q : List Lf × Jp → Prop} (hQ : Q ([.int op, .int t, .is n, .ss s, .vs l, .is (h ++ if passT (.mk xt xn xs xl) op (.mk t n s l) = true then [k] else [])], .go)) : Sat (roundT O.real Go.Qv.tb (inl O.real Go.Qv.tb Go.Qv.fns (pureOrc (PS.also 30 spPassT PS.none)) (fun f => Nat.beq f 30) (fun _ => false) 300 14) (rfA (rfAt Tryz.f8 6)) (rfB (rfAt Tryz.f8 6)) 0 tmS [(19, .agg [.int .i64 xt, .sl (.i .i64 xn), .sl (.s xs), .sl (.v xl)]), (18, .int .i64 k)] (tmS.inst [.int op, .int t, .is n, .ss s, .vs l, .is h])) Q := by
  refine ⟨?_⟩
  have e := wTR op t n s l h k xt xn xs xl Q
  generalize roundT O.real Go.Qv.tb (inl O.real Go.Qv.tb Go.Qv.fns (pureOrc (PS.also 30 spPassT PS.none)) (fun f => Nat.beq f 30) (fun _ => false) 300 14) (rfA (rfAt Tryz.f8 6)) (rfB (rfAt Tryz.f8 6)) 0 tmS [(19, .agg [.int .i64 xt, .sl (.i .i64 xn), .sl (.s xs), .sl (.v xl)]), (18, .int .i64 k)] (tmS.inst [.int op, .int t, .is n, .ss s, .vs l, .is h]) = X at e ⊢
  refine ob_of noB_ok _ _ e ?_
  simp only [o_add, o_sub, o_mul, o_neg, o_conv, o_lt, o_le, o_eq, o_not, o_and, o_or, o_sel, o_isel, o_ssel, o_beq, o_seq, o_slt, o_slen, o_sat, o_scut, o_sadd, o_ilen, o_blen, o_vlen, o_rlen, o_iget, o_bget, o_vget, o_rget, o_iset, o_bset, o_vset, o_iapp, o_bapp, o_vapp, o_rapp, o_icut, o_bcut, o_vcut, o_irep, o_vt, o_vn, o_vs, o_vl, o_imax, o_imin, o_inb, o_sfit, o_cutb, o_fit, o_mkfit, RhQ, decT, decF, true_and, and_true, eq_self, implies_true, forall_const, Bool.not_eq_true', Bool.not_eq_false', Bool.not_true, Bool.not_false, Bool.and_eq_true, Bool.or_eq_true, Bool.and_eq_false_iff, Bool.or_eq_false_iff, Bool.true_and, Bool.and_true, Bool.false_and, Bool.and_false, Bool.or_false, Bool.false_or, Bool.true_or, Bool.or_true, Int.toNat_natCast, VT.eta, not_true, not_false_iff, false_implies, if_true, if_false, Int.toNat_zero, Int.toNat_one, ns0, ns4, List.length_append, List.length_cons, List.length_nil]
  refine ⟨ho, fun hp => ⟨by omega, ?_⟩, fun hp => ?_⟩
  · rw [if_pos hp] at hQ; exact hQ
  · rw [if_neg (by rw [hp]; decide), List.append_nil] at hQ; exact hQ
theorem lpT_ok : LpOk none Tryz.prog 0 lpT := lpOf_ok noLp_ok (fun c hC hB hn hmd y ρ K hs Q hQ β F a w hrs hy => by
  unfold spLpT at hs
  split at hs
  · rename_i t n s l op t' n' s' l' hh
    obtain ⟨⟨ht, h2, hcn⟩, hw, hf, hK⟩ := hs
    have h0 := rCount_nn (.mk t n s l)
    have e : rfAt Tryz.f8 6 = .rangeFunc (.tmp 17) #[18, 19] (rfA (rfAt Tryz.f8 6)) (rfB (rfAt Tryz.f8 6)) := by kernel_rfl
    have e2 : rfF (rfAt Tryz.f8 6) = .tmp 17 := by kernel_rfl
    have hh0 : hh.length ≤ 536870912 := hf
    have hw : tstOk (.mk t' n' s' l') := hw
    rw [e2] at hy
    rw [e]
    refine each_ok mixed tbOk (walked (kn := fun f => Nat.beq f 30) (md := fun _ => false) (PureOk.also okPassT (PureOk.none _)) 14) fnsOk hC hB hmd (by decide) (tm := tmS) (ρs := fun k => [.int op, .int t', .is n', .ss s', .vs l', .is (hh ++ scanTN (.mk t n s l) op (.mk t' n' s' l') k)]) (N := (rCount (.mk t n s l)).toNat) (els := elsV (.mk t n s l)) (fun k => rfl) (fng := Tryz.f49) (by kernel_rfl) (each49 ht h2 (by omega)) (fun k => by rfl) (fun k => by rfl) (fun k => by rfl) (by decide) (X := fun _ _ => False) (M := (rCount (.mk t n s l)).toNat) (fun k x0 x1 hk hM hx => ?_) (fun _ β F a w h => hQ _ _ hK β F a w ?_) (fun r j h => h.elim) (by simpa [scanTN] using hrs) hy
    · rw [hn]
      injection hx with hx0 hx
      injection hx with hx1 hx
      subst hx0; subst hx1
      have hlt := fltN_len (fun k => passT (atV (.mk t n s l) (k : Nat)) op (.mk t' n' s' l')) k
      rw [← scanTN_flt] at hlt
      refine roundT2 op t' n' s' l' (hh ++ scanTN (.mk t n s l) op (.mk t' n' s' l') k) (by rw [List.length_append]; omega) k (VT.t (atV (.mk t n s l) k)) (VT.n (atV (.mk t n s l) k)) (VT.s (atV (.mk t n s l) k)) (VT.l (atV (.mk t n s l) k)) hw (.inl ⟨hk, rfl, ?_⟩)
      rw [VT.eta, List.append_assoc, scanTN_flt, scanTN_flt, fltN_succ]
    · exact h
  · exact hs.elim)
theorem scE_if (t n s l op t' n' s' l') : (if ¬1 ≤ t ∨ ¬t ≤ 5 then (31 : Int) else chkE op (.mk t' n' s' l') t) = scE (.mk t n s l) op (.mk t' n' s' l') := by
  show _ = if ¬ (1 ≤ t ∧ t ≤ 5) then 31 else chkE op (.mk t' n' s' l') t
  by_cases hh : 1 ≤ t ∧ t ≤ 5
  · rw [if_neg (by omega), if_neg (by omega)]
  · rw [if_pos (by omega), if_pos hh]
theorem okScanT : Pure1 Tryz.prog 8 spScanT := by
  intro xs F w cs R ha h
  obtain ⟨x, op, cs', a, b, rfl, h1, h2, h⟩ := onVT_inv h
  obtain ⟨ho, h3⟩ := when_inv h
  obtain ⟨ho', h4⟩ := when_inv h3
  have ha := ha.conv2 (fun v => as_V h1) (fun v => as_T h2)
  obtain ⟨t, n, s, l⟩ := a
  obtain ⟨t', n', s', l'⟩ := b
  have hE : scE (.mk t n s l) op (.mk t' n' s' l') = if ¬ (1 ≤ t ∧ t ≤ 5) then 31 else chkE op (.mk t' n' s' l') t := rfl
  by_cases he : scE (.mk t n s l) op (.mk t' n' s' l') = 0
  · have hl : scTL (.mk t n s l) op (.mk t' n' s' l') = scanT (.mk t n s l) op (.mk t' n' s' l') := by unfold scTL; rw [if_pos he]
    rw [he, hl] at h4
    refine contractL lpT_ok (fn := Tryz.f8) (walked (PureOk.also okChk13 (PureOk.also ok29 (PureOk.also okPassT (PureOk.none _)))) 14) (by kernel_rfl) w8tC_ok (by rfl) (by rfl) (by rfl) (by rfl) (by rfl) ha (ρ := [.int t, .is n, .ss s, .vs l, .int op, .int t', .is n', .ss s', .vs l']) (Rh.go (w8t_9999 t n s l op t' n' s' l' _) ?_) h4
    simp only [o_add, o_sub, o_mul, o_neg, o_conv, o_lt, o_le, o_eq, o_not, o_and, o_or, o_sel, o_isel, o_ssel, o_beq, o_seq, o_slt, o_slen, o_sat, o_scut, o_sadd, o_ilen, o_blen, o_vlen, o_rlen, o_iget, o_bget, o_vget, o_rget, o_iset, o_bset, o_vset, o_iapp, o_bapp, o_vapp, o_rapp, o_icut, o_bcut, o_vcut, o_irep, o_vt, o_vn, o_vs, o_vl, o_imax, o_imin, o_inb, o_sfit, o_cutb, o_fit, o_mkfit, RhQ, decT, decF, true_and, and_true, eq_self, implies_true, forall_const, Bool.not_eq_true', Bool.not_eq_false', Bool.not_true, Bool.not_false, Bool.and_eq_true, Bool.or_eq_true, Bool.and_eq_false_iff, Bool.or_eq_false_iff, Bool.true_and, Bool.and_true, Bool.false_and, Bool.and_false, Bool.or_false, Bool.false_or, Bool.true_or, Bool.or_true, Int.toNat_natCast, VT.eta, not_true, not_false_iff, false_implies, if_true, if_false, Int.toNat_zero, Int.toNat_one, ns0, ns4]
    rw [scE_if t n s l op t' n' s' l']
    exact ⟨fun e => absurd he e, fun _ => ⟨ho.1, ho, ho', by simp [fewI], rfl⟩⟩
  · have hl : scTL (.mk t n s l) op (.mk t' n' s' l') = [] := by unfold scTL; rw [if_neg he]
    rw [hl] at h4
    refine contractL lpT_ok (fn := Tryz.f8) (y := .tup [.nils, .int .i64 (scE (.mk t n s l) op (.mk t' n' s' l'))]) (walked (PureOk.also okChk13 (PureOk.also ok29 (PureOk.also okPassT (PureOk.none _)))) 14) (by kernel_rfl) w8tC_ok (by rfl) (by rfl) (by rfl) (by rfl) (by rfl) ha (ρ := [.int t, .is n, .ss s, .vs l, .int op, .int t', .is n', .ss s', .vs l']) (Rh.go (w8t_9999 t n s l op t' n' s' l' _) ?_) (fun v' F' w' p => h4 v' F' w' p.nil2)
    simp only [o_add, o_sub, o_mul, o_neg, o_conv, o_lt, o_le, o_eq, o_not, o_and, o_or, o_sel, o_isel, o_ssel, o_beq, o_seq, o_slt, o_slen, o_sat, o_scut, o_sadd, o_ilen, o_blen, o_vlen, o_rlen, o_iget, o_bget, o_vget, o_rget, o_iset, o_bset, o_vset, o_iapp, o_bapp, o_vapp, o_rapp, o_icut, o_bcut, o_vcut, o_irep, o_vt, o_vn, o_vs, o_vl, o_imax, o_imin, o_inb, o_sfit, o_cutb, o_fit, o_mkfit, RhQ, decT, decF, true_and, and_true, eq_self, implies_true, forall_const, Bool.not_eq_true', Bool.not_eq_false', Bool.not_true, Bool.not_false, Bool.and_eq_true, Bool.or_eq_true, Bool.and_eq_false_iff, Bool.or_eq_false_iff, Bool.true_and, Bool.and_true, Bool.false_and, Bool.and_false, Bool.or_false, Bool.false_or, Bool.true_or, Bool.or_true, Int.toNat_natCast, VT.eta, not_true, not_false_iff, false_implies, if_true, if_false, Int.toNat_zero, Int.toNat_one, ns0, ns4]
    rw [scE_if t n s l op t' n' s' l']
    exact ⟨fun _ => rfl, fun e => absurd e he⟩
/-! ### the document's scan -/
/-! ### some of the places -/
theorem filter_take (p : Int → Bool) (r : List Int) {i : Nat} (h : i < r.length) : (r.take (i + 1)).filter p = (r.take i).filter p ++ (if p (r.getD i 0) = true then [r.getD i 0] else []) := by
  rw [take_at r 0 h, List.filter_append, List.filter_cons, List.filter_nil]
theorem filter_len (p : Int → Bool) (r : List Int) (i : Nat) : ((r.take i).filter p).length ≤ i := by
  have := List.length_filter_le p (r.take i)
  rw [List.length_take] at this
  omega
theorem loop10a (r : List Int) (t n s l op t' n' s' l') (hr : r.length ≤ 536870912) (hv : tstOk (.mk t n s l)) (hw : tstOk (.mk t' n' s' l')) (hin : ∀ x ∈ r, outB (.mk t n s l) x = false) (i : Nat) (hi : i ≤ r.length) : Rh w10S (Ret (.tup [.sl (.i .i64 (r.filter fun i => passT (atV (.mk t n s l) i) op (.mk t' n' s' l'))), .int .i64 0])) (7, [.int (rCount (.mk t n s l)), .is r, .int r.length, .int i, .int t, .is n, .ss s, .vs l, .int op, .int t', .is n', .ss s', .vs l', .is ((r.take i).filter fun i => passT (atV (.mk t n s l) i) op (.mk t' n' s' l'))]) := by
  refine Rh.go (w10_7 (rCount (.mk t n s l)) r r.length i t n s l op t' n' s' l' _ _) ?_
  simp only [o_add, o_sub, o_mul, o_neg, o_conv, o_lt, o_le, o_eq, o_not, o_and, o_or, o_sel, o_isel, o_ssel, o_beq, o_seq, o_slt, o_slen, o_sat, o_scut, o_sadd, o_ilen, o_blen, o_vlen, o_rlen, o_iget, o_bget, o_vget, o_rget, o_iset, o_bset, o_vset, o_iapp, o_bapp, o_vapp, o_rapp, o_icut, o_bcut, o_vcut, o_irep, o_vt, o_vn, o_vs, o_vl, o_imax, o_imin, o_inb, o_sfit, o_cutb, o_fit, o_mkfit, RhQ, decT, decF, true_and, and_true, eq_self, implies_true, forall_const, Bool.not_eq_true', Bool.not_eq_false', Bool.not_true, Bool.not_false, Bool.and_eq_true, Bool.or_eq_true, Bool.and_eq_false_iff, Bool.or_eq_false_iff, Bool.true_and, Bool.and_true, Bool.false_and, Bool.and_false, Bool.or_false, Bool.false_or, Bool.true_or, Bool.or_true, Int.toNat_natCast, VT.eta, not_true, not_false_iff, false_implies, if_true, if_false, Int.toNat_zero, Int.toNat_one, ns0, ns4]
  have hlt := filter_len (fun i => passT (atV (.mk t n s l) i) op (.mk t' n' s' l')) r i
  refine ⟨fun h => ?_, fun h => by rw [List.take_of_length_le (by omega)]; exact rfl⟩
  have hx := hin _ (getD_mem r 0 (i := i) (by omega))
  have hx : ¬ (r.getD i 0 < 0 ∨ rCount (.mk t n s l) ≤ r.getD i 0) := of_decide_eq_false hx
  have e := loop10a r t n s l op t' n' s' l' hr hv hw hin (i + 1) (by omega)
  rw [filter_take _ r (show i < r.length by omega)] at e
  rw [w64 (by omega) (by omega)]
  refine ⟨⟨by omega, h⟩, fun hh => absurd hh hx, fun _ => ⟨hv.1, hv.2.1, hw, fun hp => ⟨by simp only [List.length_cons, List.length_nil]; omega, ?_⟩, fun hp => ?_⟩⟩
  · rw [if_pos hp] at e; exact e
  · rw [if_neg (by rw [hp]; decide), List.append_nil] at e; exact e
termination_by r.length - i
theorem loop10b (r : List Int) (t n s l op t' n' s' l') (hr : r.length ≤ 536870912) (hv : tstOk (.mk t n s l)) (hw : tstOk (.mk t' n' s' l')) (i : Nat) (hi : i ≤ r.length) (out : List Int) (ho : out.length ≤ i) (hx : (r.drop i).any (outB (.mk t n s l)) = true) : Rh w10S (Ret (.tup [.nils, .int .i64 33])) (7, [.int (rCount (.mk t n s l)), .is r, .int r.length, .int i, .int t, .is n, .ss s, .vs l, .int op, .int t', .is n', .ss s', .vs l', .is out]) := by
  refine Rh.go (w10_7 (rCount (.mk t n s l)) r r.length i t n s l op t' n' s' l' _ _) ?_
  simp only [o_add, o_sub, o_mul, o_neg, o_conv, o_lt, o_le, o_eq, o_not, o_and, o_or, o_sel, o_isel, o_ssel, o_beq, o_seq, o_slt, o_slen, o_sat, o_scut, o_sadd, o_ilen, o_blen, o_vlen, o_rlen, o_iget, o_bget, o_vget, o_rget, o_iset, o_bset, o_vset, o_iapp, o_bapp, o_vapp, o_rapp, o_icut, o_bcut, o_vcut, o_irep, o_vt, o_vn, o_vs, o_vl, o_imax, o_imin, o_inb, o_sfit, o_cutb, o_fit, o_mkfit, RhQ, decT, decF, true_and, and_true, eq_self, implies_true, forall_const, Bool.not_eq_true', Bool.not_eq_false', Bool.not_true, Bool.not_false, Bool.and_eq_true, Bool.or_eq_true, Bool.and_eq_false_iff, Bool.or_eq_false_iff, Bool.true_and, Bool.and_true, Bool.false_and, Bool.and_false, Bool.or_false, Bool.false_or, Bool.true_or, Bool.or_true, Int.toNat_natCast, VT.eta, not_true, not_false_iff, false_implies, if_true, if_false, Int.toNat_zero, Int.toNat_one, ns0, ns4]
  refine ⟨fun h => ?_, fun h => ?_⟩
  · rw [drop_at r 0 (show i < r.length by omega), List.any_cons, Bool.or_eq_true] at hx
    rw [w64 (by omega) (by omega)]
    refine ⟨⟨by omega, h⟩, fun _ => rfl, fun hn => ?_⟩
    have hx : (r.drop (i + 1)).any (outB (.mk t n s l)) = true := by
      rcases hx with hx | hx
      · exact absurd (of_decide_eq_true hx) (by show ¬ (r.getD i 0 < 0 ∨ rCount (.mk t n s l) ≤ r.getD i 0); omega)
      · exact hx
    have e1 := loop10b r t n s l op t' n' s' l' hr hv hw (i + 1) (by omega) (out ++ [r.getD i 0]) (by simp only [List.length_append, List.length_cons, List.length_nil]; omega) hx
    have e2 := loop10b r t n s l op t' n' s' l' hr hv hw (i + 1) (by omega) out (by omega) hx
    exact ⟨hv.1, hv.2.1, hw, fun hp => ⟨by simp only [List.length_cons, List.length_nil]; omega, e1⟩, fun hp => e2⟩
  · rw [List.drop_of_length_le (by omega)] at hx; cases hx
termination_by r.length - i
theorem wiE_mk (r : List Int) (v : VT) (op : Int) (w : VT) : wiE r v op w = if scE v op w ≠ 0 then scE v op w else if r.any (outB v) = true then 33 else 0 := rfl
theorem okWinT : Pure1 Tryz.prog 10 spWinT := by
  intro xs F w cs R ha h
  obtain ⟨y, x, op, cs', r, a, b, rfl, hy, h1, h2, h⟩ := onIVT_inv h
  obtain ⟨hr, h⟩ := when_inv h
  obtain ⟨ho, h3⟩ := when_inv h
  obtain ⟨ho', h4⟩ := when_inv h3
  have ha := ha.conv3 (fun v => as_I hy) (fun v => as_V h1) (fun v => as_T h2)
  have hr : r.length ≤ 536870912 := hr
  obtain ⟨t, n, s, l⟩ := a
  obtain ⟨t', n', s', l'⟩ := b
  have hO := walked (kn := fun f => Nat.beq f 13 || Nat.beq f 33 || Nat.beq f 34 || Nat.beq f 30) (md := fun _ => false) (PureOk.also okChk13 (PureOk.also ok33 (PureOk.also ok34 (PureOk.also okPassT (PureOk.none _))))) 14
  by_cases he : scE (.mk t n s l) op (.mk t' n' s' l') = 0
  · by_cases hx : r.any (outB (.mk t n s l)) = true
    · have e1 : wiE r (.mk t n s l) op (.mk t' n' s' l') = 33 := by rw [wiE_mk, if_neg (by omega), if_pos hx]
      have hl : wiTL r (.mk t n s l) op (.mk t' n' s' l') = [] := by unfold wiTL; rw [e1]; rfl
      rw [hl, e1] at h4
      refine contract (fn := Tryz.f10) (y := .tup [.nils, .int .i64 33]) hO (by kernel_rfl) w10C_ok (by rfl) (by rfl) (by rfl) (by rfl) (by rfl) ha (ρ := [.is r, .int t, .is n, .ss s, .vs l, .int op, .int t', .is n', .ss s', .vs l']) (Rh.go (w10_9999 r t n s l op t' n' s' l' _) ?_) (fun v' F' w' p => h4 v' F' w' p.nil2)
      simp only [o_add, o_sub, o_mul, o_neg, o_conv, o_lt, o_le, o_eq, o_not, o_and, o_or, o_sel, o_isel, o_ssel, o_beq, o_seq, o_slt, o_slen, o_sat, o_scut, o_sadd, o_ilen, o_blen, o_vlen, o_rlen, o_iget, o_bget, o_vget, o_rget, o_iset, o_bset, o_vset, o_iapp, o_bapp, o_vapp, o_rapp, o_icut, o_bcut, o_vcut, o_irep, o_vt, o_vn, o_vs, o_vl, o_imax, o_imin, o_inb, o_sfit, o_cutb, o_fit, o_mkfit, RhQ, decT, decF, true_and, and_true, eq_self, implies_true, forall_const, Bool.not_eq_true', Bool.not_eq_false', Bool.not_true, Bool.not_false, Bool.and_eq_true, Bool.or_eq_true, Bool.and_eq_false_iff, Bool.or_eq_false_iff, Bool.true_and, Bool.and_true, Bool.false_and, Bool.and_false, Bool.or_false, Bool.false_or, Bool.true_or, Bool.or_true, Int.toNat_natCast, VT.eta, not_true, not_false_iff, false_implies, if_true, if_false, Int.toNat_zero, Int.toNat_one, ns0, ns4]
      rw [scE_if t n s l op t' n' s' l']
      exact ⟨fun e => absurd he e, fun _ => loop10b r t n s l op t' n' s' l' hr ho ho' 0 (Nat.zero_le _) [] (Nat.le_refl _) hx⟩
    · have e1 : wiE r (.mk t n s l) op (.mk t' n' s' l') = 0 := by rw [wiE_mk, if_neg (by omega), if_neg hx]
      have hl : wiTL r (.mk t n s l) op (.mk t' n' s' l') = r.filter fun i => passT (atV (.mk t n s l) i) op (.mk t' n' s' l') := by unfold wiTL; rw [if_pos e1]
      rw [hl, e1] at h4
      have hin : ∀ x ∈ r, outB (.mk t n s l) x = false := fun x hm => by
        cases hb : outB (.mk t n s l) x with
        | false => rfl
        | true => exact absurd (List.any_eq_true.2 ⟨x, hm, hb⟩) hx
      refine contract (fn := Tryz.f10) hO (by kernel_rfl) w10C_ok (by rfl) (by rfl) (by rfl) (by rfl) (by rfl) ha (ρ := [.is r, .int t, .is n, .ss s, .vs l, .int op, .int t', .is n', .ss s', .vs l']) (Rh.go (w10_9999 r t n s l op t' n' s' l' _) ?_) h4
      simp only [o_add, o_sub, o_mul, o_neg, o_conv, o_lt, o_le, o_eq, o_not, o_and, o_or, o_sel, o_isel, o_ssel, o_beq, o_seq, o_slt, o_slen, o_sat, o_scut, o_sadd, o_ilen, o_blen, o_vlen, o_rlen, o_iget, o_bget, o_vget, o_rget, o_iset, o_bset, o_vset, o_iapp, o_bapp, o_vapp, o_rapp, o_icut, o_bcut, o_vcut, o_irep, o_vt, o_vn, o_vs, o_vl, o_imax, o_imin, o_inb, o_sfit, o_cutb, o_fit, o_mkfit, RhQ, decT, decF, true_and, and_true, eq_self, implies_true, forall_const, Bool.not_eq_true', Bool.not_eq_false', Bool.not_true, Bool.not_false, Bool.and_eq_true, Bool.or_eq_true, Bool.and_eq_false_iff, Bool.or_eq_false_iff, Bool.true_and, Bool.and_true, Bool.false_and, Bool.and_false, Bool.or_false, Bool.false_or, Bool.true_or, Bool.or_true, Int.toNat_natCast, VT.eta, not_true, not_false_iff, false_implies, if_true, if_false, Int.toNat_zero, Int.toNat_one, ns0, ns4]
      rw [scE_if t n s l op t' n' s' l']
      exact ⟨fun e => absurd he e, fun _ => loop10a r t n s l op t' n' s' l' hr ho ho' hin 0 (Nat.zero_le _)⟩
  · have e1 : wiE r (.mk t n s l) op (.mk t' n' s' l') = scE (.mk t n s l) op (.mk t' n' s' l') := by rw [wiE_mk, if_pos he]
    have hl : wiTL r (.mk t n s l) op (.mk t' n' s' l') = [] := by unfold wiTL; rw [e1, if_neg he]
    rw [hl, e1] at h4
    refine contract (fn := Tryz.f10) (y := .tup [.nils, .int .i64 (scE (.mk t n s l) op (.mk t' n' s' l'))]) hO (by kernel_rfl) w10C_ok (by rfl) (by rfl) (by rfl) (by rfl) (by rfl) ha (ρ := [.is r, .int t, .is n, .ss s, .vs l, .int op, .int t', .is n', .ss s', .vs l']) (Rh.go (w10_9999 r t n s l op t' n' s' l' _) ?_) (fun v' F' w' p => h4 v' F' w' p.nil2)
    simp only [o_add, o_sub, o_mul, o_neg, o_conv, o_lt, o_le, o_eq, o_not, o_and, o_or, o_sel, o_isel, o_ssel, o_beq, o_seq, o_slt, o_slen, o_sat, o_scut, o_sadd, o_ilen, o_blen, o_vlen, o_rlen, o_iget, o_bget, o_vget, o_rget, o_iset, o_bset, o_vset, o_iapp, o_bapp, o_vapp, o_rapp, o_icut, o_bcut, o_vcut, o_irep, o_vt, o_vn, o_vs, o_vl, o_imax, o_imin, o_inb, o_sfit, o_cutb, o_fit, o_mkfit, RhQ, decT, decF, true_and, and_true, eq_self, implies_true, forall_const, Bool.not_eq_true', Bool.not_eq_false', Bool.not_true, Bool.not_false, Bool.and_eq_true, Bool.or_eq_true, Bool.and_eq_false_iff, Bool.or_eq_false_iff, Bool.true_and, Bool.and_true, Bool.false_and, Bool.and_false, Bool.or_false, Bool.false_or, Bool.true_or, Bool.or_true, Int.toNat_natCast, VT.eta, not_true, not_false_iff, false_implies, if_true, if_false, Int.toNat_zero, Int.toNat_one, ns0, ns4]
    rw [scE_if t n s l op t' n' s' l']
    exact ⟨fun _ => rfl, fun e => absurd e he⟩
/-! ### two lists -/
theorem loop15 (a b : List Int) (ha : a.length ≤ maxLen) (hab : a.length = b.length) (i : Nat) (hi : i ≤ a.length) : Rh w15S (Ret (.bool (decide (a.drop i = b.drop i)))) (4, [.is a, .is b, .int i]) := by
  refine Rh.go (w15_4 a b i _) ?_
  simp only [o_add, o_sub, o_mul, o_neg, o_conv, o_lt, o_le, o_eq, o_not, o_and, o_or, o_sel, o_isel, o_ssel, o_beq, o_seq, o_slt, o_slen, o_sat, o_scut, o_sadd, o_ilen, o_blen, o_vlen, o_rlen, o_iget, o_bget, o_vget, o_rget, o_iset, o_bset, o_vset, o_iapp, o_bapp, o_vapp, o_rapp, o_icut, o_bcut, o_vcut, o_irep, o_vt, o_vn, o_vs, o_vl, o_imax, o_imin, o_inb, o_sfit, o_cutb, o_fit, o_mkfit, RhQ, decT, decF, true_and, and_true, eq_self, implies_true, forall_const, Bool.not_eq_true', Bool.not_eq_false', Bool.not_true, Bool.not_false, Bool.and_eq_true, Bool.or_eq_true, Bool.and_eq_false_iff, Bool.or_eq_false_iff, Bool.true_and, Bool.and_true, Bool.false_and, Bool.and_false, Bool.or_false, Bool.false_or, Bool.true_or, Bool.or_true, Int.toNat_natCast, VT.eta, not_true, not_false_iff, false_implies, if_true, if_false, Int.toNat_zero, Int.toNat_one, ns0, ns4]
  refine ⟨fun h => ?_, fun h => Ret.bool (by rw [List.drop_of_length_le (by omega), List.drop_of_length_le (by omega)]; rfl)⟩
  have e2 := loop15 a b ha hab (i + 1) (by omega)
  rw [drop_at a 0 (show i < a.length by omega), drop_at b 0 (show i < b.length by omega), inc ha (by omega)]
  refine ⟨⟨⟨by omega, h⟩, ⟨by omega, by omega⟩⟩, fun e => Ret.bool (decide_eq_false (fun h2 => by injection h2 with h3; exact e h3)), fun e => ?_⟩
  rw [show decide (a.getD i 0 :: a.drop (i + 1) = b.getD i 0 :: b.drop (i + 1)) = decide (a.drop (i + 1) = b.drop (i + 1)) from by rw [e]; simp]
  exact e2
termination_by a.length - i
theorem okIntsR : Pure1 Tryz.prog 15 spIntsR := by
  intro xs F w cs R ha h
  obtain ⟨x, y, a, b, rfl, h1, h2, h⟩ := onII_inv h
  have ha := ha.conv2 (fun v => as_I h1) (fun v => as_I h2)
  obtain ⟨v, hv⟩ := ha.at 0 rfl
  refine contract (fn := Tryz.f15) (walked (PureOk.none _) 14) (by kernel_rfl) w15C_ok (by rfl) (by rfl) (by rfl) (by rfl) (by rfl) ha (ρ := [.is a, .is b]) (Rh.go (w15_9999 a b _) ?_) h
  simp only [o_add, o_sub, o_mul, o_neg, o_conv, o_lt, o_le, o_eq, o_not, o_and, o_or, o_sel, o_isel, o_ssel, o_beq, o_seq, o_slt, o_slen, o_sat, o_scut, o_sadd, o_ilen, o_blen, o_vlen, o_rlen, o_iget, o_bget, o_vget, o_rget, o_iset, o_bset, o_vset, o_iapp, o_bapp, o_vapp, o_rapp, o_icut, o_bcut, o_vcut, o_irep, o_vt, o_vn, o_vs, o_vl, o_imax, o_imin, o_inb, o_sfit, o_cutb, o_fit, o_mkfit, RhQ, decT, decF, true_and, and_true, eq_self, implies_true, forall_const, Bool.not_eq_true', Bool.not_eq_false', Bool.not_true, Bool.not_false, Bool.and_eq_true, Bool.or_eq_true, Bool.and_eq_false_iff, Bool.or_eq_false_iff, Bool.true_and, Bool.and_true, Bool.false_and, Bool.and_false, Bool.or_false, Bool.false_or, Bool.true_or, Bool.or_true, Int.toNat_natCast, VT.eta, not_true, not_false_iff, false_implies, if_true, if_false, Int.toNat_zero, Int.toNat_one, ns0, ns4]
  unfold eqIs
  exact ⟨fun e => Ret.bool (decide_eq_false (fun h2 => e (by rw [h2]))), fun e => loop15 a b hv.len (by omega) 0 (Nat.zero_le _)⟩
end Go.Qv
