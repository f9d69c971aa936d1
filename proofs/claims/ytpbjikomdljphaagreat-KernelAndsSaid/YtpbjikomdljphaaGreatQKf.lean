/- Contracts: any test. No condition. -/
import Derived.Test.YtpbjikomdljphaaGreatQWu
import Derived.Test.YtpbjikomdljphaaGreatQWv
import Derived.Test.YtpbjikomdljphaaGreatQKc
set_option linter.unusedVariables false
set_option linter.unusedSimpArgs false
set_option maxRecDepth 100000
namespace Go.Qv
open Go Go.RowKit Go.Proofs
theorem onTn_inv {f : Int → VT → Int → T AV} {xs : List AV} {Q : AV → Prop} (h : (onTn f xs).sat Q) : ∃ op cs k b, xs = [.agg (.int .i64 op :: cs), .int .i64 k] ∧ asV [] (.agg cs) = some b ∧ (f op b k).sat Q := by
  unfold onTn at h
  split at h
  · split at h
    · rename_i op cs k _ b h1; exact ⟨op, cs, k, b, rfl, h1, h⟩
    · exact h.elim
  · exact h.elim
theorem onIVT_inv {f : List Int → VT → Int → VT → T AV} {xs : List AV} {Q : AV → Prop} (h : (onIVT f xs).sat Q) : ∃ r x op cs r' a b, xs = [r, x, .agg (.int .i64 op :: cs)] ∧ cInts [] .i64 r = some r' ∧ asV [] x = some a ∧ asV [] (.agg cs) = some b ∧ (f r' a op b).sat Q := by
  unfold onIVT at h
  split at h
  · split at h
    · rename_i r x op cs _ _ _ r' a b h0 h1 h2; exact ⟨r, x, op, cs, r', a, b, rfl, h0, h1, h2, h⟩
    · exact h.elim
  · exact h.elim
/-- A list that is not there is one without elements. -/
theorem PPost.nil2 {F F' : Nat → Prop} {w w' : World} {v' : Value} {z : AV} (p : PPost F w (.tup [.nils, z]) v' F' w') : PPost F w (.tup [.sl (.i .i64 []), z]) v' F' w' := by
  refine { p with vr := ?_ }
  have h := p.vr
  cases h with
  | tup cs _ hl h1 =>
    refine .tup cs _ hl (fun j v x hv hx => ?_)
    match j, hx with
    | 0, hx => simp at hx; subst hx; exact vr_back (nils_sl (h1 0 v .nils hv rfl).fz rfl trivial)
    | 1, hx => simp at hx; subst hx; exact h1 1 v _ hv rfl
    | j + 2, hx => simp at hx
theorem okChk13 : Pure1 Tryz.prog 13 spChk := by
  intro xs F w cs R ha h
  obtain ⟨op, cs', k, b, rfl, h2, h⟩ := onTn_inv h
  have ha := ha.conv2 (fun v => as_T h2) (fun v h => h)
  obtain ⟨t', n', s', l'⟩ := b
  refine contract (fn := Tryz.f13) (walked (PureOk.also ok33 (PureOk.none _)) 14) (by kernel_rfl) w13C_ok (by rfl) (by rfl) (by rfl) (by rfl) (by rfl) ha (ρ := [.int op, .int t', .is n', .ss s', .vs l', .int k]) (Rh.go (w13_9999 op t' n' s' l' k _) ?_) h
  simp only [o_add, o_sub, o_mul, o_neg, o_conv, o_lt, o_le, o_eq, o_not, o_and, o_or, o_sel, o_isel, o_ssel, o_beq, o_seq, o_slt, o_slen, o_sat, o_scut, o_sadd, o_ilen, o_blen, o_vlen, o_rlen, o_iget, o_bget, o_vget, o_rget, o_iset, o_bset, o_vset, o_iapp, o_bapp, o_vapp, o_rapp, o_icut, o_bcut, o_vcut, o_irep, o_vt, o_vn, o_vs, o_vl, o_imax, o_imin, o_inb, o_sfit, o_cutb, o_fit, o_mkfit, RhQ, decT, decF, true_and, and_true, eq_self, implies_true, forall_const, Bool.not_eq_true', Bool.not_eq_false', Bool.not_true, Bool.not_false, Bool.and_eq_true, Bool.or_eq_true, Bool.and_eq_false_iff, Bool.or_eq_false_iff, Bool.true_and, Bool.and_true, Bool.false_and, Bool.and_false, Bool.or_false, Bool.false_or, Bool.true_or, Bool.or_true, Int.toNat_natCast, VT.eta, not_true, not_false_iff, false_implies, if_true, if_false, Int.toNat_zero, Int.toNat_one, ns0, ns4]
  have e : chkE op (.mk t' n' s' l') k = if op < 0 ∨ 7 < op then 200 else if ¬ (1 ≤ k ∧ k ≤ 5) then 31 else if t' ≠ (if 6 ≤ op then k else -k) then 31 else if op = 7 ∧ rCount (.mk t' n' s' l') ≠ 2 then 32 else 0 := rfl
  have hw : 1 ≤ k ∧ k ≤ 5 → IntKind.i64.wrap (0 - k) = -k := fun h => by rw [w64 (by omega) (by omega)]; omega
  rw [e]
  repeat' (first | refine ⟨?_, ?_⟩ | intro _)
  all_goals
    refine Ret.int ?_
    (repeat' split) <;> omega
/-! ### does an element pass? -/
theorem roundI (yt yn ys yl op t n s l) (r : Bool) (k : Int) (x : VT) {Q : List Lf × Jp → Prop} (h1 : decide (vcmp (.mk yt yn ys yl) x = 0) = true → Q ([.int yt, .is yn, .ss ys, .vs yl, .int op, .int t, .is n, .ss s, .vs l, .bool true], .ret)) (h2 : decide (vcmp (.mk yt yn ys yl) x = 0) = false → Q ([.int yt, .is yn, .ss ys, .vs yl, .int op, .int t, .is n, .ss s, .vs l, .bool r], .go)) :
    Sat (roundT O.real Go.Qv.tb (inl O.real Go.Qv.tb Go.Qv.fns (pureOrc (PS.also 50 sp50f PS.none)) (fun f => Nat.beq f 50) (fun _ => false) 300 14) (rfA (rfAt Tryz.f30 3)) (rfB (rfAt Tryz.f30 3)) 0 tmI [(19, .agg [.int .i64 x.t, .sl (.i .i64 x.n), .sl (.s x.s), .sl (.v x.l)]), (18, .int .i64 k)] (tmI.inst [.int yt, .is yn, .ss ys, .vs yl, .int op, .int t, .is n, .ss s, .vs l, .bool r])) Q := by
  refine ⟨?_⟩
  have e := wIR yt yn ys yl op t n s l r k x.t x.n x.s x.l Q
  generalize roundT O.real Go.Qv.tb (inl O.real Go.Qv.tb Go.Qv.fns (pureOrc (PS.also 50 sp50f PS.none)) (fun f => Nat.beq f 50) (fun _ => false) 300 14) (rfA (rfAt Tryz.f30 3)) (rfB (rfAt Tryz.f30 3)) 0 tmI [(19, .agg [.int .i64 x.t, .sl (.i .i64 x.n), .sl (.s x.s), .sl (.v x.l)]), (18, .int .i64 k)] (tmI.inst [.int yt, .is yn, .ss ys, .vs yl, .int op, .int t, .is n, .ss s, .vs l, .bool r]) = X at e ⊢
  refine ob_of noB_ok _ _ e ?_
  simp only [o_add, o_sub, o_mul, o_neg, o_conv, o_lt, o_le, o_eq, o_not, o_and, o_or, o_sel, o_isel, o_ssel, o_beq, o_seq, o_slt, o_slen, o_sat, o_scut, o_sadd, o_ilen, o_blen, o_vlen, o_rlen, o_iget, o_bget, o_vget, o_rget, o_iset, o_bset, o_vset, o_iapp, o_bapp, o_vapp, o_rapp, o_icut, o_bcut, o_vcut, o_irep, o_vt, o_vn, o_vs, o_vl, o_imax, o_imin, o_inb, o_sfit, o_cutb, o_fit, o_mkfit, RhQ, decT, decF, true_and, and_true, eq_self, implies_true, forall_const, Bool.not_eq_true', Bool.not_eq_false', Bool.not_true, Bool.not_false, Bool.and_eq_true, Bool.or_eq_true, Bool.and_eq_false_iff, Bool.or_eq_false_iff, Bool.true_and, Bool.and_true, Bool.false_and, Bool.and_false, Bool.or_false, Bool.false_or, Bool.true_or, Bool.or_true, Int.toNat_natCast, VT.eta, not_true, not_false_iff, false_implies, if_true, if_false, Int.toNat_zero, Int.toNat_one, ns0, ns4, VT.eta]
  exact ⟨fun e => h1 (decide_eq_true e), fun e => h2 (decide_eq_false e)⟩
theorem lpI_ok : LpOk none Tryz.prog 0 lpI := lpOf_ok noLp_ok (fun c hC hB hn hmd y ρ K hs Q hQ β F a w hrs hy => by
  unfold spLpI at hs
  split at hs
  · rename_i t n s l xt xn xs xl op t' n' s' l' r
    obtain ⟨⟨ht, h2, hcn⟩, hs⟩ := hs
    have h0 := rCount_nn (.mk t n s l)
    obtain ⟨g1, g2, g3, g4⟩ := fstN_spec (eqAt (.mk t n s l) (.mk xt xn xs xl)) (rCount (.mk t n s l)).toNat 0
    have hF : fstN (eqAt (.mk t n s l) (.mk xt xn xs xl)) 0 (rCount (.mk t n s l)).toNat = fstEq (.mk t n s l) (.mk xt xn xs xl) := rfl
    rw [hF] at g1 g2 g3 g4
    have hB' : anyEq (.mk t n s l) (.mk xt xn xs xl) = true ↔ fstEq (.mk t n s l) (.mk xt xn xs xl) < (rCount (.mk t n s l)).toNat := by unfold anyEq; exact decide_eq_true_iff
    have e : rfAt Tryz.f30 3 = .rangeFunc (.tmp 17) #[18, 19] (rfA (rfAt Tryz.f30 3)) (rfB (rfAt Tryz.f30 3)) := by kernel_rfl
    have e2 : rfF (rfAt Tryz.f30 3) = .tmp 17 := by kernel_rfl
    rw [e2] at hy
    rw [e]
    refine each_ok mixed tbOk (walked (kn := fun f => Nat.beq f 50) (md := fun _ => false) (PureOk.also ok50 (PureOk.none _)) 14) fnsOk hC hB hmd (by decide) (tm := tmI) (ρs := fun k => [.int xt, .is xn, .ss xs, .vs xl, .int op, .int t', .is n', .ss s', .vs l', .bool r]) (N := (rCount (.mk t n s l)).toNat) (els := elsV (.mk t n s l)) (fun k => rfl) (fng := Tryz.f49) (by kernel_rfl) (each49 ht h2 (by omega)) (fun k => by rfl) (fun k => by rfl) (fun k => by rfl) (by decide)
      (X := fun r' j => anyEq (.mk t n s l) (.mk xt xn xs xl) = true ∧ r' = [.int xt, .is xn, .ss xs, .vs xl, .int op, .int t', .is n', .ss s', .vs l', .bool true] ∧ j = .ret) (M := fstEq (.mk t n s l) (.mk xt xn xs xl)) (fun k x0 x1 hk hM hx => ?_) (fun hNM β F a w h => ?_) (fun r j ⟨hX, hr, hj⟩ => ?_) hrs hy
    · rw [hn]
      injection hx with hx0 hx
      injection hx with hx1 hx
      subst hx0; subst hx1
      refine roundI xt xn xs xl op t' n' s' l' r k (atV (.mk t n s l) k) (fun hv => ?_) (fun hv => ?_)
      · have hge : ¬ k < fstEq (.mk t n s l) (.mk xt xn xs xl) := fun h => by have h5 := g4 k (Nat.zero_le _) h; unfold eqAt at h5; rw [hv] at h5; cases h5
        exact .inr ⟨by simp, hB'.2 (by omega), rfl, rfl⟩
      · have hne : fstEq (.mk t n s l) (.mk xt xn xs xl) ≠ k := fun h => by
          have h5 := g3 (by omega)
          rw [h] at h5
          unfold eqAt at h5
          rw [hv] at h5; cases h5
        exact .inl ⟨by omega, rfl, rfl⟩
    · have hb : ¬ anyEq (.mk t n s l) (.mk xt xn xs xl) = true := fun hb => by have := hB'.1 hb; omega
      exact hQ _ _ (hs.2 (by simpa using hb)) β F a w h
    · subst hr; subst hj
      exact hQ _ _ (hs.1 hX)
  · exact hs.elim)
theorem okPassT : Pure1 Tryz.prog 30 spPassT := by
  intro xs F w cs R ha h
  obtain ⟨x, op, cs', a, b, rfl, h1, h2, h⟩ := onVT_inv h
  obtain ⟨ho, h3⟩ := when_inv h
  have ha := ha.conv2 (fun v => as_V h1) (fun v => as_T h2)
  obtain ⟨t, n, s, l⟩ := a
  obtain ⟨t', n', s', l'⟩ := b
  refine contractL lpI_ok (fn := Tryz.f30) (walked (PureOk.also ok50 (PureOk.also ok34 (PureOk.also ok29 (PureOk.none _)))) 14) (by kernel_rfl) w30tC_ok (by rfl) (by rfl) (by rfl) (by rfl) (by rfl) ha (ρ := [.int t, .is n, .ss s, .vs l, .int op, .int t', .is n', .ss s', .vs l']) (Rh.go (w30t_9999 t n s l op t' n' s' l' _) ?_) h3
  simp only [o_add, o_sub, o_mul, o_neg, o_conv, o_lt, o_le, o_eq, o_not, o_and, o_or, o_sel, o_isel, o_ssel, o_beq, o_seq, o_slt, o_slen, o_sat, o_scut, o_sadd, o_ilen, o_blen, o_vlen, o_rlen, o_iget, o_bget, o_vget, o_rget, o_iset, o_bset, o_vset, o_iapp, o_bapp, o_vapp, o_rapp, o_icut, o_bcut, o_vcut, o_irep, o_vt, o_vn, o_vs, o_vl, o_imax, o_imin, o_inb, o_sfit, o_cutb, o_fit, o_mkfit, RhQ, decT, decF, true_and, and_true, eq_self, implies_true, forall_const, Bool.not_eq_true', Bool.not_eq_false', Bool.not_true, Bool.not_false, Bool.and_eq_true, Bool.or_eq_true, Bool.and_eq_false_iff, Bool.or_eq_false_iff, Bool.true_and, Bool.and_true, Bool.false_and, Bool.and_false, Bool.or_false, Bool.false_or, Bool.true_or, Bool.or_true, Int.toNat_natCast, VT.eta, not_true, not_false_iff, false_implies, if_true, if_false, Int.toNat_zero, Int.toNat_one, ns0, ns4]
  have h6 : op = 6 → passT (.mk t n s l) op (.mk t' n' s' l') = anyEq (.mk t' n' s' l') (.mk t n s l) := fun e => by unfold passT; rw [if_pos e]
  have h7 : op = 7 → passT (.mk t n s l) op (.mk t' n' s' l') = (decide (0 ≤ vcmp (.mk t n s l) (atV (.mk t' n' s' l') 0)) && decide (vcmp (.mk t n s l) (atV (.mk t' n' s' l') 1) ≤ 0)) := fun e => by unfold passT; rw [if_neg (by omega), if_pos e]
  have h8 : ¬ op = 6 → ¬ op = 7 → passT (.mk t n s l) op (.mk t' n' s' l') = cmpB op (vcmp (.mk t n s l) (.mk t' n' s' l')) := fun e e' => by unfold passT; rw [if_neg e, if_neg e']
  refine ⟨fun e => ⟨ho.1, ho, fun b => Ret.bool (by rw [h6 e, b]), fun b => Ret.bool (by rw [h6 e, b])⟩, fun e6 => ⟨fun e => ⟨ho.1, ho.2.1, ho.1, ho.2.1, Ret.bool (h7 e)⟩, fun e7 => ?_⟩⟩
  rw [h8 e6 e7]
  unfold cmpB
  refine ⟨fun e => Ret.bool (by rw [if_pos e]), fun e0 => ⟨fun e => Ret.bool (by rw [if_neg e0, if_pos e]), fun e1 => ⟨fun e => Ret.bool (by rw [if_neg e0, if_neg e1, if_pos e]), fun e2 => ⟨fun e => Ret.bool (by rw [if_neg e0, if_neg e1, if_neg e2, if_pos e]), fun e3 => ⟨fun e => Ret.bool (by rw [if_neg e0, if_neg e1, if_neg e2, if_neg e3, if_pos e]), fun e4 => Ret.bool ?_⟩⟩⟩⟩⟩
  rw [if_neg e0, if_neg e1, if_neg e2, if_neg e3, if_neg e4]
  simp
end Go.Qv
