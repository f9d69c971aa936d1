/- quiverlaw03.ValueAsks: the law. No condition. -/
import Derived.Test.YtimfkgepcmmmhaaQPz
set_option linter.unusedVariables false
set_option linter.unusedSimpArgs false
set_option maxRecDepth 100000
namespace Go.Qv
open Go Go.RowKit Go.Proofs
/-! ### R.Size -/
theorem loop80 (m : Nat) (t n s l) (hm : smaller (.mk t n s l) (m + 1)) (hl : l.length ≤ maxLen) (d : Int) (i : Nat) (h1 : i ≤ l.length) : Rh (w80S m) (Ret (.int .i64 (rSizeL (l.drop i) d))) (3, [.int d, .int i, .int t, .is n, .ss s, .vs l]) := by
  refine Rh.go (w80_3 m d i t n s l _) ?_
  simp only [o_add, o_sub, o_mul, o_neg, o_conv, o_lt, o_le, o_eq, o_not, o_and, o_or, o_sel, o_isel, o_ssel, o_beq, o_seq, o_slt, o_slen, o_sat, o_scut, o_sadd, o_ilen, o_blen, o_vlen, o_rlen, o_iget, o_bget, o_vget, o_rget, o_iset, o_bset, o_vset, o_iapp, o_bapp, o_vapp, o_rapp, o_icut, o_bcut, o_vcut, o_irep, o_vt, o_vn, o_vs, o_vl, o_imax, o_imin, o_inb, o_sfit, o_cutb, o_fit, o_mkfit, RhQ, decT, decF, true_and, and_true, eq_self, implies_true, forall_const, Bool.not_eq_true', Bool.not_eq_false', Bool.not_true, Bool.not_false, Bool.and_eq_true, Bool.or_eq_true, Bool.and_eq_false_iff, Bool.or_eq_false_iff, Bool.true_and, Bool.and_true, Bool.false_and, Bool.and_false, Bool.or_false, Bool.false_or, Bool.true_or, Bool.or_true, Int.toNat_natCast, VT.eta, not_true, not_false_iff, false_implies, if_true, if_false, Int.toNat_zero, Int.toNat_one, ns0, ns4]
  refine ⟨fun h => ?_, fun h => ?_⟩
  · have hx := hm.mem (getD_mem l default (i := i) (by omega))
    have e := loop80 m t n s l hm hl (IntKind.i64.wrap (d + rSize (l.getD i default))) (i + 1) (by omega)
    rw [inc hl (by omega), drop_at l default (show i < l.length by omega), rSizeL]
    repeat' apply And.intro
    all_goals first | exact e | exact hx | omega
  · rw [List.drop_of_length_le (by omega)]; exact Ret.int (by simp only [rSizeL])
termination_by l.length - i
theorem ok80n : ∀ n, Pure1 Try.prog 80 (sp80 n) := pure_ind (fun xs F w cs R ha h => by
    obtain ⟨x, a, rfl, h1, h⟩ := onV_inv h
    exact (none0 (when_inv h).1).elim) (fun m ih xs F w cs R ha h => by
    obtain ⟨x, a, rfl, h1, h⟩ := onV_inv h
    obtain ⟨hm, h⟩ := when_inv h
    have ha := ha.conv1 (fun v => as_V h1)
    obtain ⟨v, hv⟩ := ha.at 0 rfl
    obtain ⟨t, n, s, l⟩ := a
    refine contract (fn := Try.f80) (walked (PureOk.also ih (PureOk.none _)) 14) (by kernel_rfl) w80C_ok (by rfl) (by rfl) (by rfl) (by rfl) (by rfl) ha (ρ := [.int t, .is n, .ss s, .vs l]) (Rh.go (w80_9999 m t n s l _) ?_) h
    simp only [o_add, o_sub, o_mul, o_neg, o_conv, o_lt, o_le, o_eq, o_not, o_and, o_or, o_sel, o_isel, o_ssel, o_beq, o_seq, o_slt, o_slen, o_sat, o_scut, o_sadd, o_ilen, o_blen, o_vlen, o_rlen, o_iget, o_bget, o_vget, o_rget, o_iset, o_bset, o_vset, o_iapp, o_bapp, o_vapp, o_rapp, o_icut, o_bcut, o_vcut, o_irep, o_vt, o_vn, o_vs, o_vl, o_imax, o_imin, o_inb, o_sfit, o_cutb, o_fit, o_mkfit, RhQ, decT, decF, true_and, and_true, eq_self, implies_true, forall_const, Bool.not_eq_true', Bool.not_eq_false', Bool.not_true, Bool.not_false, Bool.and_eq_true, Bool.or_eq_true, Bool.and_eq_false_iff, Bool.or_eq_false_iff, Bool.true_and, Bool.and_true, Bool.false_and, Bool.and_false, Bool.or_false, Bool.false_or, Bool.true_or, Bool.or_true, Int.toNat_natCast, VT.eta, not_true, not_false_iff, false_implies, if_true, if_false, Int.toNat_zero, Int.toNat_one, ns0, ns4]
    rw [rSize]
    exact loop80 m t n s l hm hv.vlen.l _ 0 (by omega))
theorem ok80 : Pure1 Try.prog 80 sp80f := pure_all ok80n fun xs Q h => by
  obtain ⟨x, a, rfl, h1, h⟩ := onV_inv h
  exact ⟨a.sz + 1, onV_mk h1 (when_mk (Nat.lt_succ_self _) h)⟩
/-! ### value.Size -/
theorem loop79 (m : Nat) (t n s l) (hm : smaller (.mk t n s l) (m + 1)) (hl : l.length ≤ maxLen) (d : Int) (i : Nat) (h1 : i ≤ l.length) : Rh (w79S m) (Ret (.int .i64 (rSizeL (l.drop i) d))) (3, [.int d, .vs l, .int l.length, .int i]) := by
  refine Rh.go (w79_3 m d l l.length i _) ?_
  simp only [o_add, o_sub, o_mul, o_neg, o_conv, o_lt, o_le, o_eq, o_not, o_and, o_or, o_sel, o_isel, o_ssel, o_beq, o_seq, o_slt, o_slen, o_sat, o_scut, o_sadd, o_ilen, o_blen, o_vlen, o_rlen, o_iget, o_bget, o_vget, o_rget, o_iset, o_bset, o_vset, o_iapp, o_bapp, o_vapp, o_rapp, o_icut, o_bcut, o_vcut, o_irep, o_vt, o_vn, o_vs, o_vl, o_imax, o_imin, o_inb, o_sfit, o_cutb, o_fit, o_mkfit, RhQ, decT, decF, true_and, and_true, eq_self, implies_true, forall_const, Bool.not_eq_true', Bool.not_eq_false', Bool.not_true, Bool.not_false, Bool.and_eq_true, Bool.or_eq_true, Bool.and_eq_false_iff, Bool.or_eq_false_iff, Bool.true_and, Bool.and_true, Bool.false_and, Bool.and_false, Bool.or_false, Bool.false_or, Bool.true_or, Bool.or_true, Int.toNat_natCast, VT.eta, not_true, not_false_iff, false_implies, if_true, if_false, Int.toNat_zero, Int.toNat_one, ns0, ns4]
  refine ⟨fun h => ?_, fun h => ?_⟩
  · have hx := hm.mem (getD_mem l default (i := i) (by omega))
    have e := loop79 m t n s l hm hl (IntKind.i64.wrap (d + rSize (l.getD i default))) (i + 1) (by omega)
    rw [inc hl (by omega), drop_at l default (show i < l.length by omega), rSizeL]
    repeat' apply And.intro
    all_goals first | exact e | exact hx | omega
  · rw [List.drop_of_length_le (by omega)]; exact Ret.int (by simp only [rSizeL])
termination_by l.length - i
theorem ok79n : ∀ n, Pure1 Try.prog 79 (sp79 n) := pure_ind (fun xs F w cs R ha h => by
    obtain ⟨x, a, rfl, h1, h⟩ := onV_inv h
    exact (none0 (when_inv h).1).elim) (fun m ih xs F w cs R ha h => by
    obtain ⟨x, a, rfl, h1, h⟩ := onV_inv h
    obtain ⟨hm, h⟩ := when_inv h
    have ha := ha.conv1 (fun v => as_V h1)
    obtain ⟨v, hv⟩ := ha.at 0 rfl
    obtain ⟨t, n, s, l⟩ := a
    refine contract (fn := Try.f79) (walked (PureOk.also ih (PureOk.none _)) 14) (by kernel_rfl) w79C_ok (by rfl) (by rfl) (by rfl) (by rfl) (by rfl) ha (ρ := [.int t, .is n, .ss s, .vs l]) (Rh.go (w79_9999 m t n s l _) ?_) h
    simp only [o_add, o_sub, o_mul, o_neg, o_conv, o_lt, o_le, o_eq, o_not, o_and, o_or, o_sel, o_isel, o_ssel, o_beq, o_seq, o_slt, o_slen, o_sat, o_scut, o_sadd, o_ilen, o_blen, o_vlen, o_rlen, o_iget, o_bget, o_vget, o_rget, o_iset, o_bset, o_vset, o_iapp, o_bapp, o_vapp, o_rapp, o_icut, o_bcut, o_vcut, o_irep, o_vt, o_vn, o_vs, o_vl, o_imax, o_imin, o_inb, o_sfit, o_cutb, o_fit, o_mkfit, RhQ, decT, decF, true_and, and_true, eq_self, implies_true, forall_const, Bool.not_eq_true', Bool.not_eq_false', Bool.not_true, Bool.not_false, Bool.and_eq_true, Bool.or_eq_true, Bool.and_eq_false_iff, Bool.or_eq_false_iff, Bool.true_and, Bool.and_true, Bool.false_and, Bool.and_false, Bool.or_false, Bool.false_or, Bool.true_or, Bool.or_true, Int.toNat_natCast, VT.eta, not_true, not_false_iff, false_implies, if_true, if_false, Int.toNat_zero, Int.toNat_one, ns0, ns4]
    rw [rSize]
    exact loop79 m t n s l hm hv.vlen.l _ 0 (by omega))
theorem ok79 : Pure1 Try.prog 79 sp79f := pure_all ok79n fun xs Q h => by
  obtain ⟨x, a, rfl, h1, h⟩ := onV_inv h
  exact ⟨a.sz + 1, onV_mk h1 (when_mk (Nat.lt_succ_self _) h)⟩
theorem turns (t n s l) (hok : asksOk (.mk t n s l) (.mk t n s l) 0) (k : Nat) (hk : k ≤ 2) : Rh w13S IsTrue (9, [.int t, .is n, .ss s, .vs l, .int t, .is n, .ss s, .vs l, .int k]) := by
  refine Rh.go (w13_9 t n s l t n s l k _) ?_
  simp only [o_add, o_sub, o_mul, o_neg, o_conv, o_lt, o_le, o_eq, o_not, o_and, o_or, o_sel, o_isel, o_ssel, o_beq, o_seq, o_slt, o_slen, o_sat, o_scut, o_sadd, o_ilen, o_blen, o_vlen, o_rlen, o_iget, o_bget, o_vget, o_rget, o_iset, o_bset, o_vset, o_iapp, o_bapp, o_vapp, o_rapp, o_icut, o_bcut, o_vcut, o_irep, o_vt, o_vn, o_vs, o_vl, o_imax, o_imin, o_inb, o_sfit, o_cutb, o_fit, o_mkfit, RhQ, decT, decF, true_and, and_true, eq_self, implies_true, forall_const, Bool.not_eq_true', Bool.not_eq_false', Bool.not_true, Bool.not_false, Bool.and_eq_true, Bool.or_eq_true, Bool.and_eq_false_iff, Bool.or_eq_false_iff, Bool.true_and, Bool.and_true, Bool.false_and, Bool.and_false, Bool.or_false, Bool.false_or, Bool.true_or, Bool.or_true, Int.toNat_natCast, VT.eta, not_true, not_false_iff, false_implies, if_true, if_false, Int.toNat_zero, Int.toNat_one, ns0, ns4, veq_self]
  have ht : tame (.mk t n s l) := hok.2.1
  refine ⟨fun h => ?_, fun h => IsTrue.of rfl⟩
  have e := turns t n s l hok (k + 1) (by omega)
  rw [w64 (by omega) (by omega)]
  refine ⟨ht, hok, fun hb => ⟨fun hh => ?_, fun hh => e⟩, fun hb => ?_⟩
  · exfalso
    have := (of_decide_eq_true (show decide (((k : Nat) : Int) = 0 ∧ 2 ≤ rCount (.mk t n s l)) = true from hb)).1
    omega
  · first | exact e | exact ⟨fun hh => by simp at hh, fun _ => e⟩
termination_by 2 - k
theorem numeric (t : Int) : (decide (1 ≤ if t < 0 ∧ -5 ≤ t then IntKind.i64.wrap (0 - t) else t) && decide ((if t < 0 ∧ -5 ≤ t then IntKind.i64.wrap (0 - t) else t) ≤ 5) && !decide ((if t < 0 ∧ -5 ≤ t then IntKind.i64.wrap (0 - t) else t) = 3)) =
    ((decide (t < 0) && decide (-5 ≤ t) || decide (1 ≤ t) && decide (t ≤ 5)) && !decide ((if t < 0 ∧ -5 ≤ t then IntKind.i64.wrap (0 - t) else t) = 3)) := by
  rw [Bool.eq_iff_iff]
  by_cases h : t < 0 ∧ -5 ≤ t
  · rw [if_pos h, w64 (by omega) (by omega)]
    simp only [Bool.and_eq_true, Bool.or_eq_true, decide_eq_true_eq, Bool.not_eq_true', decide_eq_false_iff_not]
    omega
  · rw [if_neg h]
    simp only [Bool.and_eq_true, Bool.or_eq_true, decide_eq_true_eq, Bool.not_eq_true', decide_eq_false_iff_not]
    omega
theorem asksL (i : Int) (t n s l) (hf : (VT.mk t n s l).Fine) (hb : (VT.mk t n s l).bk ≤ 1048576) : Rh w13S IsTrue (9999, [.int t, .is n, .ss s, .vs l, .int i]) := by
  refine Rh.go (w13_9999 t n s l i _) ?_
  simp only [o_add, o_sub, o_mul, o_neg, o_conv, o_lt, o_le, o_eq, o_not, o_and, o_or, o_sel, o_isel, o_ssel, o_beq, o_seq, o_slt, o_slen, o_sat, o_scut, o_sadd, o_ilen, o_blen, o_vlen, o_rlen, o_iget, o_bget, o_vget, o_rget, o_iset, o_bset, o_vset, o_iapp, o_bapp, o_vapp, o_rapp, o_icut, o_bcut, o_vcut, o_irep, o_vt, o_vn, o_vs, o_vl, o_imax, o_imin, o_inb, o_sfit, o_cutb, o_fit, o_mkfit, RhQ, decT, decF, true_and, and_true, eq_self, implies_true, forall_const, Bool.not_eq_true', Bool.not_eq_false', Bool.not_true, Bool.not_false, Bool.and_eq_true, Bool.or_eq_true, Bool.and_eq_false_iff, Bool.or_eq_false_iff, Bool.true_and, Bool.and_true, Bool.false_and, Bool.and_false, Bool.or_false, Bool.false_or, Bool.true_or, Bool.or_true, Int.toNat_natCast, VT.eta, not_true, not_false_iff, false_implies, if_true, if_false, Int.toNat_zero, Int.toNat_one, ns0, ns4, veq_self]
  refine ⟨fun _ => hf, fun _ => IsTrue.of rfl, fun hg => ?_⟩
  have hp : rParts (.mk t n s l) 1048576 = 0 := by
    have h := hg.2
    split at h
    · omega
    · exact h
  have hgood := parts_good 1048576 (.mk t n s l) (Nat.le_trans (sz_bk _) hb) (Nat.le_refl _) (by exact hp)
  have ht : tame (.mk t n s l) := by unfold tame; omega
  have h2 := ok2_of hgood
  have hn := nul_of hb hgood
  have hc := cnt_all (.mk t n s l)
  have e := turns t n s l ⟨rfl, ht, h2, by omega, rfl⟩ 0 (by omega)
  rw [numeric]
  refine ⟨ht, h2, ht, h2, ⟨fun _ => hn, fun _ => hn⟩, fun h => ?_, fun _ => ⟨ht, e⟩⟩
  exfalso
  simp at h
theorem asksOrc : OrcOk Try.prog (inl O.real Go.Qv.tb Go.Qv.fns (pureOrc (PS.also 45 sp45 (PS.also 105 sp105f (PS.also 53 sp53 (PS.also 67 sp67 (PS.also 69 sp69f (PS.also 70 sp70f (PS.also 75 spNull (PS.also 76 spNull (PS.also 77 sp77f (PS.also 78 sp78f (PS.also 79 sp79f (PS.also 80 sp80f (PS.also 52 sp52f (PS.also 57 sp57 (PS.also 21 sp21f (PS.also 47 spLive PS.none))))))))))))))))) (fun f => Nat.beq f 45 || Nat.beq f 105 || Nat.beq f 53 || Nat.beq f 67 || Nat.beq f 69 || Nat.beq f 70 || Nat.beq f 75 || Nat.beq f 76 || Nat.beq f 77 || Nat.beq f 78 || Nat.beq f 79 || Nat.beq f 80 || Nat.beq f 52 || Nat.beq f 57 || Nat.beq f 21 || Nat.beq f 47) (fun _ => false) 300 14) (fun _ => True) :=
  walked (PureOk.also ok45 (PureOk.also ok105 (PureOk.also ok53 (PureOk.also ok67 (PureOk.also ok69 (PureOk.also ok70 (PureOk.also ok75 (PureOk.also ok76 (PureOk.also ok77 (PureOk.also ok78 (PureOk.also ok79 (PureOk.also ok80 (PureOk.also ok52 (PureOk.also ok57 (PureOk.also ok21 (PureOk.also ok47 (PureOk.none _))))))))))))))))) 14
/-- A law over loops that are known. -/
theorem flow_lawL {lp : LP} (hlp : LpOk none Try.prog 0 lp) {orc : Orc} (horc : OrcOk Try.prog orc (fun _ => True)) {f : FuncId} {fn : Func} (hf : fns f = some fn)
    {cuts : List Cut} (hok : cutsOk cuts = true) {c0 : Cut} (hc0 : findCut 9999 cuts = some c0) (hpre : c0.pre = [.code (bodyOf fn)]) {xs : List AV} {ρ : List Lf} (hys : renL (renF (sig0 0) 5) xs = some xs)
    (hin : c0.tm.inst ρ = ⟨zipArgs 0 xs, [], [], 0, fn.ntmps⟩) (hnt : Nat.ble xs.length fn.ntmps = true)
    {cs : Array Value} {F : Nat → Prop} {w : World} (ha : Args F w cs xs) (hr : Rh (stepL lp O.real tb orc fn.results [] 0 cuts) IsTrue (9999, ρ)) :
    Calls Try.prog f cs w fun e w' => e = .returned (.bool true) ∧ Below w.heap.size w w' := by
  obtain ⟨n, hn⟩ := hr
  exact law_calls fnsOk hf (flow_pureL hlp mixed tbOk horc fnsOk hf hok hc0 hpre hys hin hnt ha (K := fun y => y = .bool true) (n := n) hn (fun y hy v' F' w' p => by
    subst hy
    have := p.vr
    cases this
    exact ⟨rfl, p.below⟩))
end Go.Qv
