/- Contracts: what layer 20's functions answer. No condition. -/
import Derived.Test.YtpbjikomdljphaaGreatQWr
import Derived.Test.YtpbjikomdljphaaGreatQWs
import Derived.Test.YtpbjikomdljphaaGreatQKbM
set_option linter.unusedVariables false
set_option linter.unusedSimpArgs false
set_option maxRecDepth 100000
namespace Go.Qv
open Go Go.RowKit Go.Proofs
/-! ### what is left of a number behind a value's parts -/
theorem loop37 (m : Nat) (t n s l) (hm : smaller (.mk t n s l) (m + 1)) (hl : l.length ≤ maxLen) (d k : Int) (i : Nat) (h1 : i ≤ l.length) : Rh (w37S m) (Ret (.int .i64 (leftL (l.drop i) k d))) (5, [.int k, .int d, .int i, .int t, .is n, .ss s, .vs l]) := by
  refine Rh.go (w37_5 m k d i t n s l _) ?_
  simp only [o_add, o_sub, o_mul, o_neg, o_conv, o_lt, o_le, o_eq, o_not, o_and, o_or, o_sel, o_isel, o_ssel, o_beq, o_seq, o_slt, o_slen, o_sat, o_scut, o_sadd, o_ilen, o_blen, o_vlen, o_rlen, o_iget, o_bget, o_vget, o_rget, o_iset, o_bset, o_vset, o_iapp, o_bapp, o_vapp, o_rapp, o_icut, o_bcut, o_vcut, o_irep, o_vt, o_vn, o_vs, o_vl, o_imax, o_imin, o_inb, o_sfit, o_cutb, o_fit, o_mkfit, RhQ, decT, decF, true_and, and_true, eq_self, implies_true, forall_const, Bool.not_eq_true', Bool.not_eq_false', Bool.not_true, Bool.not_false, Bool.and_eq_true, Bool.or_eq_true, Bool.and_eq_false_iff, Bool.or_eq_false_iff, Bool.true_and, Bool.and_true, Bool.false_and, Bool.and_false, Bool.or_false, Bool.false_or, Bool.true_or, Bool.or_true, Int.toNat_natCast, VT.eta, not_true, not_false_iff, false_implies, if_true, if_false, Int.toNat_zero, Int.toNat_one, ns0, ns4]
  refine ⟨fun h => ⟨⟨by omega, by omega⟩, hm.mem (getD_mem l default (by omega)), ?_⟩, fun h => Ret.int ?_⟩
  · rw [inc hl (by omega), drop_at l default (show i < l.length by omega), leftL, if_pos h.2]
    exact loop37 m t n s l hm hl _ _ (i + 1) (by omega)
  · rcases Nat.lt_or_ge i l.length with hi | hi
    · rw [drop_at l default hi, leftL, if_neg (by omega)]
    · rw [List.drop_of_length_le hi]; rfl
termination_by l.length - i
theorem ok37n : ∀ n, Pure1 Tryz.prog 37 (sp37 n) := pure_ind (fun xs F w cs R ha h => by
    obtain ⟨x, k, d, a, rfl, h1, h⟩ := onV3_inv h
    exact (none0 (when_inv h).1).elim) (fun m ih xs F w cs R ha h => by
    obtain ⟨x, k, d, a, rfl, h1, h⟩ := onV3_inv h
    obtain ⟨hm, h2⟩ := when_inv h
    have ha := ha.conv3 (fun v => as_V h1) (fun v h => h) (fun v h => h)
    obtain ⟨v, hv⟩ := ha.at 0 rfl
    obtain ⟨t, n, s, l⟩ := a
    refine contract (fn := Tryz.f37) (walked (PureOk.also ih (PureOk.none _)) 14) (by kernel_rfl) w37C_ok (by rfl) (by rfl) (by rfl) (by rfl) (by rfl) ha (ρ := [.int t, .is n, .ss s, .vs l, .int k, .int d]) (Rh.go (w37_9999 m t n s l k d _) ?_) h2
    simp only [o_add, o_sub, o_mul, o_neg, o_conv, o_lt, o_le, o_eq, o_not, o_and, o_or, o_sel, o_isel, o_ssel, o_beq, o_seq, o_slt, o_slen, o_sat, o_scut, o_sadd, o_ilen, o_blen, o_vlen, o_rlen, o_iget, o_bget, o_vget, o_rget, o_iset, o_bset, o_vset, o_iapp, o_bapp, o_vapp, o_rapp, o_icut, o_bcut, o_vcut, o_irep, o_vt, o_vn, o_vs, o_vl, o_imax, o_imin, o_inb, o_sfit, o_cutb, o_fit, o_mkfit, RhQ, decT, decF, true_and, and_true, eq_self, implies_true, forall_const, Bool.not_eq_true', Bool.not_eq_false', Bool.not_true, Bool.not_false, Bool.and_eq_true, Bool.or_eq_true, Bool.and_eq_false_iff, Bool.or_eq_false_iff, Bool.true_and, Bool.and_true, Bool.false_and, Bool.and_false, Bool.or_false, Bool.false_or, Bool.true_or, Bool.or_true, Int.toNat_natCast, VT.eta, not_true, not_false_iff, false_implies, if_true, if_false, Int.toNat_zero, Int.toNat_one, ns0, ns4]
    rw [leftI]
    refine ⟨fun h => Ret.int (by rw [if_pos h]), fun h => ?_⟩
    rw [if_neg h]
    exact loop37 m t n s l hm hv.vlen.l _ _ 0 (by omega))
theorem ok37 : Pure1 Tryz.prog 37 sp37f := pure_all ok37n fun xs Q h => by
  obtain ⟨x, k, d, a, rfl, h1, h⟩ := onV3_inv h
  exact ⟨a.sz + 1, onV3_mk h1 (when_mk (Nat.lt_succ_self _) h)⟩
/-! ### is all small? -/
theorem loop6 (l : List VT) (hl : l.length ≤ maxLen) (hf : fines l) (i : Nat) (h1 : i ≤ l.length) : Rh w6S (Ret (.bool (smallB (l.drop i)))) (2, [.vs l, .int i]) := by
  refine Rh.go (w6_2 l i _) ?_
  simp only [o_add, o_sub, o_mul, o_neg, o_conv, o_lt, o_le, o_eq, o_not, o_and, o_or, o_sel, o_isel, o_ssel, o_beq, o_seq, o_slt, o_slen, o_sat, o_scut, o_sadd, o_ilen, o_blen, o_vlen, o_rlen, o_iget, o_bget, o_vget, o_rget, o_iset, o_bset, o_vset, o_iapp, o_bapp, o_vapp, o_rapp, o_icut, o_bcut, o_vcut, o_irep, o_vt, o_vn, o_vs, o_vl, o_imax, o_imin, o_inb, o_sfit, o_cutb, o_fit, o_mkfit, RhQ, decT, decF, true_and, and_true, eq_self, implies_true, forall_const, Bool.not_eq_true', Bool.not_eq_false', Bool.not_true, Bool.not_false, Bool.and_eq_true, Bool.or_eq_true, Bool.and_eq_false_iff, Bool.or_eq_false_iff, Bool.true_and, Bool.and_true, Bool.false_and, Bool.and_false, Bool.or_false, Bool.false_or, Bool.true_or, Bool.or_true, Int.toNat_natCast, VT.eta, not_true, not_false_iff, false_implies, if_true, if_false, Int.toNat_zero, Int.toNat_one, ns0, ns4]
  refine ⟨fun h => ?_, fun h => by rw [List.drop_of_length_le (by omega)]; exact Ret.bool rfl⟩
  have hi : (0 : Int) ≤ i ∧ (i : Int) < l.length := ⟨by omega, h⟩
  have hfx := hf _ (getD_mem l default (i := i) (by omega))
  rw [drop_at l default (show i < l.length by omega)]
  have e0 : smallB (l.getD i default :: l.drop (i + 1)) = (smallV (l.getD i default) && smallB (l.drop (i + 1))) := by unfold smallB; rw [List.all_cons]
  rw [e0]
  refine ⟨⟨hi, hi, hi, fun _ => hi, fun _ => hi, fun _ => hfx⟩, fun h2 => Ret.bool ?_, fun h2 => ?_⟩
  · have e1 : smallV (l.getD i default) = false := by
      rw [Bool.eq_false_iff]
      intro hh
      unfold smallV checkV at hh
      simp only [Bool.and_eq_true, Bool.not_eq_true', decide_eq_true_eq, decide_eq_false_iff_not] at hh
      obtain ⟨⟨a, b⟩, c⟩ := hh
      rcases h2 with (h2 | h2) | h2
      · exact a h2
      · exact h2 b
      · exact h2 c
    rw [e1, Bool.false_and]
  · have e1 : smallV (l.getD i default) = true := by
      unfold smallV checkV
      simp only [Bool.and_eq_true, Bool.not_eq_true', decide_eq_true_eq, decide_eq_false_iff_not]
      exact ⟨⟨h2.1.1, h2.1.2⟩, h2.2⟩
    rw [e1, Bool.true_and, inc hl (by omega)]
    exact loop6 l hl hf (i + 1) (by omega)
termination_by l.length - i
theorem ok6 : Pure1 Tryz.prog 6 sp6 := by
  intro xs F w cs R ha h
  obtain ⟨x, a, rfl, h1, h⟩ := onVs_inv h
  obtain ⟨hf, h2⟩ := when_inv h
  have ha := ha.conv1 (fun v => as_Vs h1)
  obtain ⟨v, hv⟩ := ha.at 0 rfl
  refine contract (fn := Tryz.f6) (walked (PureOk.also ok37 (PureOk.also ok38 (PureOk.also ok39 (PureOk.none _)))) 14) (by kernel_rfl) w6C_ok (by rfl) (by rfl) (by rfl) (by rfl) (by rfl) ha (ρ := [.vs a]) (Rh.go (w6_9999 a _) ?_) h2
  simp only [o_add, o_sub, o_mul, o_neg, o_conv, o_lt, o_le, o_eq, o_not, o_and, o_or, o_sel, o_isel, o_ssel, o_beq, o_seq, o_slt, o_slen, o_sat, o_scut, o_sadd, o_ilen, o_blen, o_vlen, o_rlen, o_iget, o_bget, o_vget, o_rget, o_iset, o_bset, o_vset, o_iapp, o_bapp, o_vapp, o_rapp, o_icut, o_bcut, o_vcut, o_irep, o_vt, o_vn, o_vs, o_vl, o_imax, o_imin, o_inb, o_sfit, o_cutb, o_fit, o_mkfit, RhQ, decT, decF, true_and, and_true, eq_self, implies_true, forall_const, Bool.not_eq_true', Bool.not_eq_false', Bool.not_true, Bool.not_false, Bool.and_eq_true, Bool.or_eq_true, Bool.and_eq_false_iff, Bool.or_eq_false_iff, Bool.true_and, Bool.and_true, Bool.false_and, Bool.and_false, Bool.or_false, Bool.false_or, Bool.true_or, Bool.or_true, Int.toNat_natCast, VT.eta, not_true, not_false_iff, false_implies, if_true, if_false, Int.toNat_zero, Int.toNat_one, ns0, ns4]
  exact loop6 a hv.len hf 0 (by omega)
/-! ### places in all lists -/
theorem ok36 : Pure1 Tryz.prog 36 sp36 := by
  intro xs F w cs R ha h
  obtain ⟨x, n, a, rfl, h1, h⟩ := onIn_inv h
  have ha := ha.conv2 (fun v => as_I h1) (fun v h => h)
  refine contract (fn := Tryz.f36) (walked (PureOk.also ok57 (PureOk.none _)) 14) (by kernel_rfl) w36C_ok (by rfl) (by rfl) (by rfl) (by rfl) (by rfl) ha (ρ := [.is a, .int n]) (Rh.go (w36_9999 a n _) ?_) h
  simp only [o_add, o_sub, o_mul, o_neg, o_conv, o_lt, o_le, o_eq, o_not, o_and, o_or, o_sel, o_isel, o_ssel, o_beq, o_seq, o_slt, o_slen, o_sat, o_scut, o_sadd, o_ilen, o_blen, o_vlen, o_rlen, o_iget, o_bget, o_vget, o_rget, o_iset, o_bset, o_vset, o_iapp, o_bapp, o_vapp, o_rapp, o_icut, o_bcut, o_vcut, o_irep, o_vt, o_vn, o_vs, o_vl, o_imax, o_imin, o_inb, o_sfit, o_cutb, o_fit, o_mkfit, RhQ, decT, decF, true_and, and_true, eq_self, implies_true, forall_const, Bool.not_eq_true', Bool.not_eq_false', Bool.not_true, Bool.not_false, Bool.and_eq_true, Bool.or_eq_true, Bool.and_eq_false_iff, Bool.or_eq_false_iff, Bool.true_and, Bool.and_true, Bool.false_and, Bool.and_false, Bool.or_false, Bool.false_or, Bool.true_or, Bool.or_true, Int.toNat_natCast, VT.eta, not_true, not_false_iff, false_implies, if_true, if_false, Int.toNat_zero, Int.toNat_one, ns0, ns4]
  exact Ret.bool rfl
theorem loop18b (rows : List (List AV)) (a out : List Int) (x : Int) (i : Nat) (ms : List (List AV)) (hm : ms.length ≤ 1073741824) (ho : out.length ≤ 1073741824) (K : Bool → Prop)
    (hK : ∀ b, K b → Rh w18S (Ret (.sl (.i .i64 (andL rows)))) (5, [.rs rows, .is a, .int a.length, .int (IntKind.i64.wrap (i + 1)), .is (if b = true then out ++ [x] else out)])) (j : Nat) (hj : j ≤ ms.length) (b : Bool) (hb : K (b && (ms.drop j).all fun m => hasI (rInts m 0) x)) :
    Rh w18S (Ret (.sl (.i .i64 (andL rows)))) (9, [.rs rows, .int x, .bool b, .is a, .int a.length, .int i, .rs ms, .int ms.length, .int j, .is out]) := by
  refine Rh.go (w18_9 rows x b a a.length i ms ms.length j out _) ?_
  simp only [o_add, o_sub, o_mul, o_neg, o_conv, o_lt, o_le, o_eq, o_not, o_and, o_or, o_sel, o_isel, o_ssel, o_beq, o_seq, o_slt, o_slen, o_sat, o_scut, o_sadd, o_ilen, o_blen, o_vlen, o_rlen, o_iget, o_bget, o_vget, o_rget, o_iset, o_bset, o_vset, o_iapp, o_bapp, o_vapp, o_rapp, o_icut, o_bcut, o_vcut, o_irep, o_vt, o_vn, o_vs, o_vl, o_imax, o_imin, o_inb, o_sfit, o_cutb, o_fit, o_mkfit, RhQ, decT, decF, true_and, and_true, eq_self, implies_true, forall_const, Bool.not_eq_true', Bool.not_eq_false', Bool.not_true, Bool.not_false, Bool.and_eq_true, Bool.or_eq_true, Bool.and_eq_false_iff, Bool.or_eq_false_iff, Bool.true_and, Bool.and_true, Bool.false_and, Bool.and_false, Bool.or_false, Bool.false_or, Bool.true_or, Bool.or_true, Int.toNat_natCast, VT.eta, not_true, not_false_iff, false_implies, if_true, if_false, Int.toNat_zero, Int.toNat_one, ns0, ns4]
  refine ⟨fun h => ⟨⟨by omega, by omega⟩, ?_⟩, fun h => ?_⟩
  · rw [show IntKind.i64.wrap ((j : Int) + 1) = ((j + 1 : Nat) : Int) from inc (n := ms.length) (by simp only [maxLen]; omega) (by omega)]
    rw [drop_at ms [] (show j < ms.length by omega), List.all_cons, ← Bool.and_assoc] at hb
    exact loop18b rows a out x i ms hm ho K hK (j + 1) (by omega) _ hb
  · rw [List.drop_of_length_le (by omega)] at hb
    have hk := hK b (by simpa using hb)
    refine ⟨fun e => ⟨by simp only [List.length_cons, List.length_nil]; omega, ?_⟩, fun e => ?_⟩
    · rw [e] at hk; simpa using hk
    · rw [e] at hk; simpa using hk
termination_by ms.length - j
theorem loop18a (rows : List (List AV)) (hok : andOk rows) (i : Nat) (h1 : i ≤ (rowI rows 0).length) : Rh w18S (Ret (.sl (.i .i64 (andL rows)))) (5, [.rs rows, .is (rowI rows 0), .int (rowI rows 0).length, .int i, .is (((rowI rows 0).take i).filter fun i => (rows.drop 1).all fun m => hasI (rInts m 0) i)]) := by
  refine Rh.go (w18_5 rows (rowI rows 0) (rowI rows 0).length i _ _) ?_
  simp only [o_add, o_sub, o_mul, o_neg, o_conv, o_lt, o_le, o_eq, o_not, o_and, o_or, o_sel, o_isel, o_ssel, o_beq, o_seq, o_slt, o_slen, o_sat, o_scut, o_sadd, o_ilen, o_blen, o_vlen, o_rlen, o_iget, o_bget, o_vget, o_rget, o_iset, o_bset, o_vset, o_iapp, o_bapp, o_vapp, o_rapp, o_icut, o_bcut, o_vcut, o_irep, o_vt, o_vn, o_vs, o_vl, o_imax, o_imin, o_inb, o_sfit, o_cutb, o_fit, o_mkfit, RhQ, decT, decF, true_and, and_true, eq_self, implies_true, forall_const, Bool.not_eq_true', Bool.not_eq_false', Bool.not_true, Bool.not_false, Bool.and_eq_true, Bool.or_eq_true, Bool.and_eq_false_iff, Bool.or_eq_false_iff, Bool.true_and, Bool.and_true, Bool.false_and, Bool.and_false, Bool.or_false, Bool.false_or, Bool.true_or, Bool.or_true, Int.toNat_natCast, VT.eta, not_true, not_false_iff, false_implies, if_true, if_false, Int.toNat_zero, Int.toNat_one, ns0, ns4]
  have hr : (rowI rows 0).length ≤ 1073741824 := hok.2.2 _ (getD_mem rows [] (i := 0) hok.1)
  have hc : O.real.rcut rows 1 rows.length = rows.drop 1 := by
    show (rows.drop (1 : Int).toNat).take ((rows.length : Int) - 1).toNat = rows.drop 1
    rw [List.take_of_length_le (by rw [List.length_drop]; omega)]; rfl
  refine ⟨fun h => ⟨⟨by omega, by omega⟩, ⟨by omega, by have := hok.1; omega, by omega⟩, ?_⟩, fun h => ?_⟩
  · rw [hc]
    refine loop18b rows (rowI rows 0) _ ((rowI rows 0).getD i 0) i (rows.drop 1) (by have := hok.2.1; rw [List.length_drop]; omega) (Nat.le_trans (List.length_filter_le _ _) (by rw [List.length_take]; omega)) (fun b => b = (rows.drop 1).all fun m => hasI (rInts m 0) ((rowI rows 0).getD i 0)) (fun b hb => ?_) 0 (Nat.zero_le _) true (by rw [List.drop_zero, Bool.true_and])
    have e := loop18a rows hok (i + 1) (by omega)
    rw [take_at (rowI rows 0) 0 (show i < (rowI rows 0).length by omega), List.filter_append] at e
    rw [show IntKind.i64.wrap ((i : Int) + 1) = ((i + 1 : Nat) : Int) from inc (n := (rowI rows 0).length) (by simp only [maxLen]; omega) (by omega), hb]
    rw [List.filter_cons, List.filter_nil] at e
    split at e
    · rename_i h1; rw [if_pos h1]; exact e
    · rename_i h1; rw [if_neg h1]; rw [List.append_nil] at e; exact e
  · rw [List.take_of_length_le (by omega)]; exact rfl
termination_by (rowI rows 0).length - i
/-! ### a test of an element -/
/-! ### the places that pass -/
theorem contractL {lp : LP} (hlp : LpOk none Tryz.prog 0 lp) {orc : Orc} (horc : OrcOk Tryz.prog orc (fun _ => True)) {f : FuncId} {fn : Func} (hf : fns f = some fn) {cuts : List Cut} (hok : cutsOk cuts = true) {c0 : Cut} {xs : List AV} {ρ : List Lf}
    (hc0 : findCut 9999 cuts = some c0) (hpre : c0.pre = [.code (bodyOf fn)]) (hys : renL (renF (sig0 0) 5) xs = some xs) (hin : c0.tm.inst ρ = ⟨zipArgs 0 xs, [], [], 0, fn.ntmps⟩) (hnt : Nat.ble xs.length fn.ntmps = true)
    {cs : Array Value} {F : Nat → Prop} {w : World} {R : Value → World → Prop} {y : AV} (ha : Args F w cs xs) (hr : Rh (stepL lp O.real tb orc fn.results [] 0 cuts) (Ret y) (9999, ρ))
    (hK : ∀ v' F' w', PPost F w y v' F' w' → R v' w') : Goes Tryz.prog f cs w R := by
  obtain ⟨n, hn⟩ := hr
  refine flow_pureL hlp mixed tbOk horc fnsOk hf hok hc0 hpre hys hin hnt ha (K := fun z => z = y) (n := n) ?_ (fun z hz => by subst hz; exact hK)
  exact flow_pure.FS.imp (fun E hE => ⟨y, hE, rfl⟩) hn
end Go.Qv
