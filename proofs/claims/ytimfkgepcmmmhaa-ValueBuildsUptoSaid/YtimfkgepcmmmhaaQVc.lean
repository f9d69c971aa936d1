/- Contracts: value.Check of what is a value. No condition. -/
import Derived.Test.YtimfkgepcmmmhaaQWo
set_option linter.unusedVariables false
set_option linter.unusedSimpArgs false
set_option maxRecDepth 100000
namespace Go.Qv
open Go Go.RowKit Go.Proofs
theorem ok179 : Pure1 Try.prog 179 sp179 := by
  intro xs F w cs R ha h
  obtain ⟨s, rfl, h⟩ := onStr_inv h
  refine contract (fn := Try.f179) (walked (PureOk.also okIdxB (PureOk.none _)) 14) (by kernel_rfl) w179C_ok (by rfl) (by rfl) (by rfl) (by rfl) (by rfl) ha (ρ := [.str s]) (Rh.go (w179_9999 s _) ?_) h
  simp only [o_add, o_sub, o_mul, o_neg, o_conv, o_lt, o_le, o_eq, o_not, o_and, o_or, o_sel, o_isel, o_ssel, o_beq, o_seq, o_slt, o_slen, o_sat, o_scut, o_sadd, o_ilen, o_blen, o_vlen, o_rlen, o_iget, o_bget, o_vget, o_rget, o_iset, o_bset, o_vset, o_iapp, o_bapp, o_vapp, o_rapp, o_icut, o_bcut, o_vcut, o_irep, o_vt, o_vn, o_vs, o_vl, o_imax, o_imin, o_inb, o_sfit, o_cutb, o_fit, o_mkfit, RhQ, decT, decF, true_and, and_true, eq_self, implies_true, forall_const, Bool.not_eq_true', Bool.not_eq_false', Bool.not_true, Bool.not_false, Bool.and_eq_true, Bool.or_eq_true, Bool.and_eq_false_iff, Bool.or_eq_false_iff, Bool.true_and, Bool.and_true, Bool.false_and, Bool.and_false, Bool.or_false, Bool.false_or, Bool.true_or, Bool.or_true, Int.toNat_natCast, VT.eta, not_true, not_false_iff, false_implies, if_true, if_false, Int.toNat_zero, Int.toNat_one, ns0, ns4]
  exact Ret.bool rfl
/-! ### an index of what is not there -/
theorem loop183l (m0 m : Int) (l : List ByteArray) (hl : l.length ≤ maxLen) (hs : allShort m l) (i : Nat) (h1 : i ≤ l.length) : Rh (w183lS m0) (fun E => E = ⟨.int .i64 (-1), [(0, some (.cells [.int .i64 m]))], [], []⟩) (2, [.ss l, .int l.length, .int i, .int m]) := by
  refine Rh.go (w183l_2 m0 l l.length i m _) ?_
  simp only [o_add, o_sub, o_mul, o_neg, o_conv, o_lt, o_le, o_eq, o_not, o_and, o_or, o_sel, o_isel, o_ssel, o_beq, o_seq, o_slt, o_slen, o_sat, o_scut, o_sadd, o_ilen, o_blen, o_vlen, o_rlen, o_iget, o_bget, o_vget, o_rget, o_iset, o_bset, o_vset, o_iapp, o_bapp, o_vapp, o_rapp, o_icut, o_bcut, o_vcut, o_irep, o_vt, o_vn, o_vs, o_vl, o_imax, o_imin, o_inb, o_sfit, o_cutb, o_fit, o_mkfit, RhQ, decT, decF, true_and, and_true, eq_self, implies_true, forall_const, Bool.not_eq_true', Bool.not_eq_false', Bool.not_true, Bool.not_false, Bool.and_eq_true, Bool.or_eq_true, Bool.and_eq_false_iff, Bool.or_eq_false_iff, Bool.true_and, Bool.and_true, Bool.false_and, Bool.and_false, Bool.or_false, Bool.false_or, Bool.true_or, Bool.or_true, Int.toNat_natCast, VT.eta, not_true, not_false_iff, false_implies, if_true, if_false, Int.toNat_zero, Int.toNat_one, ns0, ns4]
  refine fun h => ⟨⟨by omega, by omega⟩, fun h2 => ?_, fun h2 => ?_⟩
  · have hm := getD_mem l ⟨#[]⟩ (i := i) (by omega)
    have := long_iff.1 hs _ hm
    omega
  · rw [inc hl (by omega)]
    exact loop183l m0 m l hl hs (i + 1) (by omega)
termination_by l.length - i
theorem loop183z (l : List ByteArray) (hl : l.length ≤ maxLen) (hs : allNoZero l) (i : Nat) (h1 : i ≤ l.length) : Rh w183zS (fun E => E = ⟨.int .i64 (-1), [], [], []⟩) (2, [.ss l, .int l.length, .int i]) := by
  refine Rh.go (w183z_2 l l.length i _) ?_
  simp only [o_add, o_sub, o_mul, o_neg, o_conv, o_lt, o_le, o_eq, o_not, o_and, o_or, o_sel, o_isel, o_ssel, o_beq, o_seq, o_slt, o_slen, o_sat, o_scut, o_sadd, o_ilen, o_blen, o_vlen, o_rlen, o_iget, o_bget, o_vget, o_rget, o_iset, o_bset, o_vset, o_iapp, o_bapp, o_vapp, o_rapp, o_icut, o_bcut, o_vcut, o_irep, o_vt, o_vn, o_vs, o_vl, o_imax, o_imin, o_inb, o_sfit, o_cutb, o_fit, o_mkfit, RhQ, decT, decF, true_and, and_true, eq_self, implies_true, forall_const, Bool.not_eq_true', Bool.not_eq_false', Bool.not_true, Bool.not_false, Bool.and_eq_true, Bool.or_eq_true, Bool.and_eq_false_iff, Bool.or_eq_false_iff, Bool.true_and, Bool.and_true, Bool.false_and, Bool.and_false, Bool.or_false, Bool.false_or, Bool.true_or, Bool.or_true, Int.toNat_natCast, VT.eta, not_true, not_false_iff, false_implies, if_true, if_false, Int.toNat_zero, Int.toNat_one, ns0, ns4]
  refine fun h => ⟨⟨by omega, by omega⟩, fun h2 => ?_, fun h2 => ?_⟩
  · have hm := getD_mem l ⟨#[]⟩ (i := i) (by omega)
    rw [zero_no (hs _ hm)] at h2
    cases h2
  · rw [inc hl (by omega)]
    exact loop183z l hl hs (i + 1) (by omega)
termination_by l.length - i
theorem as_Sb {β : Nat → Option Value} {F : Nat → Prop} {w : World} {v : Value} {x : AV} {a : List ByteArray} (h : cStrs [] x = some a) (hv : VR β F w v x) : VR β F w v (.sl (.s a)) := vr_back (cStrs_ok (hs := []) (ids := []) (fun _ h => by simp at h) h hv (own_no1 (cStrs_known h)))
theorem vr2 {β : Nat → Option Value} {F : Nat → Prop} {w : World} {cs : Array Value} {x x' y : AV} (hv : ∀ (j : Nat) (v : Value) (z : AV), cs[j]? = some v → [x, y][j]? = some z → VR β F w v z) (h : ∀ v, VR β F w v x → VR β F w v x') :
    ∀ (j : Nat) (v : Value) (z : AV), cs[j]? = some v → [x', y][j]? = some z → VR β F w v z := by
  intro j v z h1 h2
  match j with
  | 0 => simp at h2; subst h2; exact h v (hv 0 v x h1 rfl)
  | 1 => simp at h2; subst h2; exact hv 1 v y h1 rfl
  | j + 2 => simp at h2
theorem oke183 : Eff1 Try.prog 183 se183 := by
  intro xs hs β F w cs R hp hlen hv h
  unfold se183 at h
  split at h
  · rename_i x g m
    split at h
    · rename_i l hg hx
      have hg := Nat.eq_of_beq_eq_true hg
      subst hg
      obtain ⟨hs1, h⟩ := whenE_inv h
      have hv2 := vr2 hv (fun v => as_Sb hx)
      have hl : l.length ≤ maxLen := (hv2 0 _ _ (Array.getElem?_eq_getElem (by rw [hlen]; exact Nat.zero_lt_succ _)) rfl).len
      refine flow_eff (fn := Try.f183) (xs := [.sl (.s l), .fn 176 [.ptr 0 0]]) (ρ := [.ss l, .int m]) mixed tbOk (walked (PureOk.none _) 14) fnsOk (by kernel_rfl) w183lC_ok (e0 := 9999) (by rfl) (by rfl) (ys := [.sl (.s l), .fn 176 [.ptr 0 0]]) (hs' := [(0, .cells [.int .i64 m])]) (by rfl) (by rfl) (by rfl) (by rfl) hp hlen hv2 (K := fun E => E = ⟨.int .i64 (-1), [(0, some (.cells [.int .i64 m]))], [], []⟩) (Rh.go (w183l_9999 m l m _) ?_) (fun E hE => by subst hE; exact h)
      simp only [o_add, o_sub, o_mul, o_neg, o_conv, o_lt, o_le, o_eq, o_not, o_and, o_or, o_sel, o_isel, o_ssel, o_beq, o_seq, o_slt, o_slen, o_sat, o_scut, o_sadd, o_ilen, o_blen, o_vlen, o_rlen, o_iget, o_bget, o_vget, o_rget, o_iset, o_bset, o_vset, o_iapp, o_bapp, o_vapp, o_rapp, o_icut, o_bcut, o_vcut, o_irep, o_vt, o_vn, o_vs, o_vl, o_imax, o_imin, o_inb, o_sfit, o_cutb, o_fit, o_mkfit, RhQ, decT, decF, true_and, and_true, eq_self, implies_true, forall_const, Bool.not_eq_true', Bool.not_eq_false', Bool.not_true, Bool.not_false, Bool.and_eq_true, Bool.or_eq_true, Bool.and_eq_false_iff, Bool.or_eq_false_iff, Bool.true_and, Bool.and_true, Bool.false_and, Bool.and_false, Bool.or_false, Bool.false_or, Bool.true_or, Bool.or_true, Int.toNat_natCast, VT.eta, not_true, not_false_iff, false_implies, if_true, if_false, Int.toNat_zero, Int.toNat_one, ns0, ns4]
      exact loop183l m m l hl hs1 0 (by omega)
    · exact h.elim
  · rename_i x g
    split at h
    · rename_i l hg hx
      have hg := Nat.eq_of_beq_eq_true hg
      subst hg
      obtain ⟨hs1, h⟩ := whenE_inv h
      have hv2 := vr2 hv (fun v => as_Sb hx)
      have hl : l.length ≤ maxLen := (hv2 0 _ _ (Array.getElem?_eq_getElem (by rw [hlen]; exact Nat.zero_lt_succ _)) rfl).len
      refine flow_eff (fn := Try.f183) (xs := [.sl (.s l), .fn 179 []]) (ρ := [.ss l]) mixed tbOk (walked (PureOk.also ok179 (PureOk.none _)) 14) fnsOk (by kernel_rfl) w183zC_ok (e0 := 9999) (by rfl) (by rfl) (ys := [.sl (.s l), .fn 179 []]) (hs' := []) (by rfl) (by rfl) (by rfl) (by rfl) hp hlen hv2 (K := fun E => E = ⟨.int .i64 (-1), [], [], []⟩) (Rh.go (w183z_9999 l _) ?_) (fun E hE => by subst hE; exact h)
      simp only [o_add, o_sub, o_mul, o_neg, o_conv, o_lt, o_le, o_eq, o_not, o_and, o_or, o_sel, o_isel, o_ssel, o_beq, o_seq, o_slt, o_slen, o_sat, o_scut, o_sadd, o_ilen, o_blen, o_vlen, o_rlen, o_iget, o_bget, o_vget, o_rget, o_iset, o_bset, o_vset, o_iapp, o_bapp, o_vapp, o_rapp, o_icut, o_bcut, o_vcut, o_irep, o_vt, o_vn, o_vs, o_vl, o_imax, o_imin, o_inb, o_sfit, o_cutb, o_fit, o_mkfit, RhQ, decT, decF, true_and, and_true, eq_self, implies_true, forall_const, Bool.not_eq_true', Bool.not_eq_false', Bool.not_true, Bool.not_false, Bool.and_eq_true, Bool.or_eq_true, Bool.and_eq_false_iff, Bool.or_eq_false_iff, Bool.true_and, Bool.and_true, Bool.false_and, Bool.and_false, Bool.or_false, Bool.false_or, Bool.true_or, Bool.or_true, Int.toNat_natCast, VT.eta, not_true, not_false_iff, false_implies, if_true, if_false, Int.toNat_zero, Int.toNat_one, ns0, ns4]
      exact loop183z l hl hs1 0 (by omega)
    · exact h.elim
  · exact h.elim
theorem loop184 (l : List Int) (hl : l.length ≤ maxLen) (hs : bits01 l) (i : Nat) (h1 : i ≤ l.length) : Rh w184S (Ret (.int .i64 (-1))) (2, [.is l, .int l.length, .int i]) := by
  refine Rh.go (w184_2 l l.length i _) ?_
  simp only [o_add, o_sub, o_mul, o_neg, o_conv, o_lt, o_le, o_eq, o_not, o_and, o_or, o_sel, o_isel, o_ssel, o_beq, o_seq, o_slt, o_slen, o_sat, o_scut, o_sadd, o_ilen, o_blen, o_vlen, o_rlen, o_iget, o_bget, o_vget, o_rget, o_iset, o_bset, o_vset, o_iapp, o_bapp, o_vapp, o_rapp, o_icut, o_bcut, o_vcut, o_irep, o_vt, o_vn, o_vs, o_vl, o_imax, o_imin, o_inb, o_sfit, o_cutb, o_fit, o_mkfit, RhQ, decT, decF, true_and, and_true, eq_self, implies_true, forall_const, Bool.not_eq_true', Bool.not_eq_false', Bool.not_true, Bool.not_false, Bool.and_eq_true, Bool.or_eq_true, Bool.and_eq_false_iff, Bool.or_eq_false_iff, Bool.true_and, Bool.and_true, Bool.false_and, Bool.and_false, Bool.or_false, Bool.false_or, Bool.true_or, Bool.or_true, Int.toNat_natCast, VT.eta, not_true, not_false_iff, false_implies, if_true, if_false, Int.toNat_zero, Int.toNat_one, ns0, ns4]
  refine ⟨fun h => ⟨⟨by omega, by omega⟩, fun h2 => ?_, fun h2 => ?_⟩, fun h => Ret.int rfl⟩
  · have hm := getD_mem l 0 (i := i) (by omega)
    have := hs _ hm
    omega
  · rw [inc hl (by omega)]
    exact loop184 l hl hs (i + 1) (by omega)
termination_by l.length - i
theorem ok184 : Pure1 Try.prog 184 sp184 := by
  intro xs F w cs R ha h
  obtain ⟨x, a, rfl, h1, h⟩ := onIsG_inv h
  obtain ⟨hs, h⟩ := when_inv h
  have ha := ha.conv2 (fun v => as_I h1) (fun v h => h)
  obtain ⟨v, hv⟩ := ha.at 0 rfl
  refine contract (fn := Try.f184) (walked (PureOk.none _) 14) (by kernel_rfl) w184C_ok (by rfl) (by rfl) (by rfl) (by rfl) (by rfl) ha (ρ := [.is a]) (Rh.go (w184_9999 a _) ?_) h
  simp only [o_add, o_sub, o_mul, o_neg, o_conv, o_lt, o_le, o_eq, o_not, o_and, o_or, o_sel, o_isel, o_ssel, o_beq, o_seq, o_slt, o_slen, o_sat, o_scut, o_sadd, o_ilen, o_blen, o_vlen, o_rlen, o_iget, o_bget, o_vget, o_rget, o_iset, o_bset, o_vset, o_iapp, o_bapp, o_vapp, o_rapp, o_icut, o_bcut, o_vcut, o_irep, o_vt, o_vn, o_vs, o_vl, o_imax, o_imin, o_inb, o_sfit, o_cutb, o_fit, o_mkfit, RhQ, decT, decF, true_and, and_true, eq_self, implies_true, forall_const, Bool.not_eq_true', Bool.not_eq_false', Bool.not_true, Bool.not_false, Bool.and_eq_true, Bool.or_eq_true, Bool.and_eq_false_iff, Bool.or_eq_false_iff, Bool.true_and, Bool.and_true, Bool.false_and, Bool.and_false, Bool.or_false, Bool.false_or, Bool.true_or, Bool.or_true, Int.toNat_natCast, VT.eta, not_true, not_false_iff, false_implies, if_true, if_false, Int.toNat_zero, Int.toNat_one, ns0, ns4]
  exact loop184 a hv.len hs 0 (by omega)
theorem loop158c (l : List VT) (hl : l.length ≤ maxLen) (hs : allCol l) (i : Nat) (h1 : i ≤ l.length) : Rh w158cS (Ret (.int .i64 (-1))) (2, [.vs l, .int l.length, .int i]) := by
  refine Rh.go (w158c_2 l l.length i _) ?_
  simp only [o_add, o_sub, o_mul, o_neg, o_conv, o_lt, o_le, o_eq, o_not, o_and, o_or, o_sel, o_isel, o_ssel, o_beq, o_seq, o_slt, o_slen, o_sat, o_scut, o_sadd, o_ilen, o_blen, o_vlen, o_rlen, o_iget, o_bget, o_vget, o_rget, o_iset, o_bset, o_vset, o_iapp, o_bapp, o_vapp, o_rapp, o_icut, o_bcut, o_vcut, o_irep, o_vt, o_vn, o_vs, o_vl, o_imax, o_imin, o_inb, o_sfit, o_cutb, o_fit, o_mkfit, RhQ, decT, decF, true_and, and_true, eq_self, implies_true, forall_const, Bool.not_eq_true', Bool.not_eq_false', Bool.not_true, Bool.not_false, Bool.and_eq_true, Bool.or_eq_true, Bool.and_eq_false_iff, Bool.or_eq_false_iff, Bool.true_and, Bool.and_true, Bool.false_and, Bool.and_false, Bool.or_false, Bool.false_or, Bool.true_or, Bool.or_true, Int.toNat_natCast, VT.eta, not_true, not_false_iff, false_implies, if_true, if_false, Int.toNat_zero, Int.toNat_one, ns0, ns4]
  refine ⟨fun h => ⟨⟨by omega, by omega⟩, fun h2 => ?_, fun h2 => ?_⟩, fun h => Ret.int rfl⟩
  · have hm := getD_mem l default (i := i) (by omega)
    have := hs _ hm
    unfold isColT isVecT at this
    omega
  · rw [inc hl (by omega)]
    exact loop158c l hl hs (i + 1) (by omega)
termination_by l.length - i
theorem ok158c : Pure1 Try.prog 158 spColIdx := by
  intro xs F w cs R ha h
  obtain ⟨x, a, rfl, h1, h⟩ := onVsG_inv h
  obtain ⟨hs, h⟩ := when_inv h
  have ha := ha.conv2 (fun v => as_Vs h1) (fun v h => h)
  obtain ⟨v, hv⟩ := ha.at 0 rfl
  refine contract (fn := Try.f158) (walked (PureOk.none _) 14) (by kernel_rfl) w158cC_ok (by rfl) (by rfl) (by rfl) (by rfl) (by rfl) ha (ρ := [.vs a]) (Rh.go (w158c_9999 a _) ?_) h
  simp only [o_add, o_sub, o_mul, o_neg, o_conv, o_lt, o_le, o_eq, o_not, o_and, o_or, o_sel, o_isel, o_ssel, o_beq, o_seq, o_slt, o_slen, o_sat, o_scut, o_sadd, o_ilen, o_blen, o_vlen, o_rlen, o_iget, o_bget, o_vget, o_rget, o_iset, o_bset, o_vset, o_iapp, o_bapp, o_vapp, o_rapp, o_icut, o_bcut, o_vcut, o_irep, o_vt, o_vn, o_vs, o_vl, o_imax, o_imin, o_inb, o_sfit, o_cutb, o_fit, o_mkfit, RhQ, decT, decF, true_and, and_true, eq_self, implies_true, forall_const, Bool.not_eq_true', Bool.not_eq_false', Bool.not_true, Bool.not_false, Bool.and_eq_true, Bool.or_eq_true, Bool.and_eq_false_iff, Bool.or_eq_false_iff, Bool.true_and, Bool.and_true, Bool.false_and, Bool.and_false, Bool.or_false, Bool.false_or, Bool.true_or, Bool.or_true, Int.toNat_natCast, VT.eta, not_true, not_false_iff, false_implies, if_true, if_false, Int.toNat_zero, Int.toNat_one, ns0, ns4]
  exact loop158c a hv.len hs 0 (by omega)
theorem rAbs_or (t : Int) : (t < 0 ∧ -5 ≤ t ∧ rAbs t = -t) ∨ (¬ (t < 0 ∧ -5 ≤ t) ∧ rAbs t = t) := by unfold rAbs; split <;> omega
theorem fieldsRet {t : Int} {a b c d : Bool} (h : rFields t = (a, b, c, d)) : Ret (.tup [.agg [.bool (rfN t), .bool (rfS t), .bool (rfL t)], .bool (rfI t)]) ⟨.tup [.agg [.bool a, .bool b, .bool c], .bool d], [], [], []⟩ := by
  unfold rfN rfS rfL rfI; rw [h]; exact rfl
theorem ok159 : Pure1 Try.prog 159 sp159 := by
  intro xs F w cs R ha h
  obtain ⟨t, rfl, h⟩ := onInt_inv h
  refine contract (fn := Try.f159) (walked okAB2 14) (by kernel_rfl) w159C_ok (by rfl) (by rfl) (by rfl) (by rfl) (by rfl) ha (ρ := [.int t]) (Rh.go (w159_9999 t _) ?_) h
  simp only [o_add, o_sub, o_mul, o_neg, o_conv, o_lt, o_le, o_eq, o_not, o_and, o_or, o_sel, o_isel, o_ssel, o_beq, o_seq, o_slt, o_slen, o_sat, o_scut, o_sadd, o_ilen, o_blen, o_vlen, o_rlen, o_iget, o_bget, o_vget, o_rget, o_iset, o_bset, o_vset, o_iapp, o_bapp, o_vapp, o_rapp, o_icut, o_bcut, o_vcut, o_irep, o_vt, o_vn, o_vs, o_vl, o_imax, o_imin, o_inb, o_sfit, o_cutb, o_fit, o_mkfit, RhQ, decT, decF, true_and, and_true, eq_self, implies_true, forall_const, Bool.not_eq_true', Bool.not_eq_false', Bool.not_true, Bool.not_false, Bool.and_eq_true, Bool.or_eq_true, Bool.and_eq_false_iff, Bool.or_eq_false_iff, Bool.true_and, Bool.and_true, Bool.false_and, Bool.and_false, Bool.or_false, Bool.false_or, Bool.true_or, Bool.or_true, Int.toNat_natCast, VT.eta, not_true, not_false_iff, false_implies, if_true, if_false, Int.toNat_zero, Int.toNat_one, ns0, ns4]
  repeat' (first | exact True.intro | refine ⟨?_, ?_⟩ | intro _)
  all_goals
    have ra := rAbs_or t
    exact fieldsRet (by unfold rFields; (repeat' split) <;> first | rfl | omega)
theorem ok161 : Pure1 Try.prog 161 sp161 := by
  intro xs F w cs R ha h
  obtain ⟨x, a, rfl, h1, h⟩ := onV_inv h
  obtain ⟨hs, h2⟩ := when_inv h
  have ha := ha.conv1 (fun v => as_V h1)
  obtain ⟨t, n, s, l⟩ := a
  refine contract (fn := Try.f161) (inl_ok mixed tbOk fnsOk (effOrc_ok (EffOk.also oke183 (EffOk.none _)) (PureOk.none _)) 14) (by kernel_rfl) w161C_ok (by rfl) (by rfl) (by rfl) (by rfl) (by rfl) ha (ρ := [.int t, .is n, .ss s, .vs l]) (Rh.go (w161_9999 t n s l _) ?_) h2
  simp only [o_add, o_sub, o_mul, o_neg, o_conv, o_lt, o_le, o_eq, o_not, o_and, o_or, o_sel, o_isel, o_ssel, o_beq, o_seq, o_slt, o_slen, o_sat, o_scut, o_sadd, o_ilen, o_blen, o_vlen, o_rlen, o_iget, o_bget, o_vget, o_rget, o_iset, o_bset, o_vset, o_iapp, o_bapp, o_vapp, o_rapp, o_icut, o_bcut, o_vcut, o_irep, o_vt, o_vn, o_vs, o_vl, o_imax, o_imin, o_inb, o_sfit, o_cutb, o_fit, o_mkfit, RhQ, decT, decF, true_and, and_true, eq_self, implies_true, forall_const, Bool.not_eq_true', Bool.not_eq_false', Bool.not_true, Bool.not_false, Bool.and_eq_true, Bool.or_eq_true, Bool.and_eq_false_iff, Bool.or_eq_false_iff, Bool.true_and, Bool.and_true, Bool.false_and, Bool.and_false, Bool.or_false, Bool.false_or, Bool.true_or, Bool.or_true, Int.toNat_natCast, VT.eta, not_true, not_false_iff, false_implies, if_true, if_false, Int.toNat_zero, Int.toNat_one, ns0, ns4]
  have hs : longer (if t = 100 then 65536 else 64) s = false := hs
  refine ⟨fun h => ⟨?_, Ret.bool rfl⟩, fun h => ⟨?_, Ret.bool rfl⟩⟩
  · rw [if_pos h] at hs; exact hs
  · rw [if_neg h] at hs; exact hs
/-! ### a table's names -/
theorem loop180 (t n s l) (hs : tblOk (.mk t n s l)) (hsl : s.length ≤ maxLen) (i : Nat) (h1 : i ≤ s.length) : Rh w180S (Ret (.bool true)) (3, [.ss s, .int s.length, .int i, .int t, .is n, .ss s, .vs l, .ss (s.take i)]) := by
  refine Rh.go (w180_3 s s.length i t n s l (s.take i) _) ?_
  simp only [o_add, o_sub, o_mul, o_neg, o_conv, o_lt, o_le, o_eq, o_not, o_and, o_or, o_sel, o_isel, o_ssel, o_beq, o_seq, o_slt, o_slen, o_sat, o_scut, o_sadd, o_ilen, o_blen, o_vlen, o_rlen, o_iget, o_bget, o_vget, o_rget, o_iset, o_bset, o_vset, o_iapp, o_bapp, o_vapp, o_rapp, o_icut, o_bcut, o_vcut, o_irep, o_vt, o_vn, o_vs, o_vl, o_imax, o_imin, o_inb, o_sfit, o_cutb, o_fit, o_mkfit, RhQ, decT, decF, true_and, and_true, eq_self, implies_true, forall_const, Bool.not_eq_true', Bool.not_eq_false', Bool.not_true, Bool.not_false, Bool.and_eq_true, Bool.or_eq_true, Bool.and_eq_false_iff, Bool.or_eq_false_iff, Bool.true_and, Bool.and_true, Bool.false_and, Bool.and_false, Bool.or_false, Bool.false_or, Bool.true_or, Bool.or_true, Int.toNat_natCast, VT.eta, not_true, not_false_iff, false_implies, if_true, if_false, Int.toNat_zero, Int.toNat_one, ns0, ns4]
  obtain ⟨k1, k2, hgo⟩ := rTable_facts hs.1
  have hsz : ∀ x ∈ s, x.size ≤ maxLen := hs.2
  refine ⟨fun h => ?_, fun h => ⟨fun _ => table_cols s l [] hgo k2, Ret.bool (by rw [decide_eq_true (show (0 : Int) < s.length by omega), decide_eq_true (show (s.length : Int) = l.length by omega)]; rfl)⟩⟩
  obtain ⟨f1, f2, f3⟩ := table_at s l [] hgo i (by omega)
  have f3 : ∀ y ∈ s.take i, y ≠ s.getD i ⟨#[]⟩ := fun y hy => f3 y (by simpa using hy)
  have z := zero_no f2
  have ko := key_short (hsz _ (getD_mem s ⟨#[]⟩ (i := i) (by omega)))
  have ks : keysOk (sps (s.take i)) = true := keys_short (fun y hy => hsz y (List.mem_of_mem_take hy))
  refine ⟨⟨by omega, by omega⟩, fun _ => ⟨ko, ks⟩, fun hh => ?_, fun _ => ⟨⟨ko, ks⟩, ?_⟩⟩
  · exfalso
    rcases hh with (hh | hh) | hh
    · exact f1 hh
    · rw [z] at hh; cases hh
    · rw [smem_new f3] at hh; cases hh
  · rw [sins_new f3, take_succ' (by omega), inc hsl (by omega)]
    exact loop180 t n s l hs hsl (i + 1) (by omega)
termination_by s.length - i
theorem ok180 : Pure1 Try.prog 180 sp180 := by
  intro xs F w cs R ha h
  obtain ⟨x, a, rfl, h1, h⟩ := onV_inv h
  obtain ⟨hs, h2⟩ := when_inv h
  have ha := ha.conv1 (fun v => as_V h1)
  obtain ⟨v, hv⟩ := ha.at 0 rfl
  obtain ⟨t, n, s, l⟩ := a
  refine contract (fn := Try.f180) (walked (PureOk.also ok179 (PureOk.also ok158c (PureOk.none _))) 14) (by kernel_rfl) w180C_ok (by rfl) (by rfl) (by rfl) (by rfl) (by rfl) ha (ρ := [.int t, .is n, .ss s, .vs l]) (Rh.go (w180_9999 t n s l _) ?_) h2
  simp only [o_add, o_sub, o_mul, o_neg, o_conv, o_lt, o_le, o_eq, o_not, o_and, o_or, o_sel, o_isel, o_ssel, o_beq, o_seq, o_slt, o_slen, o_sat, o_scut, o_sadd, o_ilen, o_blen, o_vlen, o_rlen, o_iget, o_bget, o_vget, o_rget, o_iset, o_bset, o_vset, o_iapp, o_bapp, o_vapp, o_rapp, o_icut, o_bcut, o_vcut, o_irep, o_vt, o_vn, o_vs, o_vl, o_imax, o_imin, o_inb, o_sfit, o_cutb, o_fit, o_mkfit, RhQ, decT, decF, true_and, and_true, eq_self, implies_true, forall_const, Bool.not_eq_true', Bool.not_eq_false', Bool.not_true, Bool.not_false, Bool.and_eq_true, Bool.or_eq_true, Bool.and_eq_false_iff, Bool.or_eq_false_iff, Bool.true_and, Bool.and_true, Bool.false_and, Bool.and_false, Bool.or_false, Bool.false_or, Bool.true_or, Bool.or_true, Int.toNat_natCast, VT.eta, not_true, not_false_iff, false_implies, if_true, if_false, Int.toNat_zero, Int.toNat_one, ns0, ns4]
  exact loop180 t n s l hs hv.vlen.s 0 (by omega)
theorem ok162 : Pure1 Try.prog 162 sp162 := by
  intro xs F w cs R ha h
  obtain ⟨x, a, rfl, h1, h⟩ := onV_inv h
  obtain ⟨hs, h2⟩ := when_inv h
  have ha := ha.conv1 (fun v => as_V h1)
  obtain ⟨t, n, s, l⟩ := a
  refine contract (fn := Try.f162) (inl_ok mixed tbOk fnsOk (effOrc_ok (EffOk.also oke183 (EffOk.none _)) (PureOk.also ok142 (PureOk.also ok141 (PureOk.also ok184 (PureOk.also ok128 (PureOk.also ok180 (PureOk.none _))))))) 14) (by kernel_rfl) w162C_ok (by rfl) (by rfl) (by rfl) (by rfl) (by rfl) ha (ρ := [.int t, .is n, .ss s, .vs l]) (Rh.go (w162_9999 t n s l _) ?_) h2
  simp only [o_add, o_sub, o_mul, o_neg, o_conv, o_lt, o_le, o_eq, o_not, o_and, o_or, o_sel, o_isel, o_ssel, o_beq, o_seq, o_slt, o_slen, o_sat, o_scut, o_sadd, o_ilen, o_blen, o_vlen, o_rlen, o_iget, o_bget, o_vget, o_rget, o_iset, o_bset, o_vset, o_iapp, o_bapp, o_vapp, o_rapp, o_icut, o_bcut, o_vcut, o_irep, o_vt, o_vn, o_vs, o_vl, o_imax, o_imin, o_inb, o_sfit, o_cutb, o_fit, o_mkfit, RhQ, decT, decF, true_and, and_true, eq_self, implies_true, forall_const, Bool.not_eq_true', Bool.not_eq_false', Bool.not_true, Bool.not_false, Bool.and_eq_true, Bool.or_eq_true, Bool.and_eq_false_iff, Bool.or_eq_false_iff, Bool.true_and, Bool.and_true, Bool.false_and, Bool.and_false, Bool.or_false, Bool.false_or, Bool.true_or, Bool.or_true, Int.toNat_natCast, VT.eta, not_true, not_false_iff, false_implies, if_true, if_false, Int.toNat_zero, Int.toNat_one, ns0, ns4]
  have hp : rPlain (.mk t n s l) = true := hs.1
  have hsz : (t = 98 ∨ t = 100) → ∀ x ∈ s, x.size ≤ maxLen := hs.2
  rw [rPlain_mk] at hp
  have ra := rAbs_or t
  have ha : ¬ (isAtomT t ∧ IntKind.i64.wrap (n.length + s.length) ≠ 1) := fun hh => by rw [if_pos hh] at hp; cases hp
  rw [if_neg ha] at hp
  refine ⟨fun hh => absurd hh ha, fun hh => ⟨fun e1 => ⟨?_, Ret.bool rfl⟩, fun e1 => ⟨fun e3 => ⟨?_, Ret.bool rfl⟩, fun e3 => ⟨fun e100 => ?_, fun e100 => ⟨fun e0 => ?_, fun e0 => ⟨fun e98 => ⟨?_, Ret.bool rfl⟩, fun e98 => ⟨fun e99 => ?_, fun _ => Ret.bool rfl⟩⟩⟩⟩⟩⟩⟩
  · rw [if_pos e1, List.all_eq_true] at hp
    exact fun x hx => of_decide_eq_true (hp x hx)
  · rw [if_neg (by omega), if_neg (by omega), if_neg (by omega), if_neg (by omega), if_neg (by omega), if_pos e3] at hp
    unfold rSyms at hp
    rw [List.all_eq_true] at hp
    exact hp
  · rw [if_neg e1, if_pos e100] at hp
    obtain ⟨q1, q2, q3, q4⟩ := of_decide_eq_true hp
    have hb := hsz (.inr e100) _ (getD_mem s ⟨#[]⟩ (i := 0) (by omega))
    simp only [maxLen] at hb
    have hw : IntKind.i64.wrap (((s.getD 0 ⟨#[]⟩).size : Int) - 1) = (((s.getD 0 ⟨#[]⟩).size - 1 : Nat) : Int) := by rw [w64 (by omega) (by omega)]; omega
    rw [hw, Int.toNat_natCast]
    refine ⟨⟨fun _ => by omega, fun _ => by omega, fun _ => by omega, fun _ => by omega, fun _ => by omega, fun _ => by omega⟩, Ret.bool ?_⟩
    rw [decide_eq_true (show (s.length : Int) = 1 by omega), decide_eq_true (show (2 : Int) ≤ ((s.getD 0 ⟨#[]⟩).size : Int) by omega), decide_eq_true q3, decide_eq_true q4]; rfl
  · rw [if_neg e1, if_neg e100, if_pos e0] at hp
    exact Ret.bool hp.symm
  · rw [if_neg e1, if_neg e100, if_neg e0, if_pos e98] at hp
    exact ⟨hp, hsz (.inl e98)⟩
  · rw [if_neg e1, if_neg e100, if_neg e0, if_neg e98, if_pos e99] at hp
    obtain ⟨q1, q2⟩ := of_decide_eq_true hp
    refine ⟨fun _ => by omega, fun _ _ => by omega, fun _ _ => by omega, fun _ _ _ => by omega, Ret.bool ?_⟩
    symm
    simp only [Bool.and_eq_true, Bool.or_eq_true, decide_eq_true_eq]
    unfold isColT isVecT at q2
    exact ⟨by omega, by omega⟩
theorem loop132b (m : Nat) (l : List VT) (hm : ∀ x ∈ l, smaller x m) (hg : ∀ x ∈ l, x.Good) (hl : l.length ≤ maxLen) (i : Nat) (h1 : i ≤ l.length) : Rh (w132S m) (Ret (.int .i64 0)) (18, [.vs l, .int l.length, .int i]) := by
  refine Rh.go (w132_18 m l l.length i _) ?_
  simp only [o_add, o_sub, o_mul, o_neg, o_conv, o_lt, o_le, o_eq, o_not, o_and, o_or, o_sel, o_isel, o_ssel, o_beq, o_seq, o_slt, o_slen, o_sat, o_scut, o_sadd, o_ilen, o_blen, o_vlen, o_rlen, o_iget, o_bget, o_vget, o_rget, o_iset, o_bset, o_vset, o_iapp, o_bapp, o_vapp, o_rapp, o_icut, o_bcut, o_vcut, o_irep, o_vt, o_vn, o_vs, o_vl, o_imax, o_imin, o_inb, o_sfit, o_cutb, o_fit, o_mkfit, RhQ, decT, decF, true_and, and_true, eq_self, implies_true, forall_const, Bool.not_eq_true', Bool.not_eq_false', Bool.not_true, Bool.not_false, Bool.and_eq_true, Bool.or_eq_true, Bool.and_eq_false_iff, Bool.or_eq_false_iff, Bool.true_and, Bool.and_true, Bool.false_and, Bool.and_false, Bool.or_false, Bool.false_or, Bool.true_or, Bool.or_true, Int.toNat_natCast, VT.eta, not_true, not_false_iff, false_implies, if_true, if_false, Int.toNat_zero, Int.toNat_one, ns0, ns4]
  refine ⟨fun h => ?_, fun h => Ret.int rfl⟩
  have hx := getD_mem l default (i := i) (by omega)
  have e := loop132b m l hm hg hl (i + 1) (by omega)
  have h2 := hm _ hx
  have h3 := hg _ hx
  rw [inc hl (by omega)]
  repeat' apply And.intro
  all_goals first | exact e | exact h2 | exact h3 | omega
termination_by l.length - i
theorem loop132a (m : Nat) (t n s) (l l' : List VT) (hm : ∀ x ∈ l, smaller x m) (hg : ∀ x ∈ l, x.Good) (hl : l.length ≤ maxLen) (hc : ∀ x ∈ l', rCount x = rCount (l.getD 0 default)) (h0 : 0 < l.length) (hl' : l'.length ≤ maxLen) (i : Nat) (h1 : i ≤ l'.length) : Rh (w132S m) (Ret (.int .i64 0)) (12, [.vs l', .int l'.length, .int i, .int t, .is n, .ss s, .vs l]) := by
  refine Rh.go (w132_12 m l' l'.length i t n s l _) ?_
  simp only [o_add, o_sub, o_mul, o_neg, o_conv, o_lt, o_le, o_eq, o_not, o_and, o_or, o_sel, o_isel, o_ssel, o_beq, o_seq, o_slt, o_slen, o_sat, o_scut, o_sadd, o_ilen, o_blen, o_vlen, o_rlen, o_iget, o_bget, o_vget, o_rget, o_iset, o_bset, o_vset, o_iapp, o_bapp, o_vapp, o_rapp, o_icut, o_bcut, o_vcut, o_irep, o_vt, o_vn, o_vs, o_vl, o_imax, o_imin, o_inb, o_sfit, o_cutb, o_fit, o_mkfit, RhQ, decT, decF, true_and, and_true, eq_self, implies_true, forall_const, Bool.not_eq_true', Bool.not_eq_false', Bool.not_true, Bool.not_false, Bool.and_eq_true, Bool.or_eq_true, Bool.and_eq_false_iff, Bool.or_eq_false_iff, Bool.true_and, Bool.and_true, Bool.false_and, Bool.and_false, Bool.or_false, Bool.false_or, Bool.true_or, Bool.or_true, Int.toNat_natCast, VT.eta, not_true, not_false_iff, false_implies, if_true, if_false, Int.toNat_zero, Int.toNat_one, ns0, ns4]
  refine ⟨fun h => ⟨⟨by omega, by omega⟩, ⟨by omega, by omega⟩, fun hne => absurd (hc _ (getD_mem l' default (by omega))) hne, fun _ => ?_⟩, fun h => loop132b m l hm hg hl 0 (by omega)⟩
  rw [inc hl' (by omega)]
  exact loop132a m t n s l l' hm hg hl hc h0 hl' (i + 1) (by omega)
termination_by l'.length - i
theorem fld_vec {t : Int} (h : 1 ≤ t ∧ t ≤ 5) : rfL t = false ∧ (t = 3 → rfN t = false) ∧ (t ≠ 3 → rfS t = false) := by
  have ha : rAbs t = t := by unfold rAbs; rw [if_neg (by omega)]
  obtain ⟨r1, r2⟩ := rfields5 (t := t) (by rw [ha]; exact h)
  rw [ha] at r1 r2
  refine ⟨?_, r1, r2⟩
  unfold rfL rFields
  rw [ha]
  by_cases h3 : t = 3
  · rw [if_pos h3]
  · rw [if_neg h3, if_pos ⟨⟨by omega, h.1⟩, h.2⟩]
theorem run132 (m : Nat) (t n s l) (hm : smaller (.mk t n s l) (m + 1)) (hg : (VT.mk t n s l).Good) (hl : (VT.mk t n s l).Len) : Rh (w132S m) (Ret (.int .i64 0)) (9999, [.int t, .is n, .ss s, .vs l]) := by
  refine Rh.go (w132_9999 m t n s l _) ?_
  simp only [o_add, o_sub, o_mul, o_neg, o_conv, o_lt, o_le, o_eq, o_not, o_and, o_or, o_sel, o_isel, o_ssel, o_beq, o_seq, o_slt, o_slen, o_sat, o_scut, o_sadd, o_ilen, o_blen, o_vlen, o_rlen, o_iget, o_bget, o_vget, o_rget, o_iset, o_bset, o_vset, o_iapp, o_bapp, o_vapp, o_rapp, o_icut, o_bcut, o_vcut, o_irep, o_vt, o_vn, o_vs, o_vl, o_imax, o_imin, o_inb, o_sfit, o_cutb, o_fit, o_mkfit, RhQ, decT, decF, true_and, and_true, eq_self, implies_true, forall_const, Bool.not_eq_true', Bool.not_eq_false', Bool.not_true, Bool.not_false, Bool.and_eq_true, Bool.or_eq_true, Bool.and_eq_false_iff, Bool.or_eq_false_iff, Bool.true_and, Bool.and_true, Bool.false_and, Bool.and_false, Bool.or_false, Bool.false_or, Bool.true_or, Bool.or_true, Int.toNat_natCast, VT.eta, not_true, not_false_iff, false_implies, if_true, if_false, Int.toNat_zero, Int.toNat_one, ns0, ns4]
  cases hg with
  | mk _ _ _ _ g1 g2 g3 g4 g5 g6 g7 g8 g9 =>
  have hmm : ∀ x ∈ l, smaller x m := fun x hx => hm.mem hx
  have len1 := hl.n
  have len2 := hl.s
  have len3 := hl.l
  simp only [maxLen] at len1 len2 len3
  refine ⟨fun hh => ?_, fun _ => ⟨fun hh => ?_, fun _ => ⟨g7, ⟨g5, fun (e : t = 98 ∨ t = 100) x hx => ?_⟩, fun ht => ?_, fun _ => loop132b m l hmm g9 hl.l 0 (by omega)⟩⟩⟩
  · exfalso
    rcases hh with ((hh | ⟨ha, hb⟩) | ⟨ha, hb⟩) | ⟨ha, hb⟩
    · rw [g1] at hh; cases hh
    · rcases g2 with g | g
      · rw [g] at ha; cases ha
      · subst g; simp at hb
    · rcases g3 with g | g
      · rw [g] at ha; cases ha
      · subst g; simp at hb
    · rcases g4 with g | g
      · rw [g] at ha; cases ha
      · subst g; simp at hb
  · exfalso
    have g6 : (if t = 3 then decide ((65536 : Int) < s.length) else if 1 ≤ t ∧ t ≤ 5 then decide ((65536 : Int) < n.length) else if t = 98 then decide ((64 : Int) < s.length) || decide ((64 : Int) < l.length) else decide (t = 0) && decide ((65536 : Int) < l.length)) = false := g6
    by_cases h98 : t = 98
    · rw [if_pos h98] at hh
      rw [if_neg (by omega), if_neg (by omega), if_pos h98, hh] at g6
      cases g6
    · rw [if_neg h98] at hh
      simp only [Bool.and_eq_true, Bool.or_eq_true, decide_eq_true_eq] at hh
      obtain ⟨hv, hb⟩ := hh
      by_cases h0 : t = 0
      · subst h0
        rw [if_neg (by omega), if_neg (by omega), if_neg (by omega), decide_eq_true rfl, Bool.true_and] at g6
        have g6 := of_decide_eq_false g6
        have e1 : n.length = 0 := by
          rcases g2 with g | g
          · exact absurd g (by decide)
          · rw [g]; rfl
        have e2 : s.length = 0 := by
          rcases g3 with g | g
          · exact absurd g (by decide)
          · rw [g]; rfl
        rw [show IntKind.i64.wrap ((n.length : Int) + s.length) = (n.length : Int) + s.length from w64 (by omega) (by omega), w64 (by omega) (by omega)] at hb
        omega
      · have hv : 1 ≤ t ∧ t ≤ 5 := by omega
        obtain ⟨r1, r2, r3⟩ := fld_vec hv
        have e3 : l.length = 0 := by
          rcases g4 with g | g
          · rw [r1] at g; cases g
          · rw [g]; rfl
        by_cases h3 : t = 3
        · rw [if_pos h3] at g6
          have g6 := of_decide_eq_false g6
          have e1 : n.length = 0 := by
            rcases g2 with g | g
            · rw [r2 h3] at g; cases g
            · rw [g]; rfl
          rw [show IntKind.i64.wrap ((n.length : Int) + s.length) = (n.length : Int) + s.length from w64 (by omega) (by omega), w64 (by omega) (by omega)] at hb
          omega
        · rw [if_neg h3, if_pos hv] at g6
          have g6 := of_decide_eq_false g6
          have e2 : s.length = 0 := by
            rcases g3 with g | g
            · rw [r3 h3] at g; cases g
            · rw [g]; rfl
          rw [show IntKind.i64.wrap ((n.length : Int) + s.length) = (n.length : Int) + s.length from w64 (by omega) (by omega), w64 (by omega) (by omega)] at hb
          omega
  · have g7 : longer (if t = 100 then 65536 else 64) s = false := g7
    have := long_iff.1 g7 x hx
    simp only [maxLen]
    split at this <;> omega
  · have h1 : 0 < l.length := by
      rw [rPlain_mk] at g5
      rcases ht with ht | ht
      · rw [if_neg (by unfold isAtomT; omega), if_neg (by unfold rAbs; omega), if_neg (by omega), if_neg (by omega), if_pos ht] at g5
        obtain ⟨k1, k2, _⟩ := rTable_facts g5
        omega
      · rw [if_neg (by unfold isAtomT; omega), if_neg (by unfold rAbs; omega), if_neg (by omega), if_neg (by omega), if_neg (by omega), if_pos ht] at g5
        have := (of_decide_eq_true g5).1
        omega
    refine ⟨⟨by omega, by omega, by omega⟩, ?_⟩
    exact loop132a m t n s l _ hmm g9 hl.l (fun x hx => by
      rcases g8 with g8 | g8
      · omega
      · exact g8 x (List.mem_of_mem_drop (List.mem_of_mem_take hx))) h1 (by rw [List.length_take, List.length_drop]; simp only [maxLen]; omega) 0 (by omega)
theorem ok132n : ∀ n, Pure1 Try.prog 132 (sp132 n) := pure_ind (fun xs F w cs R ha h => by
    obtain ⟨x, a, rfl, h1, h⟩ := onV_inv h
    exact (none0 (when_inv h).1).elim) (fun m ih xs F w cs R ha h => by
    obtain ⟨x, a, rfl, h1, h⟩ := onV_inv h
    obtain ⟨hm, h2⟩ := when_inv h
    obtain ⟨hg, h3⟩ := when_inv h2
    have ha := ha.conv1 (fun v => as_V h1)
    obtain ⟨v, hv⟩ := ha.at 0 rfl
    obtain ⟨t, n, s, l⟩ := a
    exact contract (fn := Try.f132) (walked (PureOk.also ok142 (PureOk.also ok141 (PureOk.also ih (PureOk.also ok159 (PureOk.also ok69 (PureOk.also ok161 (PureOk.also ok162 (PureOk.none _)))))))) 14) (by kernel_rfl) w132C_ok (by rfl) (by rfl) (by rfl) (by rfl) (by rfl) ha (run132 m t n s l hm hg hv.vlen) h3)
theorem ok132 : Pure1 Try.prog 132 sp132f := pure_all ok132n fun xs Q h => by
  obtain ⟨x, a, rfl, h1, h⟩ := onV_inv h
  exact ⟨a.sz + 1, onV_mk h1 (when_mk (Nat.lt_succ_self _) h)⟩
theorem ok59 : Pure1 Try.prog 59 sp59 := by
  intro xs F w cs R ha h
  obtain ⟨x, a, rfl, h1, h⟩ := onV_inv h
  obtain ⟨hg, h2⟩ := when_inv h
  obtain ⟨hd, h3⟩ := when_inv h2
  have ha := ha.conv1 (fun v => as_V h1)
  obtain ⟨t, n, s, l⟩ := a
  refine contract (fn := Try.f59) (walked (PureOk.also ok132 (PureOk.also ok77 (PureOk.none _))) 14) (by kernel_rfl) w59C_ok (by rfl) (by rfl) (by rfl) (by rfl) (by rfl) ha (ρ := [.int t, .is n, .ss s, .vs l]) (Rh.go (w59_9999 t n s l _) ?_) h3
  simp only [o_add, o_sub, o_mul, o_neg, o_conv, o_lt, o_le, o_eq, o_not, o_and, o_or, o_sel, o_isel, o_ssel, o_beq, o_seq, o_slt, o_slen, o_sat, o_scut, o_sadd, o_ilen, o_blen, o_vlen, o_rlen, o_iget, o_bget, o_vget, o_rget, o_iset, o_bset, o_vset, o_iapp, o_bapp, o_vapp, o_rapp, o_icut, o_bcut, o_vcut, o_irep, o_vt, o_vn, o_vs, o_vl, o_imax, o_imin, o_inb, o_sfit, o_cutb, o_fit, o_mkfit, RhQ, decT, decF, true_and, and_true, eq_self, implies_true, forall_const, Bool.not_eq_true', Bool.not_eq_false', Bool.not_true, Bool.not_false, Bool.and_eq_true, Bool.or_eq_true, Bool.and_eq_false_iff, Bool.or_eq_false_iff, Bool.true_and, Bool.and_true, Bool.false_and, Bool.and_false, Bool.or_false, Bool.false_or, Bool.true_or, Bool.or_true, Int.toNat_natCast, VT.eta, not_true, not_false_iff, false_implies, if_true, if_false, Int.toNat_zero, Int.toNat_one, ns0, ns4]
  have hd : rDepth (.mk t n s l) ≤ 32 := hd
  exact ⟨hg, fun h => absurd h (by omega), fun _ => Ret.int rfl⟩
end Go.Qv
