/- Contracts: the two Joins. No condition. -/
import Derived.Test.YteaeogofidakiaaQPrM
set_option linter.unusedVariables false
set_option linter.unusedSimpArgs false
set_option maxRecDepth 100000
namespace Go.Qv
open Go Go.RowKit Go.Proofs
theorem contractL {lp : LP} (hlp : LpOk none Try.prog 0 lp) {orc : Orc} (horc : OrcOk Try.prog orc (fun _ => True)) {f : FuncId} {fn : Func} (hf : fns f = some fn) {cuts : List Cut} (hok : cutsOk cuts = true) {c0 : Cut} {xs : List AV} {ρ : List Lf}
    (hc0 : findCut 9999 cuts = some c0) (hpre : c0.pre = [.code (bodyOf fn)]) (hys : renL (renF (sig0 0) 5) xs = some xs) (hin : c0.tm.inst ρ = ⟨zipArgs 0 xs, [], [], 0, fn.ntmps⟩) (hnt : Nat.ble xs.length fn.ntmps = true)
    {cs : Array Value} {F : Nat → Prop} {w : World} {R : Value → World → Prop} {y : AV} (ha : Args F w cs xs) (hr : Rh (stepL lp O.real tb orc fn.results [] 0 cuts) (Ret y) (9999, ρ))
    (hK : ∀ v' F' w', PPost F w y v' F' w' → R v' w') : Goes Try.prog f cs w R := by
  obtain ⟨n, hn⟩ := hr
  refine flow_pureL hlp mixed tbOk horc fnsOk hf hok hc0 hpre hys hin hnt ha (K := fun z => z = y) (n := n) ?_ (fun z hz => by subst hz; exact hK)
  exact flow_pure.FS.imp (fun E hE => ⟨y, hE, rfl⟩) hn
noncomputable def spJoin := onVs fun l => when_ (joinOk l) (.leaf (.tup [vcl (joinV l), .int .i64 (joinE l)]))
theorem joinR_many {l : List VT} (h : 65536 < sumJ l) : joinV l = .mk 0 [] [] [] ∧ joinE l = 6 := by unfold joinV joinE; rw [if_pos h, if_pos h]; exact ⟨rfl, rfl⟩
theorem joinR_nil {l : List VT} (h : ¬ 65536 < sumJ l) (h2 : 0 ≤ nilIdx l 0) : joinV l = .mk 0 [] [] [] ∧ joinE l = 31 := by unfold joinV joinE; rw [if_neg h, if_neg h, if_pos h2, if_pos h2]; exact ⟨rfl, rfl⟩
theorem joinR_alike {l : List VT} (h : ¬ 65536 < sumJ l) (h2 : ¬ 0 ≤ nilIdx l 0) (h3 : alikeJ l = true) : joinV l = .mk (baseI (l.getD 0 default)) (l.flatMap VT.n) (l.flatMap VT.s) [] ∧ joinE l = 0 := by
  unfold joinV joinE; rw [if_neg h, if_neg h, if_neg h2, if_neg h2, if_pos h3, if_pos h3]; exact ⟨rfl, rfl⟩
theorem joinR_deep {l : List VT} (h : ¬ 65536 < sumJ l) (h2 : ¬ 0 ≤ nilIdx l 0) (h3 : alikeJ l = false) (h4 : 32 < rDepth (ofV (l.flatMap partsJ))) : joinV l = .mk 0 [] [] [] ∧ joinE l = 6 := by
  unfold joinV joinE; rw [if_neg h, if_neg h, if_neg h2, if_neg h2, h3]; simp [h4]
theorem joinR_mixed {l : List VT} (h : ¬ 65536 < sumJ l) (h2 : ¬ 0 ≤ nilIdx l 0) (h3 : alikeJ l = false) (h4 : ¬ 32 < rDepth (ofV (l.flatMap partsJ))) : joinV l = ofV (l.flatMap partsJ) ∧ joinE l = 0 := by
  unfold joinV joinE; rw [if_neg h, if_neg h, if_neg h2, if_neg h2, h3]; simp [h4]
theorem flatMap_take {l : List VT} {i : Nat} (h : i < l.length) : (l.take (i + 1)).flatMap partsJ = (l.take i).flatMap partsJ ++ partsJ (l.getD i default) := by
  rw [take_at l default h, List.flatMap_append]; simp
theorem parts_yes {x : VT} (h : partB x = true) : partsJ x = eachs x := by unfold partsJ; rw [if_pos h]
theorem parts_no {x : VT} (h : partB x = false) : partsJ x = [x] := by unfold partsJ; rw [h]; rfl
theorem joinOk.hlen {l : List VT} (h : joinOk l) (i : Nat) : ((l.take i).flatMap partsJ).length ≤ 536870912 := by have := h.parts i; have := len_bks ((l.take i).flatMap partsJ); omega
theorem joinOk.all {l : List VT} (h : joinOk l) : Qv.tames (l.flatMap partsJ) := by have := parts_bk l; unfold joinOk at h; unfold Qv.tames; omega
/-! ### vec.Join -/
theorem loop9m (l : List VT) (ho : joinOk l) (h1 : ¬ 65536 < sumJ l) (h2 : ¬ 0 ≤ nilIdx l 0) (h3 : alikeJ l = false) (i : Nat) (hi : i ≤ l.length) :
    Rh w9S (Ret (.tup [vcl (joinV l), .int .i64 (joinE l)])) (24, [.vs l, .int l.length, .int i, .vs ((l.take i).flatMap partsJ)]) := by
  refine Rh.go (w9_24 l l.length i _ _) ?_
  have hl := ho.tames.len
  have hh := ho.hlen i
  simp only [o_add, o_sub, o_mul, o_neg, o_conv, o_lt, o_le, o_eq, o_not, o_and, o_or, o_sel, o_isel, o_ssel, o_beq, o_seq, o_slt, o_slen, o_sat, o_scut, o_sadd, o_ilen, o_blen, o_vlen, o_rlen, o_iget, o_bget, o_vget, o_rget, o_iset, o_bset, o_vset, o_iapp, o_bapp, o_vapp, o_rapp, o_icut, o_bcut, o_vcut, o_irep, o_vt, o_vn, o_vs, o_vl, o_imax, o_imin, o_inb, o_sfit, o_cutb, o_fit, o_mkfit, RhQ, decT, decF, true_and, and_true, eq_self, implies_true, forall_const, Bool.not_eq_true', Bool.not_eq_false', Bool.not_true, Bool.not_false, Bool.and_eq_true, Bool.or_eq_true, Bool.and_eq_false_iff, Bool.or_eq_false_iff, Bool.true_and, Bool.and_true, Bool.false_and, Bool.and_false, Bool.or_false, Bool.false_or, Bool.true_or, Bool.or_true, Int.toNat_natCast, VT.eta, not_true, not_false_iff, false_implies, if_true, if_false, Int.toNat_zero, Int.toNat_one, ns0, ns4, List.length_append, List.length_cons, List.length_nil, set_new]
  refine ⟨fun h => ?_, fun h => ?_⟩
  · have hx := getD_mem l default (i := i) (by omega)
    have e := loop9m l ho h1 h2 h3 (i + 1) (by omega)
    rw [flatMap_take (by omega)] at e
    refine ⟨⟨by omega, by omega⟩, fun hp => ?_, fun hp => ?_⟩
    · rw [parts_no (by simpa using hp)] at e
      rw [inc (mlen hl) (by omega)]
      repeat' apply And.intro
      all_goals first | exact e | omega
    · have hp : partB (l.getD i default) = true := by simpa using hp
      rw [parts_yes hp] at e
      refine Rh.go (w9_28 _ _ _ _ _ _ _ _ _) ?_
      simp only [o_add, o_sub, o_mul, o_neg, o_conv, o_lt, o_le, o_eq, o_not, o_and, o_or, o_sel, o_isel, o_ssel, o_beq, o_seq, o_slt, o_slen, o_sat, o_scut, o_sadd, o_ilen, o_blen, o_vlen, o_rlen, o_iget, o_bget, o_vget, o_rget, o_iset, o_bset, o_vset, o_iapp, o_bapp, o_vapp, o_rapp, o_icut, o_bcut, o_vcut, o_irep, o_vt, o_vn, o_vs, o_vl, o_imax, o_imin, o_inb, o_sfit, o_cutb, o_fit, o_mkfit, RhQ, decT, decF, true_and, and_true, eq_self, implies_true, forall_const, Bool.not_eq_true', Bool.not_eq_false', Bool.not_true, Bool.not_false, Bool.and_eq_true, Bool.or_eq_true, Bool.and_eq_false_iff, Bool.or_eq_false_iff, Bool.true_and, Bool.and_true, Bool.false_and, Bool.and_false, Bool.or_false, Bool.false_or, Bool.true_or, Bool.or_true, Int.toNat_natCast, VT.eta, not_true, not_false_iff, false_implies, if_true, if_false, Int.toNat_zero, Int.toNat_one, ns0, ns4]
      rw [inc (mlen hl) (by omega)]
      have ht := ho.tames.mem hx
      have hb := bk_mem hx
      have hc := (cnt_bk (l.getD i default)).2 (partB_iff.1 hp)
      have hob : bks l ≤ 268435456 := ho
      refine ⟨ht, ht, part_ok2 (partB_iff.1 hp), ?_, e⟩
      unfold fitJ
      omega
  · have e : l.take i = l := List.take_of_length_le (by omega)
    rw [e]
    refine ⟨ho.all, fun h4 => ?_, fun h4 => ?_⟩
    · obtain ⟨e1, e2⟩ := joinR_deep h1 h2 h3 h4; exact Ret.ve e1 e2 rfl
    · obtain ⟨e1, e2⟩ := joinR_mixed h1 h2 h3 h4; exact Ret.ve e1 e2 rfl
termination_by l.length - i
theorem loop9a (l : List VT) (ho : joinOk l) (h1 : ¬ 65536 < sumJ l) (h2 : ¬ 0 ≤ nilIdx l 0) (h3 : alikeJ l = true) (i : Nat) (hi : i ≤ l.length) :
    Rh w9S (Ret (.tup [vcl (joinV l), .int .i64 (joinE l)])) (17, [.vs l, .vs l, .int l.length, .int i, .int (baseI (l.getD 0 default)), .is ((l.take i).flatMap VT.n), .ss ((l.take i).flatMap VT.s)]) := by
  refine Rh.go (w9_17 l l l.length i _ _ _ _) ?_
  have hl := ho.tames.len
  simp only [o_add, o_sub, o_mul, o_neg, o_conv, o_lt, o_le, o_eq, o_not, o_and, o_or, o_sel, o_isel, o_ssel, o_beq, o_seq, o_slt, o_slen, o_sat, o_scut, o_sadd, o_ilen, o_blen, o_vlen, o_rlen, o_iget, o_bget, o_vget, o_rget, o_iset, o_bset, o_vset, o_iapp, o_bapp, o_vapp, o_rapp, o_icut, o_bcut, o_vcut, o_irep, o_vt, o_vn, o_vs, o_vl, o_imax, o_imin, o_inb, o_sfit, o_cutb, o_fit, o_mkfit, RhQ, decT, decF, true_and, and_true, eq_self, implies_true, forall_const, Bool.not_eq_true', Bool.not_eq_false', Bool.not_true, Bool.not_false, Bool.and_eq_true, Bool.or_eq_true, Bool.and_eq_false_iff, Bool.or_eq_false_iff, Bool.true_and, Bool.and_true, Bool.false_and, Bool.and_false, Bool.or_false, Bool.false_or, Bool.true_or, Bool.or_true, Int.toNat_natCast, VT.eta, not_true, not_false_iff, false_implies, if_true, if_false, Int.toNat_zero, Int.toNat_one, ns0, ns4]
  refine ⟨fun h => ?_, fun h => ?_⟩
  · have e := loop9a l ho h1 h2 h3 (i + 1) (by omega)
    rw [flat_take VT.n l (by omega), flat_take VT.s l (by omega)] at e
    rw [inc (mlen hl) (by omega)]
    have q1 := ho.tames.flat_n (i + 1)
    have q2 := ho.tames.flat_s (i + 1)
    rw [flat_take VT.n l (by omega), List.length_append] at q1
    rw [flat_take VT.s l (by omega), List.length_append] at q2
    repeat' apply And.intro
    all_goals first | exact e | omega
  · rw [List.take_of_length_le (by omega)]
    obtain ⟨e1, e2⟩ := joinR_alike h1 h2 h3
    exact Ret.ve e1 e2 rfl
termination_by l.length - i
theorem loop9n (l : List VT) (ho : joinOk l) (i : Nat) (hi : i ≤ l.length) :
    Rh w9S (Ret (.tup [vcl (joinV l), .int .i64 (joinE l)])) (3, [.vs l, .int (sumJ (l.take i)), .bool (decide (0 < (l.length : Int)) && allJ (baseI (l.getD 0 default)) (l.take i)), .vs l, .int l.length, .int i]) := by
  refine Rh.go (w9_3 l _ _ l l.length i _) ?_
  have hl := ho.tames.len
  simp only [o_add, o_sub, o_mul, o_neg, o_conv, o_lt, o_le, o_eq, o_not, o_and, o_or, o_sel, o_isel, o_ssel, o_beq, o_seq, o_slt, o_slen, o_sat, o_scut, o_sadd, o_ilen, o_blen, o_vlen, o_rlen, o_iget, o_bget, o_vget, o_rget, o_iset, o_bset, o_vset, o_iapp, o_bapp, o_vapp, o_rapp, o_icut, o_bcut, o_vcut, o_irep, o_vt, o_vn, o_vs, o_vl, o_imax, o_imin, o_inb, o_sfit, o_cutb, o_fit, o_mkfit, RhQ, decT, decF, true_and, and_true, eq_self, implies_true, forall_const, Bool.not_eq_true', Bool.not_eq_false', Bool.not_true, Bool.not_false, Bool.and_eq_true, Bool.or_eq_true, Bool.and_eq_false_iff, Bool.or_eq_false_iff, Bool.true_and, Bool.and_true, Bool.false_and, Bool.and_false, Bool.or_false, Bool.false_or, Bool.true_or, Bool.or_true, Int.toNat_natCast, VT.eta, not_true, not_false_iff, false_implies, if_true, if_false, Int.toNat_zero, Int.toNat_one, ns0, ns4]
  refine ⟨fun h => ?_, fun h => ?_⟩
  · have e := loop9n l ho (i + 1) (by omega)
    have s1 := ho.sum (i + 1)
    have s2 := ho.sum i
    rw [sumJ_take (by omega)] at s1
    rw [sumJ_take (by omega), allJ_take (by omega), ← Bool.and_assoc] at e
    rw [inc (mlen hl) (by omega)]
    refine ⟨⟨by omega, by omega⟩, fun hp => ?_, fun hp => ?_⟩
    · have hc : cntJ (l.getD i default) = rCount (l.getD i default) := by unfold cntJ; rw [if_pos hp]
      rw [hc] at s1 e
      rw [w64 (by omega) (by omega)]
      rw [← Bool.and_assoc] at e
      repeat' apply And.intro
      all_goals first | exact e | (intros; omega)
    · have hc : cntJ (l.getD i default) = 1 := by unfold cntJ; rw [if_neg (by simpa using hp)]
      rw [hc] at s1 e
      rw [w64 (by omega) (by omega)]
      rw [← Bool.and_assoc] at e
      repeat' apply And.intro
      all_goals first | exact e | (intros; omega)
  · have e0 : l.take i = l := List.take_of_length_le (by omega)
    rw [e0]
    have ha : (decide (0 < (l.length : Int)) && allJ (baseI (l.getD 0 default)) l) = alikeJ l := rfl
    refine ⟨fun h1 => ?_, fun h1 => ⟨fun h2 => ?_, fun h2 => ⟨fun h3 => ?_, fun h3 => ?_⟩⟩⟩
    · obtain ⟨e1, e2⟩ := joinR_many h1; exact Ret.ve e1 e2 rfl
    · obtain ⟨e1, e2⟩ := joinR_nil h1 h2; exact Ret.ve e1 e2 rfl
    · have hal : alikeJ l = true := by rw [← ha, Bool.and_eq_true, decide_eq_true_eq]; exact h3
      have h0 : 0 < (l.length : Int) := h3.1
      exact ⟨⟨by omega, by omega⟩, loop9a l ho h1 h2 hal 0 (by omega)⟩
    · have hal : alikeJ l = false := by rw [← ha, Bool.and_eq_false_iff, decide_eq_false_iff_not]; exact h3
      exact loop9m l ho h1 h2 hal 0 (by omega)
termination_by l.length - i
theorem okP9 : PureOk Try.prog (PS.also 29 sp29f (PS.also 34 sp34 (PS.also 35 sp35 (PS.also 36 sp36f (PS.also 63 spNilIdx (PS.also 28 spPart (PS.also 30 spFlat (PS.also 31 spBase PS.none)))))))) :=
  PureOk.also ok29 (PureOk.also ok34 (PureOk.also ok35 (PureOk.also ok36 (PureOk.also ok63j (PureOk.also ok28 (PureOk.also ok30 (PureOk.also ok31 (PureOk.none _))))))))
theorem ok9 : Pure1 Try.prog 9 spJoin := by
  intro xs F w cs R ha h
  obtain ⟨x, l, rfl, h1, h⟩ := onVs_inv h
  obtain ⟨ho, h⟩ := when_inv h
  have ha := ha.conv1 (fun v => as_Vs h1)
  refine contractL lpJ_ok (fn := Try.f9) (walked okP9 14) (by kernel_rfl) w9C_ok (by rfl) (by rfl) (by rfl) (by rfl) (by rfl) ha (ρ := [.vs l]) (Rh.go (w9_9999 l _) ?_) h
  simp only [o_add, o_sub, o_mul, o_neg, o_conv, o_lt, o_le, o_eq, o_not, o_and, o_or, o_sel, o_isel, o_ssel, o_beq, o_seq, o_slt, o_slen, o_sat, o_scut, o_sadd, o_ilen, o_blen, o_vlen, o_rlen, o_iget, o_bget, o_vget, o_rget, o_iset, o_bset, o_vset, o_iapp, o_bapp, o_vapp, o_rapp, o_icut, o_bcut, o_vcut, o_irep, o_vt, o_vn, o_vs, o_vl, o_imax, o_imin, o_inb, o_sfit, o_cutb, o_fit, o_mkfit, RhQ, decT, decF, true_and, and_true, eq_self, implies_true, forall_const, Bool.not_eq_true', Bool.not_eq_false', Bool.not_true, Bool.not_false, Bool.and_eq_true, Bool.or_eq_true, Bool.and_eq_false_iff, Bool.or_eq_false_iff, Bool.true_and, Bool.and_true, Bool.false_and, Bool.and_false, Bool.or_false, Bool.false_or, Bool.true_or, Bool.or_true, Int.toNat_natCast, VT.eta, not_true, not_false_iff, false_implies, if_true, if_false, Int.toNat_zero, Int.toNat_one, ns0, ns4]
  have e := loop9n l ho 0 (by omega)
  have e2 : (decide (0 < (l.length : Int)) && allJ (baseI (l.getD 0 default)) (l.take 0)) = decide (0 < (l.length : Int)) := by simp [allJ]
  rw [e2] at e
  exact e
/-! ### R.Join -/
theorem loop10i (l : List VT) (ho : joinOk l) (i : Nat) (hi : i < l.length) (hp : partB (l.getD i default) = true) {Y : AV}
    (next : Rh w10S (Ret Y) (28, [.vs l, .int ((i + 1 : Nat) : Int), .vs ((l.take (i + 1)).flatMap partsJ)])) (k : Nat) (hk : k ≤ (rCount (l.getD i default)).toNat) :
    Rh w10S (Ret Y) (31, [.vs l, .int i, .int k, .vs ((l.take i).flatMap partsJ ++ (eachs (l.getD i default)).take k)]) := by
  refine Rh.go (w10_31 l i k _ _) ?_
  have hl := ho.tames.len
  have hh := ho.hlen (i + 1)
  rw [flatMap_take hi, parts_yes hp, List.length_append, eachs_len] at hh
  have hx := getD_mem l default (i := i) (by omega)
  have ht := ho.tames.mem hx
  have h0 := rCount_nn (l.getD i default)
  have hlt : ((eachs (l.getD i default)).take k).length = k := by rw [List.length_take, eachs_len]; omega
  simp only [o_add, o_sub, o_mul, o_neg, o_conv, o_lt, o_le, o_eq, o_not, o_and, o_or, o_sel, o_isel, o_ssel, o_beq, o_seq, o_slt, o_slen, o_sat, o_scut, o_sadd, o_ilen, o_blen, o_vlen, o_rlen, o_iget, o_bget, o_vget, o_rget, o_iset, o_bset, o_vset, o_iapp, o_bapp, o_vapp, o_rapp, o_icut, o_bcut, o_vcut, o_irep, o_vt, o_vn, o_vs, o_vl, o_imax, o_imin, o_inb, o_sfit, o_cutb, o_fit, o_mkfit, RhQ, decT, decF, true_and, and_true, eq_self, implies_true, forall_const, Bool.not_eq_true', Bool.not_eq_false', Bool.not_true, Bool.not_false, Bool.and_eq_true, Bool.or_eq_true, Bool.and_eq_false_iff, Bool.or_eq_false_iff, Bool.true_and, Bool.and_true, Bool.false_and, Bool.and_false, Bool.or_false, Bool.false_or, Bool.true_or, Bool.or_true, Int.toNat_natCast, VT.eta, not_true, not_false_iff, false_implies, if_true, if_false, Int.toNat_zero, Int.toNat_one, ns0, ns4, hp, List.length_append, List.length_cons, List.length_nil, hlt]
  refine ⟨⟨by omega, by omega⟩, fun _ => ⟨by omega, by omega⟩, fun h => ?_, fun h => ?_⟩
  · have e := loop10i l ho i hi hp next (k + 1) (by omega)
    rw [eachs_take (by omega), ← List.append_assoc] at e
    rw [w64 (by omega) (by omega)]
    refine ⟨⟨by omega, by omega⟩, ht, part_ok2 (partB_iff.1 hp), by omega, e⟩
  · rw [inc (mlen hl) (by omega)]
    have e : (eachs (l.getD i default)).take k = eachs (l.getD i default) := List.take_of_length_le (by rw [eachs_len]; omega)
    rw [e]
    rw [flatMap_take hi, parts_yes hp] at next
    repeat' apply And.intro
    all_goals first | exact next | omega | (intro hf; cases hf) | (intros; exact next)
termination_by (rCount (l.getD i default)).toNat - k
decreasing_by omega
theorem loop10m (l : List VT) (ho : joinOk l) (h1 : ¬ 65536 < sumJ l) (h2 : ¬ 0 ≤ nilIdx l 0) (h3 : alikeJ l = false) (i : Nat) (hi : i ≤ l.length) :
    Rh w10S (Ret (.tup [vcl (joinV l), .int .i64 (joinE l)])) (28, [.vs l, .int i, .vs ((l.take i).flatMap partsJ)]) := by
  refine Rh.go (w10_28 l i _ _) ?_
  have hl := ho.tames.len
  have hh := ho.hlen i
  simp only [o_add, o_sub, o_mul, o_neg, o_conv, o_lt, o_le, o_eq, o_not, o_and, o_or, o_sel, o_isel, o_ssel, o_beq, o_seq, o_slt, o_slen, o_sat, o_scut, o_sadd, o_ilen, o_blen, o_vlen, o_rlen, o_iget, o_bget, o_vget, o_rget, o_iset, o_bset, o_vset, o_iapp, o_bapp, o_vapp, o_rapp, o_icut, o_bcut, o_vcut, o_irep, o_vt, o_vn, o_vs, o_vl, o_imax, o_imin, o_inb, o_sfit, o_cutb, o_fit, o_mkfit, RhQ, decT, decF, true_and, and_true, eq_self, implies_true, forall_const, Bool.not_eq_true', Bool.not_eq_false', Bool.not_true, Bool.not_false, Bool.and_eq_true, Bool.or_eq_true, Bool.and_eq_false_iff, Bool.or_eq_false_iff, Bool.true_and, Bool.and_true, Bool.false_and, Bool.and_false, Bool.or_false, Bool.false_or, Bool.true_or, Bool.or_true, Int.toNat_natCast, VT.eta, not_true, not_false_iff, false_implies, if_true, if_false, Int.toNat_zero, Int.toNat_one, ns0, ns4]
  refine ⟨fun h => ?_, fun h => ?_⟩
  · have e := loop10m l ho h1 h2 h3 (i + 1) (by omega)
    cases hp : partB (l.getD i default) with
    | true =>
      have e2 := loop10i l ho i (by omega) hp e 0 (by omega)
      simp only [List.take_zero, List.append_nil] at e2
      exact e2
    | false =>
      refine Rh.go (w10_31 l i 0 _ _) ?_
      simp only [o_add, o_sub, o_mul, o_neg, o_conv, o_lt, o_le, o_eq, o_not, o_and, o_or, o_sel, o_isel, o_ssel, o_beq, o_seq, o_slt, o_slen, o_sat, o_scut, o_sadd, o_ilen, o_blen, o_vlen, o_rlen, o_iget, o_bget, o_vget, o_rget, o_iset, o_bset, o_vset, o_iapp, o_bapp, o_vapp, o_rapp, o_icut, o_bcut, o_vcut, o_irep, o_vt, o_vn, o_vs, o_vl, o_imax, o_imin, o_inb, o_sfit, o_cutb, o_fit, o_mkfit, RhQ, decT, decF, true_and, and_true, eq_self, implies_true, forall_const, Bool.not_eq_true', Bool.not_eq_false', Bool.not_true, Bool.not_false, Bool.and_eq_true, Bool.or_eq_true, Bool.and_eq_false_iff, Bool.or_eq_false_iff, Bool.true_and, Bool.and_true, Bool.false_and, Bool.and_false, Bool.or_false, Bool.false_or, Bool.true_or, Bool.or_true, Int.toNat_natCast, VT.eta, not_true, not_false_iff, false_implies, if_true, if_false, Int.toNat_zero, Int.toNat_one, ns0, ns4, hp, List.length_append, List.length_cons, List.length_nil]
      rw [inc (mlen hl) (by omega)]
      rw [flatMap_take (by omega), parts_no hp] at e
      repeat' apply And.intro
      all_goals first | exact e | omega | (intros; omega) | (intro hf; cases hf) | (intros; exact e) | (intro hf; exact absurd hf.2 (by simp)) | skip
  · have e : l.take i = l := List.take_of_length_le (by omega)
    rw [e]
    refine ⟨ho.all, fun h4 => ?_, fun h4 => ?_⟩
    · obtain ⟨e1, e2⟩ := joinR_deep h1 h2 h3 h4; exact Ret.ve e1 e2 rfl
    · obtain ⟨e1, e2⟩ := joinR_mixed h1 h2 h3 h4; exact Ret.ve e1 e2 rfl
termination_by l.length - i
theorem loop10a (l : List VT) (ho : joinOk l) (h1 : ¬ 65536 < sumJ l) (h2 : ¬ 0 ≤ nilIdx l 0) (h3 : alikeJ l = true) (i : Nat) (hi : i ≤ l.length) :
    Rh w10S (Ret (.tup [vcl (joinV l), .int .i64 (joinE l)])) (21, [.vs l, .int i, .int (baseI (l.getD 0 default)), .is ((l.take i).flatMap VT.n), .ss ((l.take i).flatMap VT.s)]) := by
  refine Rh.go (w10_21 l i _ _ _ _) ?_
  have hl := ho.tames.len
  simp only [o_add, o_sub, o_mul, o_neg, o_conv, o_lt, o_le, o_eq, o_not, o_and, o_or, o_sel, o_isel, o_ssel, o_beq, o_seq, o_slt, o_slen, o_sat, o_scut, o_sadd, o_ilen, o_blen, o_vlen, o_rlen, o_iget, o_bget, o_vget, o_rget, o_iset, o_bset, o_vset, o_iapp, o_bapp, o_vapp, o_rapp, o_icut, o_bcut, o_vcut, o_irep, o_vt, o_vn, o_vs, o_vl, o_imax, o_imin, o_inb, o_sfit, o_cutb, o_fit, o_mkfit, RhQ, decT, decF, true_and, and_true, eq_self, implies_true, forall_const, Bool.not_eq_true', Bool.not_eq_false', Bool.not_true, Bool.not_false, Bool.and_eq_true, Bool.or_eq_true, Bool.and_eq_false_iff, Bool.or_eq_false_iff, Bool.true_and, Bool.and_true, Bool.false_and, Bool.and_false, Bool.or_false, Bool.false_or, Bool.true_or, Bool.or_true, Int.toNat_natCast, VT.eta, not_true, not_false_iff, false_implies, if_true, if_false, Int.toNat_zero, Int.toNat_one, ns0, ns4]
  refine ⟨fun h => ?_, fun h => ?_⟩
  · have e := loop10a l ho h1 h2 h3 (i + 1) (by omega)
    rw [flat_take VT.n l (by omega), flat_take VT.s l (by omega)] at e
    rw [inc (mlen hl) (by omega)]
    have q1 := ho.tames.flat_n (i + 1)
    have q2 := ho.tames.flat_s (i + 1)
    rw [flat_take VT.n l (by omega), List.length_append] at q1
    rw [flat_take VT.s l (by omega), List.length_append] at q2
    repeat' apply And.intro
    all_goals first | exact e | omega
  · rw [List.take_of_length_le (by omega)]
    obtain ⟨e1, e2⟩ := joinR_alike h1 h2 h3
    exact Ret.ve e1 e2 rfl
termination_by l.length - i
theorem loop10z (l : List VT) (ho : joinOk l) (h1 : ¬ 65536 < sumJ l) (i : Nat) (hi : i ≤ l.length) (hz : nilIdx l 0 = nilIdx (l.drop i) i) :
    Rh w10S (Ret (.tup [vcl (joinV l), .int .i64 (joinE l)])) (14, [.vs l, .bool (alikeJ l), .int i]) := by
  refine Rh.go (w10_14 l _ i _) ?_
  have hl := ho.tames.len
  simp only [o_add, o_sub, o_mul, o_neg, o_conv, o_lt, o_le, o_eq, o_not, o_and, o_or, o_sel, o_isel, o_ssel, o_beq, o_seq, o_slt, o_slen, o_sat, o_scut, o_sadd, o_ilen, o_blen, o_vlen, o_rlen, o_iget, o_bget, o_vget, o_rget, o_iset, o_bset, o_vset, o_iapp, o_bapp, o_vapp, o_rapp, o_icut, o_bcut, o_vcut, o_irep, o_vt, o_vn, o_vs, o_vl, o_imax, o_imin, o_inb, o_sfit, o_cutb, o_fit, o_mkfit, RhQ, decT, decF, true_and, and_true, eq_self, implies_true, forall_const, Bool.not_eq_true', Bool.not_eq_false', Bool.not_true, Bool.not_false, Bool.and_eq_true, Bool.or_eq_true, Bool.and_eq_false_iff, Bool.or_eq_false_iff, Bool.true_and, Bool.and_true, Bool.false_and, Bool.and_false, Bool.or_false, Bool.false_or, Bool.true_or, Bool.or_true, Int.toNat_natCast, VT.eta, not_true, not_false_iff, false_implies, if_true, if_false, Int.toNat_zero, Int.toNat_one, ns0, ns4]
  refine ⟨fun h => ⟨⟨by omega, by omega⟩, fun hn => ?_, fun hn => ?_⟩, fun h => ⟨fun h3 => ?_, fun h3 => ?_⟩⟩
  · rw [drop_at l default (show i < l.length by omega), nilIdx, if_pos hn] at hz
    obtain ⟨e1, e2⟩ := joinR_nil h1 (by omega)
    exact Ret.ve e1 e2 rfl
  · rw [drop_at l default (show i < l.length by omega), nilIdx, if_neg hn] at hz
    rw [inc (mlen hl) (by omega)]
    exact loop10z l ho h1 (i + 1) (by omega) hz
  · rw [List.drop_of_length_le (by omega), nilIdx] at hz
    have h0 : 0 < (l.length : Int) := by unfold alikeJ at h3; rw [Bool.and_eq_true, decide_eq_true_eq] at h3; exact h3.1
    exact ⟨⟨by omega, by omega⟩, loop10a l ho h1 (by omega) h3 0 (by omega)⟩
  · rw [List.drop_of_length_le (by omega), nilIdx] at hz
    exact loop10m l ho h1 (by omega) h3 0 (by omega)
termination_by l.length - i
theorem loop10n (l : List VT) (ho : joinOk l) (i : Nat) (hi : i ≤ l.length) :
    Rh w10S (Ret (.tup [vcl (joinV l), .int .i64 (joinE l)])) (4, [.vs l, .int (sumJ (l.take i)), .bool (decide (0 < (l.length : Int)) && allJ (baseI (l.getD 0 default)) (l.take i)), .int i]) := by
  refine Rh.go (w10_4 l _ _ i _) ?_
  have hl := ho.tames.len
  simp only [o_add, o_sub, o_mul, o_neg, o_conv, o_lt, o_le, o_eq, o_not, o_and, o_or, o_sel, o_isel, o_ssel, o_beq, o_seq, o_slt, o_slen, o_sat, o_scut, o_sadd, o_ilen, o_blen, o_vlen, o_rlen, o_iget, o_bget, o_vget, o_rget, o_iset, o_bset, o_vset, o_iapp, o_bapp, o_vapp, o_rapp, o_icut, o_bcut, o_vcut, o_irep, o_vt, o_vn, o_vs, o_vl, o_imax, o_imin, o_inb, o_sfit, o_cutb, o_fit, o_mkfit, RhQ, decT, decF, true_and, and_true, eq_self, implies_true, forall_const, Bool.not_eq_true', Bool.not_eq_false', Bool.not_true, Bool.not_false, Bool.and_eq_true, Bool.or_eq_true, Bool.and_eq_false_iff, Bool.or_eq_false_iff, Bool.true_and, Bool.and_true, Bool.false_and, Bool.and_false, Bool.or_false, Bool.false_or, Bool.true_or, Bool.or_true, Int.toNat_natCast, VT.eta, not_true, not_false_iff, false_implies, if_true, if_false, Int.toNat_zero, Int.toNat_one, ns0, ns4]
  refine ⟨fun h => ?_, fun h => ?_⟩
  · have e := loop10n l ho (i + 1) (by omega)
    have s1 := ho.sum (i + 1)
    have s2 := ho.sum i
    rw [sumJ_take (by omega)] at s1
    rw [sumJ_take (by omega), allJ_take (by omega), ← Bool.and_assoc] at e
    rw [inc (mlen hl) (by omega)]
    have bad : ∀ {b : Bool}, flatB (l.getD i default) = false ∨ ¬ baseI (l.getD i default) = baseI (l.getD 0 default) → (b && (flatB (l.getD i default) && decide (baseI (l.getD i default) = baseI (l.getD 0 default)))) = false := fun {b} h => by
      rcases h with h | h
      · rw [h]; simp
      · rw [decide_eq_false h]; simp
    have good : ∀ {b : Bool}, flatB (l.getD i default) = true ∧ baseI (l.getD i default) = baseI (l.getD 0 default) → (b && (flatB (l.getD i default) && decide (baseI (l.getD i default) = baseI (l.getD 0 default)))) = b := fun {b} h => by rw [h.1, decide_eq_true h.2]; simp
    refine ⟨⟨by omega, by omega⟩, fun hp => ?_, fun hp => ?_⟩
    · have hc : cntJ (l.getD i default) = rCount (l.getD i default) := by unfold cntJ; rw [if_pos hp]
      rw [hc] at s1 e
      rw [w64 (by omega) (by omega)]
      repeat' apply And.intro
      all_goals first | omega | (intros; omega) | (intro hh; rw [bad hh] at e; exact e) | (intro hh; rw [good hh] at e; exact e) | skip
    · have hc : cntJ (l.getD i default) = 1 := by unfold cntJ; rw [if_neg (by simpa using hp)]
      rw [hc] at s1 e
      rw [w64 (by omega) (by omega)]
      repeat' apply And.intro
      all_goals first | omega | (intros; omega) | (intro hh; rw [bad hh] at e; exact e) | (intro hh; rw [good hh] at e; exact e) | skip
  · have e0 : l.take i = l := List.take_of_length_le (by omega)
    rw [e0]
    refine ⟨fun h1 => ?_, fun h1 => ?_⟩
    · obtain ⟨e1, e2⟩ := joinR_many h1; exact Ret.ve e1 e2 rfl
    · exact loop10z l ho h1 0 (by omega) rfl
termination_by l.length - i
theorem okP10 : PureOk Try.prog (PS.also 15 sp15f (PS.also 19 sp19 (PS.also 40 sp40 (PS.also 41 sp41f (PS.also 37 spPart (PS.also 38 spFlat (PS.also 39 spBase PS.none))))))) :=
  PureOk.also ok15 (PureOk.also ok19 (PureOk.also ok40 (PureOk.also ok41 (PureOk.also ok37 (PureOk.also ok38 (PureOk.also ok39 (PureOk.none _)))))))
theorem ok10 : Pure1 Try.prog 10 spJoin := by
  intro xs F w cs R ha h
  obtain ⟨x, l, rfl, h1, h⟩ := onVs_inv h
  obtain ⟨ho, h⟩ := when_inv h
  have ha := ha.conv1 (fun v => as_Vs h1)
  refine contract (fn := Try.f10) (walked okP10 14) (by kernel_rfl) w10C_ok (by rfl) (by rfl) (by rfl) (by rfl) (by rfl) ha (ρ := [.vs l]) (Rh.go (w10_9999 l _) ?_) h
  simp only [o_add, o_sub, o_mul, o_neg, o_conv, o_lt, o_le, o_eq, o_not, o_and, o_or, o_sel, o_isel, o_ssel, o_beq, o_seq, o_slt, o_slen, o_sat, o_scut, o_sadd, o_ilen, o_blen, o_vlen, o_rlen, o_iget, o_bget, o_vget, o_rget, o_iset, o_bset, o_vset, o_iapp, o_bapp, o_vapp, o_rapp, o_icut, o_bcut, o_vcut, o_irep, o_vt, o_vn, o_vs, o_vl, o_imax, o_imin, o_inb, o_sfit, o_cutb, o_fit, o_mkfit, RhQ, decT, decF, true_and, and_true, eq_self, implies_true, forall_const, Bool.not_eq_true', Bool.not_eq_false', Bool.not_true, Bool.not_false, Bool.and_eq_true, Bool.or_eq_true, Bool.and_eq_false_iff, Bool.or_eq_false_iff, Bool.true_and, Bool.and_true, Bool.false_and, Bool.and_false, Bool.or_false, Bool.false_or, Bool.true_or, Bool.or_true, Int.toNat_natCast, VT.eta, not_true, not_false_iff, false_implies, if_true, if_false, Int.toNat_zero, Int.toNat_one, ns0, ns4]
  have e := loop10n l ho 0 (by omega)
  have e2 : (decide (0 < (l.length : Int)) && allJ (baseI (l.getD 0 default)) (l.take 0)) = decide (0 < (l.length : Int)) := by simp [allJ]
  rw [e2] at e
  exact e
end Go.Qv
/- Walks of readers: laws. (Printed.) -/
set_option linter.unusedVariables false
set_option maxRecDepth 100000
namespace Go.Qv
open Go Go.RowKit
noncomputable def w3C : List Cut := [(⟨9999, ⟨[(0, (.one (.sl .v)))], [], 0, 38⟩, [It.code (bodyOf Go.Proofs.Try.f3)], []⟩ : Cut)]
theorem w3C_ok : cutsOk w3C = true := by kernel_rfl
noncomputable def w3S  : Nat × List Lf → T Gt := stepX O.real Go.Qv.tb (inl O.real Go.Qv.tb Go.Qv.fns (pureOrc (PS.also 8 spLive (PS.also 7 sp7 (PS.also 9 spJoin (PS.also 10 spJoin (PS.also 11 sp11f PS.none)))))) (fun f => Nat.beq f 8 || Nat.beq f 7 || Nat.beq f 9 || Nat.beq f 10 || Nat.beq f 11) (fun _ => false) 300 14) Go.Proofs.Try.f3.results ([]) 0 w3C
theorem w3_9999  (t0 : List VT) (Q : Gt → Prop) : T.ob noB Q (.D 1 (.S (.D 1 (.S (.D 1 (.S (.B (.S .E) (.S (.S (.D 1 (.S (.D 1 (.S (.D 1 (.S (.D 1 (.S (.D 1 (.S (.S .E)))))))))))))))))))) (w3S  (9999, [Lf.vs t0])) =
  ((((O.real.lt (50 : Int) (O.real.vlen t0)) = Bool.false) → True) ∧ ((((O.real.lt (50 : Int) (O.real.vlen t0)) = Bool.false) → ((fines t0) ∧ True)) ∧ ((((O.real.lt (50 : Int) (O.real.vlen t0)) = Bool.false) → True) ∧ (((O.real.or (O.real.lt (50 : Int) (O.real.vlen t0)) (O.real.not (rightB t0))) = true → Q (.inr ⟨(AV.bool Bool.true), [], [], []⟩)) ∧ ((O.real.or (O.real.lt (50 : Int) (O.real.vlen t0)) (O.real.not (rightB t0))) = false → ((joinOk t0) ∧ ((joinOk t0) ∧ ((((veq (VT.mk (VT.t (joinV t0)) (VT.n (joinV t0)) (VT.s (joinV t0)) (VT.l (joinV t0))) (VT.mk (VT.t (joinV t0)) (VT.n (joinV t0)) (VT.s (joinV t0)) (VT.l (joinV t0)))) = Bool.true) → True) ∧ ((((veq (VT.mk (VT.t (joinV t0)) (VT.n (joinV t0)) (VT.s (joinV t0)) (VT.l (joinV t0))) (VT.mk (VT.t (joinV t0)) (VT.n (joinV t0)) (VT.s (joinV t0)) (VT.l (joinV t0)))) = Bool.true) → True) ∧ ((((veq (VT.mk (VT.t (joinV t0)) (VT.n (joinV t0)) (VT.s (joinV t0)) (VT.l (joinV t0))) (VT.mk (VT.t (joinV t0)) (VT.n (joinV t0)) (VT.s (joinV t0)) (VT.l (joinV t0)))) = Bool.true) → True) ∧ ((((veq (VT.mk (VT.t (joinV t0)) (VT.n (joinV t0)) (VT.s (joinV t0)) (VT.l (joinV t0))) (VT.mk (VT.t (joinV t0)) (VT.n (joinV t0)) (VT.s (joinV t0)) (VT.l (joinV t0)))) = Bool.true) → True) ∧ ((((O.real.and (veq (VT.mk (VT.t (joinV t0)) (VT.n (joinV t0)) (VT.s (joinV t0)) (VT.l (joinV t0))) (VT.mk (VT.t (joinV t0)) (VT.n (joinV t0)) (VT.s (joinV t0)) (VT.l (joinV t0)))) (O.real.eq (joinE t0) (joinE t0))) = Bool.true) → True) ∧ Q (.inr ⟨(AV.bool (O.real.and (O.real.and (veq (VT.mk (VT.t (joinV t0)) (VT.n (joinV t0)) (VT.s (joinV t0)) (VT.l (joinV t0))) (VT.mk (VT.t (joinV t0)) (VT.n (joinV t0)) (VT.s (joinV t0)) (VT.l (joinV t0)))) (O.real.eq (joinE t0) (joinE t0))) Bool.true)), [], [], []⟩))))))))))))) := by kernel_rfl

noncomputable def w6C : List Cut := [(⟨9999, ⟨[(0, (.agg [(.int .i64), (.sl (.i .i64)), (.sl .s), (.sl .v)])), (1, (.one (.int IntKind.i64)))], [], 0, 127⟩, [It.code (bodyOf Go.Proofs.Try.f6)], []⟩ : Cut),
  (⟨10, ⟨[(2, (.one (.ptr 0 0))), (4, (.one (.fix (.bool false)))), (6, (.one (.int IntKind.i64))), (8, (.one (.int IntKind.i64))), (9, (.one (.ptr 3264 0))), (10, (.one (.int IntKind.i64))), (12, (.one (.int IntKind.i64))), (13, (.one (.ptr 4288 0))), (14, (.one (.int IntKind.i64))), (15, (.one (.own 4801))), (16, (.one (.int IntKind.i64)))], [(0, (.cells [(.int IntKind.i64), (.sl (.i IntKind.i64)), (.sl .s), (.sl .v)])), (3264, (.cells [(.int IntKind.i64), (.sl (.i IntKind.i64)), (.sl .s), (.sl .v)])), (4288, (.cells [(.int IntKind.i64), (.sl (.i IntKind.i64)), (.sl .s), (.sl .v)])), (4801, (.arr 2 (.i IntKind.i64)))], 4864, 127⟩, (codeAt Go.Proofs.Try.f6 10), []⟩ : Cut)]
theorem w6C_ok : cutsOk w6C = true := by kernel_rfl
noncomputable def w6S  : Nat × List Lf → T Gt := stepX O.real Go.Qv.tb (inl O.real Go.Qv.tb Go.Qv.fns (pureOrc (PS.also 8 spLive (PS.also 7 sp7 (PS.also 15 sp15f (PS.also 16 sp16 (PS.also 22 sp22 (PS.also 9 spJoin (PS.also 23 sp23 (PS.also 24 sp24 (PS.also 11 sp11f PS.none)))))))))) (fun f => Nat.beq f 8 || Nat.beq f 7 || Nat.beq f 15 || Nat.beq f 16 || Nat.beq f 22 || Nat.beq f 9 || Nat.beq f 23 || Nat.beq f 24 || Nat.beq f 11) (fun _ => false) 300 14) Go.Proofs.Try.f6.results ([]) 0 w6C
theorem w6_9999  (t0 : Int) (t0_1 : List Int) (t0_2 : List ByteArray) (t0_3 : List VT) (t1 : Int) (Q : Gt → Prop) : T.ob noB Q (.S (.D 1 (.S (.D 1 (.S (.D 1 (.S (.D 1 (.S (.D 1 (.S (.D 1 (.S (.D 1 (.S (.D 1 (.S (.D 1 (.S (.D 1 (.S (.D 1 (.S (.D 1 (.S (.D 1 (.S (.D 1 (.S (.B (.S .E) (.S (.S (.S (.S (.S (.S (.S (.S (.S (.S (.S (.S (.S (.S (.S (.S .E)))))))))))))))))))))))))))))))))))))))))))))) (w6S  (9999, [Lf.int t0, Lf.is t0_1, Lf.ss t0_2, Lf.vs t0_3, Lf.int t1])) =
  ((fines [(VT.mk t0 t0_1 t0_2 t0_3)]) ∧ ((((O.real.not (rightB [(VT.mk t0 t0_1 t0_2 t0_3)])) = Bool.false) → True) ∧ ((((O.real.not (rightB [(VT.mk t0 t0_1 t0_2 t0_3)])) = Bool.false) → ((Bool.true = Bool.true) ∧ ((((O.real.le (1 : Int) t0) = Bool.true) → True) ∧ ((Bool.true = Bool.true) ∧ ((((O.real.le (1 : Int) t0) = Bool.true) → True) ∧ ((Bool.true = Bool.true) ∧ ((((O.real.le (1 : Int) t0) = Bool.true) → True) ∧ True))))))) ∧ ((((O.real.not (rightB [(VT.mk t0 t0_1 t0_2 t0_3)])) = Bool.false) → True) ∧ ((((O.real.not (rightB [(VT.mk t0 t0_1 t0_2 t0_3)])) = Bool.false) → True) ∧ ((((O.real.not (O.real.and (O.real.le (1 : Int) t0) (O.real.le t0 (5 : Int)))) = Bool.true) → (((O.real.not (rightB [(VT.mk t0 t0_1 t0_2 t0_3)])) = Bool.false) → True)) ∧ ((((O.real.not (O.real.and (O.real.le (1 : Int) t0) (O.real.le t0 (5 : Int)))) = Bool.true) → (((O.real.not (rightB [(VT.mk t0 t0_1 t0_2 t0_3)])) = Bool.false) → True)) ∧ ((((O.real.not (O.real.and (O.real.le (1 : Int) t0) (O.real.le t0 (5 : Int)))) = Bool.true) → (((O.real.not (rightB [(VT.mk t0 t0_1 t0_2 t0_3)])) = Bool.false) → True)) ∧ ((((O.real.not (rightB [(VT.mk t0 t0_1 t0_2 t0_3)])) = Bool.false) → True) ∧ ((((O.real.or (O.real.not (rightB [(VT.mk t0 t0_1 t0_2 t0_3)])) (O.real.and (O.real.not (O.real.and (O.real.le (1 : Int) t0) (O.real.le t0 (5 : Int)))) (O.real.not (O.real.eq t0 (0 : Int))))) = Bool.false) → True) ∧ ((((O.real.or (O.real.not (rightB [(VT.mk t0 t0_1 t0_2 t0_3)])) (O.real.and (O.real.not (O.real.and (O.real.le (1 : Int) t0) (O.real.le t0 (5 : Int)))) (O.real.not (O.real.eq t0 (0 : Int))))) = Bool.false) → True) ∧ ((((O.real.or (O.real.or (O.real.not (rightB [(VT.mk t0 t0_1 t0_2 t0_3)])) (O.real.and (O.real.not (O.real.and (O.real.le (1 : Int) t0) (O.real.le t0 (5 : Int)))) (O.real.not (O.real.eq t0 (0 : Int))))) (O.real.lt t1 (0 : Int))) = Bool.false) → True) ∧ ((((O.real.or (O.real.or (O.real.not (rightB [(VT.mk t0 t0_1 t0_2 t0_3)])) (O.real.and (O.real.not (O.real.and (O.real.le (1 : Int) t0) (O.real.le t0 (5 : Int)))) (O.real.not (O.real.eq t0 (0 : Int))))) (O.real.lt t1 (0 : Int))) = Bool.false) → True) ∧ ((((O.real.or (O.real.or (O.real.not (rightB [(VT.mk t0 t0_1 t0_2 t0_3)])) (O.real.and (O.real.not (O.real.and (O.real.le (1 : Int) t0) (O.real.le t0 (5 : Int)))) (O.real.not (O.real.eq t0 (0 : Int))))) (O.real.lt t1 (0 : Int))) = Bool.false) → True) ∧ ((((O.real.or (O.real.or (O.real.not (rightB [(VT.mk t0 t0_1 t0_2 t0_3)])) (O.real.and (O.real.not (O.real.and (O.real.le (1 : Int) t0) (O.real.le t0 (5 : Int)))) (O.real.not (O.real.eq t0 (0 : Int))))) (O.real.lt t1 (0 : Int))) = Bool.false) → True) ∧ (((O.real.or (O.real.or (O.real.or (O.real.not (rightB [(VT.mk t0 t0_1 t0_2 t0_3)])) (O.real.and (O.real.not (O.real.and (O.real.le (1 : Int) t0) (O.real.le t0 (5 : Int)))) (O.real.not (O.real.eq t0 (0 : Int))))) (O.real.lt t1 (0 : Int))) (O.real.lt (rCount (VT.mk t0 t0_1 t0_2 t0_3)) t1)) = true → Q (.inr ⟨(AV.bool Bool.true), [], [], []⟩)) ∧ ((O.real.or (O.real.or (O.real.or (O.real.not (rightB [(VT.mk t0 t0_1 t0_2 t0_3)])) (O.real.and (O.real.not (O.real.and (O.real.le (1 : Int) t0) (O.real.le t0 (5 : Int)))) (O.real.not (O.real.eq t0 (0 : Int))))) (O.real.lt t1 (0 : Int))) (O.real.lt (rCount (VT.mk t0 t0_1 t0_2 t0_3)) t1)) = false → ((tame (VT.mk t0 t0_1 t0_2 t0_3)) ∧ ((cntOk (VT.mk t0 t0_1 t0_2 t0_3)) ∧ ((takeOk t1 (VT.mk t0 t0_1 t0_2 t0_3)) ∧ ((i64P t1) ∧ ((tame (VT.mk t0 t0_1 t0_2 t0_3)) ∧ ((cntOk (VT.mk t0 t0_1 t0_2 t0_3)) ∧ ((pickOk (VT.mk t0 t0_1 t0_2 t0_3) (dropL t1 (VT.mk t0 t0_1 t0_2 t0_3))) ∧ ((joinOk [(VT.mk (VT.t (takeV t1 (VT.mk t0 t0_1 t0_2 t0_3))) (VT.n (takeV t1 (VT.mk t0 t0_1 t0_2 t0_3))) (VT.s (takeV t1 (VT.mk t0 t0_1 t0_2 t0_3))) (VT.l (takeV t1 (VT.mk t0 t0_1 t0_2 t0_3)))), (VT.mk (VT.t (opV (VT.mk t0 t0_1 t0_2 t0_3) (dropL t1 (VT.mk t0 t0_1 t0_2 t0_3)))) (VT.n (opV (VT.mk t0 t0_1 t0_2 t0_3) (dropL t1 (VT.mk t0 t0_1 t0_2 t0_3)))) (VT.s (opV (VT.mk t0 t0_1 t0_2 t0_3) (dropL t1 (VT.mk t0 t0_1 t0_2 t0_3)))) (VT.l (opV (VT.mk t0 t0_1 t0_2 t0_3) (dropL t1 (VT.mk t0 t0_1 t0_2 t0_3)))))]) ∧ ((tame (VT.mk t0 t0_1 t0_2 t0_3)) ∧ ((cntOk (VT.mk t0 t0_1 t0_2 t0_3)) ∧ ((pickOk (VT.mk t0 t0_1 t0_2 t0_3) (revL (VT.mk t0 t0_1 t0_2 t0_3))) ∧ ((tame (VT.mk (VT.t (opV (VT.mk t0 t0_1 t0_2 t0_3) (revL (VT.mk t0 t0_1 t0_2 t0_3)))) (VT.n (opV (VT.mk t0 t0_1 t0_2 t0_3) (revL (VT.mk t0 t0_1 t0_2 t0_3)))) (VT.s (opV (VT.mk t0 t0_1 t0_2 t0_3) (revL (VT.mk t0 t0_1 t0_2 t0_3)))) (VT.l (opV (VT.mk t0 t0_1 t0_2 t0_3) (revL (VT.mk t0 t0_1 t0_2 t0_3)))))) ∧ ((cntOk (VT.mk (VT.t (opV (VT.mk t0 t0_1 t0_2 t0_3) (revL (VT.mk t0 t0_1 t0_2 t0_3)))) (VT.n (opV (VT.mk t0 t0_1 t0_2 t0_3) (revL (VT.mk t0 t0_1 t0_2 t0_3)))) (VT.s (opV (VT.mk t0 t0_1 t0_2 t0_3) (revL (VT.mk t0 t0_1 t0_2 t0_3)))) (VT.l (opV (VT.mk t0 t0_1 t0_2 t0_3) (revL (VT.mk t0 t0_1 t0_2 t0_3)))))) ∧ ((pickOk (VT.mk (VT.t (opV (VT.mk t0 t0_1 t0_2 t0_3) (revL (VT.mk t0 t0_1 t0_2 t0_3)))) (VT.n (opV (VT.mk t0 t0_1 t0_2 t0_3) (revL (VT.mk t0 t0_1 t0_2 t0_3)))) (VT.s (opV (VT.mk t0 t0_1 t0_2 t0_3) (revL (VT.mk t0 t0_1 t0_2 t0_3)))) (VT.l (opV (VT.mk t0 t0_1 t0_2 t0_3) (revL (VT.mk t0 t0_1 t0_2 t0_3))))) (revL (VT.mk (VT.t (opV (VT.mk t0 t0_1 t0_2 t0_3) (revL (VT.mk t0 t0_1 t0_2 t0_3)))) (VT.n (opV (VT.mk t0 t0_1 t0_2 t0_3) (revL (VT.mk t0 t0_1 t0_2 t0_3)))) (VT.s (opV (VT.mk t0 t0_1 t0_2 t0_3) (revL (VT.mk t0 t0_1 t0_2 t0_3)))) (VT.l (opV (VT.mk t0 t0_1 t0_2 t0_3) (revL (VT.mk t0 t0_1 t0_2 t0_3))))))) ∧ ((codeAt Go.Proofs.Try.f6 10 = codeAt Go.Proofs.Try.f6 10) ∧ Q (.inl (10, [(Lf.int (takeE t1 (VT.mk t0 t0_1 t0_2 t0_3))), (Lf.int (opE (VT.mk t0 t0_1 t0_2 t0_3))), (Lf.int (joinE [(VT.mk (VT.t (takeV t1 (VT.mk t0 t0_1 t0_2 t0_3))) (VT.n (takeV t1 (VT.mk t0 t0_1 t0_2 t0_3))) (VT.s (takeV t1 (VT.mk t0 t0_1 t0_2 t0_3))) (VT.l (takeV t1 (VT.mk t0 t0_1 t0_2 t0_3)))), (VT.mk (VT.t (opV (VT.mk t0 t0_1 t0_2 t0_3) (dropL t1 (VT.mk t0 t0_1 t0_2 t0_3)))) (VT.n (opV (VT.mk t0 t0_1 t0_2 t0_3) (dropL t1 (VT.mk t0 t0_1 t0_2 t0_3)))) (VT.s (opV (VT.mk t0 t0_1 t0_2 t0_3) (dropL t1 (VT.mk t0 t0_1 t0_2 t0_3)))) (VT.l (opV (VT.mk t0 t0_1 t0_2 t0_3) (dropL t1 (VT.mk t0 t0_1 t0_2 t0_3)))))])), (Lf.int (opE (VT.mk t0 t0_1 t0_2 t0_3))), (Lf.int (opE (VT.mk (VT.t (opV (VT.mk t0 t0_1 t0_2 t0_3) (revL (VT.mk t0 t0_1 t0_2 t0_3)))) (VT.n (opV (VT.mk t0 t0_1 t0_2 t0_3) (revL (VT.mk t0 t0_1 t0_2 t0_3)))) (VT.s (opV (VT.mk t0 t0_1 t0_2 t0_3) (revL (VT.mk t0 t0_1 t0_2 t0_3)))) (VT.l (opV (VT.mk t0 t0_1 t0_2 t0_3) (revL (VT.mk t0 t0_1 t0_2 t0_3))))))), (Lf.int (0 : Int)), (Lf.int t0), (Lf.is t0_1), (Lf.ss t0_2), (Lf.vs t0_3), (Lf.int (VT.t (joinV [(VT.mk (VT.t (takeV t1 (VT.mk t0 t0_1 t0_2 t0_3))) (VT.n (takeV t1 (VT.mk t0 t0_1 t0_2 t0_3))) (VT.s (takeV t1 (VT.mk t0 t0_1 t0_2 t0_3))) (VT.l (takeV t1 (VT.mk t0 t0_1 t0_2 t0_3)))), (VT.mk (VT.t (opV (VT.mk t0 t0_1 t0_2 t0_3) (dropL t1 (VT.mk t0 t0_1 t0_2 t0_3)))) (VT.n (opV (VT.mk t0 t0_1 t0_2 t0_3) (dropL t1 (VT.mk t0 t0_1 t0_2 t0_3)))) (VT.s (opV (VT.mk t0 t0_1 t0_2 t0_3) (dropL t1 (VT.mk t0 t0_1 t0_2 t0_3)))) (VT.l (opV (VT.mk t0 t0_1 t0_2 t0_3) (dropL t1 (VT.mk t0 t0_1 t0_2 t0_3)))))]))), (Lf.is (VT.n (joinV [(VT.mk (VT.t (takeV t1 (VT.mk t0 t0_1 t0_2 t0_3))) (VT.n (takeV t1 (VT.mk t0 t0_1 t0_2 t0_3))) (VT.s (takeV t1 (VT.mk t0 t0_1 t0_2 t0_3))) (VT.l (takeV t1 (VT.mk t0 t0_1 t0_2 t0_3)))), (VT.mk (VT.t (opV (VT.mk t0 t0_1 t0_2 t0_3) (dropL t1 (VT.mk t0 t0_1 t0_2 t0_3)))) (VT.n (opV (VT.mk t0 t0_1 t0_2 t0_3) (dropL t1 (VT.mk t0 t0_1 t0_2 t0_3)))) (VT.s (opV (VT.mk t0 t0_1 t0_2 t0_3) (dropL t1 (VT.mk t0 t0_1 t0_2 t0_3)))) (VT.l (opV (VT.mk t0 t0_1 t0_2 t0_3) (dropL t1 (VT.mk t0 t0_1 t0_2 t0_3)))))]))), (Lf.ss (VT.s (joinV [(VT.mk (VT.t (takeV t1 (VT.mk t0 t0_1 t0_2 t0_3))) (VT.n (takeV t1 (VT.mk t0 t0_1 t0_2 t0_3))) (VT.s (takeV t1 (VT.mk t0 t0_1 t0_2 t0_3))) (VT.l (takeV t1 (VT.mk t0 t0_1 t0_2 t0_3)))), (VT.mk (VT.t (opV (VT.mk t0 t0_1 t0_2 t0_3) (dropL t1 (VT.mk t0 t0_1 t0_2 t0_3)))) (VT.n (opV (VT.mk t0 t0_1 t0_2 t0_3) (dropL t1 (VT.mk t0 t0_1 t0_2 t0_3)))) (VT.s (opV (VT.mk t0 t0_1 t0_2 t0_3) (dropL t1 (VT.mk t0 t0_1 t0_2 t0_3)))) (VT.l (opV (VT.mk t0 t0_1 t0_2 t0_3) (dropL t1 (VT.mk t0 t0_1 t0_2 t0_3)))))]))), (Lf.vs (VT.l (joinV [(VT.mk (VT.t (takeV t1 (VT.mk t0 t0_1 t0_2 t0_3))) (VT.n (takeV t1 (VT.mk t0 t0_1 t0_2 t0_3))) (VT.s (takeV t1 (VT.mk t0 t0_1 t0_2 t0_3))) (VT.l (takeV t1 (VT.mk t0 t0_1 t0_2 t0_3)))), (VT.mk (VT.t (opV (VT.mk t0 t0_1 t0_2 t0_3) (dropL t1 (VT.mk t0 t0_1 t0_2 t0_3)))) (VT.n (opV (VT.mk t0 t0_1 t0_2 t0_3) (dropL t1 (VT.mk t0 t0_1 t0_2 t0_3)))) (VT.s (opV (VT.mk t0 t0_1 t0_2 t0_3) (dropL t1 (VT.mk t0 t0_1 t0_2 t0_3)))) (VT.l (opV (VT.mk t0 t0_1 t0_2 t0_3) (dropL t1 (VT.mk t0 t0_1 t0_2 t0_3)))))]))), (Lf.int (VT.t (opV (VT.mk (VT.t (opV (VT.mk t0 t0_1 t0_2 t0_3) (revL (VT.mk t0 t0_1 t0_2 t0_3)))) (VT.n (opV (VT.mk t0 t0_1 t0_2 t0_3) (revL (VT.mk t0 t0_1 t0_2 t0_3)))) (VT.s (opV (VT.mk t0 t0_1 t0_2 t0_3) (revL (VT.mk t0 t0_1 t0_2 t0_3)))) (VT.l (opV (VT.mk t0 t0_1 t0_2 t0_3) (revL (VT.mk t0 t0_1 t0_2 t0_3))))) (revL (VT.mk (VT.t (opV (VT.mk t0 t0_1 t0_2 t0_3) (revL (VT.mk t0 t0_1 t0_2 t0_3)))) (VT.n (opV (VT.mk t0 t0_1 t0_2 t0_3) (revL (VT.mk t0 t0_1 t0_2 t0_3)))) (VT.s (opV (VT.mk t0 t0_1 t0_2 t0_3) (revL (VT.mk t0 t0_1 t0_2 t0_3)))) (VT.l (opV (VT.mk t0 t0_1 t0_2 t0_3) (revL (VT.mk t0 t0_1 t0_2 t0_3))))))))), (Lf.is (VT.n (opV (VT.mk (VT.t (opV (VT.mk t0 t0_1 t0_2 t0_3) (revL (VT.mk t0 t0_1 t0_2 t0_3)))) (VT.n (opV (VT.mk t0 t0_1 t0_2 t0_3) (revL (VT.mk t0 t0_1 t0_2 t0_3)))) (VT.s (opV (VT.mk t0 t0_1 t0_2 t0_3) (revL (VT.mk t0 t0_1 t0_2 t0_3)))) (VT.l (opV (VT.mk t0 t0_1 t0_2 t0_3) (revL (VT.mk t0 t0_1 t0_2 t0_3))))) (revL (VT.mk (VT.t (opV (VT.mk t0 t0_1 t0_2 t0_3) (revL (VT.mk t0 t0_1 t0_2 t0_3)))) (VT.n (opV (VT.mk t0 t0_1 t0_2 t0_3) (revL (VT.mk t0 t0_1 t0_2 t0_3)))) (VT.s (opV (VT.mk t0 t0_1 t0_2 t0_3) (revL (VT.mk t0 t0_1 t0_2 t0_3)))) (VT.l (opV (VT.mk t0 t0_1 t0_2 t0_3) (revL (VT.mk t0 t0_1 t0_2 t0_3))))))))), (Lf.ss (VT.s (opV (VT.mk (VT.t (opV (VT.mk t0 t0_1 t0_2 t0_3) (revL (VT.mk t0 t0_1 t0_2 t0_3)))) (VT.n (opV (VT.mk t0 t0_1 t0_2 t0_3) (revL (VT.mk t0 t0_1 t0_2 t0_3)))) (VT.s (opV (VT.mk t0 t0_1 t0_2 t0_3) (revL (VT.mk t0 t0_1 t0_2 t0_3)))) (VT.l (opV (VT.mk t0 t0_1 t0_2 t0_3) (revL (VT.mk t0 t0_1 t0_2 t0_3))))) (revL (VT.mk (VT.t (opV (VT.mk t0 t0_1 t0_2 t0_3) (revL (VT.mk t0 t0_1 t0_2 t0_3)))) (VT.n (opV (VT.mk t0 t0_1 t0_2 t0_3) (revL (VT.mk t0 t0_1 t0_2 t0_3)))) (VT.s (opV (VT.mk t0 t0_1 t0_2 t0_3) (revL (VT.mk t0 t0_1 t0_2 t0_3)))) (VT.l (opV (VT.mk t0 t0_1 t0_2 t0_3) (revL (VT.mk t0 t0_1 t0_2 t0_3))))))))), (Lf.vs (VT.l (opV (VT.mk (VT.t (opV (VT.mk t0 t0_1 t0_2 t0_3) (revL (VT.mk t0 t0_1 t0_2 t0_3)))) (VT.n (opV (VT.mk t0 t0_1 t0_2 t0_3) (revL (VT.mk t0 t0_1 t0_2 t0_3)))) (VT.s (opV (VT.mk t0 t0_1 t0_2 t0_3) (revL (VT.mk t0 t0_1 t0_2 t0_3)))) (VT.l (opV (VT.mk t0 t0_1 t0_2 t0_3) (revL (VT.mk t0 t0_1 t0_2 t0_3))))) (revL (VT.mk (VT.t (opV (VT.mk t0 t0_1 t0_2 t0_3) (revL (VT.mk t0 t0_1 t0_2 t0_3)))) (VT.n (opV (VT.mk t0 t0_1 t0_2 t0_3) (revL (VT.mk t0 t0_1 t0_2 t0_3)))) (VT.s (opV (VT.mk t0 t0_1 t0_2 t0_3) (revL (VT.mk t0 t0_1 t0_2 t0_3)))) (VT.l (opV (VT.mk t0 t0_1 t0_2 t0_3) (revL (VT.mk t0 t0_1 t0_2 t0_3))))))))), (Lf.is [])])))))))))))))))))))))))))))))))))) := by kernel_rfl
theorem w6_10  (t6 : Int) (t8 : Int) (t10 : Int) (t12 : Int) (t14 : Int) (t16 : Int) (h0 : Int) (h0_1 : List Int) (h0_2 : List ByteArray) (h0_3 : List VT) (h3264 : Int) (h3264_1 : List Int) (h3264_2 : List ByteArray) (h3264_3 : List VT) (h4288 : Int) (h4288_1 : List Int) (h4288_2 : List ByteArray) (h4288_3 : List VT) (h4801 : List Int) (Q : Gt → Prop) : T.ob noB Q (.B (.S (.S .E)) (.S (.S (.S (.D 1 (.S (.D 1 (.S (.D 1 (.S (.D 1 (.S (.D 1 (.S (.D 1 (.S (.D 1 (.S (.D 1 (.S (.B (.S .E) (.D 1 (.S (.D 1 (.S (.D 1 (.S (.D 1 (.S (.S .E)))))))))))))))))))))))))))))) (w6S  (10, [Lf.int t6, Lf.int t8, Lf.int t10, Lf.int t12, Lf.int t14, Lf.int t16, Lf.int h0, Lf.is h0_1, Lf.ss h0_2, Lf.vs h0_3, Lf.int h3264, Lf.is h3264_1, Lf.ss h3264_2, Lf.vs h3264_3, Lf.int h4288, Lf.is h4288_1, Lf.ss h4288_2, Lf.vs h4288_3, Lf.is h4801])) =
  (((O.real.lt t16 (rCount (VT.mk h0 h0_1 h0_2 h0_3))) = true → (((O.real.fit (O.real.ilen h4801) (O.real.ilen [t16]) 8)).p ∧ Q (.inl (10, [(Lf.int t6), (Lf.int t8), (Lf.int t10), (Lf.int t12), (Lf.int t14), (Lf.int (O.real.add IntKind.i64 t16 (1 : Int))), (Lf.int h0), (Lf.is h0_1), (Lf.ss h0_2), (Lf.vs h0_3), (Lf.int h3264), (Lf.is h3264_1), (Lf.ss h3264_2), (Lf.vs h3264_3), (Lf.int h4288), (Lf.is h4288_1), (Lf.ss h4288_2), (Lf.vs h4288_3), (Lf.is (O.real.iapp h4801 [t16]))])))) ∧ ((O.real.lt t16 (rCount (VT.mk h0 h0_1 h0_2 h0_3))) = false → ((tame (VT.mk h0 h0_1 h0_2 h0_3)) ∧ ((cntOk (VT.mk h0 h0_1 h0_2 h0_3)) ∧ ((pickOk (VT.mk h0 h0_1 h0_2 h0_3) h4801) ∧ ((((O.real.not (O.real.eq (O.real.add IntKind.i64 (O.real.add IntKind.i64 (O.real.add IntKind.i64 (O.real.add IntKind.i64 t6 t8) t12) t14) (opE (VT.mk h0 h0_1 h0_2 h0_3))) (0 : Int))) = Bool.false) → True) ∧ ((((O.real.not (O.real.eq (O.real.add IntKind.i64 (O.real.add IntKind.i64 (O.real.add IntKind.i64 (O.real.add IntKind.i64 t6 t8) t12) t14) (opE (VT.mk h0 h0_1 h0_2 h0_3))) (0 : Int))) = Bool.false) → True) ∧ ((((O.real.not (O.real.eq (O.real.add IntKind.i64 (O.real.add IntKind.i64 (O.real.add IntKind.i64 (O.real.add IntKind.i64 t6 t8) t12) t14) (opE (VT.mk h0 h0_1 h0_2 h0_3))) (0 : Int))) = Bool.false) → True) ∧ ((((O.real.not (O.real.eq (O.real.add IntKind.i64 (O.real.add IntKind.i64 (O.real.add IntKind.i64 (O.real.add IntKind.i64 t6 t8) t12) t14) (opE (VT.mk h0 h0_1 h0_2 h0_3))) (0 : Int))) = Bool.false) → True) ∧ ((((O.real.or (O.real.not (O.real.eq (O.real.add IntKind.i64 (O.real.add IntKind.i64 (O.real.add IntKind.i64 (O.real.add IntKind.i64 t6 t8) t12) t14) (opE (VT.mk h0 h0_1 h0_2 h0_3))) (0 : Int))) (O.real.not (veq (VT.mk h4288 h4288_1 h4288_2 h4288_3) (VT.mk h0 h0_1 h0_2 h0_3)))) = Bool.false) → True) ∧ ((((O.real.or (O.real.not (O.real.eq (O.real.add IntKind.i64 (O.real.add IntKind.i64 (O.real.add IntKind.i64 (O.real.add IntKind.i64 t6 t8) t12) t14) (opE (VT.mk h0 h0_1 h0_2 h0_3))) (0 : Int))) (O.real.not (veq (VT.mk h4288 h4288_1 h4288_2 h4288_3) (VT.mk h0 h0_1 h0_2 h0_3)))) = Bool.false) → True) ∧ ((((O.real.or (O.real.not (O.real.eq (O.real.add IntKind.i64 (O.real.add IntKind.i64 (O.real.add IntKind.i64 (O.real.add IntKind.i64 t6 t8) t12) t14) (opE (VT.mk h0 h0_1 h0_2 h0_3))) (0 : Int))) (O.real.not (veq (VT.mk h4288 h4288_1 h4288_2 h4288_3) (VT.mk h0 h0_1 h0_2 h0_3)))) = Bool.false) → True) ∧ ((((O.real.or (O.real.not (O.real.eq (O.real.add IntKind.i64 (O.real.add IntKind.i64 (O.real.add IntKind.i64 (O.real.add IntKind.i64 t6 t8) t12) t14) (opE (VT.mk h0 h0_1 h0_2 h0_3))) (0 : Int))) (O.real.not (veq (VT.mk h4288 h4288_1 h4288_2 h4288_3) (VT.mk h0 h0_1 h0_2 h0_3)))) = Bool.false) → True) ∧ (((O.real.or (O.real.or (O.real.not (O.real.eq (O.real.add IntKind.i64 (O.real.add IntKind.i64 (O.real.add IntKind.i64 (O.real.add IntKind.i64 t6 t8) t12) t14) (opE (VT.mk h0 h0_1 h0_2 h0_3))) (0 : Int))) (O.real.not (veq (VT.mk h4288 h4288_1 h4288_2 h4288_3) (VT.mk h0 h0_1 h0_2 h0_3)))) (O.real.not (veq (VT.mk (VT.t (opV (VT.mk h0 h0_1 h0_2 h0_3) h4801)) (VT.n (opV (VT.mk h0 h0_1 h0_2 h0_3) h4801)) (VT.s (opV (VT.mk h0 h0_1 h0_2 h0_3) h4801)) (VT.l (opV (VT.mk h0 h0_1 h0_2 h0_3) h4801))) (VT.mk h0 h0_1 h0_2 h0_3)))) = true → Q (.inr ⟨(AV.bool Bool.false), [], [], []⟩)) ∧ ((O.real.or (O.real.or (O.real.not (O.real.eq (O.real.add IntKind.i64 (O.real.add IntKind.i64 (O.real.add IntKind.i64 (O.real.add IntKind.i64 t6 t8) t12) t14) (opE (VT.mk h0 h0_1 h0_2 h0_3))) (0 : Int))) (O.real.not (veq (VT.mk h4288 h4288_1 h4288_2 h4288_3) (VT.mk h0 h0_1 h0_2 h0_3)))) (O.real.not (veq (VT.mk (VT.t (opV (VT.mk h0 h0_1 h0_2 h0_3) h4801)) (VT.n (opV (VT.mk h0 h0_1 h0_2 h0_3) h4801)) (VT.s (opV (VT.mk h0 h0_1 h0_2 h0_3) h4801)) (VT.l (opV (VT.mk h0 h0_1 h0_2 h0_3) h4801))) (VT.mk h0 h0_1 h0_2 h0_3)))) = false → ((((O.real.eq t10 (0 : Int)) = Bool.true) → True) ∧ ((((O.real.eq t10 (0 : Int)) = Bool.true) → True) ∧ ((((O.real.eq t10 (0 : Int)) = Bool.true) → True) ∧ ((((O.real.and (O.real.eq t10 (0 : Int)) (veq (VT.mk h3264 h3264_1 h3264_2 h3264_3) (VT.mk h0 h0_1 h0_2 h0_3))) = Bool.true) → True) ∧ Q (.inr ⟨(AV.bool (O.real.and (O.real.and (O.real.eq t10 (0 : Int)) (veq (VT.mk h3264 h3264_1 h3264_2 h3264_3) (VT.mk h0 h0_1 h0_2 h0_3))) Bool.true)), [], [], []⟩)))))))))))))))))))) := by kernel_rfl
end Go.Qv
