/- quiverlaw03.ValueAsks: the law over contracts. No condition. -/
import Derived.Test.YtimfkgepcmmmhaaQWk
import Derived.Test.YtimfkgepcmmmhaaQWl
import Derived.Test.YtimfkgepcmmmhaaQLv
import Derived.Test.YtimfkgepcmmmhaaQPe
set_option linter.unusedVariables false
set_option linter.unusedSimpArgs false
set_option maxRecDepth 100000
namespace Go.Qv
open Go Go.RowKit Go.Proofs
inductive VT.Good : VT → Prop
  | mk (t n s l) : rfI t = true → (rfN t = true ∨ n = []) → (rfS t = true ∨ s = []) → (rfL t = true ∨ l = []) → rPlain (.mk t n s l) = true → rMany (.mk t n s l) = false → rLong (.mk t n s l) = false →
      (t = 0 ∨ ∀ x ∈ l, rCount x = rCount (l.getD 0 default)) → (∀ x ∈ l, VT.Good x) → VT.Good (.mk t n s l)
theorem partsL_zero {k : Int} : ∀ {l : List VT}, rPartsL l k = 0 → ∀ x ∈ l, rParts x k = 0
  | y :: l, h, x, hx => by
    rw [rPartsL] at h
    split at h
    · rename_i h1; exact absurd h h1
    · rename_i h1
      rcases List.mem_cons.1 hx with rfl | hx
      · exact Decidable.not_not.1 h1
      · exact partsL_zero h x hx
theorem parts_good : ∀ (k : Nat) (v : VT), v.sz ≤ k → k ≤ 1048576 → rParts v k = 0 → v.Good
  | 0, .mk t n s l, h, _, _ => by simp [VT.sz] at h
  | k + 1, .mk t n s l, h, hk, hp => by
    rw [rParts] at hp
    split at hp
    · cases hp
    · rename_i h1
      split at hp
      · cases hp
      · rename_i h2
        split at hp
        · cases hp
        · rename_i h3
          split at hp
          · cases hp
          · rename_i h4
            split at hp
            · cases hp
            · rename_i h5
              rw [if_neg (by omega)] at hp
              have e : IntKind.i64.wrap (((k + 1 : Nat) : Int) - 1) = (k : Int) := by rw [w64] <;> omega
              rw [e] at hp
              have hl := partsL_zero hp
              have b : ∀ {x : Bool}, ¬ x = false → x = true := fun {x} h => by cases x <;> simp_all
              have b' : ∀ {x : Bool}, ¬ x = true → x = false := fun {x} h => by cases x <;> simp_all
              have fld : ∀ {x : Bool} {m : Nat}, ¬ (x = false ∧ 0 < m) → x = true ∨ m = 0 := fun {x m} h => by
                cases x with
                | true => exact .inl rfl
                | false => exact .inr (by simp at h; exact h)
              simp only [not_or] at h1
              refine .mk t n s l (b h1.1) ?_ ?_ ?_ (b h4) (b' h2) (b' h3) ?_ (fun x hx => parts_good k x ?_ (by omega) (hl x hx))
              · rcases fld h1.2.1 with h | h; exact .inl h; exact .inr (List.length_eq_zero_iff.1 h)
              · rcases fld h1.2.2.1 with h | h; exact .inl h; exact .inr (List.length_eq_zero_iff.1 h)
              · rcases fld h1.2.2.2 with h | h; exact .inl h; exact .inr (List.length_eq_zero_iff.1 h)
              · by_cases ht : t = 0
                · exact .inl ht
                · refine .inr fun x hx => ?_
                  have h6 : ¬ (l.drop 1).any (fun x => decide (rCount x ≠ rCount (l.getD 0 default))) = true := fun h => h5 ⟨ht, h⟩
                  simp only [List.any_eq_true, decide_eq_true_eq, not_exists, not_and] at h6
                  cases l with
                  | nil => simp at hx
                  | cons y l =>
                    rcases List.mem_cons.1 hx with rfl | hx
                    · rfl
                    · exact Decidable.not_not.1 (h6 x (by simpa using hx))
              · have := sz_lt (t := t) (n := n) (s := s) hx
                omega
theorem veq_self (v : VT) : veq v v = true := veq_iff.2 rfl
theorem rfields5 {t : Int} (h : 1 ≤ rAbs t ∧ rAbs t ≤ 5) : (rAbs t = 3 → rfN t = false) ∧ (rAbs t ≠ 3 → rfS t = false) := by
  have h0 : t ≠ 0 := by unfold rAbs at h; split at h <;> omega
  refine ⟨fun e => ?_, fun e => ?_⟩
  · unfold rfN rFields; rw [if_pos e]
  · unfold rfS rFields; rw [if_neg e, if_pos ⟨⟨h0, h.1⟩, h.2⟩]
theorem nul_of {t n s l} (hb : (VT.mk t n s l).bk ≤ 1048576) (hg : (VT.mk t n s l).Good) : nulOk (.mk t n s l) := by
  have hb' := hb
  rw [VT.bk_eq] at hb'
  have q := len_strs s
  refine ⟨show n.length ≤ _ by omega, show s.length ≤ _ by omega, fun h5 => ?_⟩
  have h5 : 1 ≤ rAbs t ∧ rAbs t ≤ 5 := h5
  obtain ⟨r1, r2⟩ := rfields5 h5
  cases hg with
  | mk _ _ _ _ g1 g2 g3 g4 g5 =>
    refine ⟨fun e => ?_, fun e => ?_, fun e => ?_⟩
    · rcases g2 with g2 | g2
      · rw [r1 e] at g2; cases g2
      · show n.length = 0; rw [g2]; rfl
    · rcases g3 with g3 | g3
      · rw [r2 e] at g3; cases g3
      · show s.length = 0; rw [g3]; rfl
    · have e : t < 0 := e
      have ha : isAtomT t := by unfold isAtomT; unfold rAbs at h5; split at h5 <;> omega
      have hp : IntKind.i64.wrap (n.length + s.length) = 1 := by
        have g5 : (if isAtomT t ∧ IntKind.i64.wrap (n.length + s.length) ≠ 1 then false else _) = true := g5
        by_cases hh : isAtomT t ∧ IntKind.i64.wrap (n.length + s.length) ≠ 1
        · rw [if_pos hh] at g5; cases g5
        · exact Classical.byContradiction fun hne => hh ⟨ha, hne⟩
      rw [w64 (by omega) (by omega)] at hp
      show n.length + s.length = 1
      omega
theorem cnt_mk (t n s l) : rCount (.mk t n s l) = if t = 3 then (s.length : Int) else if isVecT t then (n.length : Int) else if t = 0 then (l.length : Int) else match l with
    | [] => 1
    | x :: _ => if t = 98 ∨ t = 99 then rCount x else 1 := by rw [rCount.eq_def]; rfl
theorem cnt_all : ∀ v : VT, rCount v ≤ v.bk
  | .mk t n s [] => by
    have := len_strs s
    rw [cnt_mk, VT.bk_eq]
    split
    · omega
    · split
      · omega
      · split
        · simp; omega
        · simp; omega
  | .mk t n s (x :: l) => by
    have := len_strs s
    have h := cnt_all x
    have := len_bks (x :: l)
    have := bk_pos x
    rw [cnt_mk, VT.bk_eq]
    rw [bks_cons] at *
    split
    · omega
    · split
      · omega
      · split
        · omega
        · simp only
          split
          · omega
          · omega
/-! ### nulls -/
theorem ok75 : Pure1 Try.prog 75 spNull := by
  intro xs F w cs R ha h
  obtain ⟨x, i, a, rfl, h1, h⟩ := onVn_inv h
  obtain ⟨ho, h⟩ := when_inv h
  have ha := ha.conv2 (fun v => as_V h1) (fun v h => h)
  obtain ⟨t, n, s, l⟩ := a
  refine contract (fn := Try.f75) (walked okAB2 14) (by kernel_rfl) w75C_ok (by rfl) (by rfl) (by rfl) (by rfl) (by rfl) ha (ρ := [.int t, .is n, .ss s, .vs l, .int i]) (Rh.go (w75_9999 t n s l i _) ?_) h
  obtain ⟨o1, o2, o3⟩ := ho
  have o1 : n.length ≤ 1073741824 := o1
  have o2 : s.length ≤ 1073741824 := o2
  have o3 : 1 ≤ rAbs t ∧ rAbs t ≤ 5 → (rAbs t = 3 → n.length = 0) ∧ (rAbs t ≠ 3 → s.length = 0) ∧ (t < 0 → n.length + s.length = 1) := o3
  have e : nulB (.mk t n s l) i = if (1 ≤ rAbs t ∧ rAbs t ≤ 5) ∧ 0 ≤ i ∧ i < n.length + s.length then (if rAbs t = 3 then decide (s.getD i.toNat ⟨#[]⟩ = ⟨#[]⟩) else if rAbs t = 1 then false else decide (n.getD i.toNat 0 = -9223372036854775808)) else false := rfl
  simp only [o_add, o_sub, o_mul, o_neg, o_conv, o_lt, o_le, o_eq, o_not, o_and, o_or, o_sel, o_isel, o_ssel, o_beq, o_seq, o_slt, o_slen, o_sat, o_scut, o_sadd, o_ilen, o_blen, o_vlen, o_rlen, o_iget, o_bget, o_vget, o_rget, o_iset, o_bset, o_vset, o_iapp, o_bapp, o_vapp, o_rapp, o_icut, o_bcut, o_vcut, o_irep, o_vt, o_vn, o_vs, o_vl, o_imax, o_imin, o_inb, o_sfit, o_cutb, o_fit, o_mkfit, RhQ, decT, decF, true_and, and_true, eq_self, implies_true, forall_const, Bool.not_eq_true', Bool.not_eq_false', Bool.not_true, Bool.not_false, Bool.and_eq_true, Bool.or_eq_true, Bool.and_eq_false_iff, Bool.or_eq_false_iff, Bool.true_and, Bool.and_true, Bool.false_and, Bool.and_false, Bool.or_false, Bool.false_or, Bool.true_or, Bool.or_true, Int.toNat_natCast, VT.eta, not_true, not_false_iff, false_implies, if_true, if_false, Int.toNat_zero, Int.toNat_one, ns0, ns4]
  rw [e, w64 (by omega) (by omega)]
  refine ⟨fun h => ?_, fun h => ?_⟩
  · exact Ret.bool (by rw [if_neg (by omega)])
  · have h5 : (1 ≤ rAbs t ∧ rAbs t ≤ 5) ∧ 0 ≤ i ∧ i < n.length + s.length := by omega
    rw [if_pos h5]
    have o4 := o3 h5.1
    refine ⟨fun h3 => ⟨⟨by omega, by have := o4.1 h3; omega⟩, Ret.bool (by rw [if_pos h3])⟩, fun h3 => ⟨fun hk => Ret.bool (by rw [if_neg h3, if_pos hk]), fun hk => ⟨⟨by omega, by have := o4.2.1 h3; omega⟩, Ret.bool (by rw [if_neg h3, if_neg hk]; rfl)⟩⟩⟩
theorem ok76 : Pure1 Try.prog 76 spNull := by
  intro xs F w cs R ha h
  obtain ⟨x, i, a, rfl, h1, h⟩ := onVn_inv h
  obtain ⟨ho, h⟩ := when_inv h
  have ha := ha.conv2 (fun v => as_V h1) (fun v h => h)
  obtain ⟨t, n, s, l⟩ := a
  refine contract (fn := Try.f76) (walked (PureOk.also ok142 (PureOk.also ok141 (PureOk.also ok70 (PureOk.none _)))) 14) (by kernel_rfl) w76C_ok (by rfl) (by rfl) (by rfl) (by rfl) (by rfl) ha (ρ := [.int t, .is n, .ss s, .vs l, .int i]) (Rh.go (w76_9999 t n s l i _) ?_) h
  obtain ⟨o1, o2, o3⟩ := ho
  have o1 : n.length ≤ 1073741824 := o1
  have o2 : s.length ≤ 1073741824 := o2
  have o3 : 1 ≤ rAbs t ∧ rAbs t ≤ 5 → (rAbs t = 3 → n.length = 0) ∧ (rAbs t ≠ 3 → s.length = 0) ∧ (t < 0 → n.length + s.length = 1) := o3
  have e : nulB (.mk t n s l) i = if (1 ≤ rAbs t ∧ rAbs t ≤ 5) ∧ 0 ≤ i ∧ i < n.length + s.length then (if rAbs t = 3 then decide (s.getD i.toNat ⟨#[]⟩ = ⟨#[]⟩) else if rAbs t = 1 then false else decide (n.getD i.toNat 0 = -9223372036854775808)) else false := rfl
  have hv : (1 ≤ rAbs t ∧ rAbs t ≤ 5) ↔ ((t < 0 ∧ -5 ≤ t) ∨ (1 ≤ t ∧ t ≤ 5)) := by unfold rAbs; split <;> omega
  have hc : 1 ≤ rAbs t ∧ rAbs t ≤ 5 → rCount (.mk t n s l) = n.length + s.length := fun h5 => by
    have o4 := o3 h5
    rw [cnt_mk]
    by_cases ht : t < 0
    · have := o4.2.2 ht
      rw [if_neg (by omega), if_neg (by unfold isVecT; omega), if_neg (by omega)]
      cases l with
      | nil => simp only; omega
      | cons x l => simp only; rw [if_neg (by omega)]; omega
    · have ea : rAbs t = t := by unfold rAbs; rw [if_neg (by omega)]
      rw [ea] at o4 h5
      by_cases h3 : t = 3
      · rw [if_pos h3]; have := o4.1 h3; omega
      · rw [if_neg h3, if_pos (show isVecT t from h5)]; have := o4.2.1 h3; omega
  simp only [o_add, o_sub, o_mul, o_neg, o_conv, o_lt, o_le, o_eq, o_not, o_and, o_or, o_sel, o_isel, o_ssel, o_beq, o_seq, o_slt, o_slen, o_sat, o_scut, o_sadd, o_ilen, o_blen, o_vlen, o_rlen, o_iget, o_bget, o_vget, o_rget, o_iset, o_bset, o_vset, o_iapp, o_bapp, o_vapp, o_rapp, o_icut, o_bcut, o_vcut, o_irep, o_vt, o_vn, o_vs, o_vl, o_imax, o_imin, o_inb, o_sfit, o_cutb, o_fit, o_mkfit, RhQ, decT, decF, true_and, and_true, eq_self, implies_true, forall_const, Bool.not_eq_true', Bool.not_eq_false', Bool.not_true, Bool.not_false, Bool.and_eq_true, Bool.or_eq_true, Bool.and_eq_false_iff, Bool.or_eq_false_iff, Bool.true_and, Bool.and_true, Bool.false_and, Bool.and_false, Bool.or_false, Bool.false_or, Bool.true_or, Bool.or_true, Int.toNat_natCast, VT.eta, not_true, not_false_iff, false_implies, if_true, if_false, Int.toNat_zero, Int.toNat_one, ns0, ns4]
  rw [e]
  refine ⟨fun h => ?_, fun h => ?_⟩
  · refine Ret.bool ?_
    by_cases h5 : 1 ≤ rAbs t ∧ rAbs t ≤ 5
    · have := hc h5; rw [if_neg (by omega)]
    · rw [if_neg (fun hh => h5 hh.1)]
  · have h5' : 1 ≤ rAbs t ∧ rAbs t ≤ 5 := by omega
    have hcc := hc h5'
    have h5 : (1 ≤ rAbs t ∧ rAbs t ≤ 5) ∧ 0 ≤ i ∧ i < n.length + s.length := ⟨h5', by omega⟩
    rw [if_pos h5]
    have o4 := o3 h5.1
    refine ⟨fun h3 => ⟨⟨by omega, by have := o4.1 h3; omega⟩, Ret.bool (by rw [if_pos h3])⟩, fun h3 => ⟨fun hk => Ret.bool (by rw [if_neg h3, if_pos hk]), fun hk => ⟨⟨by omega, by have := o4.2.1 h3; omega⟩, Ret.bool (by rw [if_neg h3, if_neg hk]; rfl)⟩⟩⟩
theorem rPlain_mk (t n s l) : rPlain (.mk t n s l) = if isAtomT t ∧ IntKind.i64.wrap (n.length + s.length) ≠ 1 then false
  else if rAbs t = 1 then n.all fun x => decide (x = 0 ∨ x = 1)
  else if t = 100 then decide (s.length = 1 ∧ 2 ≤ (s.getD 0 ⟨#[]⟩).size ∧ byteI (s.getD 0 ⟨#[]⟩) 0 = 123 ∧ byteI (s.getD 0 ⟨#[]⟩) ((s.getD 0 ⟨#[]⟩).size - 1) = 125)
  else if t = 0 then rList (.mk t n s l)
  else if t = 98 then rTable (.mk t n s l)
  else if t = 99 then decide (l.length = 2 ∧ ((isColT (l.getD 0 default).t ∧ isColT (l.getD 1 default).t) ∨ ((l.getD 0 default).t = 98 ∧ (l.getD 1 default).t = 98)))
  else if rAbs t = 3 then rSyms s
  else true := rfl
/-! ### rows may be asked for -/
theorem table_cols : ∀ (s : List ByteArray) (l : List VT) (b : List ByteArray), rTableGo b s l = true → s.length = l.length → ∀ c ∈ l, isColT c.t
  | [], [], _, _, _, c, hc => by simp at hc
  | [], _ :: _, _, _, h, _, _ => by simp at h
  | _ :: _, [], _, _, h, _, _ => by simp at h
  | x :: s, y :: l, b, h, hl, c, hc => by
    rw [rTableGo] at h
    split at h
    · cases h
    · rename_i h1
      split at h
      · cases h
      · have hy : isColT y.t := Classical.byContradiction fun hn => h1 (.inr (.inr hn))
        rcases List.mem_cons.1 hc with rfl | hc
        · exact hy
        · exact table_cols s l _ h (by simpa using hl) c hc
theorem col_flat {c : VT} (h : isColT c.t) : flat9 c := by unfold isColT isVecT at h; unfold flat9; omega
theorem table_flat {n s l} (h : rPlain (.mk 98 n s l) = true) : ∀ c ∈ l, flat9 c := by
  rw [rPlain_mk] at h
  rw [if_neg (by unfold isAtomT; omega), if_neg (by unfold rAbs; omega), if_neg (by omega), if_neg (by omega), if_pos rfl] at h
  unfold rTable at h
  split at h
  · cases h
  · rename_i h1
    have h1 : ¬ (s.length = 0 ∨ s.length ≠ l.length) := h1
    exact fun c hc => col_flat (table_cols s l [] h (by omega) c hc)
theorem ok2_of {v : VT} (hg : v.Good) : ok2 v := by
  cases hg with
  | mk t n s l g1 g2 g3 g4 g5 g6 g7 g8 g9 =>
    refine ⟨fun e => ?_, fun e => ?_⟩
    · have e : t = 98 := e
      subst e
      intro x hx c hc
      simp at hx
      subst hx
      exact table_flat g5 c hc
    · have e : t = 99 := e
      subst e
      rw [rPlain_mk] at g5
      rw [if_neg (by unfold isAtomT; omega), if_neg (by unfold rAbs; omega), if_neg (by omega), if_neg (by omega), if_neg (by omega), if_pos rfl] at g5
      obtain ⟨h1, h2⟩ := of_decide_eq_true g5
      refine ⟨h1, fun e0 => ?_, fun e0 => ?_⟩
      · have e0 : (l.getD 0 default).t = 98 := e0
        have h3 : (l.getD 1 default).t = 98 := by
          rcases h2 with h2 | h2
          · unfold isColT isVecT at h2; omega
          · exact h2.2
        intro x hx c hc
        have hx : x ∈ l := hx
        have hxt : x.t = 98 := by
          match l, h1 with
          | [a, b], _ =>
            simp at hx e0 h3
            rcases hx with rfl | rfl
            · exact e0
            · exact h3
        have hgx := g9 x hx
        cases hgx with
        | mk t' n' s' l' k1 k2 k3 k4 k5 =>
          have hxt : t' = 98 := hxt
          subst hxt
          exact table_flat k5 c hc
      · have e0 : ¬ (l.getD 0 default).t = 98 := e0
        rcases h2 with h2 | h2
        · exact col_flat h2.2
        · exact absurd h2.1 e0
/-! ### the loop over a value's elements -/
theorem roundA (t n s l) (ct : Int) (cn : List Int) (cs : List ByteArray) (cl : List VT) (turn : Int) (i : Nat) (hi : (i : Int) < 1073741824) (ht : tame (.mk t n s l)) (h2 : ok2 (.mk t n s l)) {Q : List Lf × Jp → Prop}
    (hx : turn = 0 ∧ i = 1 → Q ([.int t, .is n, .ss s, .vs l, .int ct, .is cn, .ss cs, .vs cl, .int turn, .int 2], .exit 2))
    (hgo : ¬ (turn = 0 ∧ i = 1) → Q ([.int t, .is n, .ss s, .vs l, .int ct, .is cn, .ss cs, .vs cl, .int turn, .int ((i + 1 : Nat) : Int)], .go)) :
    Sat (roundT O.real Go.Qv.tb (inl O.real Go.Qv.tb Go.Qv.fns (pureOrc (PS.also 67 sp67 (PS.also 21 sp21f PS.none))) (fun f => Nat.beq f 67 || Nat.beq f 21) (fun _ => false) 300 14) (rfA (rfAt Try.f13 13)) (rfB (rfAt Try.f13 13)) 0 tmA
      [(107, .agg [.int .i64 (VT.t (atV (.mk t n s l) i)), .sl (.i .i64 (VT.n (atV (.mk t n s l) i))), .sl (.s (VT.s (atV (.mk t n s l) i))), .sl (.v (VT.l (atV (.mk t n s l) i)))]), (106, .int .i64 i)] (tmA.inst [.int t, .is n, .ss s, .vs l, .int ct, .is cn, .ss cs, .vs cl, .int turn, .int i])) Q := by
  refine ⟨?_⟩
  have e := wAR t n s l ct cn cs cl turn i i (VT.t (atV (.mk t n s l) i)) (VT.n (atV (.mk t n s l) i)) (VT.s (atV (.mk t n s l) i)) (VT.l (atV (.mk t n s l) i)) Q
  generalize roundT O.real Go.Qv.tb _ _ _ 0 tmA _ _ = X at e ⊢
  refine ob_of noB_ok _ _ e ?_
  simp only [o_add, o_sub, o_mul, o_neg, o_conv, o_lt, o_le, o_eq, o_not, o_and, o_or, o_sel, o_isel, o_ssel, o_beq, o_seq, o_slt, o_slen, o_sat, o_scut, o_sadd, o_ilen, o_blen, o_vlen, o_rlen, o_iget, o_bget, o_vget, o_rget, o_iset, o_bset, o_vset, o_iapp, o_bapp, o_vapp, o_rapp, o_icut, o_bcut, o_vcut, o_irep, o_vt, o_vn, o_vs, o_vl, o_imax, o_imin, o_inb, o_sfit, o_cutb, o_fit, o_mkfit, RhQ, decT, decF, true_and, and_true, eq_self, implies_true, forall_const, Bool.not_eq_true', Bool.not_eq_false', Bool.not_true, Bool.not_false, Bool.and_eq_true, Bool.or_eq_true, Bool.and_eq_false_iff, Bool.or_eq_false_iff, Bool.true_and, Bool.and_true, Bool.false_and, Bool.and_false, Bool.or_false, Bool.false_or, Bool.true_or, Bool.or_true, Int.toNat_natCast, VT.eta, not_true, not_false_iff, false_implies, if_true, if_false, Int.toNat_zero, Int.toNat_one, ns0, ns4, veq_self]
  rw [w64 (by omega) (by omega)]
  refine ⟨ht, h2, fun h3 => ?_, fun h3 => ?_⟩
  · have e2 : ((i : Nat) : Int) + 1 = 2 := h3.2
    rw [e2]
    exact hx ⟨h3.1, by omega⟩
  · have := hgo (fun hh => by rcases h3 with h3 | h3; exact h3 hh.1; omega)
    exact this
theorem lpA_ok : LpOk none Try.prog 0 lpA := lpOf_ok noLp_ok (fun c hC hB hn hmd y ρ K hs Q hQ β F a w hrs hy => by
  unfold spLpA at hs
  split at hs
  · rename_i t' n' s' l' t n s l ct cn cs cl turn k
    obtain ⟨hok, hs⟩ := hs
    obtain ⟨hv, ht, h2, hc, hk⟩ : asksOk (.mk t' n' s' l') (.mk t n s l) k := hok
    injection hv with e1 e2 e3 e4
    subst e1; subst e2; subst e3; subst e4; subst hk
    have h0 := rCount_nn (.mk t n s l)
    have e : rfAt Try.f13 13 = .rangeFunc (.tmp 105) #[106, 107] (rfA (rfAt Try.f13 13)) (rfB (rfAt Try.f13 13)) := by kernel_rfl
    have e2 : rfF (rfAt Try.f13 13) = .tmp 105 := by kernel_rfl
    rw [e2] at hy
    rw [e]
    refine each_ok mixed tbOk (walked (kn := fun f => Nat.beq f 67 || Nat.beq f 21) (md := fun _ => false) (PureOk.also ok67 (PureOk.also ok21 (PureOk.none _))) 14) fnsOk hC hB hmd (by decide) (tm := tmA) (ρs := fun k => [.int t, .is n, .ss s, .vs l, .int ct, .is cn, .ss cs, .vs cl, .int turn, .int (k : Nat)]) (N := (rCount (.mk t n s l)).toNat) (els := elsV (.mk t n s l)) (fun k => rfl) (fng := Try.f131) (by kernel_rfl) (each131 ht h2 (by omega)) (fun k => by rfl) (fun k => by rfl) (fun k => by rfl) (by decide)
      (X := fun r j => asksB turn (.mk t n s l) = true ∧ r = [.int t, .is n, .ss s, .vs l, .int ct, .is cn, .ss cs, .vs cl, .int turn, .int 2] ∧ j = .exit 2) (M := if asksB turn (.mk t n s l) = true then 1 else (rCount (.mk t n s l)).toNat) (fun k x0 x1 hk hM hx => ?_) (fun hNM β F a w h => ?_) (fun r j ⟨hX, hr, hj⟩ => ?_) (by simpa using hrs) hy
    · rw [hn]
      injection hx with hx0 hx
      injection hx with hx1 hx
      subst hx0; subst hx1
      refine roundA t n s l ct cn cs cl turn k (by omega) ht h2 (fun hx => ?_) (fun hx => ?_)
      · refine .inr ⟨by simp, ?_, rfl, rfl⟩
        unfold asksB
        exact decide_eq_true ⟨hx.1, by omega⟩
      · refine .inl ⟨?_, rfl, rfl⟩
        split at hM
        · rename_i hb
          unfold asksB at hb
          have hb := of_decide_eq_true hb
          rw [if_pos (show asksB turn (.mk t n s l) = true from decide_eq_true hb)]
          have : k ≠ 1 := fun h => hx ⟨hb.1, h⟩
          omega
        · rename_i hb
          rw [if_neg hb]; exact hk
    · have hb : ¬ asksB turn (.mk t n s l) = true := fun hb => by
        rw [if_pos hb] at hNM
        have := (of_decide_eq_true hb).2
        omega
      have hK := hs.2 (by simpa using hb)
      refine hQ _ _ hK β F a w ?_
      have e3 : (((rCount (.mk t n s l)).toNat : Nat) : Int) = rCount (.mk t n s l) := by omega
      rw [← e3]
      exact h
    · subst hr; subst hj
      exact hQ _ _ (hs.1 hX)
  · exact hs.elim)
end Go.Qv
