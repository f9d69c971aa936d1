/- Operations on one value: what is answered; the document's. No condition. -/
import Derived.Test.YteaeogofidakiaaGreatQYw3
set_option linter.unusedVariables false
set_option linter.unusedSimpArgs false
set_option maxRecDepth 100000
namespace Go.Qv
open Go Go.RowKit Go.Proofs
def likeT (t : Int) (b : Bool) : Int := if b then IntKind.i64.wrap (0 - t) else t
def isAt (a : VT) : Bool := decide (a.t < 0) && decide (-5 ≤ a.t)
def eachV (a : VT) (t : Int) (l : List Int) : VT := .mk (likeT t (isAt a)) l [] []
def negI (l : List Int) : List Int := l.map fun n => IntKind.i64.wrap (0 - n)
def notI (l : List Int) : List Int := l.map fun n => if n = 0 then 1 else 0
def casI (t f n : Int) : Int := if t = 1 then (if n ≠ 0 ∧ n ≠ -9223372036854775808 then 1 else 0) else if n = -9223372036854775808 ∨ f = t then n else if t = 5 then scN n 10000 1 else if f = 5 then scN n 1 10000 else n
def casO (t f n : Int) : Bool := if t = 1 then true else if n = -9223372036854775808 ∨ f = t then true else if t = 5 then scB n 10000 1 else if f = 5 then scB n 1 10000 else true
def casN (t f : Int) (l : List Int) : List Int := l.map (casI t f)
def casB (t f : Int) (l : List Int) (b : Bool) : Bool := b && l.all (casO t f)
def casOk (a : VT) (t f : Int) : Prop := tame a ∧ ∀ x ∈ a.n, isI x
def negIdx : List Int → Int → Int
  | [], _ => -1
  | x :: l, i => if x < 0 then i else negIdx l (i + 1)
/-! the answers -/
def flT (t : Int) : Prop := (1 ≤ t ∧ t ≤ 5) ∨ (-5 ≤ t ∧ t ≤ -1)
instance (t : Int) : Decidable (flT t) := inferInstanceAs (Decidable (_ ∨ _))
/-- Atoms and vectors are not too great. -/
def tameF (v : VT) : Prop := flT v.t → tame v
def numT (t : Int) : Prop := t = 1 ∨ t = 2 ∨ t = 4 ∨ t = 5 ∨ t = -1 ∨ t = -2 ∨ t = -4 ∨ t = -5
instance (t : Int) : Decidable (numT t) := inferInstanceAs (Decidable (_ ∨ _))
def negT (t : Int) : Prop := t = 1 ∨ t = 2 ∨ t = 5 ∨ t = -1 ∨ t = -2 ∨ t = -5
instance (t : Int) : Decidable (negT t) := inferInstanceAs (Decidable (_ ∨ _))
def plN (t : Int) : Int := if t = 1 then 2 else if t = -1 then -2 else t
def v0 : VT := .mk 0 [] [] []
def negV (v : VT) : VT := if negT v.t then .mk (plN v.t) (negI v.n) [] [] else v0
def negE (v : VT) : Int := if negT v.t then 0 else 31
def sgT (t u : Int) : Int := if t < 0 then -u else u
def notV (v : VT) : VT := if numT v.t then .mk (sgT v.t 1) (notI v.n) [] [] else v0
def notE (v : VT) : Int := if numT v.t then 0 else 31
def tilAV (n : Int) : VT := if n < 0 then v0 else if 65536 < n then v0 else tilV n
def tilAE (n : Int) : Int := if n < 0 then 2 else if 65536 < n then 6 else 0
def whN : List Int → Int → List Int
  | [], _ => []
  | x :: l, i => List.replicate x.toNat i ++ whN l (i + 1)
def whB : List Int → Int → Bool
  | [], _ => false
  | x :: l, c => if 65536 - c < x then true else whB l (c + x)
def whT (v : VT) : Prop := v.t = 1 ∨ v.t = 2
instance (v : VT) : Decidable (whT v) := inferInstanceAs (Decidable (_ ∨ _))
def whV (v : VT) : VT := if whT v then (if 0 ≤ negIdx v.n 0 then v0 else if whB v.n 0 then v0 else .mk 2 (whN v.n 0) [] []) else v0
def whE (v : VT) : Int := if whT v then (if 0 ≤ negIdx v.n 0 then 2 else if whB v.n 0 then 6 else 0) else 31
def casT (t : Int) : Prop := t = 1 ∨ t = 2 ∨ t = 4 ∨ t = 5
instance (t : Int) : Decidable (casT t) := inferInstanceAs (Decidable (_ ∨ _))
def absT (t : Int) : Int := if t < 0 then -t else t
def castV (t : Int) (v : VT) : VT := if casT t then (if numT v.t then (if casB t (absT v.t) v.n true then .mk (sgT v.t t) (casN t (absT v.t) v.n) [] [] else v0) else v0) else v0
def castE (t : Int) (v : VT) : Int := if casT t then (if numT v.t then (if casB t (absT v.t) v.n true then 0 else 70) else 31) else 2
/-- Bools are 0 or 1, whole numbers fit. -/
def castOk (v : VT) : Prop := tameF v ∧ (∀ x ∈ v.n, isI x) ∧ (v.t = 1 ∨ v.t = -1 → ∀ x ∈ v.n, x ≠ -9223372036854775808)
noncomputable def sp75x : List AV → T AV
  | [x, .bool b] => (match asV [] x with | some a => .leaf (.agg [.int .i64 (likeT a.t b), .sl (.i .i64 a.n), .sl (.s a.s), .sl (.v a.l)]) | none => .stuck "sp75x")
  | _ => .stuck "sp75x"
noncomputable def se61x : List AV → List (Nat × HObj) → T Eff
  | [.int .i64 n, .ptr 0 0, .ptr 1 0, .ptr 2 0], [(0, .cells [.int .i64 t1]), (1, .cells [.int .i64 f1]), (2, .cells [.bool b])] => whenE (isI n) (.leaf ⟨.int .i64 (casI t1 f1 n), [(0, some (.cells [.int .i64 t1])), (1, some (.cells [.int .i64 f1])), (2, some (.cells [.bool (b && casO t1 f1 n)]))], [], []⟩)
  | _, _ => .stuck "se61x"
noncomputable def sp91x : List AV → T AV
  | [x, .fn g []] => (match cInts [] .i64 x, Nat.beq g 60 with | some a, true => .leaf (.int .i64 (negIdx a 0)) | _, _ => .stuck "sp91x")
  | _ => .stuck "sp91x"
noncomputable def spNeg := onV fun v => when_ (tameF v) (.leaf (.tup [vcl (negV v), .int .i64 (negE v)]))
noncomputable def spNot := onV fun v => when_ (tameF v) (.leaf (.tup [vcl (notV v), .int .i64 (notE v)]))
noncomputable def spTilA := onInt fun n => .leaf (.tup [vcl (tilAV n), .int .i64 (tilAE n)])
noncomputable def spWhere := onV fun v => when_ (tameF v) (.leaf (.tup [vcl (whV v), .int .i64 (whE v)]))
noncomputable def spCast : List AV → T AV
  | [.int .i64 t, x] => (match asV [] x with | some v => when_ (castOk v) (.leaf (.tup [vcl (castV t v), .int .i64 (castE t v)])) | none => .stuck "spCast")
  | _ => .stuck "spCast"
/-! ### like, the test of Where -/
theorem ok75x : Pure1 Tryz.prog 75 sp75x := by
  intro xs F w cs R ha h
  unfold sp75x at h
  split at h
  · rename_i x b
    split at h
    · rename_i a h1
      have ha := ha.conv2 (fun v => as_V h1) (fun v h => h)
      obtain ⟨t, n, s, l⟩ := a
      refine contract (fn := Tryz.f75) w0 (by kernel_rfl) w75xC_ok (by rfl) (by rfl) (by rfl) (by rfl) (by rfl) ha (ρ := [.int t, .is n, .ss s, .vs l, .bool b]) (Rh.go (w75x_9999 t n s l b _) ?_) h
      simp only [o_add, o_sub, o_mul, o_neg, o_conv, o_lt, o_le, o_eq, o_not, o_and, o_or, o_sel, o_isel, o_ssel, o_beq, o_seq, o_slt, o_slen, o_sat, o_scut, o_sadd, o_ilen, o_blen, o_vlen, o_rlen, o_iget, o_bget, o_vget, o_rget, o_iset, o_bset, o_vset, o_iapp, o_bapp, o_vapp, o_rapp, o_icut, o_bcut, o_vcut, o_irep, o_vt, o_vn, o_vs, o_vl, o_imax, o_imin, o_inb, o_sfit, o_cutb, o_fit, o_mkfit, RhQ, decT, decF, true_and, and_true, eq_self, implies_true, forall_const, Bool.not_eq_true', Bool.not_eq_false', Bool.not_true, Bool.not_false, Bool.and_eq_true, Bool.or_eq_true, Bool.and_eq_false_iff, Bool.or_eq_false_iff, Bool.true_and, Bool.and_true, Bool.false_and, Bool.and_false, Bool.or_false, Bool.false_or, Bool.true_or, Bool.or_true, Int.toNat_natCast, VT.eta, not_true, not_false_iff, false_implies, if_true, if_false, Int.toNat_zero, Int.toNat_one, ns0, ns4]
      exact ⟨fun h => by subst h; exact rfl, fun h => by subst h; exact rfl⟩
    · exact h.elim
  · exact h.elim
theorem loop91 (l : List Int) (hl : l.length ≤ maxLen) (i : Nat) (h1 : i ≤ l.length) : Rh w91xS (Ret (.int .i64 (negIdx (l.drop i) i))) (2, [.is l, .int l.length, .int i]) := by
  refine Rh.go (w91x_2 l l.length i _) ?_
  simp only [o_add, o_sub, o_mul, o_neg, o_conv, o_lt, o_le, o_eq, o_not, o_and, o_or, o_sel, o_isel, o_ssel, o_beq, o_seq, o_slt, o_slen, o_sat, o_scut, o_sadd, o_ilen, o_blen, o_vlen, o_rlen, o_iget, o_bget, o_vget, o_rget, o_iset, o_bset, o_vset, o_iapp, o_bapp, o_vapp, o_rapp, o_icut, o_bcut, o_vcut, o_irep, o_vt, o_vn, o_vs, o_vl, o_imax, o_imin, o_inb, o_sfit, o_cutb, o_fit, o_mkfit, RhQ, decT, decF, true_and, and_true, eq_self, implies_true, forall_const, Bool.not_eq_true', Bool.not_eq_false', Bool.not_true, Bool.not_false, Bool.and_eq_true, Bool.or_eq_true, Bool.and_eq_false_iff, Bool.or_eq_false_iff, Bool.true_and, Bool.and_true, Bool.false_and, Bool.and_false, Bool.or_false, Bool.false_or, Bool.true_or, Bool.or_true, Int.toNat_natCast, VT.eta, not_true, not_false_iff, false_implies, if_true, if_false, Int.toNat_zero, Int.toNat_one, ns0, ns4]
  refine ⟨fun h => ⟨⟨by omega, by omega⟩, fun h2 => ?_, fun h2 => ?_⟩, fun h => ?_⟩
  · rw [drop_at l 0 (show i < l.length by omega)]
    exact Ret.int (by rw [negIdx, if_pos h2])
  · have e := loop91 l hl (i + 1) (by omega)
    rw [inc hl (by omega), drop_at l 0 (show i < l.length by omega), negIdx, if_neg h2]
    exact e
  · rw [List.drop_of_length_le (by omega)]; exact Ret.int rfl
termination_by l.length - i
theorem ok91x : Pure1 Tryz.prog 91 sp91x := by
  intro xs F w cs R ha h
  unfold sp91x at h
  split at h
  · rename_i x g
    split at h
    · rename_i a h1 h2
      have := Nat.eq_of_beq_eq_true h2; subst this
      have ha := ha.conv2 (fun v => as_I h1) (fun v h => h)
      obtain ⟨v, hv⟩ := ha.at 0 rfl
      refine contract (fn := Tryz.f91) w0 (by kernel_rfl) w91xC_ok (by rfl) (by rfl) (by rfl) (by rfl) (by rfl) ha (ρ := [.is a]) (Rh.go (w91x_9999 a _) ?_) h
      simp only [o_add, o_sub, o_mul, o_neg, o_conv, o_lt, o_le, o_eq, o_not, o_and, o_or, o_sel, o_isel, o_ssel, o_beq, o_seq, o_slt, o_slen, o_sat, o_scut, o_sadd, o_ilen, o_blen, o_vlen, o_rlen, o_iget, o_bget, o_vget, o_rget, o_iset, o_bset, o_vset, o_iapp, o_bapp, o_vapp, o_rapp, o_icut, o_bcut, o_vcut, o_irep, o_vt, o_vn, o_vs, o_vl, o_imax, o_imin, o_inb, o_sfit, o_cutb, o_fit, o_mkfit, RhQ, decT, decF, true_and, and_true, eq_self, implies_true, forall_const, Bool.not_eq_true', Bool.not_eq_false', Bool.not_true, Bool.not_false, Bool.and_eq_true, Bool.or_eq_true, Bool.and_eq_false_iff, Bool.or_eq_false_iff, Bool.true_and, Bool.and_true, Bool.false_and, Bool.and_false, Bool.or_false, Bool.false_or, Bool.true_or, Bool.or_true, Int.toNat_natCast, VT.eta, not_true, not_false_iff, false_implies, if_true, if_false, Int.toNat_zero, Int.toNat_one, ns0, ns4]
      exact loop91 a hv.len 0 (by omega)
    · exact h.elim
  · exact h.elim
/-! ### Til -/
theorem loop24 (n : Int) (hn : tilOk n) (i : Nat) (h1 : (i : Int) ≤ n) : Rh w24xS (Ret (.tup [vcl (tilV n), .int .i64 0])) (7, [.int n, .int i, .is (iotaI i)]) := by
  refine Rh.go (w24x_7 n i (iotaI i) _) ?_
  obtain ⟨hn0, hn1⟩ := hn
  simp only [o_add, o_sub, o_mul, o_neg, o_conv, o_lt, o_le, o_eq, o_not, o_and, o_or, o_sel, o_isel, o_ssel, o_beq, o_seq, o_slt, o_slen, o_sat, o_scut, o_sadd, o_ilen, o_blen, o_vlen, o_rlen, o_iget, o_bget, o_vget, o_rget, o_iset, o_bset, o_vset, o_iapp, o_bapp, o_vapp, o_rapp, o_icut, o_bcut, o_vcut, o_irep, o_vt, o_vn, o_vs, o_vl, o_imax, o_imin, o_inb, o_sfit, o_cutb, o_fit, o_mkfit, RhQ, decT, decF, true_and, and_true, eq_self, implies_true, forall_const, Bool.not_eq_true', Bool.not_eq_false', Bool.not_true, Bool.not_false, Bool.and_eq_true, Bool.or_eq_true, Bool.and_eq_false_iff, Bool.or_eq_false_iff, Bool.true_and, Bool.and_true, Bool.false_and, Bool.and_false, Bool.or_false, Bool.false_or, Bool.true_or, Bool.or_true, Int.toNat_natCast, VT.eta, not_true, not_false_iff, false_implies, if_true, if_false, Int.toNat_zero, Int.toNat_one, ns0, ns4, iotaI_len, List.length_cons, List.length_nil]
  refine ⟨fun h => ⟨by omega, ?_⟩, fun h => ?_⟩
  · rw [w64 (by omega) (by omega)]
    have e := loop24 n ⟨hn0, hn1⟩ (i + 1) (by omega)
    rw [iotaI_succ] at e
    exact e
  · have : n = (i : Int) := by omega
    subst this; exact rfl
termination_by (n - i).toNat
theorem ok24x : Pure1 Tryz.prog 24 spTilA := by
  intro xs F w cs R ha h
  obtain ⟨n, rfl, h⟩ := onInt_inv h
  refine contract (fn := Tryz.f24) w0 (by kernel_rfl) w24xC_ok (by rfl) (by rfl) (by rfl) (by rfl) (by rfl) ha (ρ := [.int n]) (Rh.go (w24x_9999 n _) ?_) h
  simp only [o_add, o_sub, o_mul, o_neg, o_conv, o_lt, o_le, o_eq, o_not, o_and, o_or, o_sel, o_isel, o_ssel, o_beq, o_seq, o_slt, o_slen, o_sat, o_scut, o_sadd, o_ilen, o_blen, o_vlen, o_rlen, o_iget, o_bget, o_vget, o_rget, o_iset, o_bset, o_vset, o_iapp, o_bapp, o_vapp, o_rapp, o_icut, o_bcut, o_vcut, o_irep, o_vt, o_vn, o_vs, o_vl, o_imax, o_imin, o_inb, o_sfit, o_cutb, o_fit, o_mkfit, RhQ, decT, decF, true_and, and_true, eq_self, implies_true, forall_const, Bool.not_eq_true', Bool.not_eq_false', Bool.not_true, Bool.not_false, Bool.and_eq_true, Bool.or_eq_true, Bool.and_eq_false_iff, Bool.or_eq_false_iff, Bool.true_and, Bool.and_true, Bool.false_and, Bool.and_false, Bool.or_false, Bool.false_or, Bool.true_or, Bool.or_true, Int.toNat_natCast, VT.eta, not_true, not_false_iff, false_implies, if_true, if_false, Int.toNat_zero, Int.toNat_one, ns0, ns4]
  unfold tilAV tilAE
  refine ⟨fun h => by rw [if_pos h, if_pos h]; exact rfl, fun h => ?_⟩
  rw [if_neg h, if_neg h]
  refine ⟨fun h => by rw [if_pos h, if_pos h]; exact rfl, fun h2 => ?_⟩
  rw [if_neg h2, if_neg h2]
  have e := loop24 n ⟨by omega, by omega⟩ 0 (by omega)
  have e0 : iotaI ((0 : Nat) : Int) = [] := rfl
  rw [e0] at e
  exact e
theorem ok23x : Pure1 Tryz.prog 23 spTilA := by
  intro xs F w cs R ha h
  obtain ⟨n, rfl, h⟩ := onInt_inv h
  refine contract (fn := Tryz.f23) (walked okAB2 14) (by kernel_rfl) w23C_ok (by rfl) (by rfl) (by rfl) (by rfl) (by rfl) ha (ρ := [.int n]) (Rh.go (w23_9999 n _) ?_) h
  have a2 : rAbs 2 = 2 := by decide
  simp only [o_add, o_sub, o_mul, o_neg, o_conv, o_lt, o_le, o_eq, o_not, o_and, o_or, o_sel, o_isel, o_ssel, o_beq, o_seq, o_slt, o_slen, o_sat, o_scut, o_sadd, o_ilen, o_blen, o_vlen, o_rlen, o_iget, o_bget, o_vget, o_rget, o_iset, o_bset, o_vset, o_iapp, o_bapp, o_vapp, o_rapp, o_icut, o_bcut, o_vcut, o_irep, o_vt, o_vn, o_vs, o_vl, o_imax, o_imin, o_inb, o_sfit, o_cutb, o_fit, o_mkfit, RhQ, decT, decF, true_and, and_true, eq_self, implies_true, forall_const, Bool.not_eq_true', Bool.not_eq_false', Bool.not_true, Bool.not_false, Bool.and_eq_true, Bool.or_eq_true, Bool.and_eq_false_iff, Bool.or_eq_false_iff, Bool.true_and, Bool.and_true, Bool.false_and, Bool.and_false, Bool.or_false, Bool.false_or, Bool.true_or, Bool.or_true, Int.toNat_natCast, VT.eta, not_true, not_false_iff, false_implies, if_true, if_false, Int.toNat_zero, Int.toNat_one, ns0, ns4, a2]
  unfold tilAV tilAE
  refine ⟨fun h => by rw [if_pos h, if_pos h]; exact rfl, fun h => ?_⟩
  rw [if_neg h, if_neg h]
  refine ⟨fun h => by rw [if_pos h, if_pos h]; exact rfl, fun h2 => ?_⟩
  rw [if_neg h2, if_neg h2]
  have e := loop23 n ⟨by omega, by omega⟩ 0 (by omega)
  have e0 : iotaI ((0 : Nat) : Int) = [] := rfl
  rw [e0] at e
  exact ⟨fun _ => e, fun h => absurd h (by omega)⟩
end Go.Qv
/- Operations on one value: the document's Neg, Not, Where, Cast. No condition. -/
set_option linter.unusedVariables false
set_option linter.unusedSimpArgs false
set_option maxRecDepth 100000
namespace Go.Qv
open Go Go.RowKit Go.Proofs
theorem mapI_take (f : Int → Int) (n : List Int) {i : Nat} (h : i < n.length) : (n.take (i + 1)).map f = (n.take i).map f ++ [f (n.getD i 0)] := by
  rw [take_at n 0 h, List.map_append]; rfl
theorem negI_take (n : List Int) {i : Nat} (h : i < n.length) : negI (n.take (i + 1)) = negI (n.take i) ++ [IntKind.i64.wrap (0 - n.getD i 0)] := mapI_take _ n h
theorem notI_take (n : List Int) {i : Nat} (h : i < n.length) : notI (n.take (i + 1)) = notI (n.take i) ++ [if n.getD i 0 = 0 then 1 else 0] := mapI_take _ n h
theorem negI_len (n : List Int) : (negI n).length = n.length := by simp [negI]
theorem notI_len (n : List Int) : (notI n).length = n.length := by simp [notI]
theorem neg_null : IntKind.i64.wrap (0 - (-9223372036854775808)) = -9223372036854775808 := rfl
theorem loop20 (t n s l) (T : Int) (hn : n.length ≤ 1073741824) (i : Nat) (h1 : i ≤ n.length) : Rh w20xS (Ret (.tup [vcl (.mk T (negI n) [] []), .int .i64 0])) (8, [.int i, .int t, .is n, .ss s, .vs l, .int T, .is (negI (n.take i))]) := by
  refine Rh.go (w20x_8 i t n s l T _ _) ?_
  simp only [o_add, o_sub, o_mul, o_neg, o_conv, o_lt, o_le, o_eq, o_not, o_and, o_or, o_sel, o_isel, o_ssel, o_beq, o_seq, o_slt, o_slen, o_sat, o_scut, o_sadd, o_ilen, o_blen, o_vlen, o_rlen, o_iget, o_bget, o_vget, o_rget, o_iset, o_bset, o_vset, o_iapp, o_bapp, o_vapp, o_rapp, o_icut, o_bcut, o_vcut, o_irep, o_vt, o_vn, o_vs, o_vl, o_imax, o_imin, o_inb, o_sfit, o_cutb, o_fit, o_mkfit, RhQ, decT, decF, true_and, and_true, eq_self, implies_true, forall_const, Bool.not_eq_true', Bool.not_eq_false', Bool.not_true, Bool.not_false, Bool.and_eq_true, Bool.or_eq_true, Bool.and_eq_false_iff, Bool.or_eq_false_iff, Bool.true_and, Bool.and_true, Bool.false_and, Bool.and_false, Bool.or_false, Bool.false_or, Bool.true_or, Bool.or_true, Int.toNat_natCast, VT.eta, not_true, not_false_iff, false_implies, if_true, if_false, Int.toNat_zero, Int.toNat_one, ns0, ns4, negI_len, List.length_take, List.length_cons, List.length_nil, null63]
  refine ⟨fun h => ?_, fun h => ?_⟩
  · have e := loop20 t n s l T hn (i + 1) (by omega)
    rw [negI_take n (by omega)] at e
    rw [inc (mlen hn) (by omega)]
    refine ⟨⟨by omega, by omega⟩, fun h2 => ⟨by omega, ?_⟩, fun h2 => ?_⟩
    · rw [h2, neg_null] at e; exact e
    · repeat' apply And.intro
      all_goals first | exact e | omega
  · rw [List.take_of_length_le (by omega)]; exact rfl
termination_by n.length - i
theorem neg_fl {t : Int} (h : negT t) : flT t := by unfold negT at h; unfold flT; omega
theorem num_fl {t : Int} (h : numT t) : flT t := by unfold numT at h; unfold flT; omega
theorem wh_fl {v : VT} (h : whT v) : flT v.t := by unfold whT at h; unfold flT; omega
theorem negV_yes {v : VT} (h : negT v.t) : negV v = .mk (plN v.t) (negI v.n) [] [] ∧ negE v = 0 := by unfold negV negE; rw [if_pos h, if_pos h]; exact ⟨rfl, rfl⟩
theorem negV_no {v : VT} (h : ¬ negT v.t) : negV v = v0 ∧ negE v = 31 := by unfold negV negE; rw [if_neg h, if_neg h]; exact ⟨rfl, rfl⟩
theorem notV_yes {v : VT} (h : numT v.t) : notV v = .mk (sgT v.t 1) (notI v.n) [] [] ∧ notE v = 0 := by unfold notV notE; rw [if_pos h, if_pos h]; exact ⟨rfl, rfl⟩
theorem notV_no {v : VT} (h : ¬ numT v.t) : notV v = v0 ∧ notE v = 31 := by unfold notV notE; rw [if_neg h, if_neg h]; exact ⟨rfl, rfl⟩
theorem ok20x : Pure1 Tryz.prog 20 spNeg := by
  intro xs F w cs R ha h
  obtain ⟨x, a, rfl, h1, h⟩ := onV_inv h
  obtain ⟨ht, h⟩ := when_inv h
  have ha := ha.conv1 (fun v => as_V h1)
  obtain ⟨t, n, s, l⟩ := a
  refine contract (fn := Tryz.f20) w0 (by kernel_rfl) w20xC_ok (by rfl) (by rfl) (by rfl) (by rfl) (by rfl) ha (ρ := [.int t, .is n, .ss s, .vs l]) (Rh.go (w20x_9999 t n s l _) ?_) h
  simp only [o_add, o_sub, o_mul, o_neg, o_conv, o_lt, o_le, o_eq, o_not, o_and, o_or, o_sel, o_isel, o_ssel, o_beq, o_seq, o_slt, o_slen, o_sat, o_scut, o_sadd, o_ilen, o_blen, o_vlen, o_rlen, o_iget, o_bget, o_vget, o_rget, o_iset, o_bset, o_vset, o_iapp, o_bapp, o_vapp, o_rapp, o_icut, o_bcut, o_vcut, o_irep, o_vt, o_vn, o_vs, o_vl, o_imax, o_imin, o_inb, o_sfit, o_cutb, o_fit, o_mkfit, RhQ, decT, decF, true_and, and_true, eq_self, implies_true, forall_const, Bool.not_eq_true', Bool.not_eq_false', Bool.not_true, Bool.not_false, Bool.and_eq_true, Bool.or_eq_true, Bool.and_eq_false_iff, Bool.or_eq_false_iff, Bool.true_and, Bool.and_true, Bool.false_and, Bool.and_false, Bool.or_false, Bool.false_or, Bool.true_or, Bool.or_true, Int.toNat_natCast, VT.eta, not_true, not_false_iff, false_implies, if_true, if_false, Int.toNat_zero, Int.toNat_one, ns0, ns4]
  by_cases hk : negT t
  · have ht : tame (.mk t n s l) := ht (neg_fl hk)
    have hl := fun T => loop20 t n s l T ht.n 0 (by omega)
    have e0 : negI (n.take 0) = [] := rfl
    rw [e0] at hl
    obtain ⟨y1, y2⟩ := negV_yes (v := .mk t n s l) hk
    rw [y1, y2]
    rcases hk with rfl | rfl | rfl | rfl | rfl | rfl
    all_goals
      refine ⟨fun hh => absurd hh (by decide), fun _ => ⟨fun hh => ?_, fun hh => ?_⟩⟩
      all_goals first | exact absurd hh (by decide) | exact hl 2 | exact hl 5 | exact hl (-2) | exact hl (-5)
  · obtain ⟨y1, y2⟩ := negV_no (v := .mk t n s l) hk
    rw [y1, y2]
    unfold negT at hk
    refine ⟨fun _ => rfl, fun hh => absurd hh ?_⟩
    by_cases hq : t = -4 ∨ t = -3 ∨ t = 0 ∨ t = 3 ∨ t = 4
    · rcases hq with rfl | rfl | rfl | rfl | rfl <;> decide
    · intro hh; have := hh.1; omega
theorem loop22 (t n s l) (T : Int) (hn : n.length ≤ 1073741824) (i : Nat) (h1 : i ≤ n.length) : Rh w22xS (Ret (.tup [vcl (.mk T (notI n) [] []), .int .i64 0])) (7, [.int i, .int t, .is n, .ss s, .vs l, .int T, .is (notI (n.take i))]) := by
  refine Rh.go (w22x_7 i t n s l T _ _) ?_
  simp only [o_add, o_sub, o_mul, o_neg, o_conv, o_lt, o_le, o_eq, o_not, o_and, o_or, o_sel, o_isel, o_ssel, o_beq, o_seq, o_slt, o_slen, o_sat, o_scut, o_sadd, o_ilen, o_blen, o_vlen, o_rlen, o_iget, o_bget, o_vget, o_rget, o_iset, o_bset, o_vset, o_iapp, o_bapp, o_vapp, o_rapp, o_icut, o_bcut, o_vcut, o_irep, o_vt, o_vn, o_vs, o_vl, o_imax, o_imin, o_inb, o_sfit, o_cutb, o_fit, o_mkfit, RhQ, decT, decF, true_and, and_true, eq_self, implies_true, forall_const, Bool.not_eq_true', Bool.not_eq_false', Bool.not_true, Bool.not_false, Bool.and_eq_true, Bool.or_eq_true, Bool.and_eq_false_iff, Bool.or_eq_false_iff, Bool.true_and, Bool.and_true, Bool.false_and, Bool.and_false, Bool.or_false, Bool.false_or, Bool.true_or, Bool.or_true, Int.toNat_natCast, VT.eta, not_true, not_false_iff, false_implies, if_true, if_false, Int.toNat_zero, Int.toNat_one, ns0, ns4, notI_len, List.length_take, List.length_cons, List.length_nil, null63]
  refine ⟨fun h => ?_, fun h => ?_⟩
  · have e := loop22 t n s l T hn (i + 1) (by omega)
    rw [notI_take n (by omega)] at e
    rw [inc (mlen hn) (by omega)]
    refine ⟨⟨by omega, by omega⟩, fun h2 => ⟨by omega, ?_⟩, fun h2 => ⟨by omega, ?_⟩⟩
    · rw [if_pos h2] at e; exact e
    · rw [if_neg h2] at e; exact e
  · rw [List.take_of_length_le (by omega)]; exact rfl
termination_by n.length - i
theorem ok22x : Pure1 Tryz.prog 22 spNot := by
  intro xs F w cs R ha h
  obtain ⟨x, a, rfl, h1, h⟩ := onV_inv h
  obtain ⟨ht, h⟩ := when_inv h
  have ha := ha.conv1 (fun v => as_V h1)
  obtain ⟨t, n, s, l⟩ := a
  refine contract (fn := Tryz.f22) w0 (by kernel_rfl) w22xC_ok (by rfl) (by rfl) (by rfl) (by rfl) (by rfl) ha (ρ := [.int t, .is n, .ss s, .vs l]) (Rh.go (w22x_9999 t n s l _) ?_) h
  simp only [o_add, o_sub, o_mul, o_neg, o_conv, o_lt, o_le, o_eq, o_not, o_and, o_or, o_sel, o_isel, o_ssel, o_beq, o_seq, o_slt, o_slen, o_sat, o_scut, o_sadd, o_ilen, o_blen, o_vlen, o_rlen, o_iget, o_bget, o_vget, o_rget, o_iset, o_bset, o_vset, o_iapp, o_bapp, o_vapp, o_rapp, o_icut, o_bcut, o_vcut, o_irep, o_vt, o_vn, o_vs, o_vl, o_imax, o_imin, o_inb, o_sfit, o_cutb, o_fit, o_mkfit, RhQ, decT, decF, true_and, and_true, eq_self, implies_true, forall_const, Bool.not_eq_true', Bool.not_eq_false', Bool.not_true, Bool.not_false, Bool.and_eq_true, Bool.or_eq_true, Bool.and_eq_false_iff, Bool.or_eq_false_iff, Bool.true_and, Bool.and_true, Bool.false_and, Bool.and_false, Bool.or_false, Bool.false_or, Bool.true_or, Bool.or_true, Int.toNat_natCast, VT.eta, not_true, not_false_iff, false_implies, if_true, if_false, Int.toNat_zero, Int.toNat_one, ns0, ns4]
  by_cases hk : numT t
  · have ht : tame (.mk t n s l) := ht (num_fl hk)
    have hl := fun T => loop22 t n s l T ht.n 0 (by omega)
    have e0 : notI (n.take 0) = [] := rfl
    rw [e0] at hl
    obtain ⟨y1, y2⟩ := notV_yes (v := .mk t n s l) hk
    rw [y1, y2]
    rcases hk with rfl | rfl | rfl | rfl | rfl | rfl | rfl | rfl
    all_goals
      refine ⟨fun hh => absurd hh (by decide), fun _ => ⟨fun hh => ?_, fun hh => ?_⟩⟩
      all_goals first | exact absurd hh (by decide) | exact hl 1 | exact hl (-1)
  · obtain ⟨y1, y2⟩ := notV_no (v := .mk t n s l) hk
    rw [y1, y2]
    unfold numT at hk
    refine ⟨fun _ => rfl, fun hh => absurd hh ?_⟩
    by_cases hq : t = -3 ∨ t = 0 ∨ t = 3
    · rcases hq with rfl | rfl | rfl <;> decide
    · intro hh; have := hh.1; omega
/-! ### Where -/
theorem loop26a (t n s l) (X : VT) (E : Int) (hn : n.length ≤ 1073741824) (H : negIdx n 0 = -1 → Rh w26xS (Ret (.tup [vcl X, .int .i64 E])) (11, [.int 0, .int 0, .int t, .is n, .ss s, .vs l, .is []])) (H2 : 0 ≤ negIdx n 0 → X = v0 ∧ E = 2) (i : Nat) (h1 : i ≤ n.length) (hd : negIdx n 0 = negIdx (n.drop i) i) :
    Rh w26xS (Ret (.tup [vcl X, .int .i64 E])) (5, [.int i, .int t, .is n, .ss s, .vs l]) := by
  refine Rh.go (w26x_5 i t n s l _) ?_
  simp only [o_add, o_sub, o_mul, o_neg, o_conv, o_lt, o_le, o_eq, o_not, o_and, o_or, o_sel, o_isel, o_ssel, o_beq, o_seq, o_slt, o_slen, o_sat, o_scut, o_sadd, o_ilen, o_blen, o_vlen, o_rlen, o_iget, o_bget, o_vget, o_rget, o_iset, o_bset, o_vset, o_iapp, o_bapp, o_vapp, o_rapp, o_icut, o_bcut, o_vcut, o_irep, o_vt, o_vn, o_vs, o_vl, o_imax, o_imin, o_inb, o_sfit, o_cutb, o_fit, o_mkfit, RhQ, decT, decF, true_and, and_true, eq_self, implies_true, forall_const, Bool.not_eq_true', Bool.not_eq_false', Bool.not_true, Bool.not_false, Bool.and_eq_true, Bool.or_eq_true, Bool.and_eq_false_iff, Bool.or_eq_false_iff, Bool.true_and, Bool.and_true, Bool.false_and, Bool.and_false, Bool.or_false, Bool.false_or, Bool.true_or, Bool.or_true, Int.toNat_natCast, VT.eta, not_true, not_false_iff, false_implies, if_true, if_false, Int.toNat_zero, Int.toNat_one, ns0, ns4]
  refine ⟨fun h => ⟨⟨by omega, by omega⟩, fun h2 => ?_, fun h2 => ?_⟩, fun h => ?_⟩
  · rw [drop_at n 0 (show i < n.length by omega), negIdx, if_pos h2] at hd
    obtain ⟨rfl, rfl⟩ := H2 (by omega)
    exact rfl
  · rw [inc (mlen hn) (by omega)]
    rw [drop_at n 0 (show i < n.length by omega), negIdx, if_neg h2] at hd
    exact loop26a t n s l X E hn H H2 (i + 1) (by omega) hd
  · rw [List.drop_of_length_le (by omega), negIdx] at hd
    exact H hd
termination_by n.length - i
theorem negIdx_all : ∀ (l : List Int) (i : Int), 0 ≤ i → negIdx l i = -1 → ∀ x ∈ l, 0 ≤ x
  | [], _, _, _ => by simp
  | x :: l, i, h0, h => by
    rw [negIdx] at h
    split at h
    · omega
    · intro y hy
      rcases List.mem_cons.1 hy with rfl | hy
      · omega
      · exact negIdx_all l (i + 1) (by omega) h y hy
theorem negIdx_or : ∀ (l : List Int) (i : Int), 0 ≤ i → negIdx l i = -1 ∨ 0 ≤ negIdx l i
  | [], _, _ => .inl rfl
  | x :: l, i, h0 => by
    rw [negIdx]
    split
    · exact .inr h0
    · exact negIdx_or l (i + 1) (by omega)
theorem whN_take : ∀ (n : List Int) (i : Nat) (c : Int), i < n.length → whN (n.take (i + 1)) c = whN (n.take i) c ++ List.replicate (n.getD i 0).toNat (c + i)
  | [], i, c, h => by simp at h
  | x :: n, 0, c, h => by simp [whN]
  | x :: n, i + 1, c, h => by
    have e := whN_take n i (c + 1) (by simpa using h)
    rw [List.take_succ_cons, List.take_succ_cons, whN, whN, e, List.append_assoc]
    congr 3
    omega
theorem rep_succ (k : Nat) (c : Int) : List.replicate (k + 1) c = List.replicate k c ++ [c] := List.replicate_succ'
/-- The places of the first i numbers, and j times that of the next. -/
theorem loop26c (t n s l) (X : VT) (E : Int) (i : Nat) (hi : i < n.length) (hn : n.length ≤ 1073741824) (x : Int) (he : n.getD i 0 = x) (hx : 0 ≤ x) (hs : ((whN (n.take i) 0).length : Int) + x ≤ 65536) (H : Rh w26xS (Ret (.tup [vcl X, .int .i64 E])) (11, [.int (((whN (n.take i) 0).length : Int) + x), .int (IntKind.i64.wrap ((i : Int) + 1)), .int t, .is n, .ss s, .vs l, .is (whN (n.take (i + 1)) 0)]))
    (j : Nat) (hj : (j : Int) ≤ x) : Rh w26xS (Ret (.tup [vcl X, .int .i64 E])) (17, [.int (((whN (n.take i) 0).length : Int) + x), .int i, .int j, .int t, .is n, .ss s, .vs l, .is (whN (n.take i) 0 ++ List.replicate j (i : Int))]) := by
  refine Rh.go (w26x_17 _ i j t n s l _ _) ?_
  simp only [o_add, o_sub, o_mul, o_neg, o_conv, o_lt, o_le, o_eq, o_not, o_and, o_or, o_sel, o_isel, o_ssel, o_beq, o_seq, o_slt, o_slen, o_sat, o_scut, o_sadd, o_ilen, o_blen, o_vlen, o_rlen, o_iget, o_bget, o_vget, o_rget, o_iset, o_bset, o_vset, o_iapp, o_bapp, o_vapp, o_rapp, o_icut, o_bcut, o_vcut, o_irep, o_vt, o_vn, o_vs, o_vl, o_imax, o_imin, o_inb, o_sfit, o_cutb, o_fit, o_mkfit, RhQ, decT, decF, true_and, and_true, eq_self, implies_true, forall_const, Bool.not_eq_true', Bool.not_eq_false', Bool.not_true, Bool.not_false, Bool.and_eq_true, Bool.or_eq_true, Bool.and_eq_false_iff, Bool.or_eq_false_iff, Bool.true_and, Bool.and_true, Bool.false_and, Bool.and_false, Bool.or_false, Bool.false_or, Bool.true_or, Bool.or_true, Int.toNat_natCast, VT.eta, not_true, not_false_iff, false_implies, if_true, if_false, Int.toNat_zero, Int.toNat_one, ns0, ns4, List.length_append, List.length_replicate, List.length_cons, List.length_nil, he]
  refine ⟨⟨by omega, by omega⟩, fun h => ⟨by omega, ?_⟩, fun h => ?_⟩
  · have e := loop26c t n s l X E i hi hn x he hx hs H (j + 1) (by omega)
    rw [rep_succ, ← List.append_assoc] at e
    rw [w64 (a := (j : Int) + 1) (by omega) (by omega)]
    exact e
  · have e := whN_take n i 0 hi
    have ej : (n.getD i 0).toNat = j := by omega
    rw [ej, Int.zero_add] at e
    rw [e] at H
    exact H
termination_by (x - j).toNat
theorem loop26b (t n s l) (X : VT) (E : Int) (hn : n.length ≤ 1073741824) (h0 : ∀ x ∈ n, 0 ≤ x) (H1 : whB n 0 = true → X = v0 ∧ E = 6) (H2 : whB n 0 = false → X = .mk 2 (whN n 0) [] [] ∧ E = 0) (i : Nat) (h1 : i ≤ n.length) (hs : ((whN (n.take i) 0).length : Int) ≤ 65536) (hd : whB n 0 = whB (n.drop i) (whN (n.take i) 0).length) :
    Rh w26xS (Ret (.tup [vcl X, .int .i64 E])) (11, [.int (whN (n.take i) 0).length, .int i, .int t, .is n, .ss s, .vs l, .is (whN (n.take i) 0)]) := by
  refine Rh.go (w26x_11 _ i t n s l _ _) ?_
  simp only [o_add, o_sub, o_mul, o_neg, o_conv, o_lt, o_le, o_eq, o_not, o_and, o_or, o_sel, o_isel, o_ssel, o_beq, o_seq, o_slt, o_slen, o_sat, o_scut, o_sadd, o_ilen, o_blen, o_vlen, o_rlen, o_iget, o_bget, o_vget, o_rget, o_iset, o_bset, o_vset, o_iapp, o_bapp, o_vapp, o_rapp, o_icut, o_bcut, o_vcut, o_irep, o_vt, o_vn, o_vs, o_vl, o_imax, o_imin, o_inb, o_sfit, o_cutb, o_fit, o_mkfit, RhQ, decT, decF, true_and, and_true, eq_self, implies_true, forall_const, Bool.not_eq_true', Bool.not_eq_false', Bool.not_true, Bool.not_false, Bool.and_eq_true, Bool.or_eq_true, Bool.and_eq_false_iff, Bool.or_eq_false_iff, Bool.true_and, Bool.and_true, Bool.false_and, Bool.and_false, Bool.or_false, Bool.false_or, Bool.true_or, Bool.or_true, Int.toNat_natCast, VT.eta, not_true, not_false_iff, false_implies, if_true, if_false, Int.toNat_zero, Int.toNat_one, ns0, ns4]
  refine ⟨fun h => ⟨⟨by omega, by omega⟩, fun h2 => ?_, fun h2 => ?_⟩, fun h => ?_⟩
  · rw [w64 (by omega) (by omega)] at h2
    rw [drop_at n 0 (show i < n.length by omega), whB, if_pos h2] at hd
    obtain ⟨rfl, rfl⟩ := H1 hd
    exact rfl
  · rw [w64 (by omega) (by omega)] at h2
    have hi : i < n.length := by omega
    have hx := h0 _ (getD_mem n 0 (i := i) (by omega))
    rw [drop_at n 0 hi, whB, if_neg h2] at hd
    have el : ((whN (n.take (i + 1)) 0).length : Int) = ((whN (n.take i) 0).length : Int) + n.getD i 0 := by
      rw [whN_take n i 0 hi, List.length_append, List.length_replicate]; omega
    refine ⟨⟨by omega, by omega⟩, ?_⟩
    rw [w64 (by omega) (by omega)]
    have e := loop26b t n s l X E hn h0 H1 H2 (i + 1) (by omega) (by omega) (by rw [el]; exact hd)
    have r := loop26c t n s l X E i hi hn _ rfl hx (by omega) (by rw [inc (mlen hn) (by omega), ← el]; exact e) 0 (by omega)
    simp only [List.replicate_zero, List.append_nil] at r
    exact r
  · rw [List.take_of_length_le (by omega)]
    rw [List.drop_of_length_le (by omega), whB] at hd
    obtain ⟨rfl, rfl⟩ := H2 hd
    exact rfl
termination_by n.length - i
theorem whV_no {v : VT} (hk : ¬ whT v) : whV v = v0 ∧ whE v = 31 := by unfold whV whE; rw [if_neg hk, if_neg hk]; exact ⟨rfl, rfl⟩
theorem whV_arg {v : VT} (hk : whT v) (h : 0 ≤ negIdx v.n 0) : whV v = v0 ∧ whE v = 2 := by unfold whV whE; rw [if_pos hk, if_pos hk, if_pos h, if_pos h]; exact ⟨rfl, rfl⟩
theorem whV_many {v : VT} (hk : whT v) (h : negIdx v.n 0 = -1) (hb : whB v.n 0 = true) : whV v = v0 ∧ whE v = 6 := by
  have h' : ¬ 0 ≤ negIdx v.n 0 := by omega
  unfold whV whE; rw [if_pos hk, if_pos hk, if_neg h', if_neg h', if_pos hb, if_pos hb]; exact ⟨rfl, rfl⟩
theorem whV_ok {v : VT} (hk : whT v) (h : negIdx v.n 0 = -1) (hb : whB v.n 0 = false) : whV v = .mk 2 (whN v.n 0) [] [] ∧ whE v = 0 := by
  have h' : ¬ 0 ≤ negIdx v.n 0 := by omega
  have hb' : ¬ whB v.n 0 = true := by rw [hb]; simp
  unfold whV whE; rw [if_pos hk, if_pos hk, if_neg h', if_neg h', if_neg hb', if_neg hb']; exact ⟨rfl, rfl⟩
theorem ok26x : Pure1 Tryz.prog 26 spWhere := by
  intro xs F w cs R ha h
  obtain ⟨x, a, rfl, h1, h⟩ := onV_inv h
  obtain ⟨ht, h⟩ := when_inv h
  have ha := ha.conv1 (fun v => as_V h1)
  obtain ⟨t, n, s, l⟩ := a
  refine contract (fn := Tryz.f26) w0 (by kernel_rfl) w26xC_ok (by rfl) (by rfl) (by rfl) (by rfl) (by rfl) ha (ρ := [.int t, .is n, .ss s, .vs l]) (Rh.go (w26x_9999 t n s l _) ?_) h
  simp only [o_add, o_sub, o_mul, o_neg, o_conv, o_lt, o_le, o_eq, o_not, o_and, o_or, o_sel, o_isel, o_ssel, o_beq, o_seq, o_slt, o_slen, o_sat, o_scut, o_sadd, o_ilen, o_blen, o_vlen, o_rlen, o_iget, o_bget, o_vget, o_rget, o_iset, o_bset, o_vset, o_iapp, o_bapp, o_vapp, o_rapp, o_icut, o_bcut, o_vcut, o_irep, o_vt, o_vn, o_vs, o_vl, o_imax, o_imin, o_inb, o_sfit, o_cutb, o_fit, o_mkfit, RhQ, decT, decF, true_and, and_true, eq_self, implies_true, forall_const, Bool.not_eq_true', Bool.not_eq_false', Bool.not_true, Bool.not_false, Bool.and_eq_true, Bool.or_eq_true, Bool.and_eq_false_iff, Bool.or_eq_false_iff, Bool.true_and, Bool.and_true, Bool.false_and, Bool.and_false, Bool.or_false, Bool.false_or, Bool.true_or, Bool.or_true, Int.toNat_natCast, VT.eta, not_true, not_false_iff, false_implies, if_true, if_false, Int.toNat_zero, Int.toNat_one, ns0, ns4]
  have hw : whT (.mk t n s l) ↔ t = 1 ∨ t = 2 := Iff.rfl
  by_cases hk : whT (.mk t n s l)
  · have hk' := hw.1 hk
    have ht : tame (.mk t n s l) := ht (wh_fl hk)
    refine ⟨fun hh => by omega, fun _ => ?_⟩
    refine loop26a t n s l _ _ ht.n (fun hh => ?_) (fun hh => whV_arg hk hh) 0 (by omega) rfl
    exact loop26b t n s l _ _ ht.n (negIdx_all n 0 (by omega) hh) (fun hb => whV_many hk hh hb) (fun hb => whV_ok hk hh hb) 0 (by omega) (by simp [whN]) rfl
  · obtain ⟨y1, y2⟩ := whV_no hk
    rw [y1, y2]
    rw [hw] at hk
    exact ⟨fun _ => rfl, fun hh => by omega⟩
end Go.Qv
/- Operations on one value: the document's Cast. No condition. -/
set_option linter.unusedVariables false
set_option linter.unusedSimpArgs false
set_option maxRecDepth 100000
namespace Go.Qv
open Go Go.RowKit Go.Proofs
theorem casN_take (t f : Int) (n : List Int) {i : Nat} (h : i < n.length) : casN t f (n.take (i + 1)) = casN t f (n.take i) ++ [casI t f (n.getD i 0)] := mapI_take _ n h
theorem casN_len (t f : Int) (n : List Int) : (casN t f n).length = n.length := by simp [casN]
theorem casB_cons (t f x : Int) (l : List Int) : casB t f (x :: l) true = (casO t f x && casB t f l true) := by simp [casB]
theorem casI_1 {f x : Int} : casI 1 f x = if x ≠ 0 ∧ x ≠ -9223372036854775808 then 1 else 0 := by unfold casI; rw [if_pos rfl]
theorem casO_1 {f x : Int} : casO 1 f x = true := by unfold casO; rw [if_pos rfl]
theorem casI_s {t f x : Int} (h : t ≠ 1) (h2 : x = -9223372036854775808 ∨ f = t) : casI t f x = x ∧ casO t f x = true := by unfold casI casO; rw [if_neg h, if_pos h2, if_neg h, if_pos h2]; exact ⟨rfl, rfl⟩
theorem casI_up {f x : Int} (h2 : ¬ (x = -9223372036854775808 ∨ f = 5)) : casI 5 f x = scN x 10000 1 ∧ casO 5 f x = scB x 10000 1 := by unfold casI casO; rw [if_neg (by omega), if_neg h2, if_pos rfl, if_neg (by omega), if_neg h2, if_pos rfl]; exact ⟨rfl, rfl⟩
theorem casI_dn {t x : Int} (h : t ≠ 1) (h5 : t ≠ 5) (h2 : ¬ (x = -9223372036854775808 ∨ 5 = t)) : casI t 5 x = scN x 1 10000 ∧ casO t 5 x = scB x 1 10000 := by unfold casI casO; rw [if_neg h, if_neg h2, if_neg h5, if_pos rfl, if_neg h, if_neg h2, if_neg h5, if_pos rfl]; exact ⟨rfl, rfl⟩
theorem casI_e {t f x : Int} (h : t ≠ 1) (h5 : t ≠ 5) (h2 : ¬ (x = -9223372036854775808 ∨ f = t)) (h6 : f ≠ 5) : casI t f x = x ∧ casO t f x = true := by unfold casI casO; rw [if_neg h, if_neg h2, if_neg h5, if_neg h6, if_neg h, if_neg h2, if_neg h5, if_neg h6]; exact ⟨rfl, rfl⟩
theorem up_ok {x : Int} (h : isI x) : scOk x 10000 1 := ⟨h, .inl ⟨rfl, rfl⟩⟩
theorem dn_ok {x : Int} (h : isI x) : scOk x 1 10000 := ⟨h, .inr ⟨rfl, rfl⟩⟩
theorem loop28 (t f : Int) (t0 n s l) (T : Int) (X : VT) (E : Int) (hn : n.length ≤ 1073741824) (hb : f = 1 → ∀ x ∈ n, x ≠ -9223372036854775808) (hi : ∀ x ∈ n, isI x) (H1 : casB t f n true = true → X = .mk T (casN t f n) [] [] ∧ E = 0) (H2 : casB t f n true = false → X = v0 ∧ E = 70) (i : Nat) (h1 : i ≤ n.length) (hd : casB t f n true = casB t f (n.drop i) true) :
    Rh w28xS (Ret (.tup [vcl X, .int .i64 E])) (10, [.int t, .int f, .int i, .int t0, .is n, .ss s, .vs l, .int T, .is (casN t f (n.take i))]) := by
  refine Rh.go (w28x_10 t f i t0 n s l T _ _) ?_
  simp only [o_add, o_sub, o_mul, o_neg, o_conv, o_lt, o_le, o_eq, o_not, o_and, o_or, o_sel, o_isel, o_ssel, o_beq, o_seq, o_slt, o_slen, o_sat, o_scut, o_sadd, o_ilen, o_blen, o_vlen, o_rlen, o_iget, o_bget, o_vget, o_rget, o_iset, o_bset, o_vset, o_iapp, o_bapp, o_vapp, o_rapp, o_icut, o_bcut, o_vcut, o_irep, o_vt, o_vn, o_vs, o_vl, o_imax, o_imin, o_inb, o_sfit, o_cutb, o_fit, o_mkfit, RhQ, decT, decF, true_and, and_true, eq_self, implies_true, forall_const, Bool.not_eq_true', Bool.not_eq_false', Bool.not_true, Bool.not_false, Bool.and_eq_true, Bool.or_eq_true, Bool.and_eq_false_iff, Bool.or_eq_false_iff, Bool.true_and, Bool.and_true, Bool.false_and, Bool.and_false, Bool.or_false, Bool.false_or, Bool.true_or, Bool.or_true, Int.toNat_natCast, VT.eta, not_true, not_false_iff, false_implies, if_true, if_false, Int.toNat_zero, Int.toNat_one, ns0, ns4, casN_len, List.length_take, List.length_cons, List.length_nil, null63]
  refine ⟨fun h => ⟨⟨by omega, by omega⟩, ?_⟩, fun h => ?_⟩
  · have hx := getD_mem n 0 (i := i) (by omega)
    have hxi := hi _ hx
    have e := fun hc => loop28 t f t0 n s l T X E hn hb hi H1 H2 (i + 1) (by omega) hc
    rw [drop_at n 0 (show i < n.length by omega), casB_cons] at hd
    rw [casN_take t f n (by omega)] at e
    rw [inc (mlen hn) (by omega)]
    have e1 : casO t f (n.getD i 0) = true → Rh w28xS (Ret (.tup [vcl X, .int .i64 E])) (10, [.int t, .int f, .int ((i + 1 : Nat) : Int), .int t0, .is n, .ss s, .vs l, .int T, .is (casN t f (n.take i) ++ [casI t f (n.getD i 0)])]) := fun ho => e (by rw [hd, ho, Bool.true_and])
    have e2 : casO t f (n.getD i 0) = false → X = v0 ∧ E = 70 := fun ho => H2 (by rw [hd, ho, Bool.false_and])
    have hb' := fun h => hb h _ hx
    clear e hd H1 H2 hx
    generalize n.getD i 0 = x at *
    have fit : ((min i n.length : Nat) : Int) * 1 = (min i n.length : Nat) := by omega
    refine ⟨fun ht => ?_, fun ht => ⟨fun h2 => ?_, fun h2 => ⟨fun h5 => ?_, fun h5 => ⟨fun h6 => ?_, fun h6 => ?_⟩⟩⟩⟩
    · subst ht
      have e1 := e1 casO_1
      rw [casI_1] at e1
      refine ⟨fun hc => ⟨by omega, ?_⟩, fun hc => ⟨by omega, ?_⟩⟩
      · rw [if_pos ⟨hc.1, fun hh => hc.2.elim (fun h3 => h3 hh) (fun h3 => hb' h3 hh)⟩] at e1; exact e1
      · rw [if_neg (by omega)] at e1; exact e1
    · obtain ⟨c1, c2⟩ := casI_s ht h2
      rw [c1] at e1
      exact ⟨by omega, e1 c2⟩
    · subst h5
      obtain ⟨c1, c2⟩ := casI_up (f := f) (x := x) (by omega)
      rw [c1, c2] at e1
      rw [c2] at e2
      refine ⟨⟨up_ok hxi, rfl⟩, fun hc => ?_, fun hc => ⟨by omega, e1 hc⟩⟩
      obtain ⟨rfl, rfl⟩ := e2 hc
      exact rfl
    · subst h6
      obtain ⟨c1, c2⟩ := casI_dn (t := t) (x := x) ht h5 (by omega)
      rw [c1, c2] at e1
      rw [c2] at e2
      refine ⟨⟨dn_ok hxi, rfl⟩, fun hc => ?_, fun hc => ⟨by omega, e1 hc⟩⟩
      obtain ⟨rfl, rfl⟩ := e2 hc
      exact rfl
    · obtain ⟨c1, c2⟩ := casI_e (t := t) (f := f) (x := x) ht h5 (by omega) h6
      rw [c1] at e1
      exact ⟨by omega, e1 c2⟩
  · rw [List.drop_of_length_le (by omega)] at hd
    obtain ⟨rfl, rfl⟩ := H1 (by rw [hd]; rfl)
    rw [List.take_of_length_le (by omega)]; exact rfl
termination_by n.length - i
theorem castV_arg {t : Int} {v : VT} (h : ¬ casT t) : castV t v = v0 ∧ castE t v = 2 := by unfold castV castE; rw [if_neg h, if_neg h]; exact ⟨rfl, rfl⟩
theorem castV_type {t : Int} {v : VT} (h : casT t) (hv : ¬ numT v.t) : castV t v = v0 ∧ castE t v = 31 := by unfold castV castE; rw [if_pos h, if_pos h, if_neg hv, if_neg hv]; exact ⟨rfl, rfl⟩
theorem castV_ok {t : Int} {v : VT} (h : casT t) (hv : numT v.t) (hb : casB t (absT v.t) v.n true = true) : castV t v = .mk (sgT v.t t) (casN t (absT v.t) v.n) [] [] ∧ castE t v = 0 := by unfold castV castE; rw [if_pos h, if_pos h, if_pos hv, if_pos hv, if_pos hb, if_pos hb]; exact ⟨rfl, rfl⟩
theorem castV_over {t : Int} {v : VT} (h : casT t) (hv : numT v.t) (hb : casB t (absT v.t) v.n true = false) : castV t v = v0 ∧ castE t v = 70 := by
  have hb' : ¬ casB t (absT v.t) v.n true = true := by rw [hb]; simp
  unfold castV castE; rw [if_pos h, if_pos h, if_pos hv, if_pos hv, if_neg hb', if_neg hb']; exact ⟨rfl, rfl⟩
theorem castOk_abs {t : Int} {n s l} (hc : castOk (.mk t n s l)) : absT t = 1 → ∀ x ∈ n, x ≠ -9223372036854775808 := fun h => hc.2.2 (by show t = 1 ∨ t = -1; unfold absT at h; split at h <;> omega)
theorem negW {t : Int} (h : casT t) : IntKind.i64.wrap (0 - t) = -t := by rcases h with rfl | rfl | rfl | rfl <;> rfl
theorem ok28x : Pure1 Tryz.prog 28 spCast := by
  intro xs F w cs R ha h
  unfold spCast at h
  split at h
  · rename_i t x
    split at h
    · rename_i v h1
      obtain ⟨hc, h⟩ := when_inv h
      have ha := ha.conv2 (fun v h => h) (fun v => as_V h1)
      obtain ⟨t0, n, s, l⟩ := v
      refine contract (fn := Tryz.f28) (walked (PureOk.also ok63x (PureOk.none _)) 14) (by kernel_rfl) w28xC_ok (by rfl) (by rfl) (by rfl) (by rfl) (by rfl) ha (ρ := [.int t, .int t0, .is n, .ss s, .vs l]) (Rh.go (w28x_9999 t t0 n s l _) ?_) h
      simp only [o_add, o_sub, o_mul, o_neg, o_conv, o_lt, o_le, o_eq, o_not, o_and, o_or, o_sel, o_isel, o_ssel, o_beq, o_seq, o_slt, o_slen, o_sat, o_scut, o_sadd, o_ilen, o_blen, o_vlen, o_rlen, o_iget, o_bget, o_vget, o_rget, o_iset, o_bset, o_vset, o_iapp, o_bapp, o_vapp, o_rapp, o_icut, o_bcut, o_vcut, o_irep, o_vt, o_vn, o_vs, o_vl, o_imax, o_imin, o_inb, o_sfit, o_cutb, o_fit, o_mkfit, RhQ, decT, decF, true_and, and_true, eq_self, implies_true, forall_const, Bool.not_eq_true', Bool.not_eq_false', Bool.not_true, Bool.not_false, Bool.and_eq_true, Bool.or_eq_true, Bool.and_eq_false_iff, Bool.or_eq_false_iff, Bool.true_and, Bool.and_true, Bool.false_and, Bool.and_false, Bool.or_false, Bool.false_or, Bool.true_or, Bool.or_true, Int.toNat_natCast, VT.eta, not_true, not_false_iff, false_implies, if_true, if_false, Int.toNat_zero, Int.toNat_one, ns0, ns4]
      by_cases ht : casT t
      · have ht' : t = 1 ∨ t = 2 ∨ t = 4 ∨ t = 5 := ht
        refine ⟨fun hh => by omega, fun _ => ?_⟩
        by_cases hk : numT t0
        · have hct : tame (.mk t0 n s l) := hc.1 (num_fl hk)
          have hl := fun T X E H1 H2 => loop28 t (absT t0) t0 n s l T X E hct.n (castOk_abs hc) hc.2.1 H1 H2 0 (by omega) rfl
          have hY := fun hb => castV_ok (t := t) (v := .mk t0 n s l) ht hk hb
          have hN := fun hb => castV_over (t := t) (v := .mk t0 n s l) ht hk hb
          have hL := hl _ (castV t (.mk t0 n s l)) (castE t (.mk t0 n s l)) hY hN
          have e0 : casN t (absT t0) (n.take 0) = [] := rfl
          rw [e0] at hL
          rw [negW ht]
          clear hY hN hl
          rcases hk with rfl | rfl | rfl | rfl | rfl | rfl | rfl | rfl
          all_goals
            refine ⟨fun hh => absurd hh (by decide), fun _ => ⟨fun hh => ?_, fun hh => ?_⟩⟩
            all_goals first | exact absurd hh (by decide) | exact hL
        · obtain ⟨y1, y2⟩ := castV_type (v := .mk t0 n s l) ht hk
          rw [y1, y2]
          unfold numT at hk
          refine ⟨fun _ => rfl, fun hh => absurd hh ?_⟩
          by_cases hq : t0 = -3 ∨ t0 = 0 ∨ t0 = 3
          · rcases hq with rfl | rfl | rfl <;> decide
          · intro hh; have := hh.1; omega
      · obtain ⟨y1, y2⟩ := castV_arg (v := .mk t0 n s l) ht
        rw [y1, y2]
        unfold casT at ht
        exact ⟨fun _ => rfl, fun hh => by omega⟩
    · exact h.elim
  · exact h.elim
end Go.Qv
