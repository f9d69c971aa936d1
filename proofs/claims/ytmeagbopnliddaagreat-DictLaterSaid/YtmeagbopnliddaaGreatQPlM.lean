/- Contracts: sizes, places, elements at places. No condition. -/
import Derived.Test.YtmeagbopnliddaaGreatQWd
set_option linter.unusedVariables false
set_option linter.unusedSimpArgs false
set_option maxRecDepth 100000
namespace Go.Qv
open Go Go.RowKit Go.Proofs

/-! ### quiverlaw07.size, right -/
/-! ### nulls -/
theorem null63 : Int.negSucc 9223372036854775807 = -9223372036854775808 := rfl
theorem ns2 : Int.negSucc 2 = -3 := rfl
theorem ok56 : Pure1 Tryz.prog 56 sp56 := by
  intro xs F w cs R ha h
  obtain ⟨t, rfl, h⟩ := onInt_inv h
  refine contract (fn := Tryz.f56) (walked (PureOk.also ok112 (PureOk.also ok97 (PureOk.also ok95 (PureOk.none _)))) 14) (by kernel_rfl) w56C_ok (by rfl) (by rfl) (by rfl) (by rfl) (by rfl) ha (ρ := [.int t]) (Rh.go (w56_9999 t _) ?_) h
  simp only [SQ, RhQ, eq_self, implies_true, forall_const, VT.eta, if_true, if_false, null63, ns2]
  unfold nullV
  refine ⟨fun h => Ret.v (if_pos h) rfl, fun h => ⟨fun h2 => Ret.v (by rw [if_neg h, if_pos h2]) rfl, fun h2 => by rw [if_neg h, if_neg h2]; exact rfl⟩⟩
/-! ### vec.Til -/
theorem whenE_inv {p : Prop} {t : T Eff} {Q : Eff → Prop} (h : (whenE p t).sat Q) : p ∧ t.sat Q := h
/-! ### slices.Reverse -/
end Go.Qv
/- Contracts: elements at places; what is turned round, taken, dropped, indexed. No condition. -/
set_option linter.unusedVariables false
set_option linter.unusedSimpArgs false
set_option maxRecDepth 100000
namespace Go.Qv
open Go Go.RowKit Go.Proofs

theorem pk_out {v : VT} {x : Int} (h : ¬ (0 ≤ x ∧ x < rCount v)) : at1V v x = .mk 0 [] [] [] ∧ at1E v x = 33 ∧ pkN v x = (nullV v.t).n ∧ pkS v x = (nullV v.t).s := by
  have hh : x < 0 ∨ rCount v ≤ x := by omega
  refine ⟨at1_no hh, at1E_no hh, ?_, ?_⟩
  · unfold pkN; rw [at1E_no hh]; rfl
  · unfold pkS; rw [at1E_no hh]; rfl
theorem pk_in {t n s l} (h1 : 1 ≤ t ∧ t ≤ 5) {x : Int} (hi : 0 ≤ x ∧ x < rCount (.mk t n s l)) : (t = 3 → pkN (.mk t n s l) x = [] ∧ pkS (.mk t n s l) x = [s.getD x.toNat ⟨#[]⟩]) ∧ (t ≠ 3 → pkN (.mk t n s l) x = [n.getD x.toNat 0] ∧ pkS (.mk t n s l) x = []) := by
  obtain ⟨a, b, c⟩ := vec_in (n := n) (s := s) (l := l) h1 hi
  unfold pkN pkS
  rw [a]
  exact ⟨b, c⟩
section
variable {t : Int} {n : List Int} {s : List ByteArray} {l : List VT} {a : List Int}
theorem pick_vec (ht : t ≠ 0) : pickV (.mk t n s l) a = .mk t (a.flatMap (pkN (.mk t n s l))) (a.flatMap (pkS (.mk t n s l))) [] := by
  unfold pickV; rw [if_neg (show ¬ (VT.mk t n s l).t = 0 from ht)]; rfl
theorem N_len (ht : 1 ≤ t ∧ t ≤ 5) (i : Nat) : ((a.take i).flatMap (pkN (.mk t n s l))).length ≤ a.length := by
  have := flat1 (pkN (.mk t n s l)) (fun x => pkN_len (.mk t n s l) ht x) (a.take i)
  rw [List.length_take] at this; omega
theorem S_len (ht : 1 ≤ t ∧ t ≤ 5) (i : Nat) : ((a.take i).flatMap (pkS (.mk t n s l))).length ≤ a.length := by
  have := flat1 (pkS (.mk t n s l)) (fun x => pkS_len (.mk t n s l) ht x) (a.take i)
  rw [List.length_take] at this; omega
end
attribute [local irreducible] pickOk partP flat9 tilOk cntOk tames tame
/-! ### vec.pick -/
theorem loop93l (n s l) (a : List Int) (hp : pickOk (.mk 0 n s l) a) (hal : a.length ≤ 536870912) (hta : tames (a.map (at1V (.mk 0 n s l)))) (i : Nat) (hi : i ≤ a.length) :
    Rh w93S (Ret (vcl (pickV (.mk 0 n s l) a))) (4, [.is a, .int a.length, .int i, .int 0, .is n, .ss s, .vs l, .int 0, .vs ((a.take i).map (at1V (.mk 0 n s l))), .ss [], .is []]) := by
  refine Rh.go (w93_4 a a.length i 0 n s l 0 _ _ _ _) ?_
  have key : i < a.length → Rh w93S (Ret (vcl (pickV (.mk 0 n s l) a))) (4, [.is a, .int a.length, .int (i + 1 : Nat), .int 0, .is n, .ss s, .vs l, .int 0, .vs ((a.take i).map (at1V (.mk 0 n s l)) ++ [at1V (.mk 0 n s l) (a.getD i 0)]), .ss [], .is []]) := fun h => by
    have e := loop93l n s l a hp hal hta (i + 1) (by omega)
    rw [map_take _ a 0 h] at e
    exact e
  simp only [SQ, RhQ, eq_self, implies_true, forall_const, VT.eta, if_true, if_false, List.length_map, List.length_take, List.length_cons, List.length_nil]
  have m1 := mlen (show a.length ≤ 1073741824 by omega)
  refine ⟨fun h => ?_, fun h => ?_⟩
  · have hh : i < a.length := by omega
    have e := key hh
    rw [inc m1 hh]
    by_cases hin : 0 ≤ a.getD i 0 ∧ a.getD i 0 < rCount (.mk 0 n s l)
    · have x1 : at1V (.mk 0 n s l) (a.getD i 0) = l.getD (a.getD i 0).toNat default := by rw [at1_yes (by omega), at0_l]
      rw [x1] at e
      rw [cnt_l] at hin ⊢
      exact ⟨⟨by omega, by omega⟩, fun _ => ⟨hin, by omega, e⟩, fun hh => by exfalso; first | omega | exact hh hin | exact absurd (hh hin.1) (by omega) | (rcases hh with hh | hh <;> omega)⟩
    · rw [(pk_out hin).1] at e
      exact ⟨⟨by omega, by omega⟩, fun hh => absurd hh hin, fun hh => ⟨by omega, e⟩⟩
  · rw [List.take_of_length_le (by omega)]
    exact ⟨hta, rfl⟩
termination_by a.length - i
theorem loop93v (t n s l) (ht : 1 ≤ t ∧ t ≤ 5) (a : List Int) (hal : a.length ≤ 536870912) (i : Nat) (hi : i ≤ a.length) :
    Rh w93S (Ret (vcl (pickV (.mk t n s l) a))) (4, [.is a, .int a.length, .int i, .int t, .is n, .ss s, .vs l, .int t, .vs [], .ss ((a.take i).flatMap (pkS (.mk t n s l))), .is ((a.take i).flatMap (pkN (.mk t n s l)))]) := by
  refine Rh.go (w93_4 a a.length i t n s l t _ _ _ _) ?_
  have key : i < a.length → Rh w93S (Ret (vcl (pickV (.mk t n s l) a))) (4, [.is a, .int a.length, .int (i + 1 : Nat), .int t, .is n, .ss s, .vs l, .int t, .vs [], .ss ((a.take i).flatMap (pkS (.mk t n s l)) ++ pkS (.mk t n s l) (a.getD i 0)), .is ((a.take i).flatMap (pkN (.mk t n s l)) ++ pkN (.mk t n s l) (a.getD i 0))]) := fun h => by
    have e := loop93v t n s l ht a hal (i + 1) (by omega)
    rw [flatI_take _ a h, flatI_take _ a h] at e
    exact e
  simp only [SQ, RhQ, eq_self, implies_true, forall_const, VT.eta, if_true, if_false, List.length_cons, List.length_nil]
  have m1 := mlen (show a.length ≤ 1073741824 by omega)
  have b1 := N_len (a := a) (n := n) (s := s) (l := l) ht i
  have b2 := S_len (a := a) (n := n) (s := s) (l := l) ht i
  have z1 := null_n t
  have z2 := null_s t
  refine ⟨fun h => ?_, fun h => ?_⟩
  · have hh : i < a.length := by omega
    have e := key hh
    rw [inc m1 hh]
    by_cases hin : 0 ≤ a.getD i 0 ∧ a.getD i 0 < rCount (.mk t n s l)
    · obtain ⟨p1, p2⟩ := pk_in (n := n) (s := s) (l := l) ht hin
      by_cases h3 : t = 3
      · obtain ⟨q1, q2⟩ := p1 h3
        rw [q1, q2, List.append_nil] at e
        have hc : rCount (.mk t n s l) = s.length := by subst h3; exact cnt_s
        rw [hc] at hin ⊢
        repeat' (first | apply And.intro | intro _)
        all_goals first | omega | (exfalso; omega) | exact e
      · obtain ⟨q1, q2⟩ := p2 h3
        rw [q1, q2, List.append_nil] at e
        have hc : rCount (.mk t n s l) = n.length := cnt_n h3 ht
        rw [hc] at hin ⊢
        repeat' (first | apply And.intro | intro _)
        all_goals first | omega | (exfalso; omega) | exact e
    · obtain ⟨_, _, q1, q2⟩ := pk_out hin
      rw [q1, q2] at e
      have e : Rh w93S (Ret (vcl (pickV (.mk t n s l) a))) (4, [.is a, .int a.length, .int (i + 1 : Nat), .int t, .is n, .ss s, .vs l, .int t, .vs [], .ss ((a.take i).flatMap (pkS (.mk t n s l)) ++ (nullV t).s), .is ((a.take i).flatMap (pkN (.mk t n s l)) ++ (nullV t).n)]) := e
      repeat' (first | apply And.intro | intro _)
      all_goals first | omega | (exfalso; omega) | exact e
  · rw [List.take_of_length_le (by omega), pick_vec (by omega)]
    exact ⟨fun h0 => by omega, fun _ => rfl⟩
termination_by a.length - i
theorem pickOk_u {v : VT} {a : List Int} (h : pickOk v a) (hh : 0 ≤ v.t ∧ v.t ≤ 5) : a.length ≤ 536870912 ∧ (v.t = 0 → tames (a.map (at1V v))) := by unfold pickOk at h; exact h hh
theorem partP_u {v : VT} (h : partP v) : 0 ≤ v.t ∧ v.t ≤ 5 := by unfold partP at h; exact h
theorem okP93 : PureOk Tryz.prog (PS.also 56 sp56 (PS.also 47 sp47f (PS.also 68 sp68 PS.none))) :=
  PureOk.also ok56 (PureOk.also ok47 (PureOk.also ok68 (PureOk.none _)))
theorem ok93 : Pure1 Tryz.prog 93 sp93 := by
  intro xs F w cs R ha h
  obtain ⟨x, y, v, a, rfl, h1, h2, h⟩ := onVI_inv h
  obtain ⟨ht, h⟩ := when_inv h
  obtain ⟨hpa, h⟩ := when_inv h
  obtain ⟨hp, h⟩ := when_inv h
  have ha := ha.conv2 (fun v => as_V h1) (fun v => as_I h2)
  obtain ⟨t, n, s, l⟩ := v
  have hpa := partP_u hpa
  obtain ⟨p1, p2⟩ := pickOk_u hp hpa
  have hpa : 0 ≤ t ∧ t ≤ 5 := hpa
  refine contract (fn := Tryz.f93) (walked okP93 14) (by kernel_rfl) w93C_ok (by rfl) (by rfl) (by rfl) (by rfl) (by rfl) ha (ρ := [.int t, .is n, .ss s, .vs l, .is a]) (Rh.go (w93_9999 t n s l a _) ?_) h
  simp only [SQ, RhQ, eq_self, implies_true, forall_const, VT.eta, if_true, if_false]
  by_cases h0 : t = 0
  · subst h0
    exact loop93l n s l a hp p1 (p2 rfl) 0 (by omega)
  · exact loop93v t n s l (by omega) a p1 0 (by omega)
/-! ### R.pick -/
end Go.Qv
/- Contracts: what is turned round, taken, dropped, indexed. No condition. -/
set_option linter.unusedVariables false
set_option linter.unusedSimpArgs false
set_option maxRecDepth 100000
namespace Go.Qv
open Go Go.RowKit Go.Proofs

section
variable {v : VT} {a : List Int} {n : Int}
theorem op_no (h : ¬ (0 ≤ v.t ∧ v.t ≤ 5)) : opV v a = .mk 0 [] [] [] ∧ opE v = 31 := by unfold opV opE; rw [if_neg (show ¬ partP v from h), if_neg (show ¬ partP v from h)]; exact ⟨rfl, rfl⟩
theorem op_yes (h : 0 ≤ v.t ∧ v.t ≤ 5) : opV v a = pickV v a ∧ opE v = 0 := by unfold opV opE; rw [if_pos (show partP v from h), if_pos (show partP v from h)]; exact ⟨rfl, rfl⟩
end
theorem op_ret {t n s l a} (h : ¬ (0 ≤ t ∧ t ≤ 5)) {E : Eff} (h1 : resE E = some (.tup [vcl (.mk 0 [] [] []), .int .i64 31])) : Ret (.tup [vcl (opV (.mk t n s l) a), .int .i64 (opE (.mk t n s l))]) E :=
  Ret.ve (op_no (v := .mk t n s l) (a := a) h).1 (op_no (v := .mk t n s l) (a := a) h).2 h1
/-! ### Index -/
theorem ok53 : Pure1 Tryz.prog 53 sp53 := by
  intro xs F w cs R ha h
  obtain ⟨x, y, v, a, rfl, h1, h2, h⟩ := onVI_inv h
  obtain ⟨ht, h⟩ := when_inv h
  obtain ⟨hc, h⟩ := when_inv h
  obtain ⟨hp, h⟩ := when_inv h
  have ha := ha.conv2 (fun v => as_V h1) (fun v => as_I h2)
  obtain ⟨t, n, s, l⟩ := v
  refine contract (fn := Tryz.f53) (walked (PureOk.also ok93 (PureOk.none _)) 14) (by kernel_rfl) w53C_ok (by rfl) (by rfl) (by rfl) (by rfl) (by rfl) ha (ρ := [.int t, .is n, .ss s, .vs l, .is a]) (Rh.go (w53_9999 t n s l a _) ?_) h
  simp only [SQ, RhQ, eq_self, implies_true, forall_const, VT.eta, if_true, if_false]
  refine ⟨fun h => op_ret (by omega) rfl, fun h => ?_⟩
  have hh : 0 ≤ t ∧ t ≤ 5 := by omega
  rw [(op_yes (v := .mk t n s l) (a := a) hh).1, (op_yes (v := .mk t n s l) (a := a) hh).2]
  exact ⟨ht, hh, hp, rfl⟩
/-! ### Reverse -/
/-! ### Take -/
/-! ### Drop -/
end Go.Qv
