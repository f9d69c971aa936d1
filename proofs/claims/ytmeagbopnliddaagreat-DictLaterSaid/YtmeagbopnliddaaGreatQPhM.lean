/- Contracts of the builders of values: copies, atoms, lists, elements, rows. No condition. -/
import Derived.Test.YtmeagbopnliddaaGreatQWc
set_option linter.unusedVariables false
set_option linter.unusedSimpArgs false
set_option maxRecDepth 100000
namespace Go.Qv
open Go Go.RowKit Go.Proofs

theorem mlen {n : Nat} (h : n ≤ 1073741824) : n ≤ maxLen := by unfold maxLen; omega
theorem Ret.v {x y : VT} (h : x = y) {E : Eff} (h1 : resE E = some (vcl y)) : Ret (vcl x) E := by subst h; exact h1
theorem Ret.ve {x y : VT} {a b : Int} (h : x = y) (h' : a = b) {E : Eff} (h1 : resE E = some (.tup [vcl y, .int .i64 b])) : Ret (.tup [vcl x, .int .i64 a]) E := by subst h; subst h'; exact h1
/-- An answer, or nil where the answer has no element. -/
def KN (c : LS) (y : AV) : Prop := y = .sl c ∨ (y = .nils ∧ c.len = 0 ∧ c.ok)
theorem PPost.kn {c : LS} {y : AV} (h : KN c y) {F : Nat → Prop} {w : World} {v' : Value} {F' : Nat → Prop} {w' : World} (p : PPost F w y v' F' w') : PPost F w (.sl c) v' F' w' := by
  rcases h with rfl | ⟨rfl, h0, hk⟩
  · exact p
  · obtain ⟨vr, a1, a2, a3, a4, a5, a6, a7, a8⟩ := p
    refine ⟨?_, a1, a2, a3, a4, a5, a6, a7, a8⟩
    cases vr
    exact .sl0 _ _ _ h0 hk
theorem kn_ret {c : LS} {E : Eff} (h : resE E = some (.sl c)) : ∃ y, resE E = some y ∧ KN c y := ⟨_, h, .inl rfl⟩
theorem kn_nil {c : LS} {E : Eff} (h : resE E = some .nils) (h0 : c.len = 0) (hk : c.ok) : ∃ y, resE E = some y ∧ KN c y := ⟨_, h, .inr ⟨rfl, h0, hk⟩⟩

/-! ### slices.Clone -/
theorem ok87 : Pure1 Tryz.prog 87 sp87 := by
  intro xs F w cs R ha h
  obtain ⟨x, a, rfl, h1, h⟩ := onI_inv h
  obtain ⟨hl, h⟩ := when_inv h
  have ha := ha.conv1 (fun v => as_I h1)
  refine contractS (fn := Tryz.f87) tbS_ok (walkedS (PureOk.none _) 14) (by kernel_rfl) w87C_ok (by rfl) (by rfl) (by rfl) (by rfl) (by rfl) ha (K := KN (.i .i64 a)) (ρ := [.is a]) (Rh.go (w87_9999 a _) ?_) (fun y hy v' F' w' p => h v' F' w' (p.kn hy))
  simp only [SQ, RhQ, eq_self, implies_true, forall_const, VT.eta, if_true, if_false, List.nil_append]
  exact ⟨fun h => kn_nil rfl (by simp only [LS.len]; omega) (by have : a = [] := List.length_eq_zero_iff.1 (by omega); subst this; simp [LS.ok]), by omega, kn_ret rfl⟩
theorem ok88 : Pure1 Tryz.prog 88 sp88 := by
  intro xs F w cs R ha h
  obtain ⟨x, a, rfl, h1, h⟩ := onSs_inv h
  obtain ⟨hl, h⟩ := when_inv h
  have ha := ha.conv1 (fun v => as_S h1)
  refine contractS (fn := Tryz.f88) tbS_ok (walkedS (PureOk.none _) 14) (by kernel_rfl) w88C_ok (by rfl) (by rfl) (by rfl) (by rfl) (by rfl) ha (K := KN (.s a)) (ρ := [.ss a]) (Rh.go (w88_9999 a _) ?_) (fun y hy v' F' w' p => h v' F' w' (p.kn hy))
  simp only [SQ, RhQ, eq_self, implies_true, forall_const, VT.eta, if_true, if_false, List.nil_append]
  exact ⟨fun h => kn_nil rfl (by simp only [LS.len]; omega) (by have : a = [] := List.length_eq_zero_iff.1 (by omega); subst this; simp [LS.ok]), by omega, kn_ret rfl⟩
theorem ok89 : Pure1 Tryz.prog 89 sp89 := by
  intro xs F w cs R ha h
  obtain ⟨x, a, rfl, h1, h⟩ := onVs_inv h
  obtain ⟨hl, h⟩ := when_inv h
  have ha := ha.conv1 (fun v => as_Vs h1)
  refine contractS (fn := Tryz.f89) tbS_ok (walkedS (PureOk.none _) 14) (by kernel_rfl) w89C_ok (by rfl) (by rfl) (by rfl) (by rfl) (by rfl) ha (K := KN (.v a)) (ρ := [.vs a]) (Rh.go (w89_9999 a _) ?_) (fun y hy v' F' w' p => h v' F' w' (p.kn hy))
  simp only [SQ, RhQ, eq_self, implies_true, forall_const, VT.eta, if_true, if_false, List.nil_append]
  exact ⟨fun h => kn_nil rfl (by simp only [LS.len]; omega) (by have : a = [] := List.length_eq_zero_iff.1 (by omega); subst this; simp [LS.ok]), by omega, kn_ret rfl⟩

/-! ### atoms -/
theorem okAB2 : PureOk Tryz.prog (PS.also 112 spAbs (PS.also 97 spAbs PS.none)) := PureOk.also ok112 (PureOk.also ok97 (PureOk.none _))
theorem ok95 : Pure1 Tryz.prog 95 sp95 := by
  intro xs F w cs R ha h
  obtain ⟨t, n, rfl, h⟩ := onInt2_inv h
  refine contract (fn := Tryz.f95) (walked okAB2 14) (by kernel_rfl) w95C_ok (by rfl) (by rfl) (by rfl) (by rfl) (by rfl) ha (ρ := [.int t, .int n]) (Rh.go (w95_9999 t n _) ?_) h
  simp only [SQ, RhQ, eq_self, implies_true, forall_const, VT.eta, if_true, if_false]
  unfold atomV
  refine ⟨fun h => Ret.v (if_pos (by omega)) rfl, fun h => Ret.v (by rw [if_neg (by omega), w64 (by omega) (by omega), Int.zero_sub]) (y := .mk (IntKind.i64.wrap (0 - rAbs t)) [n] [] []) rfl⟩
theorem ok70 : Pure1 Tryz.prog 70 sp70 := by
  intro xs F w cs R ha h
  obtain ⟨t, n, rfl, h⟩ := onInt2_inv h
  refine contract (fn := Tryz.f70) (walked okAB2 14) (by kernel_rfl) w70C_ok (by rfl) (by rfl) (by rfl) (by rfl) (by rfl) ha (ρ := [.int t, .int n]) (Rh.go (w70_9999 t n _) ?_) h
  simp only [SQ, RhQ, eq_self, implies_true, forall_const, VT.eta, if_true, if_false]
  unfold atomV
  refine ⟨fun h => Ret.v (if_pos (by omega)) rfl, fun h => Ret.v (by rw [if_neg (by omega), w64 (by omega) (by omega), Int.zero_sub]) (y := .mk (IntKind.i64.wrap (0 - rAbs t)) [n] [] []) rfl⟩

/-! ### R.Clone -/
theorem smaller.mem {t n s l} {m : Nat} (hm : smaller (.mk t n s l) (m + 1)) {x : VT} (hx : x ∈ l) : smaller x m := by
  unfold smaller at *; have := sz_lt (t := t) (n := n) (s := s) hx; omega
theorem loop12 (m : Nat) (t n s l) (hm : smaller (.mk t n s l) (m + 1)) (ht : tame (.mk t n s l)) (i : Nat) (h1 : i ≤ l.length) :
    Rh (w12S m) (Ret (vcl (.mk t n s l))) (3, [.int i, .int t, .is n, .ss s, .vs l, .int t, .is n, .ss s, .vs (l.take i)]) := by
  refine Rh.go (w12_3 m i t n s l t n s (l.take i) _) ?_
  have hl := ht.l
  simp only [SQ, RhQ, eq_self, implies_true, forall_const, VT.eta, if_true, if_false, List.length_take, List.length_cons, List.length_nil]
  refine ⟨fun h => ?_, fun h => ?_⟩
  · have hx := getD_mem l default (i := i) (by omega)
    have e := loop12 m t n s l hm ht (i + 1) (by omega)
    rw [take_at l default (by omega)] at e
    rw [inc (mlen hl) (by omega)]
    repeat' apply And.intro
    all_goals first | exact e | omega | exact ht.mem hx | exact hm.mem hx
  · rw [List.take_of_length_le (by omega)]; exact rfl
termination_by l.length - i
theorem ok12n : ∀ n, Pure1 Tryz.prog 12 (sp12 n) := pure_ind (fun xs F w cs R ha h => by
    obtain ⟨x, a, rfl, h1, h⟩ := onV_inv h
    exact (none0 (when_inv h).1).elim) (fun m ih xs F w cs R ha h => by
    obtain ⟨x, a, rfl, h1, h⟩ := onV_inv h
    obtain ⟨hm, h⟩ := when_inv h
    obtain ⟨ht, h⟩ := when_inv h
    have ha := ha.conv1 (fun v => as_V h1)
    obtain ⟨t, n, s, l⟩ := a
    have hn := ht.n
    have hs := ht.s
    refine contract (fn := Tryz.f12) (walked (PureOk.also ih (PureOk.none _)) 14) (by kernel_rfl) w12C_ok (by rfl) (by rfl) (by rfl) (by rfl) (by rfl) ha (ρ := [.int t, .is n, .ss s, .vs l]) (Rh.go (w12_9999 m t n s l _) ?_) h
    simp only [SQ, RhQ, eq_self, implies_true, forall_const, VT.eta, if_true, if_false, List.nil_append]
    have e := loop12 m t n s l hm ht 0 (by omega)
    repeat' apply And.intro
    all_goals first | exact e | omega)
theorem ok12 : Pure1 Tryz.prog 12 sp12f := pure_all ok12n fun xs Q h => by
  obtain ⟨x, a, rfl, h1, h⟩ := onV_inv h
  exact ⟨a.sz + 1, onV_mk h1 (when_mk (Nat.lt_succ_self _) h)⟩

/-! ### value.Clone -/
theorem loop50 (m : Nat) (t n s l) (hm : smaller (.mk t n s l) (m + 1)) (ht : tame (.mk t n s l)) (i : Nat) (h1 : i ≤ l.length) :
    Rh (w50nS m) (Ret (vcl (.mk t n s l))) (3, [.int l.length, .int i, .int t, .is n, .ss s, .vs l]) := by
  refine Rh.go (w50n_3 m l.length i t n s l _) ?_
  have hl := ht.l
  simp only [SQ, RhQ, eq_self, implies_true, forall_const, VT.eta, if_true, if_false]
  refine ⟨fun h => ?_, fun h => ?_⟩
  · have hx := getD_mem l default (i := i) (by omega)
    have e := loop50 m t n s l hm ht (i + 1) (by omega)
    have e2 : l.set i (l.getD i default) = l := by
      apply List.ext_getElem (by simp)
      intro j h2 h3
      rw [List.getElem_set]
      split
      · rename_i h; subst h; rw [List.getD_eq_getElem?_getD, List.getElem?_eq_getElem h3]; rfl
      · rfl
    rw [inc (mlen hl) (by omega), e2]
    repeat' apply And.intro
    all_goals first | exact e | omega | exact ht.mem hx | exact hm.mem hx
  · exact rfl
termination_by l.length - i
theorem ok50n : ∀ n, Pure1 Tryz.prog 50 (sp50 n) := pure_ind (fun xs F w cs R ha h => by
    obtain ⟨x, a, rfl, h1, h⟩ := onV_inv h
    exact (none0 (when_inv h).1).elim) (fun m ih xs F w cs R ha h => by
    obtain ⟨x, a, rfl, h1, h⟩ := onV_inv h
    obtain ⟨hm, h⟩ := when_inv h
    obtain ⟨ht, h⟩ := when_inv h
    have ha := ha.conv1 (fun v => as_V h1)
    obtain ⟨t, n, s, l⟩ := a
    have hn := ht.n
    have hs := ht.s
    have hl := ht.l
    by_cases h0 : l = []
    · subst h0
      refine contract (fn := Tryz.f50) (walked (PureOk.also ih (PureOk.also ok87 (PureOk.also ok88 (PureOk.also ok89 (PureOk.none _))))) 14) (by kernel_rfl) w50C_ok (by rfl) (by rfl) (by rfl) (by rfl) (by rfl) ha (ρ := [.int t, .is n, .ss s, .vs []]) (Rh.go (w50_9999 m t n s [] _) ?_) h
      simp only [SQ, RhQ, eq_self, implies_true, forall_const, VT.eta, if_true, if_false, List.length_nil]
      have e : Rh (w50S m) (Ret (vcl (.mk t n s []))) (3, [.int 0, .int t, .is n, .ss s, .vs []]) := by
        refine Rh.go (w50_3 m 0 t n s [] _) ?_
        simp only [SQ, RhQ, eq_self, implies_true, forall_const, VT.eta, if_true, if_false]
        exact ⟨fun h => absurd h (by omega), fun _ => rfl⟩
      repeat' apply And.intro
      all_goals first | exact e | exact hn | exact hs | exact Nat.zero_le _
    · have h0 : 0 < l.length := by cases l; exact absurd rfl h0; simp
      refine contractS (fn := Tryz.f50) tbN_ok (walkedN (PureOk.also ih (PureOk.also ok87 (PureOk.also ok88 (PureOk.none _)))) 14) (by kernel_rfl) w50nC_ok (by rfl) (by rfl) (by rfl) (by rfl) (by rfl) ha (K := fun y => y = vcl (.mk t n s l)) (ρ := [.int t, .is n, .ss s, .vs l]) (Rh.go (w50n_9999 m t n s l _) ?_) (fun y hy v' F' w' p => by subst hy; exact h v' F' w' p)
      simp only [SQ, RhQ, eq_self, implies_true, forall_const, VT.eta, if_true, if_false, List.nil_append]
      have e := loop50 m t n s l hm ht 0 (by omega)
      have e : Rh (w50nS m) (fun E => ∃ y, resE E = some y ∧ y = vcl (.mk t n s l)) (3, [.int l.length, .int 0, .int t, .is n, .ss s, .vs l]) := by
        obtain ⟨k, e⟩ := e
        exact ⟨k, flow_pure.FS.imp (fun E hE => ⟨_, hE, rfl⟩) e⟩
      repeat' apply And.intro
      all_goals first | exact e | exact hn | exact hs | omega)
theorem ok50 : Pure1 Tryz.prog 50 sp50f := pure_all ok50n fun xs Q h => by
  obtain ⟨x, a, rfl, h1, h⟩ := onV_inv h
  exact ⟨a.sz + 1, onV_mk h1 (when_mk (Nat.lt_succ_self _) h)⟩
end Go.Qv
/- Contracts of the builders of values, second part: lists, counts, elements, rows. No condition. -/
set_option linter.unusedVariables false
set_option linter.unusedSimpArgs false
set_option maxRecDepth 100000
namespace Go.Qv
open Go Go.RowKit Go.Proofs

/-! ### value.mixed -/
theorem and_iso (b : Bool) (t t0 : Int) : ((b && (decide (t < 0) && decide (-5 ≤ t))) && decide (t = t0)) = (b && decide (isAtomT t ∧ t = t0)) := by
  unfold isAtomT
  rw [Bool.eq_iff_iff]
  simp only [Bool.and_eq_true, decide_eq_true_eq, and_assoc]
theorem loop108 (l : List VT) (hl : l.length ≤ maxLen) (b : Bool) (i : Nat) (h1 : i ≤ l.length) : Rh w108S (Ret (.bool (rListGo (l.getD 0 default).t b (l.drop i)))) (3, [.vs l, .bool b, .vs l, .int l.length, .int i]) := by
  refine Rh.go (w108_3 l b l l.length i _) ?_
  simp only [SQ, RhQ, eq_self, implies_true, forall_const, VT.eta, if_true, if_false]
  refine ⟨fun h => ⟨⟨by omega, by omega⟩, fun h2 => ?_, fun h2 => ?_⟩, fun h => ?_⟩
  · rw [drop_at l default (show i < l.length by omega)]
    exact Ret.bool (by rw [rListGo, if_pos h2])
  · have e := loop108 l hl (b && decide (isAtomT (l.getD i default).t ∧ (l.getD i default).t = (l.getD 0 default).t)) (i + 1) (by omega)
    rw [← and_iso] at e
    rw [inc hl (by omega), drop_at l default (show i < l.length by omega), rListGo, if_neg h2, ← and_iso]
    repeat' apply And.intro
    all_goals first | exact e | exact fun _ => ⟨by omega, by omega⟩ | omega
  · rw [List.drop_of_length_le (by omega)]; exact Ret.bool rfl
termination_by l.length - i
theorem ok108 : Pure1 Tryz.prog 108 sp108 := by
  intro xs F w cs R ha h
  obtain ⟨x, a, rfl, h1, h⟩ := onVs_inv h
  have ha := ha.conv1 (fun v => as_Vs h1)
  obtain ⟨v, hv⟩ := ha.at 0 rfl
  refine contract (fn := Tryz.f108) (walked (PureOk.none _) 14) (by kernel_rfl) w108C_ok (by rfl) (by rfl) (by rfl) (by rfl) (by rfl) ha (ρ := [.vs a]) (Rh.go (w108_9999 a _) ?_) h
  simp only [SQ, RhQ, eq_self, implies_true, forall_const, VT.eta, if_true, if_false]
  have := loop108 a hv.len (decide (0 < a.length)) 0 (by omega)
  have e : decide ((0 : Int) < (a.length : Int)) = decide (0 < a.length) := by rw [decide_eq_decide]; omega
  rw [e]
  exact this
/-! ### slices.IndexFunc, at value.Of's test -/
theorem loop144 (l : List VT) (hl : l.length ≤ maxLen) (i : Nat) (h1 : i ≤ l.length) : Rh w144S (Ret (.int .i64 (naIdx (l.drop i) i))) (2, [.vs l, .int l.length, .int i]) := by
  refine Rh.go (w144_2 l l.length i _) ?_
  simp only [SQ, RhQ, eq_self, implies_true, forall_const, VT.eta, if_true, if_false]
  refine ⟨fun h => ⟨⟨by omega, by omega⟩, fun h2 => ?_, fun h2 => ?_⟩, fun h => ?_⟩
  · rw [drop_at l default (show i < l.length by omega)]
    exact Ret.int (by rw [naIdx, if_neg (by unfold isAtomT; omega)])
  · have e := loop144 l hl (i + 1) (by omega)
    rw [inc hl (by omega), drop_at l default (show i < l.length by omega), naIdx, if_pos (show isAtomT _ by unfold isAtomT; omega)]
    exact e
  · rw [List.drop_of_length_le (by omega)]; exact Ret.int rfl
termination_by l.length - i
theorem ok144 : Pure1 Tryz.prog 144 sp144 := by
  intro xs F w cs R ha h
  obtain ⟨x, a, rfl, h1, h⟩ := onVsG_inv h
  have ha := ha.conv2 (fun v => as_Vs h1) (fun v h => h)
  obtain ⟨v, hv⟩ := ha.at 0 rfl
  refine contract (fn := Tryz.f144) (walked (PureOk.none _) 14) (by kernel_rfl) w144C_ok (by rfl) (by rfl) (by rfl) (by rfl) (by rfl) ha (ρ := [.vs a]) (Rh.go (w144_9999 a _) ?_) h
  simp only [SQ, RhQ, eq_self, implies_true, forall_const, VT.eta, if_true, if_false]
  exact loop144 a hv.len 0 (by omega)
/-! ### value.Of -/
theorem alikeB_pos {l : List VT} (h : alikeB l = true) : 0 < l.length ∧ ∀ x ∈ l, isAtomT x.t ∧ x.t = (l.getD 0 default).t := by
  unfold alikeB alikeGo at h
  rw [Bool.and_eq_true, List.all_eq_true] at h
  exact ⟨of_decide_eq_true h.1, fun x hx => of_decide_eq_true (h.2 x hx)⟩
theorem neg_atom {l : List VT} (h : alikeB l = true) : IntKind.i64.wrap (0 - (l.getD 0 default).t) = -(l.getD 0 default).t := by
  obtain ⟨h0, h1⟩ := alikeB_pos h
  have := (h1 _ (getD_mem l default h0)).1
  unfold isAtomT at this
  rw [w64 (by omega) (by omega), Int.zero_sub]
theorem ofV_list {l : List VT} (h : alikeB l = false) : ofV l = .mk 0 [] [] l := by unfold ofV; rw [h]; rfl
theorem ofV_vec {l : List VT} (h : alikeB l = true) : ofV l = .mk (-(l.getD 0 default).t) (l.flatMap VT.n) (l.flatMap VT.s) [] := by unfold ofV; rw [h]; rfl
theorem loop68a (l : List VT) (ht : tames l) (hb : alikeB l = false) (i : Nat) (h1 : i ≤ l.length) : Rh w68S (Ret (vcl (ofV l))) (4, [.vs l, .vs l, .int l.length, .int i, .vs (l.take i)]) := by
  refine Rh.go (w68_4 l l l.length i (l.take i) _) ?_
  have hl := ht.len
  simp only [SQ, RhQ, eq_self, implies_true, forall_const, VT.eta, if_true, if_false, List.length_take, List.length_cons, List.length_nil]
  refine ⟨fun h => ?_, fun h => ?_⟩
  · have hx := getD_mem l default (i := i) (by omega)
    have e := loop68a l ht hb (i + 1) (by omega)
    rw [take_at l default (by omega)] at e
    rw [inc (mlen hl) (by omega)]
    repeat' apply And.intro
    all_goals first | exact e | omega | exact ht.mem hx
  · rw [List.take_of_length_le (by omega)]; exact Ret.v (ofV_list hb) rfl
termination_by l.length - i
theorem loop68b (l : List VT) (ht : tames l) (hb : alikeB l = true) (i : Nat) (h1 : i ≤ l.length) : Rh w68S (Ret (vcl (ofV l))) (11, [.vs l, .int l.length, .int i, .int (-(l.getD 0 default).t), .is ((l.take i).flatMap VT.n), .ss ((l.take i).flatMap VT.s)]) := by
  refine Rh.go (w68_11 l l.length i _ _ _ _) ?_
  have hl := ht.len
  simp only [SQ, RhQ, eq_self, implies_true, forall_const, VT.eta, if_true, if_false]
  refine ⟨fun h => ?_, fun h => ?_⟩
  · have hx := getD_mem l default (i := i) (by omega)
    have e := loop68b l ht hb (i + 1) (by omega)
    rw [flat_take VT.n l (by omega), flat_take VT.s l (by omega)] at e
    rw [inc (mlen hl) (by omega)]
    have q1 := ht.flat_n (i + 1)
    have q2 := ht.flat_s (i + 1)
    rw [flat_take VT.n l (by omega), List.length_append] at q1
    rw [flat_take VT.s l (by omega), List.length_append] at q2
    repeat' apply And.intro
    all_goals first | exact e | omega
  · rw [List.take_of_length_le (by omega)]; exact Ret.v (ofV_vec hb) rfl
termination_by l.length - i
theorem ok68 : Pure1 Tryz.prog 68 sp68 := by
  intro xs F w cs R ha h
  obtain ⟨x, a, rfl, h1, h⟩ := onVs_inv h
  obtain ⟨ht, h⟩ := when_inv h
  have ha := ha.conv1 (fun v => as_Vs h1)
  refine contract (fn := Tryz.f68) (walked (PureOk.also ok108 (PureOk.also ok144 (PureOk.also ok50 (PureOk.none _)))) 14) (by kernel_rfl) w68C_ok (by rfl) (by rfl) (by rfl) (by rfl) (by rfl) ha (ρ := [.vs a]) (Rh.go (w68_9999 a _) ?_) h
  simp only [SQ, RhQ, eq_self, implies_true, forall_const, VT.eta, if_true, if_false]
  have hi := list_iff a
  have hpos : ¬ ((a.length : Int) = 0) → 0 < a.length := fun h => by omega
  cases hb : alikeB a with
  | false =>
    have h3 := hi.2 hb
    have e := loop68a a ht hb 0 (by omega)
    repeat' apply And.intro
    all_goals first | (intro _; exact e) | (intro hh; exfalso; rcases h3 with h3 | h3 | h3 <;> simp_all) | (intro _; omega)
  | true =>
    have h3 : ¬ _ := fun h => by have := hi.1 h; rw [hb] at this; cases this
    have h0 := alikeB_pos hb
    have e := loop68b a ht hb 0 (by omega)
    rw [neg_atom hb]
    refine ⟨fun hh => absurd ?_ h3, fun _ => ⟨⟨by omega, by omega⟩, e⟩⟩
    rcases hh with (hh | hh) | hh
    · exact .inl (by omega)
    · exact .inr (.inl hh)
    · exact .inr (.inr hh)
/-! ### R.Of -/
theorem loop75b (l : List VT) (ht : tames l) (i : Nat) (h1 : i ≤ l.length) : Rh w75S (Ret (vcl (.mk 0 [] [] l))) (10, [.vs l, .int i, .vs (l.take i)]) := by
  refine Rh.go (w75_10 l i (l.take i) _) ?_
  have hl := ht.len
  simp only [SQ, RhQ, eq_self, implies_true, forall_const, VT.eta, if_true, if_false, List.length_take, List.length_cons, List.length_nil]
  refine ⟨fun h => ?_, fun h => ?_⟩
  · have hx := getD_mem l default (i := i) (by omega)
    have e := loop75b l ht (i + 1) (by omega)
    rw [take_at l default (by omega)] at e
    rw [inc (mlen hl) (by omega)]
    repeat' apply And.intro
    all_goals first | exact e | omega | exact ht.mem hx
  · rw [List.take_of_length_le (by omega)]; exact rfl
termination_by l.length - i
theorem loop75c (l : List VT) (t : Int) (ht : tames l) (i : Nat) (h1 : i ≤ l.length) : Rh w75S (Ret (vcl (.mk t (l.flatMap VT.n) (l.flatMap VT.s) []))) (16, [.vs l, .int i, .int t, .is ((l.take i).flatMap VT.n), .ss ((l.take i).flatMap VT.s)]) := by
  refine Rh.go (w75_16 l i t _ _ _) ?_
  have hl := ht.len
  simp only [SQ, RhQ, eq_self, implies_true, forall_const, VT.eta, if_true, if_false]
  refine ⟨fun h => ?_, fun h => ?_⟩
  · have e := loop75c l t ht (i + 1) (by omega)
    rw [flat_take VT.n l (by omega), flat_take VT.s l (by omega)] at e
    rw [inc (mlen hl) (by omega)]
    have q1 := ht.flat_n (i + 1)
    have q2 := ht.flat_s (i + 1)
    rw [flat_take VT.n l (by omega), List.length_append] at q1
    rw [flat_take VT.s l (by omega), List.length_append] at q2
    repeat' apply And.intro
    all_goals first | exact e | omega
  · rw [List.take_of_length_le (by omega)]; exact rfl
termination_by l.length - i
theorem alikeGo_cons (t0 : Int) (b : Bool) (x : VT) (l : List VT) : alikeGo t0 b (x :: l) = alikeGo t0 (b && decide (isAtomT x.t ∧ x.t = t0)) l := by
  simp only [alikeGo, List.all_cons, Bool.and_assoc]
theorem loop75a (l : List VT) (ht : tames l) (b : Bool) (hb : b = true → 0 < l.length) (i : Nat) (h1 : i ≤ l.length) (hc : alikeB l = alikeGo (l.getD 0 default).t b (l.drop i)) :
    Rh w75S (Ret (vcl (ofV l))) (3, [.vs l, .bool b, .int i]) := by
  refine Rh.go (w75_3 l b i _) ?_
  have hl := ht.len
  simp only [SQ, RhQ, eq_self, implies_true, forall_const, VT.eta, if_true, if_false]
  refine ⟨fun h => ?_, fun h => ⟨fun h2 => ?_, fun h2 => ?_⟩⟩
  · rw [drop_at l default (show i < l.length by omega), alikeGo_cons] at hc
    have e1 : (isAtomT (l.getD i default).t ∧ (l.getD i default).t = (l.getD 0 default).t) → Rh w75S (Ret (vcl (ofV l))) (3, [.vs l, .bool b, .int (IntKind.i64.wrap ((i : Int) + 1))]) := fun hd => by
      rw [decide_eq_true hd, Bool.and_true] at hc
      rw [inc (mlen hl) (by omega)]
      exact loop75a l ht b hb (i + 1) (by omega) hc
    have e2 : ¬ (isAtomT (l.getD i default).t ∧ (l.getD i default).t = (l.getD 0 default).t) → Rh w75S (Ret (vcl (ofV l))) (3, [.vs l, .bool false, .int (IntKind.i64.wrap ((i : Int) + 1))]) := fun hd => by
      rw [decide_eq_false hd, Bool.and_false] at hc
      rw [inc (mlen hl) (by omega)]
      exact loop75a l ht false (by simp) (i + 1) (by omega) hc
    unfold isAtomT at e1 e2
    repeat' apply And.intro
    all_goals first | omega | (intro hh; exact e1 (by omega)) | (intro hh; exact e2 (by omega)) | (intro hh; omega)
  · subst h2
    rw [ofV_list (by rw [hc]; rfl)]
    exact loop75b l ht 0 (by omega)
  · subst h2
    rw [List.drop_of_length_le (by omega)] at hc
    have hc : alikeB l = true := hc
    have h0 := hb rfl
    rw [neg_atom hc, ofV_vec hc]
    exact ⟨⟨by omega, by omega⟩, loop75c l _ ht 0 (by omega)⟩
termination_by l.length - i
theorem ok75 : Pure1 Tryz.prog 75 sp75 := by
  intro xs F w cs R ha h
  obtain ⟨x, a, rfl, h1, h⟩ := onVs_inv h
  obtain ⟨ht, h⟩ := when_inv h
  have ha := ha.conv1 (fun v => as_Vs h1)
  refine contract (fn := Tryz.f75) (walked (PureOk.also ok12 (PureOk.none _)) 14) (by kernel_rfl) w75C_ok (by rfl) (by rfl) (by rfl) (by rfl) (by rfl) ha (ρ := [.vs a]) (Rh.go (w75_9999 a _) ?_) h
  simp only [SQ, RhQ, eq_self, implies_true, forall_const, VT.eta, if_true, if_false]
  have e : decide ((0 : Int) < (a.length : Int)) = decide (0 < a.length) := by rw [decide_eq_decide]; omega
  rw [e]
  exact loop75a a ht _ (fun h => of_decide_eq_true h) 0 (by omega) rfl
end Go.Qv
/- Contracts of the builders of values, third part: counts, depths, sizes, rows, elements. No condition. -/
set_option linter.unusedVariables false
set_option linter.unusedSimpArgs false
set_option maxRecDepth 100000
namespace Go.Qv
open Go Go.RowKit Go.Proofs

/-! ### value.Count -/
theorem run47 (m : Nat) (t n s l) (hm : smaller (.mk t n s l) (m + 1)) : Rh (w47S m) (Ret (.int .i64 (rCount (.mk t n s l)))) (9999, [.int t, .is n, .ss s, .vs l]) := by
  refine Rh.go (w47_9999 m t n s l _) ?_
  simp only [SQ, RhQ, eq_self, implies_true, forall_const, VT.eta, if_true, if_false]
  have nv : ¬ (1 ≤ t ∧ t ≤ 5) → ¬ isVecT t := fun h e => h ⟨e.1, e.2⟩
  refine ⟨fun h => Ret.int (by cases l <;> simp only [rCount, if_pos h]), fun h => ⟨fun h1 => Ret.int (by cases l <;> simp only [rCount, if_neg h, if_pos (show isVecT t from h1)]), fun h1 => ?_⟩⟩
  have h1 : ¬ isVecT t := nv (by omega)
  refine ⟨fun h2 => Ret.int (by cases l <;> simp only [rCount, if_neg h, if_neg h1, if_pos h2]), fun h2 => ⟨fun h3 => ⟨⟨by omega, by omega⟩, ?_, Ret.int ?_⟩, fun h3 => Ret.int ?_⟩⟩
  · exact hm.mem (getD_mem l default (i := 0) (by omega))
  · cases l with
    | nil => simp at h3
    | cons x l => simp only [rCount, if_neg h, if_neg h1, if_neg h2, if_pos h3.1]; rfl
  · cases l with
    | nil => simp only [rCount, if_neg h, if_neg h1, if_neg h2]
    | cons x l =>
      have : ¬ (t = 98 ∨ t = 99) := by simp only [List.length_cons] at h3; omega
      simp only [rCount, if_neg h, if_neg h1, if_neg h2, if_neg this]
theorem ok47n : ∀ n, Pure1 Tryz.prog 47 (sp47 n) := pure_ind (fun xs F w cs R ha h => by
    obtain ⟨x, a, rfl, h1, h⟩ := onV_inv h
    exact (none0 (when_inv h).1).elim) (fun m ih xs F w cs R ha h => by
    obtain ⟨x, a, rfl, h1, h⟩ := onV_inv h
    obtain ⟨hm, h⟩ := when_inv h
    have ha := ha.conv1 (fun v => as_V h1)
    obtain ⟨t, n, s, l⟩ := a
    exact contract (fn := Tryz.f47) (walked (PureOk.also ih (PureOk.none _)) 14) (by kernel_rfl) w47C_ok (by rfl) (by rfl) (by rfl) (by rfl) (by rfl) ha (run47 m t n s l hm) h)
theorem ok47 : Pure1 Tryz.prog 47 sp47f := pure_all ok47n fun xs Q h => by
  obtain ⟨x, a, rfl, h1, h⟩ := onV_inv h
  exact ⟨a.sz + 1, onV_mk h1 (when_mk (Nat.lt_succ_self _) h)⟩

/-! ### value.Depth -/
theorem loop86 (m : Nat) (t n s l) (hm : smaller (.mk t n s l) (m + 1)) (hl : l.length ≤ maxLen) (d : Int) (i : Nat) (h1 : i ≤ l.length) : Rh (w86S m) (Ret (.int .i64 (IntKind.i64.wrap (rDepthL (l.drop i) d + 1)))) (3, [.int d, .vs l, .int l.length, .int i]) := by
  refine Rh.go (w86_3 m d l l.length i _) ?_
  simp only [SQ, RhQ, eq_self, implies_true, forall_const, VT.eta, if_true, if_false]
  refine ⟨fun h => ⟨⟨by omega, by omega⟩, hm.mem (getD_mem l default (i := i) (by omega)), ?_⟩, fun h => ?_⟩
  · rw [inc hl (by omega), drop_at l default (show i < l.length by omega), rDepthL]
    exact loop86 m t n s l hm hl _ (i + 1) (by omega)
  · rw [List.drop_of_length_le (by omega)]; exact Ret.int rfl
termination_by l.length - i
theorem ok86n : ∀ n, Pure1 Tryz.prog 86 (sp86 n) := pure_ind (fun xs F w cs R ha h => by
    obtain ⟨x, a, rfl, h1, h⟩ := onV_inv h
    exact (none0 (when_inv h).1).elim) (fun m ih xs F w cs R ha h => by
    obtain ⟨x, a, rfl, h1, h⟩ := onV_inv h
    obtain ⟨hm, h⟩ := when_inv h
    have ha := ha.conv1 (fun v => as_V h1)
    obtain ⟨v, hv⟩ := ha.at 0 rfl
    obtain ⟨t, n, s, l⟩ := a
    refine contract (fn := Tryz.f86) (walked (PureOk.also ih (PureOk.none _)) 14) (by kernel_rfl) w86C_ok (by rfl) (by rfl) (by rfl) (by rfl) (by rfl) ha (ρ := [.int t, .is n, .ss s, .vs l]) (Rh.go (w86_9999 m t n s l _) ?_) h
    simp only [SQ, RhQ, eq_self, implies_true, forall_const, VT.eta, if_true, if_false]
    rw [rDepth]
    exact loop86 m t n s l hm hv.vlen.l 0 0 (by omega))
theorem ok86 : Pure1 Tryz.prog 86 sp86f := pure_all ok86n fun xs Q h => by
  obtain ⟨x, a, rfl, h1, h⟩ := onV_inv h
  exact ⟨a.sz + 1, onV_mk h1 (when_mk (Nat.lt_succ_self _) h)⟩

/-! ### what an element is, by the type -/
theorem cnt_s {n s l} : rCount (.mk 3 n s l) = s.length := by cases l <;> simp [rCount]
theorem cnt_n {t n s l} (h3 : t ≠ 3) (h : 1 ≤ t ∧ t ≤ 5) : rCount (.mk t n s l) = n.length := by cases l <;> simp only [rCount, if_neg h3, if_pos (show isVecT t from h)]
theorem cnt_l {n s l} : rCount (.mk 0 n s l) = l.length := by cases l <;> simp [rCount, isVecT]
theorem at0_s {n s l i} : at0 (.mk 3 n s l) i = .mk (-3) [] [s.getD i ⟨#[]⟩] [] := rfl
theorem at0_n {t n s l i} (h3 : t ≠ 3) (h : 1 ≤ t ∧ t ≤ 5) : at0 (.mk t n s l) i = atomV t (n.getD i 0) := by unfold at0; rw [if_neg (show ¬ (VT.mk t n s l).t = 3 from h3), if_pos (show isVecT (VT.mk t n s l).t from h)]; rfl
theorem at0_l {n s l i} : at0 (.mk 0 n s l) i = l.getD i default := by unfold at0; rw [if_neg (show ¬ (VT.mk 0 n s l).t = 3 from by show ¬ (0 : Int) = 3; decide), if_neg (show ¬ isVecT (VT.mk 0 n s l).t from by show ¬ isVecT 0; unfold isVecT; omega)]; rfl
theorem at0_o {t n s l i} (h3 : t ≠ 3) (h : ¬ (1 ≤ t ∧ t ≤ 5)) (h0 : t ≠ 0) : at0 (.mk t n s l) i = .mk t n s l := by unfold at0; rw [if_neg (show ¬ (VT.mk t n s l).t = 3 from h3), if_neg (show ¬ isVecT (VT.mk t n s l).t from h), if_neg (show ¬ (VT.mk t n s l).t = 0 from h0)]
theorem at1_no {v : VT} {i : Int} (h : i < 0 ∨ rCount v ≤ i) : at1V v i = .mk 0 [] [] [] := by unfold at1V; rw [if_pos h]
theorem at1_yes {v : VT} {i : Int} (h : ¬ (i < 0 ∨ rCount v ≤ i)) : at1V v i = at0 v i.toNat := by unfold at1V; rw [if_neg h]
theorem at1E_no {v : VT} {i : Int} (h : i < 0 ∨ rCount v ≤ i) : at1E v i = 33 := by unfold at1E; rw [if_pos h]
theorem at1E_yes {v : VT} {i : Int} (h : ¬ (i < 0 ∨ rCount v ≤ i)) : at1E v i = 0 := by unfold at1E; rw [if_neg h]
theorem at_no {v : VT} {i : Int} (h : i < 0 ∨ rCount v ≤ i) : atV v i = .mk 0 [] [] [] := by unfold atV; rw [if_pos h]
theorem atE_no {v : VT} {i : Int} (h : i < 0 ∨ rCount v ≤ i) : atE v i = 33 := by unfold atE; rw [if_pos h]
theorem at_0 {v : VT} {i : Int} (h : ¬ (i < 0 ∨ rCount v ≤ i)) (h8 : v.t ≠ 98) (h9 : v.t ≠ 99) : atV v i = at0 v i.toNat := by unfold atV; rw [if_neg h, if_neg h8, if_neg h9]
theorem atE_0 {v : VT} {i : Int} (h : ¬ (i < 0 ∨ rCount v ≤ i)) (h9 : v.t ≠ 99) : atE v i = 0 := by unfold atE; rw [if_neg h, if_neg (fun e => h9 e.1)]
theorem at_t {v : VT} {i : Int} (h : ¬ (i < 0 ∨ rCount v ≤ i)) (h8 : v.t = 98) : atV v i = rowV [v] i := by unfold atV; rw [if_neg h, if_pos h8]
theorem at_k {v : VT} {i : Int} (h : ¬ (i < 0 ∨ rCount v ≤ i)) (h9 : v.t = 99) (hk : (v.l.getD 0 default).t = 98) : atV v i = rowV v.l i := by unfold atV; rw [if_neg h, if_neg (by omega), if_pos h9, if_pos hk]
theorem at_d {v : VT} {i : Int} (h : ¬ (i < 0 ∨ rCount v ≤ i)) (h9 : v.t = 99) (hk : (v.l.getD 0 default).t ≠ 98) : atV v i = at1V (v.l.getD 1 default) i := by unfold atV; rw [if_neg h, if_neg (by omega), if_pos h9, if_neg hk]
theorem atE_k {v : VT} {i : Int} (h : ¬ (i < 0 ∨ rCount v ≤ i)) (hk : (v.l.getD 0 default).t = 98) : atE v i = 0 := by unfold atE; rw [if_neg h, if_neg (fun e => e.2 hk)]
theorem atE_d {v : VT} {i : Int} (h : ¬ (i < 0 ∨ rCount v ≤ i)) (h9 : v.t = 99) (hk : (v.l.getD 0 default).t ≠ 98) : atE v i = at1E (v.l.getD 1 default) i := by unfold atE; rw [if_neg h, if_pos ⟨h9, hk⟩]
theorem rows_tame {l : List VT} (ht : tames l) (i : Int) (k : Nat) : tames (((l.take k).flatMap VT.l).map fun c => at1V c i) := by
  have h1 := ht.flat_l k
  unfold tames at *
  have := bks_map_le (f := fun c => at1V c i) (fun c => at1V_bk c i) ((l.take k).flatMap VT.l)
  omega
theorem rows_len {l : List VT} (ht : tames l) (i : Int) (k : Nat) : (((l.take k).flatMap VT.l).map fun c => at1V c i).length ≤ 1073741824 := (rows_tame ht i k).len
theorem map_take {α β : Type} (f : α → β) (l : List α) (d : α) {j : Nat} (h : j < l.length) : (l.take (j + 1)).map f = (l.take j).map f ++ [f (l.getD j d)] := by
  rw [take_at l d h, List.map_append]; rfl
theorem tame.l' {v : VT} (h : tame v) : v.l.length ≤ 1073741824 := by cases v; exact h.l
theorem tame.mem' {v : VT} (h : tame v) {x : VT} (hx : x ∈ v.l) : tame x := by cases v; exact h.mem hx
theorem okNoAt {f : FuncId} : Pure1 Tryz.prog f spNo := by
  intro xs F w cs R ha h
  exact h.elim

/-! ### value.At, of what is no table and no dictionary -/
theorem ok54p : Pure1 Tryz.prog 54 sp54p := by
  intro xs F w cs R ha h
  obtain ⟨x, i, a, rfl, h1, h⟩ := onVn_inv h
  obtain ⟨ht, h⟩ := when_inv h
  obtain ⟨hf, h⟩ := when_inv h
  have ha := ha.conv2 (fun v => as_V h1) (fun v h => h)
  obtain ⟨t, n, s, l⟩ := a
  refine contract (fn := Tryz.f54) (walked (PureOk.also okNoAt (PureOk.also okNoAt (PureOk.also ok50 (PureOk.also ok47 (PureOk.also ok95 okAB2))))) 14) (by kernel_rfl) w54pC_ok (by rfl) (by rfl) (by rfl) (by rfl) (by rfl) ha (ρ := [.int t, .is n, .ss s, .vs l, .int i]) (Rh.go (w54p_9999 t n s l i _) ?_) h
  have h8 : t ≠ 98 := hf.1
  have h9 : t ≠ 99 := hf.2
  simp only [SQ, RhQ, eq_self, implies_true, forall_const, VT.eta, if_true, if_false]
  refine ⟨fun h => Ret.ve (at1_no h) (at1E_no h) rfl, fun h => ?_⟩
  have h : ¬ (i < 0 ∨ rCount (.mk t n s l) ≤ i) := by omega
  rw [at1_yes h, at1E_yes h]
  refine ⟨fun h3 => ?_, fun h3 => ?_⟩
  · subst h3
    rw [cnt_s] at h
    exact ⟨⟨by omega, by omega⟩, Ret.ve at0_s rfl rfl⟩
  refine ⟨fun hv => ?_, fun hv => ?_⟩
  · rw [cnt_n h3 hv] at h
    rw [at0_n h3 hv]
    exact ⟨⟨by omega, by omega⟩, rfl⟩
  have hv : ¬ (1 ≤ t ∧ t ≤ 5) := by omega
  refine ⟨fun h0 => ?_, fun h0 => ?_⟩
  · subst h0
    rw [cnt_l] at h
    have hx := getD_mem l default (i := i.toNat) (by omega)
    exact ⟨⟨by omega, by omega⟩, ht.mem hx, Ret.ve (y := VT.mk (l.getD i.toNat default).t (l.getD i.toNat default).n (l.getD i.toNat default).s (l.getD i.toNat default).l) (by rw [VT.eta]; exact at0_l) rfl rfl⟩
  refine ⟨fun h => absurd h h8, fun _ => ?_⟩
  have fin : tame (.mk t n s l) ∧ Ret (.tup [vcl (at0 (.mk t n s l) i.toNat), .int .i64 0]) ⟨.tup [.agg [.int .i64 t, .sl (.i .i64 n), .sl (.s s), .sl (.v l)], .int .i64 0], [], [], []⟩ := ⟨ht, Ret.ve (at0_o h3 hv h0) rfl rfl⟩
  repeat' apply And.intro
  all_goals first | exact fin.1 | exact fin.2 | (intro hh; exact absurd hh h9) | (intro hh; exact absurd hh.1 h9) | (intro hh; exact absurd hh.1.1 h9) | (intro _; repeat' apply And.intro)
  all_goals first | exact fin.1 | exact fin.2 | (intro hh; exact absurd hh h9) | (intro hh; exact absurd hh.1 h9) | (intro hh; exact absurd hh.1.1 h9) | (intro _; exact fin) | (intro _; repeat' apply And.intro)

/-! ### quiverref03.At, of what is no table and no dictionary -/
theorem ok28p : Pure1 Tryz.prog 28 sp28p := by
  intro xs F w cs R ha h
  obtain ⟨x, i, a, rfl, h1, h⟩ := onVn_inv h
  obtain ⟨ht, h⟩ := when_inv h
  obtain ⟨hf, h⟩ := when_inv h
  have ha := ha.conv2 (fun v => as_V h1) (fun v h => h)
  obtain ⟨t, n, s, l⟩ := a
  refine contract (fn := Tryz.f28) (walked (PureOk.also okNoAt (PureOk.also okNoAt (PureOk.also ok12 (PureOk.also ok18 (PureOk.also ok70 okAB2))))) 14) (by kernel_rfl) w28pC_ok (by rfl) (by rfl) (by rfl) (by rfl) (by rfl) ha (ρ := [.int t, .is n, .ss s, .vs l, .int i]) (Rh.go (w28p_9999 t n s l i _) ?_) h
  have h8 : t ≠ 98 := hf.1
  have h9 : t ≠ 99 := hf.2
  simp only [SQ, RhQ, eq_self, implies_true, forall_const, VT.eta, if_true, if_false]
  refine ⟨fun h => Ret.ve (at1_no h) (at1E_no h) rfl, fun h => ?_⟩
  have h : ¬ (i < 0 ∨ rCount (.mk t n s l) ≤ i) := by omega
  rw [at1_yes h, at1E_yes h]
  refine ⟨fun h3 => ?_, fun h3 => ?_⟩
  · subst h3
    rw [cnt_s] at h
    exact ⟨⟨by omega, by omega⟩, Ret.ve at0_s rfl rfl⟩
  refine ⟨fun hv => ?_, fun hv => ?_⟩
  · rw [cnt_n h3 hv] at h
    rw [at0_n h3 hv]
    exact ⟨⟨by omega, by omega⟩, rfl⟩
  have hv : ¬ (1 ≤ t ∧ t ≤ 5) := by omega
  refine ⟨fun h0 => ?_, fun h0 => ?_⟩
  · subst h0
    rw [cnt_l] at h
    have hx := getD_mem l default (i := i.toNat) (by omega)
    exact ⟨⟨by omega, by omega⟩, ht.mem hx, Ret.ve (y := VT.mk (l.getD i.toNat default).t (l.getD i.toNat default).n (l.getD i.toNat default).s (l.getD i.toNat default).l) (by rw [VT.eta]; exact at0_l) rfl rfl⟩
  refine ⟨fun h => absurd h h8, fun _ => ?_⟩
  have fin : tame (.mk t n s l) ∧ Ret (.tup [vcl (at0 (.mk t n s l) i.toNat), .int .i64 0]) ⟨.tup [.agg [.int .i64 t, .sl (.i .i64 n), .sl (.s s), .sl (.v l)], .int .i64 0], [], [], []⟩ := ⟨ht, Ret.ve (at0_o h3 hv h0) rfl rfl⟩
  repeat' apply And.intro
  all_goals first | exact fin.1 | exact fin.2 | (intro hh; exact absurd hh h9) | (intro hh; exact absurd hh.1 h9) | (intro hh; exact absurd hh.1.1 h9) | (intro _; repeat' apply And.intro)
  all_goals first | exact fin.1 | exact fin.2 | (intro hh; exact absurd hh h9) | (intro hh; exact absurd hh.1 h9) | (intro hh; exact absurd hh.1.1 h9) | (intro _; exact fin) | (intro _; repeat' apply And.intro)

/-! ### value.row -/
theorem inner96 (l : List VT) (i : Int) (k : Nat) (hk : k < l.length) (hl : l.length ≤ maxLen) (names : List ByteArray) (y : AV) (p0 : List VT) (c : List VT) (a1 : Int) (a2 : List Int) (a3 : List ByteArray) (a4 : List VT) (hc : c.length ≤ 1073741824) (hp : p0.length ≤ 1073741824) (h9 : ∀ x ∈ c, tame x ∧ flat9 x)
    (ho : Rh w96S (Ret y) (4, [.int i, .vs l, .int l.length, .int (k + 1 : Nat), .ss names, .vs (p0 ++ c.map fun c => at1V c i)])) (j : Nat) (hj : j ≤ c.length) :
    Rh w96S (Ret y) (8, [.int i, .vs l, .int l.length, .int k, .vs c, .int c.length, .int j, .ss names, .int a1, .is a2, .ss a3, .vs a4, .vs (p0 ++ (c.take j).map fun c => at1V c i)]) := by
  refine Rh.go (w96_8 i l l.length k c c.length j names a1 a2 a3 a4 _ _) ?_
  simp only [SQ, RhQ, eq_self, implies_true, forall_const, VT.eta, if_true, if_false, List.length_append, List.length_map, List.length_take, List.length_cons, List.length_nil]
  
  have key : j < c.length → Rh w96S (Ret y) (8, [.int i, .vs l, .int l.length, .int k, .vs c, .int c.length, .int (j + 1 : Nat), .ss names, .int a1, .is a2, .ss a3, .vs a4, .vs (p0 ++ (c.take j).map (fun c => at1V c i) ++ [at1V (c.getD j default) i])]) := fun h => by
    have e := inner96 l i k hk hl names y p0 c a1 a2 a3 a4 hc hp h9 ho (j + 1) (by omega)
    rw [map_take _ c default h, ← List.append_assoc] at e
    exact e
  have bnd : j < c.length → tame (c.getD j default) ∧ flat9 (c.getD j default) := fun h => h9 _ (getD_mem c default h)
  have fin : ¬ j < c.length → Rh w96S (Ret y) (4, [.int i, .vs l, .int l.length, .int (k + 1 : Nat), .ss names, .vs (p0 ++ (c.take j).map fun c => at1V c i)]) := fun h => by
    rw [List.take_of_length_le (by omega)]; exact ho
  refine ⟨fun h => ?_, fun h => by rw [inc hl hk]; exact fin (by omega)⟩
  have hh : j < c.length := by omega
  have b := bnd hh
  have kk := key hh
  rw [inc (mlen hc) hh]
  exact ⟨⟨by omega, by omega⟩, b.1, b.2, by omega, kk⟩
termination_by c.length - j
theorem outer96 (l : List VT) (ht : tames l) (hcl : cols l) (i : Int) (k : Nat) (hk : k ≤ l.length) :
    Rh w96S (Ret (vcl (rowV l i))) (4, [.int i, .vs l, .int l.length, .int k, .ss ((l.take k).flatMap VT.s), .vs (((l.take k).flatMap VT.l).map fun c => at1V c i)]) := by
  refine Rh.go (w96_4 i l l.length k _ _ _) ?_
  have hl := mlen ht.len
  have b1 := ht.flat_s k
  have b2 := ht.flat_s (k + 1)
  simp only [SQ, RhQ, eq_self, implies_true, forall_const, VT.eta, if_true, if_false]
  refine ⟨fun h => ?_, fun h => ?_⟩
  · have hx := getD_mem l default (i := k) (by omega)
    have hc := ht.mem hx
    have hlc : (l.getD k default).l.length ≤ 1073741824 := tame.l' hc
    have h9 : ∀ x ∈ (l.getD k default).l, tame x ∧ flat9 x := fun x hx' => ⟨tame.mem' hc hx', hcl _ hx x hx'⟩
    have e := outer96 l ht hcl i (k + 1) (by omega)
    rw [flat_take VT.l l (by omega), List.map_append, flat_take VT.s l (by omega)] at e
    have e2 := inner96 l i k (by omega) hl ((l.take k).flatMap VT.s ++ (l.getD k default).s) (vcl (rowV l i)) (((l.take k).flatMap VT.l).map fun c => at1V c i) (l.getD k default).l (l.getD k default).t (l.getD k default).n (l.getD k default).s (l.getD k default).l hlc (rows_len ht i k) h9 e 0 (by omega)
    rw [List.take_zero, List.map_nil, List.append_nil] at e2
    rw [flat_take VT.s l (by omega), List.length_append] at b2
    repeat' apply And.intro
    all_goals first | exact e2 | omega
  · have f1 := rows_tame ht i l.length
    rw [List.take_of_length_le (by omega)] at *
    repeat' apply And.intro
    all_goals first | exact f1 | omega | exact rfl
termination_by l.length - k
theorem ok96 : Pure1 Tryz.prog 96 sp96 := by
  intro xs F w cs R ha h
  obtain ⟨x, i, a, rfl, h1, h⟩ := onVsn_inv h
  obtain ⟨ht, h⟩ := when_inv h
  obtain ⟨hc, h⟩ := when_inv h
  have ha := ha.conv2 (fun v => as_Vs h1) (fun v h => h)
  refine contract (fn := Tryz.f96) (walked (PureOk.also ok54p (PureOk.also ok68 (PureOk.also ok88 (PureOk.none _)))) 14) (by kernel_rfl) w96C_ok (by rfl) (by rfl) (by rfl) (by rfl) (by rfl) ha (ρ := [.vs a, .int i]) (Rh.go (w96_9999 a i _) ?_) h
  simp only [SQ, RhQ, eq_self, implies_true, forall_const, VT.eta, if_true, if_false]
  exact outer96 a ht hc i 0 (by omega)

/-! ### quiverref03.row -/
theorem inner71 (l : List VT) (i : Int) (k : Nat) (hk : k < l.length) (hl : l.length ≤ maxLen) (names : List ByteArray) (y : AV) (p0 : List VT) (c : List VT) (ec : (l.getD k default).l = c) (hc : c.length ≤ 1073741824) (hp : p0.length ≤ 1073741824) (h9 : ∀ x ∈ c, tame x ∧ flat9 x)
    (ho : Rh w71S (Ret y) (4, [.vs l, .int i, .int (k + 1 : Nat), .ss names, .vs (p0 ++ c.map fun c => at1V c i)])) (j : Nat) (hj : j ≤ c.length) :
    Rh w71S (Ret y) (8, [.vs l, .int i, .int k, .int j, .ss names, .vs (p0 ++ (c.take j).map fun c => at1V c i)]) := by
  refine Rh.go (w71_8 l i k j names _ _) ?_
  simp only [SQ, RhQ, eq_self, implies_true, forall_const, VT.eta, if_true, if_false, List.length_append, List.length_map, List.length_take, List.length_cons, List.length_nil]
  rw [ec]
  have key : j < c.length → Rh w71S (Ret y) (8, [.vs l, .int i, .int k, .int (j + 1 : Nat), .ss names, .vs (p0 ++ (c.take j).map (fun c => at1V c i) ++ [at1V (c.getD j default) i])]) := fun h => by
    have e := inner71 l i k hk hl names y p0 c ec hc hp h9 ho (j + 1) (by omega)
    rw [map_take _ c default h, ← List.append_assoc] at e
    exact e
  have bnd : j < c.length → tame (c.getD j default) ∧ flat9 (c.getD j default) := fun h => h9 _ (getD_mem c default h)
  have fin : ¬ j < c.length → Rh w71S (Ret y) (4, [.vs l, .int i, .int (k + 1 : Nat), .ss names, .vs (p0 ++ (c.take j).map fun c => at1V c i)]) := fun h => by
    rw [List.take_of_length_le (by omega)]; exact ho
  refine ⟨⟨by omega, by omega⟩, ⟨fun h => ?_, fun h => by rw [inc hl hk]; exact fin (by omega)⟩⟩
  have hh : j < c.length := by omega
  have b := bnd hh
  have kk := key hh
  rw [inc (mlen hc) hh]
  exact ⟨⟨by omega, by omega⟩, ⟨by omega, by omega⟩, b.1, b.2, by omega, kk⟩
termination_by c.length - j
theorem outer71 (l : List VT) (ht : tames l) (hcl : cols l) (i : Int) (k : Nat) (hk : k ≤ l.length) :
    Rh w71S (Ret (vcl (rowV l i))) (4, [.vs l, .int i, .int k, .ss ((l.take k).flatMap VT.s), .vs (((l.take k).flatMap VT.l).map fun c => at1V c i)]) := by
  refine Rh.go (w71_4 l i k _ _ _) ?_
  have hl := mlen ht.len
  have b1 := ht.flat_s k
  have b2 := ht.flat_s (k + 1)
  simp only [SQ, RhQ, eq_self, implies_true, forall_const, VT.eta, if_true, if_false]
  refine ⟨fun h => ?_, fun h => ?_⟩
  · have hx := getD_mem l default (i := k) (by omega)
    have hc := ht.mem hx
    have hlc : (l.getD k default).l.length ≤ 1073741824 := tame.l' hc
    have h9 : ∀ x ∈ (l.getD k default).l, tame x ∧ flat9 x := fun x hx' => ⟨tame.mem' hc hx', hcl _ hx x hx'⟩
    have e := outer71 l ht hcl i (k + 1) (by omega)
    rw [flat_take VT.l l (by omega), List.map_append, flat_take VT.s l (by omega)] at e
    have e2 := inner71 l i k (by omega) hl ((l.take k).flatMap VT.s ++ (l.getD k default).s) (vcl (rowV l i)) (((l.take k).flatMap VT.l).map fun c => at1V c i) (l.getD k default).l rfl hlc (rows_len ht i k) h9 e 0 (by omega)
    rw [List.take_zero, List.map_nil, List.append_nil] at e2
    rw [flat_take VT.s l (by omega), List.length_append] at b2
    repeat' apply And.intro
    all_goals first | exact e2 | omega
  · have f1 := rows_tame ht i l.length
    rw [List.take_of_length_le (by omega)] at *
    repeat' apply And.intro
    all_goals first | exact f1 | omega | exact rfl
termination_by l.length - k
theorem ok71 : Pure1 Tryz.prog 71 sp71 := by
  intro xs F w cs R ha h
  obtain ⟨x, i, a, rfl, h1, h⟩ := onVsn_inv h
  obtain ⟨ht, h⟩ := when_inv h
  obtain ⟨hc, h⟩ := when_inv h
  have ha := ha.conv2 (fun v => as_Vs h1) (fun v h => h)
  refine contract (fn := Tryz.f71) (walked (PureOk.also ok28p (PureOk.also ok75 (PureOk.none _))) 14) (by kernel_rfl) w71C_ok (by rfl) (by rfl) (by rfl) (by rfl) (by rfl) ha (ρ := [.vs a, .int i]) (Rh.go (w71_9999 a i _) ?_) h
  simp only [SQ, RhQ, eq_self, implies_true, forall_const, VT.eta, if_true, if_false]
  exact outer71 a ht hc i 0 (by omega)

/-! ### value.At -/
theorem ok54 : Pure1 Tryz.prog 54 sp54 := by
  intro xs F w cs R ha h
  obtain ⟨x, i, a, rfl, h1, h⟩ := onVn_inv h
  obtain ⟨ht, h⟩ := when_inv h
  obtain ⟨hf, h⟩ := when_inv h
  have ha := ha.conv2 (fun v => as_V h1) (fun v h => h)
  obtain ⟨t, n, s, l⟩ := a
  refine contract (fn := Tryz.f54) (walked (PureOk.also ok54p (PureOk.also ok96 (PureOk.also ok50 (PureOk.also ok47 (PureOk.also ok95 okAB2))))) 14) (by kernel_rfl) w54C_ok (by rfl) (by rfl) (by rfl) (by rfl) (by rfl) ha (ρ := [.int t, .is n, .ss s, .vs l, .int i]) (Rh.go (w54_9999 t n s l i _) ?_) h
  obtain ⟨f8, f9⟩ := hf
  have f8 : t = 98 → cols [VT.mk t n s l] := f8
  have f9 : t = 99 → l.length = 2 ∧ ((l.getD 0 default).t = 98 → cols l) ∧ ((l.getD 0 default).t ≠ 98 → flat9 (l.getD 1 default)) := f9
  simp only [SQ, RhQ, eq_self, implies_true, forall_const, VT.eta, if_true, if_false]
  refine ⟨fun h => Ret.ve (at_no h) (atE_no h) rfl, fun h => ?_⟩
  have h : ¬ (i < 0 ∨ rCount (.mk t n s l) ≤ i) := by omega
  have plain : t ≠ 98 → t ≠ 99 → atV (.mk t n s l) i = at0 (.mk t n s l) i.toNat ∧ atE (.mk t n s l) i = 0 := fun h8 h9 => ⟨at_0 h h8 h9, atE_0 h h9⟩
  refine ⟨fun h3 => ?_, fun h3 => ?_⟩
  · subst h3
    obtain ⟨p1, p2⟩ := plain (by decide) (by decide)
    rw [p1, p2]
    rw [cnt_s] at h
    exact ⟨⟨by omega, by omega⟩, Ret.ve at0_s rfl rfl⟩
  refine ⟨fun hv => ?_, fun hv => ?_⟩
  · obtain ⟨p1, p2⟩ := plain (by omega) (by omega)
    rw [p1, p2]
    rw [cnt_n h3 hv] at h
    rw [at0_n h3 hv]
    exact ⟨⟨by omega, by omega⟩, rfl⟩
  have hv : ¬ (1 ≤ t ∧ t ≤ 5) := by omega
  refine ⟨fun h0 => ?_, fun h0 => ?_⟩
  · subst h0
    obtain ⟨p1, p2⟩ := plain (by decide) (by decide)
    rw [p1, p2]
    rw [cnt_l] at h
    have hx := getD_mem l default (i := i.toNat) (by omega)
    exact ⟨⟨by omega, by omega⟩, ht.mem hx, Ret.ve (y := VT.mk (l.getD i.toNat default).t (l.getD i.toNat default).n (l.getD i.toNat default).s (l.getD i.toNat default).l) (by rw [VT.eta]; exact at0_l) rfl rfl⟩
  have tl : tames l := ht.ls
  refine ⟨fun h8 => ⟨?_, f8 h8, ?_⟩, fun h8 => ?_⟩
  · unfold tames; rw [bks_cons]; unfold tame at ht; simp only [bks]; omega
  · rw [at_t h h8, atE_0 h (show (VT.mk t n s l).t ≠ 99 by show t ≠ 99; omega)]; exact rfl
  refine ⟨fun hh => ?_, fun hh => ?_, fun hh => ⟨fun h9 => ?_, fun h9 => ?_⟩⟩
  · have := f9 (by omega)
    exact ⟨by omega, by omega⟩
  · have h9 : t = 99 := by omega
    have hk : (l.getD 0 default).t = 98 := by omega
    rw [at_k h h9 hk, atE_k h hk]
    exact ⟨tl, (f9 h9).2.1 hk, rfl⟩
  · have q := f9 h9
    have hk : (l.getD 0 default).t ≠ 98 := by omega
    rw [at_d h h9 hk, atE_d h h9 hk]
    exact ⟨⟨by omega, by omega⟩, ht.mem (getD_mem l default (by omega)), q.2.2 hk, rfl⟩
  · obtain ⟨p1, p2⟩ := plain h8 h9
    rw [p1, p2]
    exact ⟨ht, Ret.ve (at0_o h3 hv h0) rfl rfl⟩

/-! ### quiverref03.At -/
theorem ok28 : Pure1 Tryz.prog 28 sp28 := by
  intro xs F w cs R ha h
  obtain ⟨x, i, a, rfl, h1, h⟩ := onVn_inv h
  obtain ⟨ht, h⟩ := when_inv h
  obtain ⟨hf, h⟩ := when_inv h
  have ha := ha.conv2 (fun v => as_V h1) (fun v h => h)
  obtain ⟨t, n, s, l⟩ := a
  refine contract (fn := Tryz.f28) (walked (PureOk.also ok28p (PureOk.also ok71 (PureOk.also ok12 (PureOk.also ok18 (PureOk.also ok70 okAB2))))) 14) (by kernel_rfl) w28C_ok (by rfl) (by rfl) (by rfl) (by rfl) (by rfl) ha (ρ := [.int t, .is n, .ss s, .vs l, .int i]) (Rh.go (w28_9999 t n s l i _) ?_) h
  obtain ⟨f8, f9⟩ := hf
  have f8 : t = 98 → cols [VT.mk t n s l] := f8
  have f9 : t = 99 → l.length = 2 ∧ ((l.getD 0 default).t = 98 → cols l) ∧ ((l.getD 0 default).t ≠ 98 → flat9 (l.getD 1 default)) := f9
  simp only [SQ, RhQ, eq_self, implies_true, forall_const, VT.eta, if_true, if_false]
  refine ⟨fun h => Ret.ve (at_no h) (atE_no h) rfl, fun h => ?_⟩
  have h : ¬ (i < 0 ∨ rCount (.mk t n s l) ≤ i) := by omega
  have plain : t ≠ 98 → t ≠ 99 → atV (.mk t n s l) i = at0 (.mk t n s l) i.toNat ∧ atE (.mk t n s l) i = 0 := fun h8 h9 => ⟨at_0 h h8 h9, atE_0 h h9⟩
  refine ⟨fun h3 => ?_, fun h3 => ?_⟩
  · subst h3
    obtain ⟨p1, p2⟩ := plain (by decide) (by decide)
    rw [p1, p2]
    rw [cnt_s] at h
    exact ⟨⟨by omega, by omega⟩, Ret.ve at0_s rfl rfl⟩
  refine ⟨fun hv => ?_, fun hv => ?_⟩
  · obtain ⟨p1, p2⟩ := plain (by omega) (by omega)
    rw [p1, p2]
    rw [cnt_n h3 hv] at h
    rw [at0_n h3 hv]
    exact ⟨⟨by omega, by omega⟩, rfl⟩
  have hv : ¬ (1 ≤ t ∧ t ≤ 5) := by omega
  refine ⟨fun h0 => ?_, fun h0 => ?_⟩
  · subst h0
    obtain ⟨p1, p2⟩ := plain (by decide) (by decide)
    rw [p1, p2]
    rw [cnt_l] at h
    have hx := getD_mem l default (i := i.toNat) (by omega)
    exact ⟨⟨by omega, by omega⟩, ht.mem hx, Ret.ve (y := VT.mk (l.getD i.toNat default).t (l.getD i.toNat default).n (l.getD i.toNat default).s (l.getD i.toNat default).l) (by rw [VT.eta]; exact at0_l) rfl rfl⟩
  have tl : tames l := ht.ls
  refine ⟨fun h8 => ⟨?_, f8 h8, ?_⟩, fun h8 => ?_⟩
  · unfold tames; rw [bks_cons]; unfold tame at ht; simp only [bks]; omega
  · rw [at_t h h8, atE_0 h (show (VT.mk t n s l).t ≠ 99 by show t ≠ 99; omega)]; exact rfl
  refine ⟨fun hh => ?_, fun hh => ?_, fun hh => ⟨fun h9 => ?_, fun h9 => ?_⟩⟩
  · have := f9 (by omega)
    exact ⟨by omega, by omega⟩
  · have h9 : t = 99 := by omega
    have hk : (l.getD 0 default).t = 98 := by omega
    rw [at_k h h9 hk, atE_k h hk]
    exact ⟨tl, (f9 h9).2.1 hk, rfl⟩
  · have q := f9 h9
    have hk : (l.getD 0 default).t ≠ 98 := by omega
    rw [at_d h h9 hk, atE_d h h9 hk]
    exact ⟨⟨by omega, by omega⟩, ht.mem (getD_mem l default (by omega)), q.2.2 hk, rfl⟩
  · obtain ⟨p1, p2⟩ := plain h8 h9
    rw [p1, p2]
    exact ⟨ht, Ret.ve (at0_o h3 hv h0) rfl rfl⟩
end Go.Qv
