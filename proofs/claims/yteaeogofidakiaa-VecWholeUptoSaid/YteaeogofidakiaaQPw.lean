/- What is taken apart is put together: of values alone. No condition. -/
import Derived.Test.YteaeogofidakiaaQPv
set_option linter.unusedVariables false
set_option linter.unusedSimpArgs false
set_option maxRecDepth 100000
namespace Go.Qv
open Go Go.RowKit Go.Proofs
theorem parts_many {t n s l k} (h : rParts (.mk t n s l) k = 0) : rMany (.mk t n s l) = false := by
  rw [rParts] at h
  split at h
  · omega
  · split at h
    · omega
    · rename_i h2; simpa using h2
theorem checkV_parts {v : VT} (h : checkV v = 0) : rParts v 1048576 = 0 := by
  unfold checkV at h
  split at h
  · omega
  · exact h
theorem cnt_ok {v : VT} (h : rParts v 1048576 = 0) : cntOk v := by
  obtain ⟨t, n, s, l⟩ := v
  intro hh
  have hh : 0 ≤ t ∧ t ≤ 5 := hh
  have hm := parts_many h
  have em : rMany (.mk t n s l) = if t = 3 then decide ((65536 : Int) < s.length) else if 1 ≤ t ∧ t ≤ 5 then decide ((65536 : Int) < n.length) else if t = 98 then decide ((64 : Int) < s.length) || decide ((64 : Int) < l.length) else decide (t = 0) && decide ((65536 : Int) < l.length) := rfl
  rw [em] at hm
  clear em
  by_cases h3 : t = 3
  · subst h3
    rw [if_pos rfl, decide_eq_false_iff_not] at hm
    rw [cnt_s]; omega
  · rw [if_neg h3] at hm
    by_cases h0 : t = 0
    · subst h0
      rw [if_neg (by omega), if_neg (by omega)] at hm
      simp only [decide_true, Bool.true_and, decide_eq_false_iff_not] at hm
      rw [cnt_l]; omega
    · rw [if_pos (by omega), decide_eq_false_iff_not] at hm
      rw [cnt_n h3 (by omega)]; omega
theorem bks_reverse : ∀ l : List VT, bks l.reverse = bks l
  | [] => rfl
  | x :: l => by rw [List.reverse_cons, bks_append, bks_reverse l, bks_cons, bks_cons]; simp only [bks]; omega
theorem at_all (n s l) : (iotaI (rCount (.mk 0 n s l))).map (at1V (.mk 0 n s l)) = l := by
  rw [cnt_l]
  apply List.ext_getElem
  · simp [iotaI_len]
  · intro i h1 h2
    rw [List.getElem_map, iotaI_get, at1_yes (by rw [cnt_l]; omega), at0_l, List.getD_eq_getElem?_getD, show ((i : Nat) : Int).toNat = i by omega, List.getElem?_eq_getElem h2]; rfl
theorem t0 {v : VT} (h : v.t = 0) : ∃ n s l, v = .mk 0 n s l := by
  obtain ⟨t, n, s, l⟩ := v
  have h : t = 0 := h
  subst h
  exact ⟨n, s, l, rfl⟩
theorem list_bks {n s l} (h : (VT.mk 0 n s l).bk ≤ 1048576) : bks l ≤ 1048576 := by rw [VT.bk_eq] at h; omega
theorem pick_rev {v : VT} (hb : v.bk ≤ 1048576) (hc : cntOk v) : pickOk v (revL v) := by
  intro hh
  have h1 := hc hh
  refine ⟨by unfold revL; rw [List.length_reverse, iotaI_len]; omega, fun h0 => ?_⟩
  obtain ⟨n, s, l, rfl⟩ := t0 h0
  unfold revL tames
  rw [List.map_reverse, at_all, bks_reverse]
  have := list_bks hb
  omega
theorem pick_drop {v : VT} (x : Int) (hb : v.bk ≤ 1048576) (hc : cntOk v) : pickOk v (dropL x v) := by
  intro hh
  have h1 := hc hh
  have h2 := rCount_nn v
  refine ⟨?_, fun h0 => ?_⟩
  · unfold dropL dropI
    split
    · rw [List.length_drop, iotaI_len]; omega
    · rw [List.length_take, iotaI_len]; omega
  · obtain ⟨n, s, l, rfl⟩ := t0 h0
    have := list_bks hb
    unfold dropL dropI tames
    split
    · rw [List.map_drop, at_all]; have := bks_drop l x.toNat; omega
    · rw [List.map_take, at_all]; have := bks_take l (rCount (.mk 0 n s l) + x).toNat; omega

theorem parts_fields {t n s l k} (h : rParts (.mk t n s l) k = 0) : (rfN t = false → n = []) ∧ (rfS t = false → s = []) ∧ (rfL t = false → l = []) ∧ rPlain (.mk t n s l) = true ∧ (k ≠ 0 → rPartsL l (IntKind.i64.wrap (k - 1)) = 0) := by
  rw [rParts] at h
  split at h
  · omega
  · rename_i h1
    split at h
    · omega
    · split at h
      · omega
      · split at h
        · omega
        · rename_i h4
          split at h
          · omega
          · refine ⟨fun e => ?_, fun e => ?_, fun e => ?_, by simpa using h4, fun hk => ?_⟩
            · exact List.eq_nil_of_length_eq_zero (Nat.eq_zero_of_not_pos fun hp => h1 (.inr (.inl ⟨e, hp⟩)))
            · exact List.eq_nil_of_length_eq_zero (Nat.eq_zero_of_not_pos fun hp => h1 (.inr (.inr (.inl ⟨e, hp⟩))))
            · exact List.eq_nil_of_length_eq_zero (Nat.eq_zero_of_not_pos fun hp => h1 (.inr (.inr (.inr ⟨e, hp⟩))))
            · rw [if_neg hk] at h; exact h
theorem partsL_mem : ∀ {l : List VT} {k : Int}, rPartsL l k = 0 → ∀ x ∈ l, rParts x k = 0
  | [], _, _, x, h => by simp at h
  | y :: l, k, h, x, hx => by
    rw [rPartsL] at h
    split at h
    · rename_i h1; exact absurd h h1
    · rename_i h1
      rcases List.mem_cons.1 hx with rfl | hx
      · omega
      · exact partsL_mem h x hx
theorem rListGo_ok {t0 : Int} : ∀ {l : List VT} {b : Bool}, rListGo t0 b l = true → alikeGo t0 b l = false
  | [], b, h => by
    cases b with
    | true => simp [rListGo] at h
    | false => simp [alikeGo]
  | x :: l, b, h => by
    rw [rListGo] at h
    split at h
    · cases h
    · have a := rListGo_ok h
      unfold alikeGo at a ⊢
      rw [List.all_cons, ← Bool.and_assoc]; exact a
theorem rf_vec {t : Int} (h : 1 ≤ rAbs t ∧ rAbs t ≤ 5) (h0 : t ≠ 0) (h3 : rAbs t ≠ 3) : rFields t = (true, false, false, true) := by
  unfold rFields; rw [if_neg h3, if_pos ⟨⟨h0, h.1⟩, h.2⟩]
theorem rf_sym {t : Int} (h3 : rAbs t = 3) : rFields t = (false, true, false, true) := by
  unfold rFields; rw [if_pos h3]
theorem rAbs_pos {t : Int} (h : 0 ≤ t) : rAbs t = t := by unfold rAbs; rw [if_neg (by omega)]
theorem rAbs_atom {t : Int} (h : isAtomT t) : rAbs t = -t := by unfold isAtomT at h; unfold rAbs; rw [if_pos h]
/-- An atom has one number, or one text. -/
def Atomic (x : VT) : Prop := isAtomT x.t → (x.t = -3 ∧ ∃ s0, x = .mk (-3) [] [s0] []) ∨ (x.t ≠ -3 ∧ ∃ n0, x = .mk x.t [n0] [] [])
theorem atomic_of {x : VT} {k : Int} (ht : tame x) (h : rParts x k = 0) : Atomic x := by
  obtain ⟨t, n, s, l⟩ := x
  intro ha
  have ha : isAtomT t := ha
  obtain ⟨f1, f2, f3, f4, _⟩ := parts_fields h
  have q1 := ht.n
  have q2 := ht.s
  have e := rAbs_atom ha
  have hp : IntKind.i64.wrap (n.length + s.length) = 1 := by
    have f4 : (if isAtomT t ∧ IntKind.i64.wrap (n.length + s.length) ≠ 1 then false else _) = true := f4
    by_cases hh : isAtomT t ∧ IntKind.i64.wrap (n.length + s.length) ≠ 1
    · rw [if_pos hh] at f4; cases f4
    · exact Classical.byContradiction fun hne => hh ⟨ha, hne⟩
  rw [w64 (by omega) (by omega)] at hp
  have ha' : t < 0 ∧ -5 ≤ t := ha
  by_cases h3 : t = -3
  · subst h3
    have r : rFields (-3) = _ := rf_sym rfl
    have hn := f1 (by unfold rfN; rw [r])
    have hl := f3 (by unfold rfL; rw [r])
    subst hn; subst hl
    match s, hp with
    | [s0], _ => exact .inl ⟨rfl, s0, rfl⟩
    | [], hp => simp at hp
    | _ :: _ :: _, hp => simp at hp; omega
  · have r : rFields t = _ := rf_vec (by omega) (by omega) (by omega)
    have hs := f2 (by unfold rfS; rw [r])
    have hl := f3 (by unfold rfL; rw [r])
    subst hs; subst hl
    match n, hp with
    | [n0], _ => exact .inr ⟨h3, n0, rfl⟩
    | [], hp => simp at hp
    | _ :: _ :: _, hp => simp at hp; omega
/-! ### a vector of elements, and its elements -/
theorem atomV_vec {t x : Int} (h : 1 ≤ t ∧ t ≤ 5) (h3 : t ≠ 3) : atomV t x = .mk (-t) [x] [] [] := by
  unfold atomV; rw [rAbs_pos (by omega), if_neg (by omega)]
theorem eachs_eq {v : VT} (h : partP v) : eachs v = (List.range (rCount v).toNat).map fun (k : Nat) => at0 v k := by
  unfold eachs
  refine List.map_congr_left fun k hk => ?_
  have hk := List.mem_range.1 hk
  unfold partP at h
  rw [at_0 (by omega) (by omega) (by omega), Int.toNat_natCast]
theorem eachs_sym (n s l) : eachs (.mk 3 n s l) = s.map fun x => .mk (-3) [] [x] [] := by
  rw [eachs_eq (by unfold partP; exact ⟨by show (0 : Int) ≤ 3; omega, by show (3 : Int) ≤ 5; omega⟩), rCount_mk, if_pos rfl, Int.toNat_natCast]
  conv => rhs; rw [← map_range s ⟨#[]⟩]
  rw [List.map_map]
  refine List.map_congr_left fun k _ => ?_
  simp only [at0_mk, if_pos, Function.comp]
theorem eachs_vec {t : Int} (h : 1 ≤ t ∧ t ≤ 5) (h3 : t ≠ 3) (n s l) : eachs (.mk t n s l) = n.map fun x => .mk (-t) [x] [] [] := by
  rw [eachs_eq (show partP (.mk t n s l) from show 0 ≤ t ∧ t ≤ 5 by omega), rCount_mk, if_neg h3, if_pos (show isVecT t from h), Int.toNat_natCast]
  conv => rhs; rw [← map_range n 0]
  rw [List.map_map]
  refine List.map_congr_left fun k _ => ?_
  rw [at0_mk, if_neg h3, if_pos (show isVecT t from h), atomV_vec h h3]; rfl
theorem eachs_list (n s l) : eachs (.mk 0 n s l) = l := by
  rw [eachs_eq (show partP (.mk 0 n s l) from show (0 : Int) ≤ 0 ∧ (0 : Int) ≤ 5 by omega), rCount_mk, if_neg (by omega), if_neg (by unfold isVecT; omega), if_pos rfl, Int.toNat_natCast]
  conv => rhs; rw [← map_range l default]
  refine List.map_congr_left fun k _ => ?_
  rw [at0_mk, if_neg (by omega), if_neg (by unfold isVecT; omega), if_pos rfl]
theorem syms_back : ∀ {m : List VT}, (∀ x ∈ m, ∃ s0, x = .mk (-3) [] [s0] []) → (m.flatMap VT.s).map (fun x => VT.mk (-3) [] [x] []) = m
  | [], _ => rfl
  | x :: m, h => by
    obtain ⟨s0, rfl⟩ := h x List.mem_cons_self
    rw [List.flatMap_cons, List.map_append, syms_back (fun y hy => h y (List.mem_cons_of_mem _ hy))]; rfl
theorem nums_back {t0 : Int} : ∀ {m : List VT}, (∀ x ∈ m, ∃ n0, x = .mk t0 [n0] [] []) → (m.flatMap VT.n).map (fun x => VT.mk t0 [x] [] []) = m
  | [], _ => rfl
  | x :: m, h => by
    obtain ⟨s0, rfl⟩ := h x List.mem_cons_self
    rw [List.flatMap_cons, List.map_append, nums_back (fun y hy => h y (List.mem_cons_of_mem _ hy))]; rfl
theorem eachs_ofV {m : List VT} (hm : ∀ x ∈ m, Atomic x) : eachs (ofV m) = m := by
  cases hb : alikeB m with
  | false => rw [ofV_list hb, eachs_list]
  | true =>
    rw [ofV_vec hb]
    obtain ⟨h0, h1⟩ := alikeB_pos hb
    have ha := (h1 _ (getD_mem m default h0)).1
    generalize (m.getD 0 default).t = t0 at *
    have ha' : t0 < 0 ∧ -5 ≤ t0 := ha
    by_cases h3 : t0 = -3
    · subst h3
      have e : -(-3 : Int) = 3 := by omega
      rw [e, eachs_sym]
      refine syms_back fun x hx => ?_
      obtain ⟨g1, g2⟩ := h1 x hx
      rcases hm x hx g1 with ⟨_, h⟩ | ⟨h, _⟩
      · exact h
      · exact absurd g2 h
    · rw [eachs_vec (by omega) (by omega), Int.neg_neg]
      refine nums_back fun x hx => ?_
      obtain ⟨g1, g2⟩ := h1 x hx
      rcases hm x hx g1 with ⟨h, _⟩ | ⟨_, n0, h⟩
      · omega
      · exact ⟨n0, by rw [← g2]; exact h⟩
theorem count_ofV {m : List VT} (hm : ∀ x ∈ m, Atomic x) : rCount (ofV m) = m.length := by
  have h1 := congrArg List.length (eachs_ofV hm)
  rw [eachs_len] at h1
  have := rCount_nn (ofV m)
  omega
theorem ofV_t (m : List VT) : ((ofV m).t = 0 ∧ alikeB m = false) ∨ ((1 ≤ (ofV m).t ∧ (ofV m).t ≤ 5) ∧ alikeB m = true ∧ (ofV m).t = -(m.getD 0 default).t) := by
  cases hb : alikeB m with
  | false => rw [ofV_list hb]; exact .inl ⟨rfl, rfl⟩
  | true =>
    obtain ⟨h0, h1⟩ := alikeB_pos hb
    have ha : (m.getD 0 default).t < 0 ∧ -5 ≤ (m.getD 0 default).t := (h1 _ (getD_mem m default h0)).1
    rw [ofV_vec hb]
    exact .inr ⟨show 1 ≤ -(m.getD 0 default).t ∧ -(m.getD 0 default).t ≤ 5 by omega, rfl, rfl⟩
theorem alikeB_iff {m : List VT} : alikeB m = true ↔ 0 < m.length ∧ ∃ t0, isAtomT t0 ∧ ∀ x ∈ m, x.t = t0 := by
  constructor
  · intro h
    obtain ⟨h0, h1⟩ := alikeB_pos h
    exact ⟨h0, _, (h1 _ (getD_mem m default h0)).1, fun x hx => (h1 x hx).2⟩
  · rintro ⟨h0, t0, h1, h2⟩
    unfold alikeB alikeGo
    rw [Bool.and_eq_true, List.all_eq_true]
    refine ⟨decide_eq_true h0, fun x hx => decide_eq_true ?_⟩
    rw [h2 x hx, h2 _ (getD_mem m default h0)]
    exact ⟨h1, rfl⟩
theorem alike_rev {m : List VT} : alikeB m.reverse = alikeB m := by
  rw [Bool.eq_iff_iff, alikeB_iff, alikeB_iff]
  simp
theorem join_list {l : List VT} (x : Nat) (hl : l.length ≤ 65536) (hna : alikeB l = false) (hat : ∀ y ∈ l, Atomic y) (hd : ¬ 32 < rDepth (.mk 0 [] [] l)) :
    joinV [ofV (l.take x), ofV (l.drop x)] = .mk 0 [] [] l ∧ joinE [ofV (l.take x), ofV (l.drop x)] = 0 := by
  have ha1 : ∀ y ∈ l.take x, Atomic y := fun y hy => hat y (List.mem_of_mem_take hy)
  have ha2 : ∀ y ∈ l.drop x, Atomic y := fun y hy => hat y (List.mem_of_mem_drop hy)
  have t1 := ofV_t (l.take x)
  have t2 := ofV_t (l.drop x)
  have p1 : partB (ofV (l.take x)) = true := partB_iff.2 (by unfold partP; omega)
  have p2 : partB (ofV (l.drop x)) = true := partB_iff.2 (by unfold partP; omega)
  have hlen : (l.take x).length + (l.drop x).length = l.length := by rw [← List.length_append, List.take_append_drop]
  have hs : ¬ 65536 < sumJ [ofV (l.take x), ofV (l.drop x)] := by
    simp only [sumJ, cntJ, p1, p2, if_true, count_ofV ha1, count_ofV ha2]; omega
  have hn : ¬ 0 ≤ nilIdx [ofV (l.take x), ofV (l.drop x)] 0 := by
    rw [nilIdx, if_neg (by omega), nilIdx, if_neg (by omega), nilIdx]; omega
  have hal : alikeJ [ofV (l.take x), ofV (l.drop x)] = false := by
    cases hb : alikeJ [ofV (l.take x), ofV (l.drop x)] with
    | false => rfl
    | true =>
      exfalso
      unfold alikeJ allJ at hb
      simp only [List.all_cons, List.all_nil, Bool.and_true, Bool.and_eq_true, decide_eq_true_eq] at hb
      obtain ⟨_, ⟨f1, _⟩, f2, e⟩ := hb
      have f1 : (1 ≤ (ofV (l.take x)).t ∧ (ofV (l.take x)).t ≤ 5) ∨ (-5 ≤ (ofV (l.take x)).t ∧ (ofV (l.take x)).t < 0) := of_decide_eq_true f1
      have f2 : (1 ≤ (ofV (l.drop x)).t ∧ (ofV (l.drop x)).t ≤ 5) ∨ (-5 ≤ (ofV (l.drop x)).t ∧ (ofV (l.drop x)).t < 0) := of_decide_eq_true f2
      have e : baseI (ofV (l.drop x)) = baseI (ofV (l.take x)) := e
      unfold baseI at e
      rw [if_neg (by omega), if_neg (by omega)] at e
      have a1 : alikeB (l.take x) = true ∧ (ofV (l.take x)).t = -((l.take x).getD 0 default).t := by rcases t1 with t1 | t1; omega; exact t1.2
      have a2 : alikeB (l.drop x) = true ∧ (ofV (l.drop x)).t = -((l.drop x).getD 0 default).t := by rcases t2 with t2 | t2; omega; exact t2.2
      obtain ⟨b1, c1⟩ := alikeB_pos a1.1
      obtain ⟨b2, c2⟩ := alikeB_pos a2.1
      have : alikeB l = true := alikeB_iff.2 ⟨by omega, _, (c1 _ (getD_mem _ default b1)).1, fun y hy => by
        rw [← List.take_append_drop x l] at hy
        rcases List.mem_append.1 hy with hy | hy
        · exact (c1 y hy).2
        · have := (c2 y hy).2; omega⟩
      rw [hna] at this; cases this
  have he : [ofV (l.take x), ofV (l.drop x)].flatMap partsJ = l := by
    simp only [List.flatMap_cons, List.flatMap_nil, List.append_nil, parts_yes p1, parts_yes p2, eachs_ofV ha1, eachs_ofV ha2, List.take_append_drop]
  obtain ⟨e1, e2⟩ := joinR_mixed hs hn hal (by rw [he, ofV_list hna]; exact hd)
  rw [he, ofV_list hna] at e1
  exact ⟨e1, e2⟩
theorem join_vec {t : Int} (ht : 1 ≤ t ∧ t ≤ 5) {n1 n2 : List Int} {s1 s2 : List ByteArray} (hc : rCount (.mk t n1 s1 []) + rCount (.mk t n2 s2 []) ≤ 65536) :
    joinV [.mk t n1 s1 [], .mk t n2 s2 []] = .mk t (n1 ++ n2) (s1 ++ s2) [] ∧ joinE [.mk t n1 s1 [], .mk t n2 s2 []] = 0 := by
  have p1 : partB (.mk t n1 s1 []) = true := decide_eq_true (show 0 ≤ t ∧ t ≤ 5 by omega)
  have p2 : partB (.mk t n2 s2 []) = true := decide_eq_true (show 0 ≤ t ∧ t ≤ 5 by omega)
  have hs : ¬ 65536 < sumJ [.mk t n1 s1 [], .mk t n2 s2 []] := by
    simp only [sumJ, cntJ, p1, p2, if_true]; omega
  have hn : ¬ 0 ≤ nilIdx [.mk t n1 s1 [], .mk t n2 s2 []] 0 := by
    rw [nilIdx, if_neg (show ¬ VT.t (.mk t n1 s1 []) = 101 from show ¬ t = 101 by omega), nilIdx, if_neg (show ¬ VT.t (.mk t n2 s2 []) = 101 from show ¬ t = 101 by omega), nilIdx]; omega
  have f1 : flatB (.mk t n1 s1 []) = true := decide_eq_true (.inl ht)
  have f2 : flatB (.mk t n2 s2 []) = true := decide_eq_true (.inl ht)
  have b1 : baseI (.mk t n1 s1 []) = t := by rw [baseI_mk, if_neg (by omega)]
  have b2 : baseI (.mk t n2 s2 []) = t := by rw [baseI_mk, if_neg (by omega)]
  have g : ([.mk t n1 s1 [], .mk t n2 s2 []] : List VT).getD 0 default = .mk t n1 s1 [] := rfl
  have hal : alikeJ [.mk t n1 s1 [], .mk t n2 s2 []] = true := by
    unfold alikeJ allJ
    rw [g]
    simp [f1, f2, b1, b2]
  obtain ⟨e1, e2⟩ := joinR_alike hs hn hal
  rw [g, b1] at e1
  refine ⟨?_, e2⟩
  rw [e1]
  simp [VT.n, VT.s]
/-! ### places -/
theorem map_iota {α : Type} (l : List α) (d : α) : (iotaI l.length).map (fun i => l.getD i.toNat d) = l := by
  unfold iotaI
  rw [Int.toNat_natCast, List.map_map]
  exact (List.map_congr_left fun k _ => by simp).trans (map_range l d)
theorem iota_mem {c i : Int} (h : i ∈ iotaI c) : 0 ≤ i ∧ i < c := by
  unfold iotaI at h
  obtain ⟨k, hk, rfl⟩ := List.mem_map.1 h
  have := List.mem_range.1 hk
  omega
theorem take_iota {x c : Int} (h0 : 0 ≤ x) (h1 : x ≤ c) : takeI x c = (iotaI c).take x.toNat := by
  unfold takeI iotaI
  rw [← List.map_take, List.take_range, show min x.toNat c.toNat = x.natAbs by omega]
  refine List.map_congr_left fun k hk => ?_
  have hk := List.mem_range.1 hk
  have hx : (k : Int) < x := by omega
  unfold modI lowI
  rw [if_pos (show 0 < x by omega), if_neg (show ¬ c = 0 by omega), Int.fmod_eq_emod_of_nonneg _ (by omega), Int.emod_eq_of_lt (by omega) (by omega)]
  omega
theorem drop_iota {x c : Int} (h0 : 0 ≤ x) : dropI x c c = (iotaI c).drop x.toNat := by unfold dropI; rw [if_pos h0]
theorem flatMap_one {α β : Type} {f : α → List β} {g : α → β} : ∀ {a : List α}, (∀ i ∈ a, f i = [g i]) → a.flatMap f = a.map g
  | [], _ => rfl
  | x :: a, h => by rw [List.flatMap_cons, h x List.mem_cons_self, flatMap_one (fun y hy => h y (List.mem_cons_of_mem _ hy))]; rfl
theorem flatMap_none {α β : Type} {f : α → List β} : ∀ {a : List α}, (∀ i ∈ a, f i = []) → a.flatMap f = []
  | [], _ => rfl
  | x :: a, h => by rw [List.flatMap_cons, h x List.mem_cons_self, flatMap_none (fun y hy => h y (List.mem_cons_of_mem _ hy))]; rfl
theorem wpick_vec {t : Int} (ht : 1 ≤ t ∧ t ≤ 5) (h3 : t ≠ 3) (n s l) {a : List Int} (ha : ∀ i ∈ a, 0 ≤ i ∧ i < n.length) : pickV (.mk t n s l) a = .mk t (a.map fun i => n.getD i.toNat 0) [] [] := by
  have hc : rCount (.mk t n s l) = n.length := by rw [rCount_mk, if_neg h3, if_pos (show isVecT t from ht)]
  have e : ∀ i ∈ a, at1E (.mk t n s l) i = 0 ∧ at1V (.mk t n s l) i = .mk (-t) [n.getD i.toNat 0] [] [] := fun i hi => by
    have := ha i hi
    exact ⟨at1E_yes (by omega), by rw [at1_yes (by omega), at0_mk, if_neg h3, if_pos (show isVecT t from ht), atomV_vec ht h3]⟩
  unfold pickV
  rw [if_neg (show ¬ VT.t (.mk t n s l) = 0 from show ¬ t = 0 by omega), flatMap_one (g := fun i => n.getD i.toNat 0) (fun i hi => by unfold pkN; rw [if_pos (e i hi).1, (e i hi).2]; rfl), flatMap_none (fun i hi => by unfold pkS; rw [if_pos (e i hi).1, (e i hi).2]; rfl)]
  rfl
theorem wpick_sym (n s l) {a : List Int} (ha : ∀ i ∈ a, 0 ≤ i ∧ i < s.length) : pickV (.mk 3 n s l) a = .mk 3 [] (a.map fun i => s.getD i.toNat ⟨#[]⟩) [] := by
  have hc : rCount (.mk 3 n s l) = s.length := by rw [rCount_mk, if_pos rfl]
  have e : ∀ i ∈ a, at1E (.mk 3 n s l) i = 0 ∧ at1V (.mk 3 n s l) i = .mk (-3) [] [s.getD i.toNat ⟨#[]⟩] [] := fun i hi => by
    have := ha i hi
    exact ⟨at1E_yes (by omega), by rw [at1_yes (by omega), at0_mk, if_pos rfl]⟩
  unfold pickV
  rw [if_neg (show ¬ VT.t (.mk 3 n s l) = 0 from show ¬ (3 : Int) = 0 by omega), flatMap_none (fun i hi => by unfold pkN; rw [if_pos (e i hi).1, (e i hi).2]; rfl), flatMap_one (g := fun i => s.getD i.toNat ⟨#[]⟩) (fun i hi => by unfold pkS; rw [if_pos (e i hi).1, (e i hi).2]; rfl)]
  rfl
theorem wpick_list (n s l) (a : List Int) : pickV (.mk 0 n s l) a = ofV (a.map (at1V (.mk 0 n s l))) := by unfold pickV; exact if_pos rfl
/-! ### what is taken and what is left -/
theorem strs_rev : ∀ s : List ByteArray, strs s.reverse = strs s
  | [] => rfl
  | x :: s => by rw [List.reverse_cons, strs_append, strs_rev s]; simp only [strs]; omega
theorem strs_drop (s : List ByteArray) (i : Nat) : strs (s.drop i) ≤ strs s := by
  have := strs_append (s.take i) (s.drop i)
  rw [List.take_append_drop] at this; omega
theorem ofV_bk' {m : List VT} : (ofV m).bk ≤ 3 * bks m + 1 := by
  unfold ofV
  split
  · rw [VT.bk_eq]
    have := flat_n m
    have := flat_s m
    simp only [bks]
    omega
  · rw [VT.bk_eq]; simp [strs]; omega
/-- All that is asked of a vector's, or a list's, parts. -/
structure Whole (v : VT) (x : Int) : Prop where
  jv : joinV [pickV v ((iotaI (rCount v)).take x.toNat), pickV v ((iotaI (rCount v)).drop x.toNat)] = v
  je : joinE [pickV v ((iotaI (rCount v)).take x.toNat), pickV v ((iotaI (rCount v)).drop x.toNat)] = 0
  jb : joinOk [pickV v ((iotaI (rCount v)).take x.toNat), pickV v ((iotaI (rCount v)).drop x.toNat)]
  dp : partP (pickV v (iotaI (rCount v)).reverse)
  db : (pickV v (iotaI (rCount v)).reverse).bk ≤ 1048576
  dc : rCount (pickV v (iotaI (rCount v)).reverse) = rCount v
  dv : pickV (pickV v (iotaI (rCount v)).reverse) (iotaI (rCount v)).reverse = v
  iv : pickV v (iotaI (rCount v)) = v
theorem mem_sub {c i : Int} {a : List Int} (h : ∀ i ∈ a, i ∈ iotaI c) (hi : i ∈ a) : 0 ≤ i ∧ i < c := iota_mem (h i hi)
theorem whole_vec {t : Int} (ht : 1 ≤ t ∧ t ≤ 5) (h3 : t ≠ 3) (n : List Int) (x : Int) (hn : n.length ≤ 65536) (hb : (VT.mk t n [] []).bk ≤ 1048576) : Whole (.mk t n [] []) x := by
  have hc : ∀ m : List Int, rCount (.mk t m [] []) = m.length := fun m => cnt_n h3 ht
  have hp : ∀ (m a : List Int), (∀ i ∈ a, i ∈ iotaI m.length) → pickV (.mk t m [] []) a = .mk t (a.map fun i => m.getD i.toNat 0) [] [] := fun m a ha => wpick_vec ht h3 m [] [] (fun i hi => mem_sub ha hi)
  have e1 : pickV (.mk t n [] []) ((iotaI n.length).take x.toNat) = .mk t (n.take x.toNat) [] [] := by
    rw [hp n _ (fun i hi => List.mem_of_mem_take hi), List.map_take, map_iota]
  have e2 : pickV (.mk t n [] []) ((iotaI n.length).drop x.toNat) = .mk t (n.drop x.toNat) [] [] := by
    rw [hp n _ (fun i hi => List.mem_of_mem_drop hi), List.map_drop, map_iota]
  have e3 : ∀ m : List Int, pickV (.mk t m [] []) (iotaI m.length).reverse = .mk t m.reverse [] [] := fun m => by
    rw [hp m _ (fun i hi => List.mem_reverse.1 hi), List.map_reverse, map_iota]
  have e4 : pickV (.mk t n [] []) (iotaI n.length) = .mk t n [] [] := by rw [hp n _ (fun i hi => hi), map_iota]
  have hj := join_vec (t := t) ht (n1 := n.take x.toNat) (n2 := n.drop x.toNat) (s1 := []) (s2 := []) (by rw [hc, hc, List.length_take, List.length_drop]; omega)
  rw [List.take_append_drop] at hj
  rw [VT.bk_eq] at hb
  refine ⟨?_, ?_, ?_, ?_, ?_, ?_, ?_, ?_⟩
  · rw [hc, e1, e2]; exact hj.1
  · rw [hc, e1, e2]; exact hj.2
  · rw [hc, e1, e2]
    unfold joinOk
    rw [bks_cons, bks_cons, VT.bk_eq, VT.bk_eq, List.length_take, List.length_drop]
    simp only [strs, bks] at *
    omega
  · rw [hc, e3]; exact show 0 ≤ t ∧ t ≤ 5 by omega
  · rw [hc, e3, VT.bk_eq, List.length_reverse]; exact hb
  · rw [hc, e3, hc, List.length_reverse]
  · rw [hc, e3]
    have := e3 n.reverse
    rw [List.length_reverse, List.reverse_reverse] at this
    exact this
  · rw [hc, e4]
theorem whole_sym (s : List ByteArray) (x : Int) (hn : s.length ≤ 65536) (hb : (VT.mk 3 [] s []).bk ≤ 1048576) : Whole (.mk 3 [] s []) x := by
  have hc : ∀ m : List ByteArray, rCount (.mk 3 [] m []) = m.length := fun m => cnt_s
  have hp : ∀ (m : List ByteArray) (a : List Int), (∀ i ∈ a, i ∈ iotaI m.length) → pickV (.mk 3 [] m []) a = .mk 3 [] (a.map fun i => m.getD i.toNat ⟨#[]⟩) [] := fun m a ha => wpick_sym [] m [] (fun i hi => mem_sub ha hi)
  have e1 : pickV (.mk 3 [] s []) ((iotaI s.length).take x.toNat) = .mk 3 [] (s.take x.toNat) [] := by
    rw [hp s _ (fun i hi => List.mem_of_mem_take hi), List.map_take, map_iota]
  have e2 : pickV (.mk 3 [] s []) ((iotaI s.length).drop x.toNat) = .mk 3 [] (s.drop x.toNat) [] := by
    rw [hp s _ (fun i hi => List.mem_of_mem_drop hi), List.map_drop, map_iota]
  have e3 : ∀ m : List ByteArray, pickV (.mk 3 [] m []) (iotaI m.length).reverse = .mk 3 [] m.reverse [] := fun m => by
    rw [hp m _ (fun i hi => List.mem_reverse.1 hi), List.map_reverse, map_iota]
  have e4 : pickV (.mk 3 [] s []) (iotaI s.length) = .mk 3 [] s [] := by rw [hp s _ (fun i hi => hi), map_iota]
  have hj := join_vec (t := 3) (by omega) (n1 := []) (n2 := []) (s1 := s.take x.toNat) (s2 := s.drop x.toNat) (by rw [hc, hc, List.length_take, List.length_drop]; omega)
  rw [List.take_append_drop, List.append_nil] at hj
  rw [VT.bk_eq] at hb
  have q1 := strs_take s x.toNat
  have q2 := strs_drop s x.toNat
  refine ⟨?_, ?_, ?_, ?_, ?_, ?_, ?_, ?_⟩
  · rw [hc, e1, e2]; exact hj.1
  · rw [hc, e1, e2]; exact hj.2
  · rw [hc, e1, e2]
    unfold joinOk
    rw [bks_cons, bks_cons, VT.bk_eq, VT.bk_eq]
    simp only [bks, List.length_nil] at *
    omega
  · rw [hc, e3]; exact show (0 : Int) ≤ 3 ∧ (3 : Int) ≤ 5 by omega
  · rw [hc, e3, VT.bk_eq, strs_rev]; exact hb
  · rw [hc, e3, hc, List.length_reverse]
  · rw [hc, e3]
    have := e3 s.reverse
    rw [List.length_reverse, List.reverse_reverse] at this
    exact this
  · rw [hc, e4]
theorem whole_list (l : List VT) (x : Int) (hn : l.length ≤ 65536) (hb : (VT.mk 0 [] [] l).bk ≤ 1048576) (hna : alikeB l = false) (hat : ∀ y ∈ l, Atomic y) (hd : ¬ 32 < rDepth (.mk 0 [] [] l)) : Whole (.mk 0 [] [] l) x := by
  have hc : ∀ m : List VT, rCount (.mk 0 [] [] m) = m.length := fun m => cnt_l
  have ha : ∀ m : List VT, (iotaI m.length).map (at1V (.mk 0 [] [] m)) = m := fun m => by have := at_all [] [] m; rw [hc] at this; exact this
  have e1 : pickV (.mk 0 [] [] l) ((iotaI l.length).take x.toNat) = ofV (l.take x.toNat) := by rw [wpick_list, List.map_take, ha]
  have e2 : pickV (.mk 0 [] [] l) ((iotaI l.length).drop x.toNat) = ofV (l.drop x.toNat) := by rw [wpick_list, List.map_drop, ha]
  have e3 : ∀ m : List VT, alikeB m = false → pickV (.mk 0 [] [] m) (iotaI m.length).reverse = .mk 0 [] [] m.reverse := fun m hm => by
    rw [wpick_list, List.map_reverse, ha, ofV_list (by rw [alike_rev]; exact hm)]
  have e4 : pickV (.mk 0 [] [] l) (iotaI l.length) = .mk 0 [] [] l := by rw [wpick_list, ha, ofV_list hna]
  have hj := join_list x.toNat hn hna hat hd
  rw [VT.bk_eq] at hb
  have q1 := bks_take l x.toNat
  have q2 := bks_drop l x.toNat
  have q3 := ofV_bk' (m := l.take x.toNat)
  have q4 := ofV_bk' (m := l.drop x.toNat)
  refine ⟨?_, ?_, ?_, ?_, ?_, ?_, ?_, ?_⟩
  · rw [hc, e1, e2]; exact hj.1
  · rw [hc, e1, e2]; exact hj.2
  · rw [hc, e1, e2]
    unfold joinOk
    rw [bks_cons, bks_cons]
    simp only [bks]
    omega
  · rw [hc, e3 l hna]; exact show (0 : Int) ≤ 0 ∧ (0 : Int) ≤ 5 by omega
  · rw [hc, e3 l hna, VT.bk_eq, bks_reverse]; exact hb
  · rw [hc, e3 l hna, hc, List.length_reverse]
  · rw [hc, e3 l hna]
    have := e3 l.reverse (by rw [alike_rev]; exact hna)
    rw [List.length_reverse, List.reverse_reverse] at this
    exact this
  · rw [hc, e4]
theorem whole_of {v : VT} (x : Int) (hp : partP v) (hb : v.bk ≤ 1048576) (hck : checkV v = 0) : Whole v x := by
  have h := checkV_parts hck
  have hc := cnt_ok h hp
  have hdp : ¬ 32 < rDepth v := fun hh => by unfold checkV at hck; rw [if_pos ⟨h, hh⟩] at hck; omega
  obtain ⟨t, n, s, l⟩ := v
  have hp : 0 ≤ t ∧ t ≤ 5 := hp
  obtain ⟨f1, f2, f3, f4, f5⟩ := parts_fields h
  by_cases h0 : t = 0
  · subst h0
    have r : rFields 0 = (false, false, true, true) := by rfl
    have hn := f1 (by unfold rfN; rw [r])
    have hs := f2 (by unfold rfS; rw [r])
    subst hn; subst hs
    have hl : rList (.mk 0 [] [] l) = true := f4
    have hna : alikeB l = false := rListGo_ok hl
    rw [cnt_l] at hc
    have hm := partsL_mem (f5 (by omega))
    rw [VT.bk_eq] at hb
    exact whole_list l x (by omega) (by rw [VT.bk_eq]; exact hb) hna (fun y hy => atomic_of (by unfold tame; have := bk_mem hy; omega) (hm y hy)) hdp
  · by_cases h3 : t = 3
    · subst h3
      have r : rFields 3 = _ := rf_sym (rAbs_pos (by omega))
      have hn := f1 (by unfold rfN; rw [r])
      have hl := f3 (by unfold rfL; rw [r])
      subst hn; subst hl
      rw [cnt_s] at hc
      exact whole_sym s x (by omega) hb
    · have e := rAbs_pos hp.1
      have r : rFields t = _ := rf_vec (by omega) h0 (by omega)
      have hs := f2 (by unfold rfS; rw [r])
      have hl := f3 (by unfold rfL; rw [r])
      subst hs; subst hl
      rw [cnt_n h3 (by omega)] at hc
      exact whole_vec (by omega) h3 n x (by omega) hb
end Go.Qv
