/- Dictionaries: what may be asked of is a value of small bulk; what follows. No condition. -/
import Derived.Test.YtmeagbopnliddaaGreatQDf
set_option linter.unusedVariables false
set_option linter.unusedSimpArgs false
set_option maxRecDepth 100000
namespace Go.Qv
open Go Go.RowKit Go.Proofs
structure May (v : VT) : Prop where
  good : v.Good
  bk : v.bk ≤ 26214800
  parts : rParts v 1048576 = 0
  deep : rDepth v ≤ 32
  n400 : v.n.length ≤ 400
  s400 : v.s.length ≤ 400
  l400 : v.l.length ≤ 400
theorem may_of {v : VT} (hf : v.Fine) (h : mayV v = true) : May v := by
  unfold mayV at h
  simp only [Bool.and_eq_true, Bool.not_eq_true', decide_eq_true_eq, decide_eq_false_iff_not] at h
  obtain ⟨⟨⟨⟨h1, h2⟩, h3⟩, h4⟩, h5⟩ := h
  have hp : rParts v 1048576 = 0 ∧ rDepth v ≤ 32 := by
    unfold checkV at h5
    split at h5
    · omega
    · rename_i hh
      refine ⟨h5, ?_⟩
      have : ¬ 32 < rDepth v := fun hd => hh ⟨h5, hd⟩
      omega
  obtain ⟨b1, b2, b3⟩ := left_bd v.sz v 400 0 1048576 (Nat.le_refl _) hf.len (by omega) (by omega) (by omega) (by omega) (Nat.le_refl _) hp.1 h4
  exact ⟨parts_good 1048576 v (by omega) (Nat.le_refl _) hp.1, by omega, hp.1, hp.2, by omega, by omega, by omega⟩
theorem May.tame {v : VT} (h : May v) : Qv.tame v := by have := h.bk; unfold Qv.tame; omega
theorem mayB_of {l : List VT} (hf : fines l) (h : mayB l = true) : (∀ x ∈ l, May x) ∧ l.length ≤ 30 := by
  unfold mayB at h
  rw [Bool.and_eq_true, List.all_eq_true, decide_eq_true_eq] at h
  exact ⟨fun x hx => may_of (hf x hx) (h.1 x hx), by omega⟩
theorem bks_le {c : Nat} : ∀ {l : List VT}, (∀ x ∈ l, x.bk ≤ c) → bks l ≤ c * l.length
  | [], _ => by simp [bks]
  | x :: l, h => by
    have h1 := bks_le (l := l) (fun y hy => h y (List.mem_cons_of_mem _ hy))
    have h2 := h x List.mem_cons_self
    rw [bks_cons, List.length_cons, Nat.mul_succ]; omega
theorem mays_tames {l : List VT} (h : ∀ x ∈ l, May x) (hl : l.length ≤ 30) : tames l := by
  have := bks_le (c := 26214800) (fun x hx => (h x hx).bk)
  unfold tames
  have : 26214800 * l.length ≤ 26214800 * 30 := Nat.mul_le_mul_left _ hl
  omega
/-- What is a value has no error in its parts. -/
theorem good_parts : ∀ (m : Nat) (v : VT), v.sz ≤ m → v.Good → ∀ k : Int, rParts v k = 0
  | 0, .mk t n s l, h, _, _ => by simp [VT.sz] at h
  | m + 1, .mk t n s l, hm, hg, k => by
    cases hg with
    | mk _ _ _ _ g1 g2 g3 g4 g5 g6 g7 g8 g9 =>
      have lst : ∀ (l' : List VT) (k : Int), (∀ x ∈ l', x ∈ l) → rPartsL l' k = 0 := by
        intro l'
        induction l' with
        | nil => intro k _; rw [rPartsL]
        | cons x l' ih =>
          intro k hx
          have h0 := good_parts m x (by have := sz_lt (t := t) (n := n) (s := s) (hx x List.mem_cons_self); omega) (g9 x (hx x List.mem_cons_self)) k
          rw [rPartsL, if_neg (by rw [h0]; omega)]
          exact ih k (fun y hy => hx y (List.mem_cons_of_mem _ hy))
      rw [rParts]
      have fld : ∀ {x : Bool} {α : Type} {a : List α}, (x = true ∨ a = []) → ¬ (x = false ∧ 0 < a.length) := by
        intro x α a h hh
        rcases h with h | h
        · rw [h] at hh; cases hh.1
        · rw [h] at hh; exact absurd hh.2 (by simp)
      rw [if_neg (by
        intro hh
        rcases hh with hh | hh | hh | hh
        · rw [g1] at hh; cases hh
        · exact fld g2 hh
        · exact fld g3 hh
        · exact fld g4 hh)]
      rw [if_neg (by rw [g6]; decide), if_neg (by rw [g7]; decide), if_neg (by rw [g5]; decide)]
      rw [if_neg (by
        rintro ⟨h0, h1⟩
        rcases g8 with g8 | g8
        · exact h0 g8
        · obtain ⟨x, hx, h2⟩ := List.any_eq_true.1 h1
          exact of_decide_eq_true h2 (g8 x (List.mem_of_mem_drop hx)))]
      split
      · rfl
      · exact lst l _ (fun x hx => hx)
theorem dict_plain {n s l} (hg : (VT.mk 99 n s l).Good) : l.length = 2 ∧ ((isColT (l.getD 0 default).t ∧ isColT (l.getD 1 default).t) ∨ ((l.getD 0 default).t = 98 ∧ (l.getD 1 default).t = 98)) := by
  cases hg with
  | mk _ _ _ _ g1 g2 g3 g4 g5 g6 g7 g8 g9 =>
    rw [rPlain_mk] at g5
    rw [if_neg (by unfold isAtomT; omega), if_neg (by unfold rAbs; omega), if_neg (by omega), if_neg (by omega), if_neg (by omega), if_pos rfl] at g5
    exact of_decide_eq_true g5
theorem part_col {t : Int} : isColT t ↔ 0 ≤ t ∧ t ≤ 5 := by unfold isColT isVecT; omega
/-- A dictionary whose keys are a sequence. -/
structure DFacts (d : VT) : Prop where
  l2 : d.l.length = 2
  p0 : partP (d.l.getD 0 default)
  p1 : partP (side1 d)
  g0 : (d.l.getD 0 default).Good
  g1 : (side1 d).Good
  b0 : (d.l.getD 0 default).bk < d.bk
  b1 : (side1 d).bk < d.bk
  cnt : rCount (d.l.getD 0 default) = rCount (side1 d)
theorem cnt_part {v : VT} (hg : v.Good) (hp : partP v) : rCount v ≤ 65536 := by
  cases hg with
  | mk t n s l g1 g2 g3 g4 g5 g6 g7 g8 g9 =>
    have hp : 0 ≤ t ∧ t ≤ 5 := hp
    have g6 : (if t = 3 then decide ((65536 : Int) < s.length) else if 1 ≤ t ∧ t ≤ 5 then decide ((65536 : Int) < n.length) else if t = 98 then decide ((64 : Int) < s.length) || decide ((64 : Int) < l.length) else decide (t = 0) && decide ((65536 : Int) < l.length)) = false := g6
    by_cases h3 : t = 3
    · subst h3; rw [if_pos rfl] at g6; have := of_decide_eq_false g6; rw [cnt_s]; omega
    · rw [if_neg h3] at g6
      by_cases h0 : t = 0
      · subst h0
        rw [if_neg (by omega), if_neg (by omega)] at g6
        rw [cnt_l]
        have : ¬ (65536 : Int) < l.length := by
          intro hh
          rw [decide_eq_true hh, Bool.and_true] at g6
          exact absurd g6 (by decide)
        omega
      · rw [if_pos (by omega)] at g6; have := of_decide_eq_false g6; rw [cnt_n h3 ⟨by omega, hp.2⟩]; omega
theorem may_dOk {d : VT} (h : d.Good) : dOk d := by
  intro ht
  obtain ⟨t, n, s, l⟩ := d
  have ht : t = 99 := ht
  subst ht
  exact (dict_plain h).1
theorem dfacts {d : VT} (hg : d.Good) (hd : isD d = true) : DFacts d := by
  obtain ⟨t, n, s, l⟩ := d
  obtain ⟨q1, q2⟩ := isD_yes hd
  subst q1
  obtain ⟨h1, h2⟩ := dict_plain hg
  have hp0 := partB_iff.1 q2
  have hp0' : 0 ≤ (l.getD 0 default).t ∧ (l.getD 0 default).t ≤ 5 := hp0
  have hp1 : partP (l.getD 1 default) := by
    rcases h2 with h2 | h2
    · exact part_col.1 h2.2
    · omega
  have m0 := getD_mem l default (i := 0) (by omega)
  have m1 := getD_mem l default (i := 1) (by omega)
  cases hg with
  | mk _ _ _ _ g1 g2 g3 g4 g5 g6 g7 g8 g9 =>
    have hb : ∀ x ∈ l, x.bk < (VT.mk 99 n s l).bk := fun x hx => by rw [VT.bk_eq]; have := bk_mem hx; omega
    refine ⟨h1, hp0, hp1, g9 _ m0, g9 _ m1, hb _ m0, hb _ m1, ?_⟩
    rcases g8 with g8 | g8
    · omega
    · exact (g8 _ m1).symm
theorem eltV_bk {v : VT} (hp : partP v) {k : Int} (h0 : 0 ≤ k) : (eltV v k).bk ≤ v.bk + 1 := by
  unfold eltV
  split
  · rename_i hk; rw [(flatAt hp h0 hk).1]; have := at1V_bk v k; omega
  · have hb := bk_pos v
    have e0 : (VT.mk (-3) [] [⟨#[]⟩] []).bk = 2 := rfl
    have e1 : ∀ t n, (atomV t n).bk ≤ 2 := by
      intro t n
      unfold atomV
      split <;> simp [VT.bk_eq, strs, bks]
    have e2 : (VT.mk 0 [] [] []).bk = 1 := rfl
    unfold noneV nullV
    split
    · split
      · have := e1 v.t 0; omega
      · split
        · rw [e0]; omega
        · have := e1 v.t (-9223372036854775808); omega
    · rw [e2]; omega
theorem may_getOk {d : VT} {x : List VT} (h : May d) (hl : x.length ≤ 30) : getOk d x := by
  refine ⟨may_dOk h.good, h.tame, by omega, fun hd => ?_⟩
  have f := dfacts h.good hd
  refine ⟨f.p1, cnt_part f.g1 f.p1, ?_⟩
  have hb := h.bk
  have hb1 := f.b1
  have := bks_le (c := 26214801) (l := getL d x) (fun y hy => by
    obtain ⟨k, _, rfl⟩ := List.mem_map.1 hy
    have := eltV_bk f.p1 (findDI_nn d k)
    omega)
  have hlen : (getL d x).length = x.length := by unfold getL; rw [List.length_map]
  unfold tames
  have : 26214801 * (getL d x).length ≤ 26214801 * 30 := Nat.mul_le_mul_left _ (by omega)
  omega
theorem pair_fine {k v : VT} (hk : k.Fine) (hv : v.Fine) : (pairV k v).Fine := by
  refine .mk 99 [] [] [k, v] (by decide) (by simp) (by simp) (fun x hx => ?_) (by simp) (by simp) (by simp [maxLen])
  simp only [List.mem_cons, List.not_mem_nil, or_false] at hx
  rcases hx with rfl | rfl
  · exact hk
  · exact hv
theorem pair_bk (k v : VT) : (pairV k v).bk = k.bk + v.bk + 1 := by unfold pairV; simp [VT.bk_eq, strs, bks]
theorem pair_good {k v : VT} (hk : k.Good) (hv : v.Good) (pk : partP k) (pv : partP v) (hc : rCount k = rCount v) : (pairV k v).Good := by
  refine .mk 99 [] [] [k, v] (by decide) (.inr rfl) (.inr rfl) (.inl (by decide)) ?_ (show (decide ((99 : Int) = 0) && decide ((65536 : Int) < ([k, v] : List VT).length)) = false from rfl) (show longer (if (99 : Int) = 100 then 65536 else 64) [] = false from rfl) (.inr fun x hx => ?_) (fun x hx => ?_)
  · rw [rPlain_mk]
    rw [if_neg (by unfold isAtomT; omega), if_neg (by unfold rAbs; omega), if_neg (by omega), if_neg (by omega), if_neg (by omega), if_pos rfl]
    exact decide_eq_true ⟨rfl, .inl ⟨part_col.2 pk, part_col.2 pv⟩⟩
  · simp only [List.mem_cons, List.not_mem_nil, or_false] at hx
    rcases hx with rfl | rfl
    · rfl
    · exact hc.symm
  · simp only [List.mem_cons, List.not_mem_nil, or_false] at hx
    rcases hx with rfl | rfl
    · exact hk
    · exact hv
theorem may_mkOk {k v : VT} (fk : k.Fine) (fv : v.Fine) (hk : May k) (hv : May v) : mkOk k v ∧ tame (pairV k v) := by
  refine ⟨⟨pair_fine fk fv, fun pk pv hc => good_parts _ _ (Nat.le_refl _) (pair_good hk.good hv.good (partB_iff.1 pk) (partB_iff.1 pv) hc) _⟩, ?_⟩
  unfold tame
  have := hk.bk
  have := hv.bk
  rw [pair_bk]; omega
end Go.Qv
