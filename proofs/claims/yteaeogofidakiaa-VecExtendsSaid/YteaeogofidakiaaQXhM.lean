/- quiverlaw07.VecExtends: an atom is as good as a vector of it. No condition. -/
import Derived.Test.YteaeogofidakiaaQXgM
import Derived.Test.YteaeogofidakiaaQPe
set_option linter.unusedVariables false
set_option linter.unusedSimpArgs false
set_option maxRecDepth 100000
namespace Go.Qv
open Go Go.RowKit Go.Proofs

/-! ### what a check says -/
theorem parts_i {t n s l k} (h : rParts (.mk t n s l) k = 0) : (rfN t = false → n = []) ∧ (rfS t = false → s = []) ∧ (rfL t = false → l = []) ∧ rMany (.mk t n s l) = false ∧ rLong (.mk t n s l) = false ∧ rPlain (.mk t n s l) = true := by
  rw [rParts] at h
  split at h
  · omega
  rename_i h1
  split at h
  · omega
  rename_i h2
  split at h
  · omega
  rename_i h3
  split at h
  · omega
  rename_i h4
  refine ⟨fun hN => ?_, fun hN => ?_, fun hN => ?_, by simpa using h2, by simpa using h3, by simpa using h4⟩
  · cases n with
    | nil => rfl
    | cons x n => exact absurd (.inr (.inl ⟨hN, by simp⟩)) h1
  · cases s with
    | nil => rfl
    | cons x n => exact absurd (.inr (.inr (.inl ⟨hN, by simp⟩))) h1
  · cases l with
    | nil => rfl
    | cons x n => exact absurd (.inr (.inr (.inr ⟨hN, by simp⟩))) h1
theorem checkV_p {v : VT} (h : checkV v = 0) : rParts v 1048576 = 0 := by
  unfold checkV at h
  split at h
  · omega
  · exact h
theorem rf_sym {t : Int} (h : rAbs t = 3) : rfN t = false ∧ rfS t = true ∧ rfL t = false := by
  unfold rfN rfS rfL rFields; rw [if_pos h]; exact ⟨rfl, rfl, rfl⟩
theorem rf_num {t : Int} (h3 : rAbs t ≠ 3) (h0 : t ≠ 0) (h : 1 ≤ rAbs t ∧ rAbs t ≤ 5) : rfN t = true ∧ rfS t = false ∧ rfL t = false := by
  unfold rfN rfS rfL rFields; rw [if_neg h3, if_pos ⟨⟨h0, h.1⟩, h.2⟩]; exact ⟨rfl, rfl, rfl⟩
theorem longs {s : List ByteArray} (h : longer 64 s = false) : strs s ≤ 65 * s.length := by
  induction s with
  | nil => simp [strs]
  | cons x s ih =>
    unfold longer at h ih
    rw [List.any_cons, Bool.or_eq_false_iff, decide_eq_false_iff_not] at h
    have := ih h.2
    simp only [strs, List.length_cons]; omega
theorem longs1 {s : List ByteArray} (h : longer 64 s = false) : ∀ x ∈ s, x.size ≤ 64 := by
  intro x hx
  unfold longer at h
  rw [List.any_eq_false] at h
  have := h x hx
  simp only [decide_eq_true_eq] at this
  omega
theorem wf_isI {n : Int} (h : (Lit.int .i64 n).wf = true) : isI n := by
  simp [Lit.wf, IntKind.min, IntKind.max, IntKind.signed, IntKind.bits] at h
  unfold isI; omega
theorem fine_isI {t n s l} (h : VT.Fine (.mk t n s l)) : ∀ x ∈ n, isI x := by
  cases h with
  | mk _ _ _ _ h1 h2 h3 h4 h5 h6 h7 => exact fun x hx => wf_isI (h2 x hx)
theorem fine_len {t n s l} (h : VT.Fine (.mk t n s l)) : n.length ≤ maxLen ∧ s.length ≤ maxLen := by
  cases h with
  | mk _ _ _ _ h1 h2 h3 h4 h5 h6 h7 => exact ⟨h5, h6⟩
/-- A checked atom. -/
structure AtomF (t : Int) (n : List Int) (s : List ByteArray) (l : List VT) : Prop where
  ht : t < 0 ∧ -5 ≤ t
  sym : t = -3 → n = [] ∧ s.length = 1
  num : t ≠ -3 → s = [] ∧ n.length = 1
  nul : l = []
  ints : ∀ x ∈ n, isI x
  txt : strs s ≤ 65
/-- A checked vector. -/
structure VecF (t : Int) (n : List Int) (s : List ByteArray) (l : List VT) : Prop where
  ht : 1 ≤ t ∧ t ≤ 5
  sym : t = 3 → n = []
  num : t ≠ 3 → s = []
  nul : l = []
  ints : ∀ x ∈ n, isI x
  nn : n.length ≤ 65536
  ns : s.length ≤ 65536
  txt : strs s ≤ 4259840
  each : ∀ x ∈ s, x.size ≤ 64
theorem atomF {t n s l} (hf : VT.Fine (.mk t n s l)) (hc : checkV (.mk t n s l) = 0) (ht : t < 0 ∧ -5 ≤ t) : AtomF t n s l := by
  obtain ⟨pN, pS, pL, pm, pl, pp⟩ := parts_i (checkV_p hc)
  obtain ⟨m1, m2⟩ := fine_len hf
  have m1 := m1
  unfold maxLen at m1 m2
  have hab : rAbs t = -t := by unfold rAbs; rw [if_pos (by omega)]
  have hlong : longer 64 s = false := by
    have : rLong (.mk t n s l) = longer (if t = 100 then 65536 else 64) s := rfl
    rw [this, if_neg (by omega)] at pl; exact pl
  have hone : IntKind.i64.wrap ((n.length : Int) + s.length) = 1 := by
    have e : rPlain (.mk t n s l) = if isAtomT t ∧ IntKind.i64.wrap (n.length + s.length) ≠ 1 then false else (if rAbs t = 1 then n.all (fun x => decide (x = 0 ∨ x = 1))
      else if t = 100 then decide (s.length = 1 ∧ 2 ≤ (s.getD 0 ⟨#[]⟩).size ∧ byteI (s.getD 0 ⟨#[]⟩) 0 = 123 ∧ byteI (s.getD 0 ⟨#[]⟩) ((s.getD 0 ⟨#[]⟩).size - 1) = 125)
      else if t = 0 then rList (.mk t n s l)
      else if t = 98 then rTable (.mk t n s l)
      else if t = 99 then decide (l.length = 2 ∧ ((isColT (l.getD 0 default).t ∧ isColT (l.getD 1 default).t) ∨ ((l.getD 0 default).t = 98 ∧ (l.getD 1 default).t = 98)))
      else if rAbs t = 3 then rSyms s
      else true) := rfl
    rw [e] at pp
    apply Classical.byContradiction
    intro h
    rw [if_pos ⟨ht, h⟩] at pp
    cases pp
  rw [IntKind.wrap_i64] at hone
  have hL : l = [] := by
    by_cases h3 : rAbs t = 3
    · exact pL (rf_sym h3).2.2
    · exact pL (rf_num h3 (by omega) (by omega)).2.2
  have hsym : t = -3 → n = [] ∧ s.length = 1 := fun h => by
    have hn := pN (rf_sym (show rAbs t = 3 by omega)).1
    refine ⟨hn, ?_⟩
    rw [hn] at hone
    simp only [List.length_nil] at hone
    omega
  have hnum : t ≠ -3 → s = [] ∧ n.length = 1 := fun h => by
    have hs := pS (rf_num (show rAbs t ≠ 3 by omega) (by omega) (by omega)).2.1
    refine ⟨hs, ?_⟩
    rw [hs] at hone
    simp only [List.length_nil] at hone
    omega
  refine ⟨ht, hsym, hnum, hL, fine_isI hf, ?_⟩
  have := longs hlong
  by_cases h : t = -3
  · have := (hsym h).2; omega
  · rw [(hnum h).1]; simp [strs]
theorem vecF {t n s l} (hf : VT.Fine (.mk t n s l)) (hc : checkV (.mk t n s l) = 0) (ht : 1 ≤ t ∧ t ≤ 5) : VecF t n s l := by
  obtain ⟨pN, pS, pL, pm, pl, pp⟩ := parts_i (checkV_p hc)
  have hab : rAbs t = t := by unfold rAbs; rw [if_neg (by omega)]
  have hlong : longer 64 s = false := by
    have : rLong (.mk t n s l) = longer (if t = 100 then 65536 else 64) s := rfl
    rw [this, if_neg (by omega)] at pl; exact pl
  have em : rMany (.mk t n s l) = if t = 3 then decide ((65536 : Int) < s.length) else if 1 ≤ t ∧ t ≤ 5 then decide ((65536 : Int) < n.length) else if t = 98 then decide ((64 : Int) < s.length) || decide ((64 : Int) < l.length) else decide (t = 0) && decide ((65536 : Int) < l.length) := rfl
  rw [em] at pm
  have hL : l = [] := by
    by_cases h3 : rAbs t = 3
    · exact pL (rf_sym h3).2.2
    · exact pL (rf_num h3 (by omega) (by omega)).2.2
  have hsym : t = 3 → n = [] := fun h => pN (rf_sym (show rAbs t = 3 by omega)).1
  have hnum : t ≠ 3 → s = [] := fun h => pS (rf_num (show rAbs t ≠ 3 by omega) (by omega) (by omega)).2.1
  have k := longs hlong
  by_cases h3 : t = 3
  · rw [if_pos h3, decide_eq_false_iff_not] at pm
    refine ⟨ht, hsym, hnum, hL, fine_isI hf, by rw [hsym h3]; simp, by omega, by omega, longs1 hlong⟩
  · rw [if_neg h3, if_pos ht, decide_eq_false_iff_not] at pm
    refine ⟨ht, hsym, hnum, hL, fine_isI hf, by omega, by rw [hnum h3]; simp, by rw [hnum h3]; simp [strs], longs1 hlong⟩
end Go.Qv
/- An atom, and a vector of it: the same operation. No condition. -/
set_option linter.unusedVariables false
set_option linter.unusedSimpArgs false
set_option maxRecDepth 100000
set_option linter.unusedSectionVars false
namespace Go.Qv
open Go Go.RowKit Go.Proofs
theorem AtomF.facts {t n s l} (h : AtomF t n s l) : baF (.mk t n s l) = -t ∧ isAt (.mk t n s l) = true ∧ flB (.mk t n s l) = true ∧ rCount (.mk t n s l) = 1 := by
  obtain ⟨t0, t5⟩ := h.ht
  have e1 : baF (.mk t n s l) = -t := by unfold baF; rw [if_pos (show (VT.mk t n s l).t < 0 from t0)]; show IntKind.i64.wrap (0 - t) = -t; rw [w64 (by omega) (by omega)]; omega
  have e2 : isAt (.mk t n s l) = true := isAt_i.2 ⟨t0, t5⟩
  refine ⟨e1, e2, ?_, ?_⟩
  · unfold flB; rw [e1, e2, decide_eq_true (show 1 ≤ -t by omega), decide_eq_true (show -t ≤ 5 by omega)]; simp
  · rw [h.nul]; simp only [rCount]; rw [if_neg (by omega), if_neg (by unfold isVecT; omega), if_neg (by omega)]
theorem vec_facts {t n s l} (h : 1 ≤ t ∧ t ≤ 5) : baF (.mk t n s l) = t ∧ isAt (.mk t n s l) = false ∧ flB (.mk t n s l) = true ∧ (t = 3 → rCount (.mk t n s l) = s.length) ∧ (t ≠ 3 → rCount (.mk t n s l) = n.length) := by
  have e1 : baF (.mk t n s l) = t := by unfold baF; rw [if_neg (show ¬ (VT.mk t n s l).t < 0 by show ¬ t < 0; omega)]; rfl
  have e2 : isAt (.mk t n s l) = false := by rw [Bool.eq_false_iff]; intro hh; have := isAt_i.1 hh; omega
  refine ⟨e1, e2, ?_, fun h3 => ?_, fun h3 => cnt_n h3 h⟩
  · unfold flB; rw [e1, e2, decide_eq_true (show 1 ≤ t by omega), decide_eq_true (show t ≤ 5 by omega), decide_eq_true (show 0 < (VT.mk t n s l).t by show 0 < t; omega)]; rfl
  · subst h3; exact cnt_s
theorem takeI_one (N : Int) : takeI N 1 = List.replicate N.natAbs 0 := by
  rw [List.eq_replicate_iff]
  refine ⟨takeI_len N 1, fun b hb => ?_⟩
  unfold takeI at hb
  obtain ⟨k, _, rfl⟩ := List.mem_map.1 hb
  unfold modI
  rw [if_neg (by omega), Int.fmod_eq_emod_of_nonneg _ (by omega), Int.emod_one]
theorem flat_rep {β : Type} (f : Int → List β) (x : β) (h : f 0 = [x]) : ∀ m : Nat, (List.replicate m (0 : Int)).flatMap f = List.replicate m x
  | 0 => rfl
  | m + 1 => by rw [List.replicate_succ, List.flatMap_cons, h, flat_rep f x h m]; rfl
theorem flat_rep0 {β : Type} (f : Int → List β) (h : f 0 = []) : ∀ m : Nat, (List.replicate m (0 : Int)).flatMap f = []
  | 0 => rfl
  | m + 1 => by rw [List.replicate_succ, List.flatMap_cons, h, flat_rep0 f h m]; rfl
def Wn (t : Int) (n : List Int) (m : Nat) : List Int := if t = -3 then [] else List.replicate m (n.getD 0 0)
def Ws (t : Int) (s : List ByteArray) (m : Nat) : List ByteArray := if t = -3 then List.replicate m (s.getD 0 ⟨#[]⟩) else []
theorem take_W {t n s l} (h : AtomF t n s l) (N : Int) (h0 : 0 ≤ N) (h6 : N ≤ 65536) : takeV N (.mk (-t) n s []) = .mk (-t) (Wn t n N.toNat) (Ws t s N.toNat) [] ∧ takeE N (.mk (-t) n s []) = 0 ∧ rCount (.mk (-t) n s []) = 1 := by
  obtain ⟨t0, t5⟩ := h.ht
  have hv : 1 ≤ -t ∧ -t ≤ 5 := by omega
  obtain ⟨_, _, _, c3, cn⟩ := vec_facts (n := n) (s := s) (l := []) hv
  have hc : rCount (.mk (-t) n s []) = 1 := by
    by_cases h3 : t = -3
    · rw [c3 (by omega), (h.sym h3).2]; rfl
    · rw [cn (by omega), (h.num h3).2]; rfl
  obtain ⟨e1, e2⟩ := take_yes (v := .mk (-t) n s []) (n := N) (show 0 ≤ -t ∧ -t ≤ 5 by omega) (by omega)
  refine ⟨?_, e2, hc⟩
  rw [e1, pick_vec (by omega)]
  unfold takeL
  rw [hc, takeI_one, show N.natAbs = N.toNat by omega]
  have hin : (0 : Int) ≤ 0 ∧ 0 < rCount (.mk (-t) n s []) := by omega
  obtain ⟨p3, pn⟩ := pk_in (n := n) (s := s) (l := []) hv hin
  unfold Wn Ws
  by_cases h3 : t = -3
  · obtain ⟨q1, q2⟩ := p3 (by omega)
    rw [if_pos h3, if_pos h3, flat_rep0 _ q1, flat_rep _ _ q2]; rfl
  · obtain ⟨q1, q2⟩ := pn (by omega)
    rw [if_neg h3, if_neg h3, flat_rep _ _ q1, flat_rep0 _ q2]; rfl
theorem getD_rep {α : Type} (x d : α) {m i : Nat} (h : i < m) : (List.replicate m x).getD i d = x := by
  rw [List.getD_eq_getElem?_getD, List.getElem?_replicate, if_pos h]; rfl
section
variable {t n s l t' n' s' l'} (ha : AtomF t n s l) (hb : VecF t' n' s' l')
include ha hb
theorem cnt_b : 0 ≤ rCount (.mk t' n' s' l') ∧ rCount (.mk t' n' s' l') ≤ 65536 := by
  obtain ⟨_, _, _, c3, cn⟩ := vec_facts (n := n') (s := s') (l := l') hb.ht
  by_cases h3 : t' = 3
  · rw [c3 h3]; have := hb.ns; omega
  · rw [cn h3]; have := hb.nn; omega
theorem W_facts : baF (.mk (-t) (Wn t n (rCount (.mk t' n' s' l')).toNat) (Ws t s (rCount (.mk t' n' s' l')).toNat) []) = -t ∧ isAt (.mk (-t) (Wn t n (rCount (.mk t' n' s' l')).toNat) (Ws t s (rCount (.mk t' n' s' l')).toNat) []) = false ∧
    flB (.mk (-t) (Wn t n (rCount (.mk t' n' s' l')).toNat) (Ws t s (rCount (.mk t' n' s' l')).toNat) []) = true ∧ rCount (.mk (-t) (Wn t n (rCount (.mk t' n' s' l')).toNat) (Ws t s (rCount (.mk t' n' s' l')).toNat) []) = rCount (.mk t' n' s' l') := by
  obtain ⟨t0, t5⟩ := ha.ht
  obtain ⟨e1, e2, e3, c3, cn⟩ := vec_facts (t := -t) (n := Wn t n (rCount (.mk t' n' s' l')).toNat) (s := Ws t s (rCount (.mk t' n' s' l')).toNat) (l := []) (by omega)
  have c := cnt_b ha hb
  refine ⟨e1, e2, e3, ?_⟩
  by_cases h3 : t = -3
  · rw [c3 (by omega)]; unfold Ws; rw [if_pos h3, List.length_replicate]; omega
  · rw [cn (by omega)]; unfold Wn; rw [if_neg h3, List.length_replicate]; omega
theorem el_W (o : Int) (i : Nat) (hi : (i : Int) < rCount (.mk t' n' s' l')) : el o (.mk t n s l) (.mk t' n' s' l') i = el o (.mk (-t) (Wn t n (rCount (.mk t' n' s' l')).toNat) (Ws t s (rCount (.mk t' n' s' l')).toNat) []) (.mk t' n' s' l') i := by
  obtain ⟨a1, a2, a3, a4⟩ := ha.facts
  obtain ⟨w1, w2, w3, w4⟩ := W_facts ha hb
  have i1 : atI (.mk t n s l) i = 0 := by unfold atI; rw [a2]; rfl
  have i2 : atI (.mk (-t) (Wn t n (rCount (.mk t' n' s' l')).toNat) (Ws t s (rCount (.mk t' n' s' l')).toNat) []) i = i := by unfold atI; rw [w2]; rfl
  unfold el
  rw [a1, w1, i1, i2]
  by_cases h3 : -t = 3
  · rw [if_pos h3, if_pos h3]
    have : (VT.mk (-t) (Wn t n (rCount (.mk t' n' s' l')).toNat) (Ws t s (rCount (.mk t' n' s' l')).toNat) []).s.getD (i : Int).toNat ⟨#[]⟩ = (VT.mk t n s l).s.getD (0 : Int).toNat ⟨#[]⟩ := by
      show (Ws t s (rCount (.mk t' n' s' l')).toNat).getD (i : Int).toNat ⟨#[]⟩ = s.getD 0 ⟨#[]⟩
      unfold Ws; rw [if_pos (by omega), getD_rep _ _ (by omega)]
    rw [this]
  · rw [if_neg h3, if_neg h3]
    have : (VT.mk (-t) (Wn t n (rCount (.mk t' n' s' l')).toNat) (Ws t s (rCount (.mk t' n' s' l')).toNat) []).n.getD (i : Int).toNat 0 = (VT.mk t n s l).n.getD (0 : Int).toNat 0 := by
      show (Wn t n (rCount (.mk t' n' s' l')).toNat).getD (i : Int).toNat 0 = n.getD 0 0
      unfold Wn; rw [if_neg (by omega), getD_rep _ _ (by omega)]
    rw [this]
theorem do_W (o : Int) : doE o (.mk t n s l) (.mk t' n' s' l') = doE o (.mk (-t) (Wn t n (rCount (.mk t' n' s' l')).toNat) (Ws t s (rCount (.mk t' n' s' l')).toNat) []) (.mk t' n' s' l') ∧
    doV o (.mk t n s l) (.mk t' n' s' l') = doV o (.mk (-t) (Wn t n (rCount (.mk t' n' s' l')).toNat) (Ws t s (rCount (.mk t' n' s' l')).toNat) []) (.mk t' n' s' l') := by
  obtain ⟨a1, a2, a3, a4⟩ := ha.facts
  obtain ⟨w1, w2, w3, w4⟩ := W_facts ha hb
  obtain ⟨b1, b2, b3, _⟩ := vec_facts (n := n') (s := s') (l := l') hb.ht
  have c := cnt_b ha hb
  have hel := el_W ha hb o
  generalize VT.mk (-t) (Wn t n (rCount (.mk t' n' s' l')).toNat) (Ws t s (rCount (.mk t' n' s' l')).toNat) [] = W at *
  generalize VT.mk t n s l = A at *
  generalize VT.mk t' n' s' l' = B at *
  have n1 : doN A B = rCount B := by unfold doN; rw [a2]; rfl
  have n2 : doN W B = rCount B := by unfold doN; rw [w2, ← w4]; rfl
  have x : doX o A B = doX o W B := by
    unfold doX
    rw [a1, w1, a2, w2, a3, w3, b2, b3, w4]
    by_cases h1 : o < 0 ∨ 9 < o
    · rw [if_pos h1, if_pos h1]
    · rw [if_neg h1, if_neg h1]; simp
  have al : allE o A B = allE o W B := by
    unfold allE
    rw [n1, n2, Bool.eq_iff_iff, List.all_eq_true, List.all_eq_true]
    constructor
    · intro h i hi; have hi' := List.mem_range.1 hi; rw [← hel i (by omega)]; exact h i hi
    · intro h i hi; have hi' := List.mem_range.1 hi; rw [hel i (by omega)]; exact h i hi
  have ml : (List.range (doN A B).toNat).map (fun i => (el o A B i).1) = (List.range (doN W B).toNat).map (fun i => (el o W B i).1) := by
    rw [n1, n2]
    apply List.map_congr_left
    intro i hi
    have hi' := List.mem_range.1 hi
    rw [hel i (by omega)]
  unfold doE doV
  rw [x, al, ml, a1, w1, a2, w2, b2]
  exact ⟨rfl, rfl⟩
/-- An element of the second. -/
theorem at_b (i : Nat) (hi : (i : Int) < rCount (.mk t' n' s' l')) : ∃ n2 s2, at1V (.mk t' n' s' l') i = .mk (-t') n2 s2 [] ∧ AtomF (-t') n2 s2 [] ∧ n2.getD 0 0 = n'.getD i 0 ∧ s2.getD 0 ⟨#[]⟩ = s'.getD i ⟨#[]⟩ := by
  obtain ⟨b1, b2, b3, c3, cn⟩ := vec_facts (n := n') (s := s') (l := l') hb.ht
  obtain ⟨h1, h5⟩ := hb.ht
  have hh : ¬ ((i : Int) < 0 ∨ rCount (.mk t' n' s' l') ≤ i) := by omega
  rw [at1_yes hh]
  by_cases h3 : t' = 3
  · subst h3
    have hlt : i < s'.length := by rw [c3 rfl] at hi; omega
    have hn := hb.sym rfl
    subst hn
    refine ⟨[], [s'.getD i ⟨#[]⟩], at0_s, ⟨by omega, fun _ => ⟨rfl, rfl⟩, fun h => absurd rfl h, rfl, by simp, ?_⟩, rfl, rfl⟩
    have := hb.each _ (getD_mem s' ⟨#[]⟩ hlt)
    simp only [strs]; omega
  · have hlt : i < n'.length := by rw [cn h3] at hi; omega
    have hs := hb.num h3
    subst hs
    refine ⟨[n'.getD i 0], [], ?_, ⟨by omega, fun h => by omega, fun _ => ⟨rfl, rfl⟩, rfl, ?_, by simp [strs]⟩, rfl, rfl⟩
    · rw [at0_n h3 ⟨h1, h5⟩]
      have hab : rAbs t' = t' := by unfold rAbs; rw [if_neg (by omega)]
      unfold atomV
      rw [hab, if_neg (by omega)]
      rfl
    · intro x hx
      have hx : x = n'.getD i 0 := by simpa using hx
      subst hx
      exact hb.ints _ (getD_mem n' 0 hlt)
end
end Go.Qv
/- quiverlaw07.VecExtends: the law over contracts. No condition. -/
set_option linter.unusedVariables false
set_option linter.unusedSimpArgs false
set_option linter.unusedSectionVars false
set_option maxRecDepth 100000
namespace Go.Qv
open Go Go.RowKit Go.Proofs
theorem doE_zero {o : Int} {a b : VT} (h : doE o a b = 0) : doX o a b = 0 ∧ allE o a b = true := by
  unfold doE at h
  by_cases hx : doX o a b = 0
  · rw [if_neg (fun hh => hh hx)] at h
    cases ha : allE o a b with
    | true => exact ⟨hx, rfl⟩
    | false => rw [ha] at h; simp at h
  · rw [if_pos hx] at h; exact absurd h hx
theorem doX_zero {o : Int} {a b : VT} (h : doX o a b = 0) : ¬ (o < 0 ∨ 9 < o) ∧ resT o (baF a) (baF b) ≠ 0 := by
  unfold doX at h
  by_cases h1 : o < 0 ∨ 9 < o
  · rw [if_pos h1] at h; omega
  · rw [if_neg h1] at h
    by_cases h2 : flB a = false ∨ flB b = false
    · rw [if_pos h2] at h; omega
    · rw [if_neg h2] at h
      by_cases h3 : resT o (baF a) (baF b) = 0
      · rw [if_pos h3] at h; omega
      · exact ⟨h1, h3⟩
theorem good_atom {t n s l} (h : AtomF t n s l) : good (.mk t n s l) := by
  obtain ⟨a1, a2, a3, a4⟩ := h.facts
  intro _
  have c1 : baF (.mk t n s l) = 3 → s.length = 1 := fun h3 => (h.sym (by omega)).2
  have c2 : baF (.mk t n s l) ≠ 3 → n.length = 1 := fun h3 => (h.num (by omega)).2
  exact ⟨fun _ => ⟨c1, c2⟩, h.ints, by omega⟩
theorem good_vec {t n s l} (ht : 1 ≤ t ∧ t ≤ 5) (hi : ∀ x ∈ n, isI x) (hn : n.length ≤ 65536) (hs : s.length ≤ 65536) : good (.mk t n s l) := by
  obtain ⟨b1, b2, b3, c3, cn⟩ := vec_facts (n := n) (s := s) (l := l) ht
  intro _
  refine ⟨fun h => absurd h (by rw [b2]; simp), hi, ?_⟩
  by_cases h3 : t = 3
  · rw [c3 h3]; omega
  · rw [cn h3]; omega
section
variable {t n s l t' n' s' l'} (ha : AtomF t n s l) (hb : VecF t' n' s' l')
include ha hb
/-- What a whole vector's answer is made of. -/
theorem do_X {o : Int} (h : doE o (.mk t n s l) (.mk t' n' s' l') = 0) : ∃ r L, rOk r ∧ r ≠ 0 ∧ resT o (-t) t' = r ∧ doV o (.mk t n s l) (.mk t' n' s' l') = .mk r L [] [] ∧ (L.length : Int) = rCount (.mk t' n' s' l') ∧ ∀ i : Nat, (i : Int) < rCount (.mk t' n' s' l') → L.getD i 0 = (el o (.mk t n s l) (.mk t' n' s' l') i).1 ∧ (el o (.mk t n s l) (.mk t' n' s' l') i).2 = true := by
  obtain ⟨a1, a2, a3, a4⟩ := ha.facts
  obtain ⟨b1, b2, b3, _⟩ := vec_facts (n := n') (s := s') (l := l') hb.ht
  have c := cnt_b ha hb
  obtain ⟨h1, h2⟩ := doE_zero h
  obtain ⟨h3, h4⟩ := doX_zero h1
  have n1 : doN (.mk t n s l) (.mk t' n' s' l') = rCount (.mk t' n' s' l') := by unfold doN; rw [a2]; rfl
  refine ⟨resT o (baF (.mk t n s l)) (baF (.mk t' n' s' l')), (List.range (rCount (.mk t' n' s' l')).toNat).map (fun i => (el o (.mk t n s l) (.mk t' n' s' l') i).1), (res_both o _ _).2, h4, by rw [a1, b1], ?_, ?_, fun i hi => ⟨?_, ?_⟩⟩
  · unfold doV; rw [if_pos ⟨h1, h2⟩, a2, b2, n1]; rfl
  · rw [List.length_map, List.length_range]; omega
  · rw [List.getD_eq_getElem?_getD, List.getElem?_map, List.getElem?_range (by omega)]; rfl
  · unfold allE at h2
    rw [List.all_eq_true] at h2
    exact h2 i (by rw [List.mem_range, n1]; omega)
theorem do_el {o : Int} (h : doE o (.mk t n s l) (.mk t' n' s' l') = 0) {i : Nat} (hi : (i : Int) < rCount (.mk t' n' s' l')) :
    doE o (.mk t n s l) (at1V (.mk t' n' s' l') i) = 0 ∧ doV o (.mk t n s l) (at1V (.mk t' n' s' l') i) = at1V (doV o (.mk t n s l) (.mk t' n' s' l')) i := by
  obtain ⟨a1, a2, a3, a4⟩ := ha.facts
  obtain ⟨b1, b2, b3, _⟩ := vec_facts (n := n') (s := s') (l := l') hb.ht
  obtain ⟨h1, h2⟩ := doE_zero h
  obtain ⟨h3, h4⟩ := doX_zero h1
  obtain ⟨r, L, rk, r0, hr, hX, hL, hel⟩ := do_X ha hb h
  obtain ⟨e1, e2⟩ := hel i hi
  obtain ⟨n2, s2, hC, hCa, hn2, hs2⟩ := at_b ha hb i hi
  obtain ⟨c1, c2, c3, c4⟩ := hCa.facts
  rw [hC, hX]
  have c1 : baF (.mk (-t') n2 s2 []) = t' := by rw [c1]; omega
  have hN : doN (.mk t n s l) (.mk (-t') n2 s2 []) = 1 := by unfold doN; rw [a2]; exact c4
  have hEl : el o (.mk t n s l) (.mk (-t') n2 s2 []) 0 = el o (.mk t n s l) (.mk t' n' s' l') i := by
    have i1 : ∀ k : Int, atI (.mk t n s l) k = 0 := fun k => by unfold atI; rw [a2]; rfl
    have i2 : atI (.mk t' n' s' l') i = i := by unfold atI; rw [b2]; rfl
    have i3 : ∀ k : Int, atI (.mk (-t') n2 s2 []) k = 0 := fun k => by unfold atI; rw [c2]; rfl
    have g1 : (VT.mk (-t') n2 s2 []).n.getD (0 : Int).toNat 0 = (VT.mk t' n' s' l').n.getD (i : Int).toNat 0 := hn2
    have g2 : (VT.mk (-t') n2 s2 []).s.getD (0 : Int).toNat ⟨#[]⟩ = (VT.mk t' n' s' l').s.getD (i : Int).toNat ⟨#[]⟩ := hs2
    unfold el
    rw [i1, i1, i2, i3, c1, b1, g1, g2]
  have hx : doX o (.mk t n s l) (.mk (-t') n2 s2 []) = 0 := by
    unfold doX
    rw [if_neg h3, a1, c1, a3, c3, a2, hr, if_neg (by simp), if_neg r0, if_neg (by simp)]
  have hal : allE o (.mk t n s l) (.mk (-t') n2 s2 []) = true := by
    unfold allE
    rw [hN, List.all_eq_true]
    intro k hk
    have hk := List.mem_range.1 hk
    have : k = 0 := by omega
    subst this
    rw [hEl]; exact e2
  have hE : doE o (.mk t n s l) (.mk (-t') n2 s2 []) = 0 := by
    unfold doE; rw [if_neg (fun hh => hh hx), hal]; rfl
  refine ⟨hE, ?_⟩
  have hV : doV o (.mk t n s l) (.mk (-t') n2 s2 []) = .mk (-r) [(el o (.mk t n s l) (.mk t' n' s' l') i).1] [] [] := by
    unfold doV
    rw [if_pos ⟨hx, hal⟩, a2, c2, a1, c1, hr, hN]
    have e : (List.range (1 : Int).toNat).map (fun i_1 => (el o (.mk t n s l) (.mk (-t') n2 s2 []) i_1).1) = [(el o (.mk t n s l) (.mk (-t') n2 s2 []) 0).1] := rfl
    rw [e, hEl]
    unfold likeT
    unfold rOk at rk
    have : IntKind.i64.wrap (0 - r) = -r := by rw [w64 (by omega) (by omega)]; omega
    rw [if_pos (by simp), this]
  rw [hV]
  unfold rOk at rk
  have hv : 1 ≤ r ∧ r ≤ 5 := by omega
  have hcX : rCount (.mk r L [] []) = L.length := cnt_n (by omega) hv
  rw [at1_yes (by rw [hcX]; omega), at0_n (by omega) hv]
  have hab : rAbs r = r := by unfold rAbs; rw [if_neg (by omega)]
  unfold atomV
  rw [hab, if_neg (by omega), show ((i : Nat) : Int).toNat = i by omega, e1]
theorem loop4 (o : Int) (i : Nat) (hi : (i : Int) ≤ rCount (.mk t' n' s' l')) (X : VT) (hX : doV o (.mk t n s l) (.mk t' n' s' l') = X) (e : Int) (he : doE o (.mk t n s l) (.mk t' n' s' l') = e) (tx nx sx lx) (hxx : X = .mk tx nx sx lx) :
    Rh w4xS IsTrue (10, [.int o, .int (rCount (.mk t' n' s' l')), .int e, .int i, .int t, .is n, .ss s, .vs l, .int t', .is n', .ss s', .vs l', .int tx, .is nx, .ss sx, .vs lx]) := by
  refine Rh.go (w4x_10 o _ e i t n s l t' n' s' l' tx nx sx lx _) ?_
  have c := cnt_b ha hb
  obtain ⟨h1, h5⟩ := hb.ht
  simp only [o_add, o_sub, o_mul, o_neg, o_conv, o_lt, o_le, o_eq, o_not, o_and, o_or, o_sel, o_isel, o_ssel, o_beq, o_seq, o_slt, o_slen, o_sat, o_scut, o_sadd, o_ilen, o_blen, o_vlen, o_rlen, o_iget, o_bget, o_vget, o_rget, o_iset, o_bset, o_vset, o_iapp, o_bapp, o_vapp, o_rapp, o_icut, o_bcut, o_vcut, o_irep, o_vt, o_vn, o_vs, o_vl, o_imax, o_imin, o_inb, o_sfit, o_cutb, o_fit, o_mkfit, RhQ, decT, decF, true_and, and_true, eq_self, implies_true, forall_const, Bool.not_eq_true', Bool.not_eq_false', Bool.not_true, Bool.not_false, Bool.and_eq_true, Bool.or_eq_true, Bool.and_eq_false_iff, Bool.or_eq_false_iff, Bool.true_and, Bool.and_true, Bool.false_and, Bool.and_false, Bool.or_false, Bool.false_or, Bool.true_or, Bool.or_true, Int.toNat_natCast, VT.eta, not_true, not_false_iff, false_implies, if_true, if_false, Int.toNat_zero, Int.toNat_one, ns0, ns4]
  refine ⟨fun h => ?_, fun _ => IsTrue.of rfl⟩
  obtain ⟨hlt, h0⟩ := h
  subst h0
  obtain ⟨g1, g2⟩ := do_el ha hb he hlt
  obtain ⟨r, L, rk, r0, hr, hXe, hL, hel⟩ := do_X ha hb he
  obtain ⟨n2, s2, hC, hCa, _, _⟩ := at_b ha hb i hlt
  rw [hX] at hXe g2
  unfold rOk at rk
  have tX : tame X := by rw [hXe]; unfold tame; rw [VT.bk_eq]; simp only [strs, bks]; omega
  have fX : flat9 X := by rw [hXe]; show r ≠ 98 ∧ r ≠ 99; omega
  have tB : tame (.mk t' n' s' l') := by unfold tame; rw [VT.bk_eq, hb.nul]; have := hb.nn; have := hb.txt; simp only [bks]; omega
  have fB : flat9 (.mk t' n' s' l') := by show t' ≠ 98 ∧ t' ≠ 99; omega
  rw [← hxx]
  have gC : good (at1V (.mk t' n' s' l') i) := by rw [hC]; exact good_atom hCa
  refine ⟨tB, fB, ⟨good_atom ha, gC⟩, tX, fX, fun hbad => ?_, fun _ => ?_⟩
  · exfalso
    rcases hbad with hbad | hbad
    · exact hbad g1
    · rw [g2, veq_iff.2 rfl] at hbad; cases hbad
  · rw [w64 (by omega) (by omega)]
    have := loop4 o (i + 1) (by omega) X hX 0 he tx nx sx lx hxx
    exact this
termination_by (rCount (.mk t' n' s' l') - i).toNat
end
theorem extends_ (o : Int) (t n s l t' n' s' l') (fa : VT.Fine (.mk t n s l)) (fb : VT.Fine (.mk t' n' s' l')) : Rh w4xS IsTrue (9999, [.int o, .int t, .is n, .ss s, .vs l, .int t', .is n', .ss s', .vs l']) := by
  refine Rh.go (w4x_9999 o t n s l t' n' s' l' _) ?_
  simp only [o_add, o_sub, o_mul, o_neg, o_conv, o_lt, o_le, o_eq, o_not, o_and, o_or, o_sel, o_isel, o_ssel, o_beq, o_seq, o_slt, o_slen, o_sat, o_scut, o_sadd, o_ilen, o_blen, o_vlen, o_rlen, o_iget, o_bget, o_vget, o_rget, o_iset, o_bset, o_vset, o_iapp, o_bapp, o_vapp, o_rapp, o_icut, o_bcut, o_vcut, o_irep, o_vt, o_vn, o_vs, o_vl, o_imax, o_imin, o_inb, o_sfit, o_cutb, o_fit, o_mkfit, RhQ, decT, decF, true_and, and_true, eq_self, implies_true, forall_const, Bool.not_eq_true', Bool.not_eq_false', Bool.not_true, Bool.not_false, Bool.and_eq_true, Bool.or_eq_true, Bool.and_eq_false_iff, Bool.or_eq_false_iff, Bool.true_and, Bool.and_true, Bool.false_and, Bool.and_false, Bool.or_false, Bool.false_or, Bool.true_or, Bool.or_true, Int.toNat_natCast, VT.eta, not_true, not_false_iff, false_implies, if_true, if_false, Int.toNat_zero, Int.toNat_one, ns0, ns4]
  refine ⟨fun y hy => ?_, fun _ => IsTrue.of rfl, fun hg => ?_⟩
  · simp at hy; rcases hy with rfl | rfl; exact fa; exact fb
  obtain ⟨⟨hr, hta⟩, htb⟩ := hg
  have hck : checkV (.mk t n s l) = 0 ∧ checkV (.mk t' n' s' l') = 0 := by
    unfold rightB checkB at hr
    simp only [List.all_cons, List.all_nil, Bool.and_true, Bool.and_eq_true, decide_eq_true_eq] at hr
    exact hr.2
  have ha := atomF fa hck.1 hta
  have hb := vecF fb hck.2 htb
  have c := cnt_b ha hb
  obtain ⟨t0, t5⟩ := hta
  have wt : IntKind.i64.wrap (0 - t) = -t := by rw [w64 (by omega) (by omega)]; omega
  obtain ⟨k1, k2, k3⟩ := take_W ha (rCount (.mk t' n' s' l')) c.1 c.2
  obtain ⟨d1, d2⟩ := do_W ha hb o
  have h1n : n.length ≤ 1 ∧ s.length ≤ 1 := by
    by_cases h3 : t = -3
    · obtain ⟨q1, q2⟩ := ha.sym h3; rw [q1]; simp; omega
    · obtain ⟨q1, q2⟩ := ha.num h3; rw [q1]; simp; omega
  have gW : good (.mk (-t) (Wn t n (rCount (.mk t' n' s' l')).toNat) (Ws t s (rCount (.mk t' n' s' l')).toNat) []) := by
    refine good_vec (by omega) (fun x hx => ?_) ?_ ?_
    · unfold Wn at hx
      by_cases h3 : t = -3
      · rw [if_pos h3] at hx; cases hx
      · rw [if_neg h3] at hx
        rw [List.eq_of_mem_replicate hx]
        exact getD_in ha.ints 0
    · unfold Wn; split <;> simp <;> omega
    · unfold Ws; split <;> simp <;> omega
  simp only [wt, k1, k2, ← d1, ← d2, veq_iff.2 rfl]
  have tA : tame (.mk (-t) n s []) := by unfold tame; rw [VT.bk_eq]; have := ha.txt; simp only [bks]; omega
  have tk : takeOk (rCount (.mk t' n' s' l')) (.mk (-t) n s []) := fun _ _ => ⟨by unfold takeL; rw [takeI_len]; omega, fun h0 => by have : -t = 0 := h0; omega⟩
  have key : Rh w4xS IsTrue (10, [.int o, .int (rCount (.mk t' n' s' l')), .int (doE o (.mk t n s l) (.mk t' n' s' l')), .int 0, .int t, .is n, .ss s, .vs l, .int t', .is n', .ss s', .vs l', .int (doV o (.mk t n s l) (.mk t' n' s' l')).t, .is (doV o (.mk t n s l) (.mk t' n' s' l')).n, .ss (doV o (.mk t n s l) (.mk t' n' s' l')).s, .vs (doV o (.mk t n s l) (.mk t' n' s' l')).l]) :=
    loop4 ha hb o 0 (by omega) _ rfl _ rfl _ _ _ _ (VT.eta _).symm
  exact ⟨tA, fun _ => by rw [k3]; decide, tk, ⟨good_atom ha, good_vec hb.ht hb.ints hb.nn hb.ns⟩, ⟨gW, good_vec hb.ht hb.ints hb.nn hb.ns⟩, fun hbad => by simp at hbad, fun _ => key⟩
end Go.Qv
