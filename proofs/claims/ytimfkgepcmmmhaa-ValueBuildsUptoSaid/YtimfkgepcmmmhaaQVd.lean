/- Elements of what is a value are values; what is built of a value's elements is it. No condition. -/
import Derived.Test.YtimfkgepcmmmhaaQVc
set_option linter.unusedVariables false
set_option linter.unusedSimpArgs false
set_option maxRecDepth 100000
namespace Go.Qv
open Go Go.RowKit Go.Proofs
/-! ### depth -/
mutual
def dpt : VT → Nat
  | .mk _ _ _ l => dpts l + 1
def dpts : List VT → Nat
  | [] => 0
  | x :: l => max (dpt x) (dpts l)
end
theorem dpts_mem : ∀ {l : List VT} {x : VT}, x ∈ l → dpt x ≤ dpts l
  | y :: l, x, h => by
    rw [dpts]
    rcases List.mem_cons.1 h with rfl | h
    · omega
    · have := dpts_mem h; omega
theorem dpts_le : ∀ {l : List VT} {d : Nat}, (∀ x ∈ l, dpt x ≤ d) → dpts l ≤ d
  | [], d, _ => by simp [dpts]
  | y :: l, d, h => by
    have h1 := h y List.mem_cons_self
    have h2 := dpts_le (l := l) (d := d) (fun x hx => h x (List.mem_cons_of_mem _ hx))
    rw [dpts]; omega
theorem dpt_pos (v : VT) : 1 ≤ dpt v := by cases v; rw [dpt]; omega
mutual
theorem rDepth_eq : ∀ v : VT, dpt v ≤ 4611686018427387904 → rDepth v = dpt v
  | .mk t n s l, h => by
    rw [dpt] at h
    rw [rDepth, show rDepthL l 0 = ((max 0 (dpts l) : Nat) : Int) from rDepthL_eq l 0 (by omega), dpt, w64 (by omega) (by omega)]
    omega
theorem rDepthL_eq : ∀ (l : List VT) (d : Nat), dpts l ≤ 4611686018427387904 → rDepthL l d = ((max d (dpts l) : Nat) : Int)
  | [], d, _ => by simp [rDepthL, dpts]
  | x :: l, d, h => by
    rw [dpts] at h
    rw [rDepthL, rDepth_eq x (by omega), dpts]
    by_cases hx : dpt x > d
    · rw [if_pos (by omega), rDepthL_eq l (dpt x) (by omega)]; congr 1; omega
    · rw [if_neg (by omega), rDepthL_eq l d (by omega)]; congr 1; omega
end
mutual
theorem dpt_sz : ∀ v : VT, dpt v ≤ v.sz
  | .mk t n s l => by
    have := dpts_sz l
    rw [dpt, VT.sz]; omega
theorem dpts_sz : ∀ l : List VT, dpts l ≤ szs l
  | [] => by simp [dpts]
  | x :: l => by
    have := dpt_sz x
    have := dpts_sz l
    rw [dpts, szs]; omega
end
/-! ### what is a value at its top -/
theorem syms_iff {l : List ByteArray} : rSyms l = true ↔ ∀ s ∈ l, noZero s = true := by unfold rSyms; rw [List.all_eq_true]
theorem good_nil : VT.Good (.mk 0 [] [] []) :=
  .mk 0 [] [] [] (by decide) (.inr rfl) (.inr rfl) (.inr rfl) rfl rfl rfl (.inl rfl) (fun x hx => by simp at hx)
theorem good_sym {s : ByteArray} (h : noZero s = true) (h2 : (s.size : Int) ≤ 64) : VT.Good (.mk (-3) [] [s] []) := by
  refine .mk (-3) [] [s] [] (by decide) (.inr rfl) (.inl (by decide)) (.inr rfl) ?_ rfl (long_iff.2 (fun x hx => ?_)) (.inr (fun x hx => by simp at hx)) (fun x hx => by simp at hx)
  · rw [show rPlain (.mk (-3) [] [s] []) = rSyms [s] from rfl]
    exact syms_iff.2 (fun x hx => by simp at hx; subst hx; exact h)
  · have hx : x ∈ [s] := hx
    simp at hx; subst hx; exact h2
theorem good_num {t n : Int} (ht : t = 1 ∨ t = 2 ∨ t = 4 ∨ t = 5) (h1 : t = 1 → n = 0 ∨ n = 1) : VT.Good (.mk (-t) [n] [] []) := by
  rcases ht with rfl | rfl | rfl | rfl
  · refine .mk (-1) [n] [] [] (by decide) (.inl (by decide)) (.inr rfl) (.inr rfl) ?_ rfl rfl (.inr (fun x hx => by simp at hx)) (fun x hx => by simp at hx)
    rw [show rPlain (.mk (-1) [n] [] []) = [n].all (fun x => decide (x = 0 ∨ x = 1)) from rfl]
    simpa using h1 rfl
  · exact .mk (-2) [n] [] [] (by decide) (.inl (by decide)) (.inr rfl) (.inr rfl) rfl rfl rfl (.inr (fun x hx => by simp at hx)) (fun x hx => by simp at hx)
  · exact .mk (-4) [n] [] [] (by decide) (.inl (by decide)) (.inr rfl) (.inr rfl) rfl rfl rfl (.inr (fun x hx => by simp at hx)) (fun x hx => by simp at hx)
  · exact .mk (-5) [n] [] [] (by decide) (.inl (by decide)) (.inr rfl) (.inr rfl) rfl rfl rfl (.inr (fun x hx => by simp at hx)) (fun x hx => by simp at hx)
/-- What is known of a vector or an atom. -/
theorem good_flat {t n s l} (hg : (VT.mk t n s l).Good) (h5 : 1 ≤ rAbs t ∧ rAbs t ≤ 5) : l = [] ∧ (rAbs t = 3 → n = [] ∧ (∀ x ∈ s, noZero x = true)) ∧ (rAbs t ≠ 3 → s = []) ∧ (rAbs t = 1 → ∀ x ∈ n, x = 0 ∨ x = 1) ∧ (∀ x ∈ s, (x.size : Int) ≤ 64) ∧
    (t < 0 → IntKind.i64.wrap (n.length + s.length) = 1) := by
  obtain ⟨r1, r2⟩ := rfields5 h5
  have hne : t ≠ 100 ∧ t ≠ 0 ∧ t ≠ 98 ∧ t ≠ 99 := by unfold rAbs at h5; split at h5 <;> omega
  have hL : rfL t = false := by
    unfold rfL rFields
    by_cases h3 : rAbs t = 3
    · rw [if_pos h3]
    · rw [if_neg h3, if_pos ⟨⟨hne.2.1, h5.1⟩, h5.2⟩]
  cases hg with
  | mk _ _ _ _ g1 g2 g3 g4 g5 g6 g7 =>
    rw [rPlain_mk] at g5
    have ha : ¬ (isAtomT t ∧ IntKind.i64.wrap (n.length + s.length) ≠ 1) := fun h => by rw [if_pos h] at g5; cases g5
    rw [if_neg ha] at g5
    have g7 : longer (if t = 100 then 65536 else 64) s = false := g7
    rw [if_neg hne.1] at g7
    refine ⟨?_, fun e => ⟨?_, ?_⟩, fun e => ?_, fun e => ?_, long_iff.1 g7, fun e => ?_⟩
    · rcases g4 with g4 | g4
      · rw [hL] at g4; cases g4
      · exact g4
    · rcases g2 with g2 | g2
      · rw [r1 e] at g2; cases g2
      · exact g2
    · rw [if_neg (by omega), if_neg hne.1, if_neg hne.2.1, if_neg hne.2.2.1, if_neg hne.2.2.2, if_pos e] at g5
      exact syms_iff.1 g5
    · rcases g3 with g3 | g3
      · rw [r2 e] at g3; cases g3
      · exact g3
    · rw [if_pos e, List.all_eq_true] at g5
      exact fun x hx => of_decide_eq_true (g5 x hx)
    · have hA : isAtomT t := by unfold isAtomT; unfold rAbs at h5; split at h5 <;> omega
      exact Classical.byContradiction fun hn => ha ⟨hA, hn⟩
theorem good_vec {t : Int} {n : List Int} {s : List ByteArray} (ht : 1 ≤ t ∧ t ≤ 5) (h3 : t = 3 → n = [] ∧ ∀ x ∈ s, noZero x = true) (h4 : t ≠ 3 → s = []) (h1 : t = 1 → ∀ x ∈ n, x = 0 ∨ x = 1) (hs : ∀ x ∈ s, (x.size : Int) ≤ 64)
    (hn : n.length ≤ 65536) (hsl : s.length ≤ 65536) : VT.Good (.mk t n s []) := by
  have b : t = 1 ∨ t = 2 ∨ t = 3 ∨ t = 4 ∨ t = 5 := by omega
  have d1 : decide ((65536 : Int) < (n.length : Int)) = false := decide_eq_false (by omega)
  have d2 : decide ((65536 : Int) < (s.length : Int)) = false := decide_eq_false (by omega)
  rcases b with rfl | rfl | rfl | rfl | rfl
  · obtain rfl := h4 (by omega)
    refine .mk 1 n [] [] (by decide) (.inl (by decide)) (.inr rfl) (.inr rfl) ?_ d1 rfl (.inr (fun x hx => by simp at hx)) (fun x hx => by simp at hx)
    rw [show rPlain (.mk 1 n [] []) = n.all (fun x => decide (x = 0 ∨ x = 1)) from rfl, List.all_eq_true]
    exact fun x hx => decide_eq_true (h1 rfl x hx)
  · obtain rfl := h4 (by omega)
    exact .mk 2 n [] [] (by decide) (.inl (by decide)) (.inr rfl) (.inr rfl) rfl d1 rfl (.inr (fun x hx => by simp at hx)) (fun x hx => by simp at hx)
  · obtain ⟨rfl, hz⟩ := h3 rfl
    refine .mk 3 [] s [] (by decide) (.inr rfl) (.inl (by decide)) (.inr rfl) ?_ d2 (long_iff.2 hs) (.inr (fun x hx => by simp at hx)) (fun x hx => by simp at hx)
    rw [show rPlain (.mk 3 [] s []) = rSyms s from rfl]
    exact syms_iff.2 hz
  · obtain rfl := h4 (by omega)
    exact .mk 4 n [] [] (by decide) (.inl (by decide)) (.inr rfl) (.inr rfl) rfl d1 rfl (.inr (fun x hx => by simp at hx)) (fun x hx => by simp at hx)
  · obtain rfl := h4 (by omega)
    exact .mk 5 n [] [] (by decide) (.inl (by decide)) (.inr rfl) (.inr rfl) rfl d1 rfl (.inr (fun x hx => by simp at hx)) (fun x hx => by simp at hx)
theorem listGo_nil {t0 : Int} : ∀ {l : List VT} {b : Bool}, rListGo t0 b l = true → ∀ x ∈ l, x.t ≠ 101
  | y :: l, b, h, x, hx => by
    rw [rListGo] at h
    split at h
    · cases h
    · rename_i h1
      rcases List.mem_cons.1 hx with rfl | hx
      · exact h1
      · exact listGo_nil h x hx
theorem listGo_of {t0 : Int} : ∀ {l : List VT} {b : Bool}, (∀ x ∈ l, x.t ≠ 101) → alikeGo t0 b l = false → rListGo t0 b l = true
  | [], b, _, h => by simp [alikeGo] at h; simp [rListGo, h]
  | x :: l, b, h, ha => by
    rw [rListGo, if_neg (h x List.mem_cons_self)]
    refine listGo_of (fun y hy => h y (List.mem_cons_of_mem _ hy)) ?_
    rw [← ha]
    simp only [alikeGo, List.all_cons, Bool.and_assoc]
theorem listGo_alike {t0 : Int} : ∀ {l : List VT} {b : Bool}, rListGo t0 b l = true → alikeGo t0 b l = false
  | [], b, h => by simp [rListGo] at h; simp [alikeGo, h]
  | x :: l, b, h => by
    rw [rListGo] at h
    split at h
    · cases h
    · rw [← listGo_alike h]
      simp only [alikeGo, List.all_cons, Bool.and_assoc]
theorem good_list {l : List VT} (hn : ∀ x ∈ l, x.t ≠ 101) (ha : alikeB l = false) (hl : l.length ≤ 65536) (hg : ∀ x ∈ l, x.Good) : VT.Good (.mk 0 [] [] l) := by
  refine .mk 0 [] [] l (by decide) (.inr rfl) (.inr rfl) (.inl (by decide)) ?_ ?_ rfl (.inl rfl) hg
  · rw [show rPlain (.mk 0 [] [] l) = rList (.mk 0 [] [] l) from rfl]
    exact listGo_of hn ha
  · show (decide ((0 : Int) = 0) && decide ((65536 : Int) < (l.length : Int))) = false
    rw [decide_eq_false (show ¬ (65536 : Int) < (l.length : Int) by omega), Bool.and_false]
theorem good_in_list {n s l} (hg : (VT.mk 0 n s l).Good) : (∀ x ∈ l, x.t ≠ 101) ∧ alikeB l = false ∧ n = [] ∧ s = [] := by
  cases hg with
  | mk _ _ _ _ g1 g2 g3 g4 g5 =>
    rw [show rPlain (.mk 0 n s l) = rList (.mk 0 n s l) from by rw [rPlain_mk, if_neg (by unfold isAtomT; omega), if_neg (by unfold rAbs; omega), if_neg (by omega), if_pos rfl]] at g5
    have g5 : rListGo (l.getD 0 default).t (decide (0 < l.length)) l = true := g5
    refine ⟨listGo_nil g5, listGo_alike g5, ?_, ?_⟩
    · rcases g2 with g2 | g2
      · exact absurd g2 (by decide)
      · exact g2
    · rcases g3 with g3 | g3
      · exact absurd g3 (by decide)
      · exact g3
/-! ### an element of a vector or a list -/
/-- What an element of a column is. -/
structure Elem (x : VT) (d : Nat) : Prop where
  good : x.Good
  nil : x.t ≠ 101
  dep : dpt x ≤ d
theorem at0_elem {v : VT} (hg : v.Good) (hc : isColT v.t) {i : Int} (h0 : 0 ≤ i) (hi : i < rCount v) : Elem (at0 v i.toNat) (max 1 (dpt v - 1)) := by
  obtain ⟨t, n, s, l⟩ := v
  have hc : isColT t := hc
  rw [cnt_mk] at hi
  rw [at0_mk]
  rcases hc with hv | hz
  · have hv' : 1 ≤ t ∧ t ≤ 5 := hv
    have ha : rAbs t = t := by unfold rAbs; rw [if_neg (by omega)]
    obtain ⟨f1, f2, f3, f4, f5, _⟩ := good_flat hg (by rw [ha]; exact hv')
    rw [ha] at f2 f3 f4
    by_cases h3 : t = 3
    · rw [if_pos h3] at hi ⊢
      have hm := getD_mem s ⟨#[]⟩ (i := i.toNat) (by omega)
      exact ⟨good_sym ((f2 h3).2 _ hm) (f5 _ hm), show (-3 : Int) ≠ 101 by omega, by simp only [dpt, dpts]; omega⟩
    · rw [if_neg h3, if_pos hv] at hi ⊢
      have hm := getD_mem n 0 (i := i.toNat) (by omega)
      unfold atomV
      rw [ha, if_neg (by omega)]
      exact ⟨good_num (by omega) (fun e => f4 e _ hm), show -t ≠ 101 by omega, by simp only [dpt, dpts]; omega⟩
  · subst hz
    rw [if_neg (by omega), if_neg (by unfold isVecT; omega), if_pos rfl] at hi ⊢
    have hm := getD_mem l default (i := i.toNat) (by omega)
    obtain ⟨q1, _⟩ := good_in_list hg
    have hd := dpts_mem hm
    refine ⟨?_, q1 _ hm, by rw [dpt]; omega⟩
    cases hg with
    | mk _ _ _ _ g1 g2 g3 g4 g5 g6 g7 g8 g9 => exact g9 _ hm
theorem at1_elem {v : VT} (hg : v.Good) (hc : isColT v.t) {i : Int} (h0 : 0 ≤ i) (hi : i < rCount v) : Elem (at1V v i) (max 1 (dpt v - 1)) := by
  unfold at1V
  rw [if_neg (by omega)]
  exact at0_elem hg hc h0 hi
/-! ### what is built of elements -/
theorem alike_iff {l : List VT} : alikeB l = true ↔ 0 < l.length ∧ ∀ x ∈ l, isAtomT x.t ∧ x.t = (l.getD 0 default).t := by
  unfold alikeB alikeGo
  rw [Bool.and_eq_true, List.all_eq_true]
  simp
theorem flat_one {α : Type} {f : VT → List α} : ∀ {l : List VT}, (∀ x ∈ l, (f x).length = 1) → (l.flatMap f).length = l.length
  | [], _ => rfl
  | x :: l, h => by
    rw [List.flatMap_cons, List.length_append, h x List.mem_cons_self, flat_one (fun y hy => h y (List.mem_cons_of_mem _ hy)), List.length_cons]; omega
theorem flat_no {α : Type} {f : VT → List α} : ∀ {l : List VT}, (∀ x ∈ l, f x = []) → l.flatMap f = []
  | [], _ => rfl
  | x :: l, h => by
    rw [List.flatMap_cons, h x List.mem_cons_self, flat_no (fun y hy => h y (List.mem_cons_of_mem _ hy))]; rfl
theorem of_good {l : List VT} {d : Nat} (h : ∀ x ∈ l, Elem x d) (hb : ∀ x ∈ l, x.bk ≤ 4611686018427387904) (hl : l.length ≤ 65536) : (ofV l).Good ∧ isColT (ofV l).t ∧ rCount (ofV l) = l.length ∧ dpt (ofV l) ≤ d + 1 := by
  cases ha : alikeB l with
  | false =>
    have e : ofV l = .mk 0 [] [] l := by unfold ofV; rw [ha]; rfl
    rw [e]
    refine ⟨good_list (fun x hx => (h x hx).nil) ha hl (fun x hx => (h x hx).good), .inr rfl, ?_, ?_⟩
    · rw [cnt_mk, if_neg (by omega), if_neg (by unfold isVecT; omega), if_pos rfl]
    · rw [dpt]; have := dpts_le (l := l) (d := d) (fun x hx => (h x hx).dep); omega
  | true =>
    have e : ofV l = .mk (-(l.getD 0 default).t) (l.flatMap VT.n) (l.flatMap VT.s) [] := by unfold ofV; rw [if_pos ha]
    obtain ⟨hp, hall⟩ := alike_iff.1 ha
    obtain ⟨hA, _⟩ := hall _ (getD_mem l default hp)
    rw [e]
    generalize ht : (l.getD 0 default).t = t at *
    have hA' : t < 0 ∧ -5 ≤ t := hA
    have h5 : 1 ≤ rAbs t ∧ rAbs t ≤ 5 := by unfold rAbs; rw [if_pos hA']; omega
    have hab : rAbs t = -t := by unfold rAbs; rw [if_pos hA']
    have hx : ∀ x ∈ l, (t = -3 → x.n = [] ∧ x.s.length = 1 ∧ ∀ y ∈ x.s, noZero y = true) ∧ (t ≠ -3 → x.s = [] ∧ x.n.length = 1) ∧ (t = -1 → ∀ y ∈ x.n, y = 0 ∨ y = 1) ∧ ∀ y ∈ x.s, (y.size : Int) ≤ 64 := by
      intro x hx
      obtain ⟨t', n, s, l'⟩ := x
      have hb' := hb _ hx
      rw [VT.bk_eq] at hb'
      have q := len_strs s
      have e2 : t' = t := (hall _ hx).2
      subst e2
      obtain ⟨f1, f2, f3, f4, f5, f6⟩ := good_flat (h _ hx).good h5
      rw [hab] at f2 f3 f4
      have f6 := f6 hA'.1
      rw [w64 (by omega) (by omega)] at f6
      refine ⟨fun e3 => ?_, fun e3 => ?_, fun e3 => f4 (by omega), f5⟩
      · obtain ⟨a, b⟩ := f2 (by omega)
        subst a
        exact ⟨rfl, show s.length = 1 by simp only [List.length_nil] at f6; omega, b⟩
      · have a := f3 (by omega)
        subst a
        exact ⟨rfl, show n.length = 1 by simp only [List.length_nil] at f6; omega⟩
    have c3 : t = -3 → l.flatMap VT.n = [] ∧ (l.flatMap VT.s).length = l.length := fun e3 => ⟨flat_no (fun x hx' => ((hx x hx').1 e3).1), flat_one (fun x hx' => ((hx x hx').1 e3).2.1)⟩
    have c4 : t ≠ -3 → l.flatMap VT.s = [] ∧ (l.flatMap VT.n).length = l.length := fun e3 => ⟨flat_no (fun x hx' => ((hx x hx').2.1 e3).1), flat_one (fun x hx' => ((hx x hx').2.1 e3).2)⟩
    refine ⟨good_vec (by omega) (fun e3 => ⟨(c3 (by omega)).1, fun y hy => ?_⟩) (fun e3 => (c4 (by omega)).1) (fun e3 y hy => ?_) (fun y hy => ?_) ?_ ?_, .inl (show 1 ≤ -t ∧ -t ≤ 5 by omega), ?_, by simp [dpt, dpts]⟩
    · obtain ⟨x, hx', hy'⟩ := List.mem_flatMap.1 hy
      exact ((hx x hx').1 (by omega)).2.2 y hy'
    · obtain ⟨x, hx', hy'⟩ := List.mem_flatMap.1 hy
      exact (hx x hx').2.2.1 (by omega) y hy'
    · obtain ⟨x, hx', hy'⟩ := List.mem_flatMap.1 hy
      exact (hx x hx').2.2.2 y hy'
    · by_cases e3 : t = -3
      · rw [(c3 e3).1]; simp
      · rw [(c4 e3).2]; exact hl
    · by_cases e3 : t = -3
      · rw [(c3 e3).2]; exact hl
      · rw [(c4 e3).1]; simp
    · rw [cnt_mk]
      by_cases e3 : t = -3
      · rw [if_pos (by omega), (c3 e3).2]
      · rw [if_neg (by omega), if_pos (show isVecT (-t) from ⟨by omega, by omega⟩), (c4 e3).2]
/-! ### a row -/
theorem table_names : ∀ (s : List ByteArray) (l : List VT) (b : List ByteArray), rTableGo b s l = true → ∀ x ∈ s, noZero x = true
  | y :: s, l, b, h, x, hx => by
    rw [rTableGo] at h
    split at h
    · cases h
    · rename_i h1
      split at h
      · cases h
      · rcases List.mem_cons.1 hx with rfl | hx
        · cases hz : noZero x with
          | true => rfl
          | false => exact absurd (.inr (.inl hz)) h1
        · exact table_names s l.tail _ h x hx
/-- What is known of a table. -/
theorem good_table {n s l} (hg : (VT.mk 98 n s l).Good) : (∀ c ∈ l, isColT c.t) ∧ s.length = l.length ∧ 0 < l.length ∧ (∀ x ∈ s, noZero x = true) ∧ (∀ x ∈ s, (x.size : Int) ≤ 64) ∧ l.length ≤ 64 ∧ (∀ x ∈ l, rCount x = rCount (.mk 98 n s l)) ∧ ∀ x ∈ l, x.Good := by
  cases hg with
  | mk _ _ _ _ g1 g2 g3 g4 g5 g6 g7 g8 g9 =>
    rw [rPlain_mk] at g5
    rw [if_neg (by unfold isAtomT; omega), if_neg (by unfold rAbs; omega), if_neg (by omega), if_neg (by omega), if_pos rfl] at g5
    unfold rTable at g5
    split at g5
    · cases g5
    · rename_i h1
      have h1 : ¬ (s.length = 0 ∨ s.length ≠ l.length) := h1
      have g6 : (decide ((64 : Int) < s.length) || decide ((64 : Int) < l.length)) = false := g6
      rw [Bool.or_eq_false_iff] at g6
      have q1 := of_decide_eq_false g6.2
      have g7 : longer 64 s = false := g7
      refine ⟨table_cols s l [] g5 (by omega), by omega, by omega, table_names s l [] g5, long_iff.1 g7, by omega, fun x hx => ?_, g9⟩
      rcases g8 with g8 | g8
      · omega
      · rw [g8 x hx, cnt_mk, if_neg (by omega), if_neg (by unfold isVecT; omega), if_neg (by omega)]
        match l, h1 with
        | [], h1 => simp at hx
        | y :: l, _ => simp
/-- Tables side by side: a row of them is a value. -/
theorem row_good {L : List VT} {i : Int} (h0 : 0 ≤ i) {d : Nat} (h : ∀ x ∈ L, x.Good ∧ x.t = 98 ∧ i < rCount x ∧ dpt x ≤ d) (hL : L.length ≤ 2) (hne : 0 < L.length) (hb : bks L ≤ 4611686018427387904) : (rowV L i).Good ∧ dpt (rowV L i) ≤ max 3 d := by
  have hT : ∀ x ∈ L, (∀ c ∈ x.l, isColT c.t) ∧ x.s.length = x.l.length ∧ 0 < x.l.length ∧ (∀ y ∈ x.s, noZero y = true) ∧ (∀ y ∈ x.s, (y.size : Int) ≤ 64) ∧ x.l.length ≤ 64 ∧ (∀ y ∈ x.l, rCount y = rCount x) ∧ ∀ y ∈ x.l, y.Good := by
    intro x hx
    obtain ⟨hg, ht, _⟩ := h x hx
    obtain ⟨t, n, s, l⟩ := x
    have ht : t = 98 := ht
    subst ht
    exact good_table hg
  have len : ∀ {l : List VT}, (∀ x ∈ l, x.s.length = x.l.length ∧ x.l.length ≤ 64) → (l.flatMap VT.s).length = (l.flatMap VT.l).length ∧ (l.flatMap VT.l).length ≤ 64 * l.length := by
    intro l; induction l with
    | nil => intro _; simp
    | cons y l ih =>
      intro hh
      obtain ⟨a, b⟩ := ih (fun x hx => hh x (List.mem_cons_of_mem _ hx))
      obtain ⟨c, e⟩ := hh y List.mem_cons_self
      simp only [List.flatMap_cons, List.length_append, List.length_cons]
      omega
  obtain ⟨l1, l2⟩ := len (l := L) (fun x hx => ⟨(hT x hx).2.1, (hT x hx).2.2.2.2.2.1⟩)
  have hparts : ∀ p ∈ (L.flatMap VT.l).map (fun c => at1V c i), Elem p (max 1 (d - 2)) ∧ p.bk ≤ 4611686018427387904 := by
    intro p hp
    obtain ⟨c, hc, rfl⟩ := List.mem_map.1 hp
    obtain ⟨x, hx, hcx⟩ := List.mem_flatMap.1 hc
    obtain ⟨q1, q2, q3, q4, q5, q6, q7, q8⟩ := hT x hx
    obtain ⟨a1, a2, a3, a4⟩ := h x hx
    have e := at1_elem (q8 c hcx) (q1 c hcx) h0 (by rw [q7 c hcx]; exact a3)
    have hd := dpts_mem hcx
    have hdx : dpts x.l + 1 = dpt x := by cases x; rw [dpt]; rfl
    have hbk := at1V_bk c i
    have hb1 := bk_mem hx
    have hb2 := bk_mem hcx
    have hb3 : bks x.l ≤ x.bk := by cases x; rw [VT.bk_eq]; simp only [VT.l]; omega
    exact ⟨⟨e.good, e.nil, by have := e.dep; omega⟩, by omega⟩
  obtain ⟨o1, o2, o3, o4⟩ := of_good (fun p hp => (hparts p hp).1) (fun p hp => (hparts p hp).2) (by rw [List.length_map]; omega)
  rw [List.length_map] at o3
  have hnames : VT.Good (.mk 3 [] (L.flatMap VT.s) []) := good_vec ⟨by omega, by omega⟩ (fun _ => ⟨rfl, fun y hy => by
      obtain ⟨x, hx, hy'⟩ := List.mem_flatMap.1 hy
      exact (hT x hx).2.2.2.1 y hy'⟩) (fun e => absurd rfl e) (fun e => by omega) (fun y hy => by
      obtain ⟨x, hx, hy'⟩ := List.mem_flatMap.1 hy
      exact (hT x hx).2.2.2.2.1 y hy') (by simp) (by omega)
  have hc3 : rCount (.mk 3 [] (L.flatMap VT.s) []) = ((L.flatMap VT.s).length : Int) := by rw [cnt_mk, if_pos rfl]
  refine ⟨.mk 99 [] [] _ (by decide) (.inr rfl) (.inr rfl) (.inl (by decide)) ?_ rfl rfl (.inr (fun x hx => ?_)) (fun x hx => ?_), ?_⟩
  · rw [rPlain_mk, if_neg (by unfold isAtomT; omega), if_neg (by unfold rAbs; omega), if_neg (by omega), if_neg (by omega), if_neg (by omega), if_pos rfl]
    exact decide_eq_true ⟨rfl, .inl ⟨.inl (show (1 : Int) ≤ 3 ∧ (3 : Int) ≤ 5 by omega), o2⟩⟩
  · simp only [List.mem_cons, List.not_mem_nil, or_false] at hx
    show rCount x = rCount (.mk 3 [] (L.flatMap VT.s) [])
    rcases hx with rfl | rfl
    · rfl
    · rw [o3, hc3, l1]
  · simp only [List.mem_cons, List.not_mem_nil, or_false] at hx
    rcases hx with rfl | rfl
    · exact hnames
    · exact o1
  · unfold rowV
    simp only [dpt, dpts]
    obtain ⟨x, hx⟩ : ∃ x, x ∈ L := by
      match L, hne with
      | x :: L, _ => exact ⟨x, List.mem_cons_self⟩
    have hdx : 2 ≤ dpt x := by
      have := (hT x hx).2.2.1
      obtain ⟨t, n, s, l⟩ := x
      match l, this with
      | y :: l, _ => have := dpt_pos y; rw [dpt, dpts]; omega
    have := (h x hx).2.2.2
    omega
/-! ### an element -/
theorem at_good {v : VT} (hg : v.Good) (hb : v.bk ≤ 1048576) {i : Int} (h0 : 0 ≤ i) (hi : i < rCount v) : (atV v i).Good ∧ dpt (atV v i) ≤ max 3 (dpt v) := by
  unfold atV
  rw [if_neg (by omega)]
  by_cases h98 : v.t = 98
  · rw [if_pos h98]
    refine row_good h0 (d := dpt v) (fun x hx => ?_) (by simp) (by simp) ?_
    · simp at hx; subst hx; exact ⟨hg, h98, hi, Nat.le_refl _⟩
    · rw [bks_cons]; simp [bks]; omega
  rw [if_neg h98]
  by_cases h99 : v.t = 99
  · rw [if_pos h99]
    obtain ⟨k1, k2, k3⟩ := (ok2_of hg).2 h99
    obtain ⟨t, n, s, l⟩ := v
    have h99 : t = 99 := h99
    subst h99
    have hbl : bks l ≤ 1048576 := by rw [VT.bk_eq] at hb; omega
    match l, k1 with
    | [a, b], _ =>
    cases hg with
    | mk _ _ _ _ g1 g2 g3 g4 g5 g6 g7 g8 g9 =>
      rw [rPlain_mk, if_neg (by unfold isAtomT; omega), if_neg (by unfold rAbs; omega), if_neg (by omega), if_neg (by omega), if_neg (by omega), if_pos rfl] at g5
      obtain ⟨_, p2⟩ := of_decide_eq_true g5
      have hca : rCount a = rCount (.mk 99 n s [a, b]) := by rw [cnt_mk, if_neg (by omega), if_neg (by unfold isVecT; omega), if_neg (by omega)]; simp
      have hcb : rCount b = rCount a := by
        rcases g8 with g8 | g8
        · omega
        · exact g8 b (by simp)
      have hd : dpt a < dpt (.mk 99 n s [a, b]) ∧ dpt b < dpt (.mk 99 n s [a, b]) := by simp only [dpt, dpts]; omega
      show (if a.t = 98 then rowV [a, b] i else at1V b i).Good ∧ dpt (if a.t = 98 then rowV [a, b] i else at1V b i) ≤ _
      have p2 : (isColT a.t ∧ isColT b.t) ∨ (a.t = 98 ∧ b.t = 98) := p2
      by_cases hk : a.t = 98
      · rw [if_pos hk]
        have hkb : b.t = 98 := by
          rcases p2 with p2 | p2
          · have := p2.1; rw [hk] at this; unfold isColT isVecT at this; omega
          · exact p2.2
        have r := row_good h0 (L := [a, b]) (d := dpt (.mk 99 n s [a, b])) (fun x hx => ?_) (by simp) (by simp) (by omega)
        · exact r
        · simp at hx
          rcases hx with rfl | rfl
          · exact ⟨g9 _ (by simp), hk, by omega, by omega⟩
          · exact ⟨g9 _ (by simp), hkb, by omega, by omega⟩
      · rw [if_neg hk]
        have p3 : isColT b.t := by
          rcases p2 with p2 | p2
          · exact p2.2
          · exact absurd p2.1 hk
        have e := at1_elem (g9 b (by simp)) p3 h0 (by omega)
        exact ⟨e.good, by have := e.dep; omega⟩
  rw [if_neg h99]
  by_cases hc : isColT v.t
  · have e := at0_elem hg hc h0 hi
    exact ⟨e.good, by have := e.dep; have := dpt_pos v; omega⟩
  · obtain ⟨t, n, s, l⟩ := v
    have hc : ¬ isColT t := hc
    rw [at0_mk, if_neg (fun e => hc (.inl ⟨by omega, by omega⟩)), if_neg (fun e => hc (.inl e)), if_neg (fun e => hc (.inr e))]
    exact ⟨hg, by omega⟩
/-! ### what is built of a value's elements -/
theorem sym_flat : ∀ s : List ByteArray, (s.map fun x => VT.mk (-3) [] [x] []).flatMap VT.s = s
  | [] => rfl
  | y :: s => by rw [List.map_cons, List.flatMap_cons, sym_flat s]; rfl
theorem num_flat (t : Int) : ∀ n : List Int, (n.map fun x => VT.mk (-t) [x] [] []).flatMap VT.n = n
  | [] => rfl
  | y :: n => by rw [List.map_cons, List.flatMap_cons, num_flat t n]; rfl
theorem of_eachs {v : VT} (hg : v.Good) (hb : v.bk ≤ 1048576) (h : v.t = 0 ∨ (0 < v.t ∧ v.t ≤ 5 ∧ 0 < (eachs v).length)) : ofV (eachs v) = v := by
  obtain ⟨t, n, s, l⟩ := v
  have h : t = 0 ∨ (0 < t ∧ t ≤ 5 ∧ 0 < (eachs (.mk t n s l)).length) := h
  rcases h with h | ⟨h1, h2, h3⟩
  · subst h
    obtain ⟨_, q2, q3, q4⟩ := good_in_list hg
    subst q3; subst q4
    have e : eachs (.mk 0 [] [] l) = l := by
      have hc : rCount (.mk 0 [] [] l) = l.length := by rw [cnt_mk, if_neg (by omega), if_neg (by unfold isVecT; omega), if_pos rfl]
      unfold eachs
      rw [hc, Int.toNat_natCast]
      rw [← map_range l default]
      apply List.ext_getElem (by simp)
      intro j j1 j2
      simp only [List.length_map, List.length_range] at j1
      simp only [List.getElem_map, List.getElem_range, map_range]
      unfold atV
      rw [hc, if_neg (by omega), if_neg (by show ¬ (0 : Int) = 98; omega), if_neg (by show ¬ (0 : Int) = 99; omega), at0_mk, if_neg (by omega), if_neg (by unfold isVecT; omega), if_pos rfl, Int.toNat_natCast, List.getD_eq_getElem?_getD, List.getElem?_eq_getElem j1]; rfl
    rw [e]
    unfold ofV
    rw [q2]; rfl
  · have hv : isVecT t := ⟨by omega, h2⟩
    have ha : rAbs t = t := by unfold rAbs; rw [if_neg (by omega)]
    obtain ⟨f1, f2, f3, f4, f5, _⟩ := good_flat hg (by rw [ha]; omega)
    rw [ha] at f2 f3
    subst f1
    by_cases e3 : t = 3
    · subst e3
      obtain ⟨rfl, _⟩ := f2 rfl
      have hc : rCount (.mk 3 [] s []) = s.length := by rw [cnt_mk, if_pos rfl]
      have e : eachs (.mk 3 [] s []) = s.map fun x => VT.mk (-3) [] [x] [] := by
        unfold eachs
        rw [hc, Int.toNat_natCast]
        apply List.ext_getElem (by simp)
        intro j j1 j2
        simp only [List.length_map, List.length_range] at j1
        simp only [List.getElem_map, List.getElem_range]
        unfold atV
        rw [hc, if_neg (by omega), if_neg (by show ¬ (3 : Int) = 98; omega), if_neg (by show ¬ (3 : Int) = 99; omega), at0_mk, if_pos rfl, Int.toNat_natCast, List.getD_eq_getElem?_getD, List.getElem?_eq_getElem (by omega)]; rfl
      rw [e] at h3 ⊢
      have hne : 0 < s.length := by simpa using h3
      have al : alikeB (s.map fun x => VT.mk (-3) [] [x] []) = true := by
        have e0 : ((s.map fun x => VT.mk (-3) [] [x] []).getD 0 default).t = -3 := by
          match s, hne with
          | x :: s, _ => rfl
        refine alike_iff.2 ⟨by simpa using hne, fun x hx => ?_⟩
        obtain ⟨y, _, rfl⟩ := List.mem_map.1 hx
        exact ⟨⟨by show (-3 : Int) < 0; omega, by show (-5 : Int) ≤ -3; omega⟩, e0.symm⟩
      have e0 : ((s.map fun x => VT.mk (-3) [] [x] []).getD 0 default).t = -3 := by
        match s, hne with
        | x :: s, _ => rfl
      unfold ofV
      rw [if_pos al, e0]
      congr 1
      · exact flat_no (fun x hx => by obtain ⟨y, _, rfl⟩ := List.mem_map.1 hx; rfl)
      · exact sym_flat s
    · obtain rfl := f3 e3
      have hc : rCount (.mk t n [] []) = n.length := by rw [cnt_mk, if_neg e3, if_pos hv]
      have at1 : ∀ x, atomV t x = VT.mk (-t) [x] [] [] := fun x => by unfold atomV; rw [ha, if_neg (by omega)]
      have e : eachs (.mk t n [] []) = n.map fun x => VT.mk (-t) [x] [] [] := by
        unfold eachs
        rw [hc, Int.toNat_natCast]
        apply List.ext_getElem (by simp)
        intro j j1 j2
        simp only [List.length_map, List.length_range] at j1
        simp only [List.getElem_map, List.getElem_range]
        unfold atV
        rw [hc, if_neg (by omega), if_neg (by show ¬ t = 98; omega), if_neg (by show ¬ t = 99; omega), at0_mk, if_neg e3, if_pos hv, Int.toNat_natCast, List.getD_eq_getElem?_getD, List.getElem?_eq_getElem (by omega), at1]; rfl
      rw [e] at h3 ⊢
      have hne : 0 < n.length := by simpa using h3
      have e0 : ((n.map fun x => VT.mk (-t) [x] [] []).getD 0 default).t = -t := by
        match n, hne with
        | x :: s, _ => rfl
      have al : alikeB (n.map fun x => VT.mk (-t) [x] [] []) = true := by
        refine alike_iff.2 ⟨by simpa using hne, fun x hx => ?_⟩
        obtain ⟨y, _, rfl⟩ := List.mem_map.1 hx
        exact ⟨⟨by show -t < 0; omega, by show -5 ≤ -t; omega⟩, e0.symm⟩
      unfold ofV
      rw [if_pos al, e0, Int.neg_neg]
      congr 1
      · exact num_flat t n
      · exact flat_no (fun x hx => by obtain ⟨y, _, rfl⟩ := List.mem_map.1 hx; rfl)
/-- What the loop over its elements asks of a value. -/
def bldOk (v : VT) (h : List VT) : Prop := v.Good ∧ v.bk ≤ 1048576 ∧ rDepth v ≤ 32 ∧ h.length ≤ 1048576
noncomputable def tmB : TS := ⟨[(1, .one (.ptr 0 0)), (2, .one (.ptr 64 0)), (3, .one (.ptr 640 0))], [(0, .cells [.int .i64, .sl (.i .i64), .sl .s, .sl .v]), (64, .cells [.fix (.bool false)]), (640, .cells [.own 705]), (705, .arr 37 .v)], 768, 67⟩
noncomputable def spLpB : AV → List Lf → T (List Lf × Jp)
  | .fn 131 [.rp [.int .i64 t, .sl (.i .i64 n), .sl (.s s), .sl (.v l)]], [.int t', .is n', .ss s', .vs l', .vs h] =>
    when_ (bldOk (.mk t n s l) h) (.leaf ([.int t', .is n', .ss s', .vs l', .vs (appV h (eachs (.mk t n s l)))], .go))
  | _, _ => .stuck "loop's arguments"
noncomputable def lpB : LP := lpOf 0 Go.Proofs.Try.f10 8 tmB spLpB noLp

end Go.Qv
