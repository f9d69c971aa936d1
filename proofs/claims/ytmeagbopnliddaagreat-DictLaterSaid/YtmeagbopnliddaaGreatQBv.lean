/- Values by their bulk; what builders of values answer. No condition. -/
import Derived.Test.YtmeagbopnliddaaGreatQSp
set_option linter.unusedVariables false
set_option linter.unusedSimpArgs false
namespace Go.Qv
open Go.RowKit

mutual
def VT.bk : VT → Nat | .mk _ n s l => n.length + strs s + bks l + 1
def bks : List VT → Nat | [] => 0 | x :: l => x.bk + bks l
def strs : List ByteArray → Nat | [] => 0 | x :: l => x.size + 1 + strs l
end
mutual
theorem sz_bk : ∀ v : VT, v.sz ≤ v.bk
  | .mk t n s l => by have := szs_bks l; simp only [VT.sz, VT.bk]; omega
theorem szs_bks : ∀ l : List VT, szs l ≤ bks l
  | [] => by simp [szs, bks]
  | x :: l => by have := sz_bk x; have := szs_bks l; simp only [szs, bks]; omega
end
theorem VT.bk_eq (t n s l) : (VT.mk t n s l).bk = n.length + strs s + bks l + 1 := by simp only [VT.bk]
theorem bk_pos (v : VT) : 1 ≤ v.bk := by cases v; rw [VT.bk_eq]; omega
theorem bks_cons (x l) : bks (x :: l) = x.bk + bks l := by simp only [bks]
theorem bks_append : ∀ (a b : List VT), bks (a ++ b) = bks a + bks b
  | [], b => by simp [bks]
  | x :: a, b => by rw [List.cons_append, bks_cons, bks_cons, bks_append a b]; omega
theorem strs_append : ∀ (a b : List ByteArray), strs (a ++ b) = strs a + strs b
  | [], b => by simp [strs]
  | x :: a, b => by simp only [List.cons_append, strs, strs_append a b]; omega
theorem len_bks : ∀ l : List VT, l.length ≤ bks l
  | [] => by simp
  | x :: l => by have := len_bks l; have := bk_pos x; rw [bks_cons, List.length_cons]; omega
theorem len_strs : ∀ l : List ByteArray, l.length ≤ strs l
  | [] => by simp
  | x :: l => by have := len_strs l; simp only [strs, List.length_cons]; omega
theorem bk_mem {x : VT} : ∀ {l : List VT}, x ∈ l → x.bk ≤ bks l
  | y :: l, h => by
    rw [bks_cons]
    rcases List.mem_cons.1 h with rfl | h
    · omega
    · have := bk_mem h; omega
theorem bks_take (l : List VT) (i : Nat) : bks (l.take i) ≤ bks l := by
  have := bks_append (l.take i) (l.drop i)
  rw [List.take_append_drop] at this; omega
theorem flat_n : ∀ l : List VT, (l.flatMap VT.n).length ≤ bks l
  | [] => by simp
  | .mk t n s k :: l => by have := flat_n l; rw [List.flatMap_cons, List.length_append, bks_cons, VT.bk_eq]; simp only [VT.n]; omega
theorem flat_s : ∀ l : List VT, strs (l.flatMap VT.s) ≤ bks l
  | [] => by simp [strs]
  | .mk t n s k :: l => by have := flat_s l; rw [List.flatMap_cons, strs_append, bks_cons, VT.bk_eq]; simp only [VT.s]; omega
theorem flat_l : ∀ l : List VT, bks (l.flatMap VT.l) ≤ bks l
  | [] => by simp [bks]
  | .mk t n s k :: l => by have := flat_l l; rw [List.flatMap_cons, bks_append, bks_cons, VT.bk_eq]; simp only [VT.l]; omega
theorem flat_take {β : Type} (f : VT → List β) (l : List VT) {i : Nat} (h : i < l.length) : (l.take (i + 1)).flatMap f = (l.take i).flatMap f ++ f (l.getD i default) := by
  rw [List.take_add_one, List.getElem?_eq_getElem h, List.getD_eq_getElem?_getD, List.getElem?_eq_getElem h, List.flatMap_append]
  simp only [Option.toList, Option.getD_some, List.flatMap_cons, List.flatMap_nil, List.append_nil]
theorem take_at {α : Type} (l : List α) (d : α) {i : Nat} (h : i < l.length) : l.take (i + 1) = l.take i ++ [l.getD i d] := by
  rw [List.take_add_one, List.getElem?_eq_getElem h, List.getD_eq_getElem?_getD, List.getElem?_eq_getElem h]
  simp
/-- Small enough to be built anew. -/
def tame (a : VT) : Prop := a.bk ≤ 1073741824
def tames (l : List VT) : Prop := bks l ≤ 1073741824
theorem tame.mem {t n s l} (h : tame (.mk t n s l)) {x : VT} (hx : x ∈ l) : tame x := by
  unfold tame at *; rw [VT.bk_eq] at h; have := bk_mem hx; omega
theorem tames.mem {l} (h : tames l) {x : VT} (hx : x ∈ l) : tame x := by
  unfold tame; unfold tames at h; have := bk_mem hx; omega
theorem tame.n {t n s l} (h : tame (.mk t n s l)) : n.length ≤ 1073741824 := by unfold tame at h; rw [VT.bk_eq] at h; omega
theorem tame.s {t n s l} (h : tame (.mk t n s l)) : s.length ≤ 1073741824 := by unfold tame at h; rw [VT.bk_eq] at h; have := len_strs s; omega
theorem tame.l {t n s l} (h : tame (.mk t n s l)) : l.length ≤ 1073741824 := by unfold tame at h; rw [VT.bk_eq] at h; have := len_bks l; omega
theorem tame.ls {t n s l} (h : tame (.mk t n s l)) : tames l := by unfold tames; unfold tame at h; rw [VT.bk_eq] at h; omega
theorem tames.len {l} (h : tames l) : l.length ≤ 1073741824 := by unfold tames at h; have := len_bks l; omega
theorem tames.flat_n {l} (h : tames l) (i : Nat) : ((l.take i).flatMap VT.n).length ≤ 1073741824 := by
  unfold tames at h; have := Go.Qv.flat_n (l.take i); have := bks_take l i; omega
theorem tames.flat_s {l} (h : tames l) (i : Nat) : ((l.take i).flatMap VT.s).length ≤ 1073741824 := by
  unfold tames at h; have := Go.Qv.flat_s (l.take i); have := len_strs ((l.take i).flatMap VT.s); have := bks_take l i; omega
theorem tames.flat_l {l} (h : tames l) (i : Nat) : tames ((l.take i).flatMap VT.l) := by
  unfold tames at *; have := Go.Qv.flat_l (l.take i); have := bks_take l i; omega
/-- A tree's fields. -/
def vcl (x : VT) : AV := .agg [.int .i64 x.t, .sl (.i .i64 x.n), .sl (.s x.s), .sl (.v x.l)]
end Go.Qv
