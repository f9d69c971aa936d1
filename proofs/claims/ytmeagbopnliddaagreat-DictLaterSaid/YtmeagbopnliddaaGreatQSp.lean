/- What readers of values tell: trees, comparisons; lists within bounds. No condition. -/
import Derived.Test.YtmeagbopnliddaaGreatQTmM
import Derived.Test.YtmeagbopnliddaaGreatQTabM
import Derived.Test.YtmeagbopnliddaaGreatQOV
set_option linter.unusedVariables false
set_option linter.unusedSimpArgs false
namespace Go.Qv
open Go.RowKit

/-! ### trees -/
mutual
def VT.sz : VT → Nat | .mk _ _ _ l => szs l + 1
def szs : List VT → Nat | [] => 0 | x :: l => x.sz + szs l
end
theorem sz_mem {x : VT} : ∀ {l : List VT}, x ∈ l → x.sz ≤ szs l
  | y :: l, h => by
    rcases List.mem_cons.1 h with rfl | h
    · simp [szs]
    · have := sz_mem h; simp [szs]; omega
theorem sz_lt {t : Int} {n : List Int} {s : List ByteArray} {l : List VT} {x : VT} (h : x ∈ l) : x.sz < (VT.mk t n s l).sz := by
  have := sz_mem h; simp [VT.sz]; omega
/-- All lists are as long as lists can be. -/
inductive VT.Len : VT → Prop
  | mk (t n s l) : n.length ≤ maxLen → s.length ≤ maxLen → l.length ≤ maxLen → (∀ x ∈ l, VT.Len x) → VT.Len (.mk t n s l)
theorem VT.Len.n {t n s l} (h : VT.Len (.mk t n s l)) : n.length ≤ maxLen := by cases h; assumption
theorem VT.Len.s {t n s l} (h : VT.Len (.mk t n s l)) : s.length ≤ maxLen := by cases h; assumption
theorem VT.Len.l {t n s l} (h : VT.Len (.mk t n s l)) : l.length ≤ maxLen := by cases h; assumption
theorem VT.Len.mem {t n s l} (h : VT.Len (.mk t n s l)) : ∀ x ∈ l, VT.Len x := by cases h; assumption
theorem VT.Fine.str {t n s l} (h : VT.Fine (.mk t n s l)) : ∀ x ∈ s, x.size ≤ maxLen := by cases h; assumption
theorem VT.Fine.mem {t n s l} (h : VT.Fine (.mk t n s l)) : ∀ x ∈ l, VT.Fine x := by cases h; assumption
theorem VT.Fine.len : ∀ {v : VT}, v.Fine → v.Len
  | .mk t n s l, h => by
    cases h with
    | mk _ _ _ _ h1 h2 h3 h4 h5 h6 h7 => exact .mk _ _ _ _ h5 h6 h7 (fun x hx => VT.Fine.len (h4 x hx))
section
variable {β : Nat → Option Value} {F : Nat → Prop} {w : World}
theorem VR.len {v : Value} {c : LS} (h : VR β F w v (.sl c)) : c.len ≤ maxLen := by
  cases h with
  | sl0 _ _ _ h => rw [h]; exact Nat.zero_le _
  | sl _ b o n cap cv h1 h2 h3 h4 => omega
theorem cells_len : ∀ (n : Nat) (x : VT), x.sz ≤ n → (∀ (j : Nat) (y : AV), x.cells[j]? = some y → ∃ c, VR β F w c y) → x.Len
  | 0, .mk t ns s l, hn, h => by simp [VT.sz] at hn
  | n + 1, .mk t ns s l, hn, h => by
    obtain ⟨c1, h1⟩ := h 1 _ rfl
    obtain ⟨c2, h2⟩ := h 2 _ rfl
    obtain ⟨c3, h3⟩ := h 3 _ rfl
    refine .mk _ _ _ _ h1.len h2.len h3.len (fun x hx => ?_)
    have hs := sz_lt (t := t) (n := ns) (s := s) hx
    refine cells_len n x (by omega) (fun j y hy => ?_)
    have h3 : VR β F w c3 (.sl (.v l)) := h3
    cases h3 with
    | sl0 _ _ _ h0 => simp [LS.len] at h0; subst h0; simp at hx
    | sl _ b o m cap cv _ _ _ _ _ _ _ hv =>
      obtain ⟨i, hi, rfl⟩ := List.getElem_of_mem hx
      exact ⟨_, hv i _ j y (by simp [LS.elems, List.getElem?_map, List.getElem?_eq_getElem hi]) hy⟩
theorem VR.vlen {v : Value} {a : VT} (h : VR β F w v (.agg a.cells)) : a.Len := by
  cases h with
  | agg cs _ h1 h2 h3 =>
    refine cells_len (β := β) (F := F) (w := w) _ a (Nat.le_refl _) (fun j y hy => ?_)
    have hj := (List.getElem?_eq_some_iff.1 hy).1
    exact ⟨_, h3 j _ y (Array.getElem?_eq_getElem (by omega)) hy⟩
end
/-- An argument. -/
theorem Args.at {F : Nat → Prop} {w : World} {cs : Array Value} {xs : List AV} (h : Args F w cs xs) (j : Nat) {x : AV} (hx : xs[j]? = some x) : ∃ v, VR noβ F w v x := by
  obtain ⟨_, h2, h3⟩ := h
  have hj := (List.getElem?_eq_some_iff.1 hx).1
  exact ⟨_, h3 j _ x (Array.getElem?_eq_getElem (by omega)) hx⟩

/-! ### lists, element by element -/
theorem drop_at {α : Type} (l : List α) (d : α) {i : Nat} (h : i < l.length) : l.drop i = l.getD i d :: l.drop (i + 1) := by
  rw [List.drop_eq_getElem_cons h, List.getD_eq_getElem?_getD, List.getElem?_eq_getElem h, Option.getD_some]
theorem getD_mem {α : Type} (l : List α) (d : α) {i : Nat} (h : i < l.length) : l.getD i d ∈ l := by
  rw [List.getD_eq_getElem?_getD, List.getElem?_eq_getElem h, Option.getD_some]
  exact List.getElem_mem h
theorem inc {i n : Nat} (h : n ≤ maxLen) (hi : i < n) : IntKind.i64.wrap ((i : Int) + 1) = ((i + 1 : Nat) : Int) := by
  unfold maxLen at h; rw [w64] <;> omega
theorem byte_at (s : ByteArray) {i : Nat} (h : i < s.size) : byteI s i = ((s.data.toList.getD i 0).toNat : Int) := by
  unfold byteI
  have h1 : s[i]? = some s[i] := getElem?_pos s i h
  have h2 : i < s.data.toList.length := by simpa using h
  rw [h1, List.getD_eq_getElem?_getD, List.getElem?_eq_getElem h2]
  rfl
theorem size_list (s : ByteArray) : s.data.toList.length = s.size := by simp
/-- What is answered. -/
def Ret (y : AV) (E : Eff) : Prop := resE E = some y
theorem Ret.int {k : IntKind} {a b : Int} (h : a = b) : Ret (.int k a) ⟨.int k b, [], [], []⟩ := by subst h; rfl
theorem Ret.bool {a b : Bool} (h : a = b) : Ret (.bool a) ⟨.bool b, [], [], []⟩ := by subst h; rfl
theorem Ret.str {a b : ByteArray} (h : a = b) : Ret (.str a) ⟨.str b, [], [], []⟩ := by subst h; rfl
def cmpL {α : Type} (f : α → α → Int) : List α → List α → Int
  | [], [] => 0
  | [], _ :: _ => -1
  | _ :: _, [] => 1
  | x :: a, y :: b => if f x y ≠ 0 then f x y else cmpL f a b
def cmpI (a b : Int) : Int := if a < b then -1 else if b < a then 1 else 0
def sless (a b : ByteArray) : Bool := Op.bytesLess a.data.toList b.data.toList
def cmpS (a b : ByteArray) : Int := if sless a b then -1 else if sless a b || decide (a = b) then 0 else 1
end Go.Qv
