/- Places, and what stands at them: what is answered. No condition. -/
import Derived.Test.YtmeagbopnliddaaGreatQPhM
import Derived.Test.YtmeagbopnliddaaGreatQFe
set_option linter.unusedVariables false
set_option linter.unusedSimpArgs false
set_option maxRecDepth 100000
namespace Go.Qv
open Go Go.RowKit

mutual
def szW : VT → Int
  | .mk _ n s l => szWs l (IntKind.i64.wrap (IntKind.i64.wrap (1 + n.length) + s.length))
def szWs : List VT → Int → Int
  | [], n => n
  | x :: l, n => if n ≤ 20000 then szWs l (IntKind.i64.wrap (n + szW x)) else n
end
def checkV (x : VT) : Int := if rParts x 1048576 = 0 ∧ 32 < rDepth x then 6 else rParts x 1048576
def fines (l : List VT) : Prop := ∀ x ∈ l, x.Fine
def nullV (t : Int) : VT := if rAbs t = 1 then atomV t 0 else if rAbs t = 3 then .mk (-3) [] [⟨#[]⟩] [] else atomV t (-9223372036854775808)
def tilOk (n : Int) : Prop := 0 ≤ n ∧ n ≤ 65536
def cntOk (v : VT) : Prop := 0 ≤ v.t ∧ v.t ≤ 5 → rCount v ≤ 65536
def partP (v : VT) : Prop := 0 ≤ v.t ∧ v.t ≤ 5
instance (v : VT) : Decidable (partP v) := inferInstanceAs (Decidable (_ ∧ _))
def pkN (v : VT) (i : Int) : List Int := if at1E v i = 0 then (at1V v i).n else (nullV v.t).n
def pkS (v : VT) (i : Int) : List ByteArray := if at1E v i = 0 then (at1V v i).s else (nullV v.t).s
def pickV (v : VT) (a : List Int) : VT := if v.t = 0 then ofV (a.map (at1V v)) else .mk v.t (a.flatMap (pkN v)) (a.flatMap (pkS v)) []
def pickOk (v : VT) (a : List Int) : Prop := 0 ≤ v.t ∧ v.t ≤ 5 → a.length ≤ 536870912 ∧ (v.t = 0 → tames (a.map (at1V v)))
def opV (v : VT) (a : List Int) : VT := if partP v then pickV v a else .mk 0 [] [] []
def opE (v : VT) : Int := if partP v then 0 else 31
def onVI (f : VT → List Int → T AV) : List AV → T AV
  | [x, y] => (match asV [] x, cInts [] .i64 y with | some a, some b => f a b | _, _ => .stuck "onVI")
  | _ => .stuck "onVI"
noncomputable def whenE (p : Prop) (t : T Eff) : T Eff := .req ⟨p, Classical.propDecidable _⟩ t
noncomputable def sp56 := onInt fun t => .leaf (vcl (nullV t))
noncomputable def sp93 := onVI fun v a => when_ (tame v) (when_ (partP v) (when_ (pickOk v a) (.leaf (vcl (pickV v a)))))
noncomputable def sp53 := onVI fun v a => when_ (tame v) (when_ (cntOk v) (when_ (pickOk v a) (.leaf (.tup [vcl (opV v a), .int .i64 (opE v)]))))
section
variable {Q : AV → Prop}
theorem onVI_inv {f : VT → List Int → T AV} {xs : List AV} (h : (onVI f xs).sat Q) : ∃ x y a b, xs = [x, y] ∧ asV [] x = some a ∧ cInts [] .i64 y = some b ∧ (f a b).sat Q := by
  unfold onVI at h
  split at h
  · split at h
    · rename_i x y _ _ a b h1 h2; exact ⟨x, y, a, b, rfl, h1, h2, h⟩
    · exact h.elim
  · exact h.elim
end
/-! ### numbers in a row -/
/-! ### elements -/
theorem rCount_nn : ∀ v : VT, 0 ≤ rCount v
  | .mk t n s l => by
    cases l with
    | nil => simp only [rCount]; (repeat' split) <;> omega
    | cons x l => simp only [rCount]; have := rCount_nn x; (repeat' split) <;> omega
theorem cnt_bk : ∀ v : VT, 1 ≤ v.bk ∧ (partP v → rCount v ≤ v.bk)
  | .mk t n s l => by
    refine ⟨bk_pos _, fun h => ?_⟩
    obtain ⟨h0, h5⟩ := h
    have h0 : 0 ≤ t := h0
    have h5 : t ≤ 5 := h5
    rw [VT.bk_eq]
    have := len_strs s
    have := len_bks l
    by_cases h3 : t = 3
    · subst h3; rw [cnt_s]; omega
    · by_cases hz : t = 0
      · subst hz; rw [cnt_l]; omega
      · rw [cnt_n h3 ⟨by omega, h5⟩]; omega
theorem null_n (t : Int) : (nullV t).n.length ≤ 1 := by
  unfold nullV atomV
  (repeat' split) <;> simp [VT.n]
theorem null_s (t : Int) : (nullV t).s.length ≤ 1 := by
  unfold nullV atomV
  (repeat' split) <;> simp [VT.s]
/-- What is known of a vector's element. -/
theorem vec_in {t n s l} (h1 : 1 ≤ t ∧ t ≤ 5) {i : Int} (hi : 0 ≤ i ∧ i < rCount (.mk t n s l)) : at1E (.mk t n s l) i = 0 ∧
    (t = 3 → (at1V (.mk t n s l) i).n = [] ∧ (at1V (.mk t n s l) i).s = [s.getD i.toNat ⟨#[]⟩]) ∧ (t ≠ 3 → (at1V (.mk t n s l) i).n = [n.getD i.toNat 0] ∧ (at1V (.mk t n s l) i).s = []) := by
  have hh : ¬ (i < 0 ∨ rCount (.mk t n s l) ≤ i) := by omega
  rw [at1E_yes hh, at1_yes hh]
  refine ⟨rfl, fun h3 => ?_, fun h3 => ?_⟩
  · subst h3; rw [at0_s]; exact ⟨rfl, rfl⟩
  · rw [at0_n h3 h1]
    have ha : rAbs t = t := by unfold rAbs; rw [if_neg (by omega)]
    unfold atomV
    rw [ha, if_neg (by omega)]
    exact ⟨rfl, rfl⟩
theorem pkN_len (v : VT) (hv : 1 ≤ v.t ∧ v.t ≤ 5) (i : Int) : (pkN v i).length ≤ 1 := by
  unfold pkN
  split
  · rename_i h
    obtain ⟨t, n, s, l⟩ := v
    have hv : 1 ≤ t ∧ t ≤ 5 := hv
    by_cases hi : 0 ≤ i ∧ i < rCount (.mk t n s l)
    · obtain ⟨_, a, b⟩ := vec_in (n := n) (s := s) (l := l) hv hi
      by_cases h3 : t = 3
      · rw [(a h3).1]; simp
      · rw [(b h3).1]; simp
    · rw [at1_no (by omega)]; simp [VT.n]
  · exact null_n _
theorem pkS_len (v : VT) (hv : 1 ≤ v.t ∧ v.t ≤ 5) (i : Int) : (pkS v i).length ≤ 1 := by
  unfold pkS
  split
  · rename_i h
    obtain ⟨t, n, s, l⟩ := v
    have hv : 1 ≤ t ∧ t ≤ 5 := hv
    by_cases hi : 0 ≤ i ∧ i < rCount (.mk t n s l)
    · obtain ⟨_, a, b⟩ := vec_in (n := n) (s := s) (l := l) hv hi
      by_cases h3 : t = 3
      · rw [(a h3).2]; simp
      · rw [(b h3).2]; simp
    · rw [at1_no (by omega)]; simp [VT.s]
  · exact null_s _
theorem flat1 {β : Type} (f : Int → List β) (h : ∀ i, (f i).length ≤ 1) : ∀ a : List Int, (a.flatMap f).length ≤ a.length
  | [] => by simp
  | x :: a => by have := h x; have := flat1 f h a; rw [List.flatMap_cons, List.length_append, List.length_cons]; omega
theorem flatI_take {β : Type} (f : Int → List β) (a : List Int) {i : Nat} (h : i < a.length) : (a.take (i + 1)).flatMap f = (a.take i).flatMap f ++ f (a.getD i 0) := by
  rw [take_at a 0 h, List.flatMap_append]
  simp only [List.flatMap_cons, List.flatMap_nil, List.append_nil]
end Go.Qv
