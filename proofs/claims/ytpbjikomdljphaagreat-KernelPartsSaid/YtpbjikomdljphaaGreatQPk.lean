/- Places, and what stands at them: what is answered. No condition. -/
import Derived.Test.YtpbjikomdljphaaGreatQPhM
import Derived.Test.YtpbjikomdljphaaGreatQFe
set_option linter.unusedVariables false
set_option linter.unusedSimpArgs false
set_option maxRecDepth 100000
namespace Go.Qv
open Go Go.RowKit

mutual
def szW : VT → Int
  | .mk _ n s l => szWs l (IntKind.i64.wrap (IntKind.i64.wrap (1 + n.length) + s.length))
def szWs : List VT → Int → Int
  | [], n => n
  | x :: l, n => if n ≤ 20000 then szWs l (IntKind.i64.wrap (n + szW x)) else n
end
def checkV (x : VT) : Int := if rParts x 1048576 = 0 ∧ 32 < rDepth x then 6 else rParts x 1048576
def fines (l : List VT) : Prop := ∀ x ∈ l, x.Fine
def checkB (l : List VT) : Bool := l.all fun x => decide (checkV x = 0)
def rightB (l : List VT) : Bool := !(decide (20000 < szWs l 0)) && checkB l
def nullV (t : Int) : VT := if rAbs t = 1 then atomV t 0 else if rAbs t = 3 then .mk (-3) [] [⟨#[]⟩] [] else atomV t (-9223372036854775808)
def iotaI (n : Int) : List Int := (List.range n.toNat).map fun (i : Nat) => (i : Int)
def tilOk (n : Int) : Prop := 0 ≤ n ∧ n ≤ 65536
def cntOk (v : VT) : Prop := 0 ≤ v.t ∧ v.t ≤ 5 → rCount v ≤ 65536
def i64P (n : Int) : Prop := -9223372036854775808 ≤ n ∧ n < 9223372036854775808
def tilV (n : Int) : VT := .mk 2 (iotaI n) [] []
def revI (l : List Int) : List Int := l.reverse
def partP (v : VT) : Prop := 0 ≤ v.t ∧ v.t ≤ 5
instance (v : VT) : Decidable (partP v) := inferInstanceAs (Decidable (_ ∧ _))
def pkN (v : VT) (i : Int) : List Int := if at1E v i = 0 then (at1V v i).n else (nullV v.t).n
def pkS (v : VT) (i : Int) : List ByteArray := if at1E v i = 0 then (at1V v i).s else (nullV v.t).s
def pickV (v : VT) (a : List Int) : VT := if v.t = 0 then ofV (a.map (at1V v)) else .mk v.t (a.flatMap (pkN v)) (a.flatMap (pkS v)) []
def pickOk (v : VT) (a : List Int) : Prop := 0 ≤ v.t ∧ v.t ≤ 5 → a.length ≤ 536870912 ∧ (v.t = 0 → tames (a.map (at1V v)))
def revL (v : VT) : List Int := (iotaI (rCount v)).reverse
def modI (i c : Int) : Int := if c = 0 then -1 else i.fmod c
def lowI (n : Int) : Int := if 0 < n then 0 else n
def takeI (n c : Int) : List Int := (List.range n.natAbs).map fun (k : Nat) => modI (lowI n + k) c
def takeL (n : Int) (v : VT) : List Int := takeI n (rCount v)
def takeOk (n : Int) (v : VT) : Prop := ¬ (65536 < n ∨ n < -65536) → pickOk v (takeL n v)
def dropI (n c i : Int) : List Int := if 0 ≤ n then (iotaI i).drop n.toNat else (iotaI i).take (c + n).toNat
def dropL (n : Int) (v : VT) : List Int := dropI n (rCount v) (rCount v)
def opV (v : VT) (a : List Int) : VT := if partP v then pickV v a else .mk 0 [] [] []
def opE (v : VT) : Int := if partP v then 0 else 31
def takeV (n : Int) (v : VT) : VT := if partP v then (if 65536 < n ∨ n < -65536 then .mk 0 [] [] [] else pickV v (takeL n v)) else .mk 0 [] [] []
def takeE (n : Int) (v : VT) : Int := if partP v then (if 65536 < n ∨ n < -65536 then 6 else 0) else 31
def onVI (f : VT → List Int → T AV) : List AV → T AV
  | [x, y] => (match asV [] x, cInts [] .i64 y with | some a, some b => f a b | _, _ => .stuck "onVI")
  | _ => .stuck "onVI"
def onnV (f : Int → VT → T AV) : List AV → T AV
  | [.int .i64 n, x] => (match asV [] x with | some a => f n a | none => .stuck "onnV")
  | _ => .stuck "onnV"
noncomputable def whenE (p : Prop) (t : T Eff) : T Eff := .req ⟨p, Classical.propDecidable _⟩ t
section
variable {Q : AV → Prop}
theorem onVI_inv {f : VT → List Int → T AV} {xs : List AV} (h : (onVI f xs).sat Q) : ∃ x y a b, xs = [x, y] ∧ asV [] x = some a ∧ cInts [] .i64 y = some b ∧ (f a b).sat Q := by
  unfold onVI at h
  split at h
  · split at h
    · rename_i x y _ _ a b h1 h2; exact ⟨x, y, a, b, rfl, h1, h2, h⟩
    · exact h.elim
  · exact h.elim
theorem onnV_inv {f : Int → VT → T AV} {xs : List AV} (h : (onnV f xs).sat Q) : ∃ n x a, xs = [.int .i64 n, x] ∧ asV [] x = some a ∧ (f n a).sat Q := by
  unfold onnV at h
  split at h
  · split at h
    · rename_i n x _ a h1; exact ⟨n, x, a, rfl, h1, h⟩
    · exact h.elim
  · exact h.elim
end
/-! ### numbers in a row -/
theorem iotaI_len (n : Int) : (iotaI n).length = n.toNat := by simp [iotaI]
theorem iotaI_succ (i : Nat) : iotaI ((i + 1 : Nat) : Int) = iotaI (i : Int) ++ [(i : Int)] := by
  unfold iotaI
  rw [show (((i + 1 : Nat) : Int)).toNat = i + 1 by omega, show ((i : Int)).toNat = i by omega, List.range_succ, List.map_append]; rfl
theorem iotaI_drop (c k : Nat) (h : k < c) : (iotaI (c : Int)).drop k = (k : Int) :: (iotaI (c : Int)).drop (k + 1) := by
  have hl : k < (iotaI (c : Int)).length := by rw [iotaI_len]; omega
  rw [List.drop_eq_getElem_cons hl]
  congr 1
  simp [iotaI]
theorem iotaI_get (c : Int) (k : Nat) (h : k < (iotaI c).length) : (iotaI c)[k] = (k : Int) := by simp [iotaI]
theorem takeI_len (n c : Int) : (takeI n c).length = n.natAbs := by simp [takeI]
theorem takeI_take (n c : Int) (m : Nat) (h : m < n.natAbs) : (takeI n c).take (m + 1) = (takeI n c).take m ++ [modI (lowI n + m) c] := by
  have hl : m < (takeI n c).length := by rw [takeI_len]; exact h
  rw [List.take_add_one, List.getElem?_eq_getElem hl]
  congr 1
  simp [takeI]
theorem dropI_succ (n c : Int) (i : Nat) (hi : (i : Int) < c) : dropI n c ((i + 1 : Nat) : Int) = dropI n c (i : Int) ++ (if (0 ≤ n ∧ n ≤ i) ∨ (n < 0 ∧ (i : Int) < c + n) then [(i : Int)] else []) := by
  unfold dropI
  have hl : (iotaI (i : Int)).length = i := by rw [iotaI_len]; omega
  rw [iotaI_succ]
  by_cases h0 : 0 ≤ n
  · rw [if_pos h0, if_pos h0]
    by_cases h1 : n ≤ i
    · rw [if_pos (.inl ⟨h0, h1⟩), List.drop_append_of_le_length (by rw [hl]; omega)]
    · rw [if_neg (by omega), List.append_nil, List.drop_of_length_le (by rw [List.length_append, hl]; simp; omega), List.drop_of_length_le (by rw [hl]; omega)]
  · rw [if_neg h0, if_neg h0]
    by_cases h1 : (i : Int) < c + n
    · rw [if_pos (.inr ⟨by omega, h1⟩), List.take_of_length_le (by rw [List.length_append, hl]; simp; omega), List.take_of_length_le (by rw [hl]; omega)]
    · rw [if_neg (by omega), List.append_nil, List.take_append_of_le_length (by rw [hl]; omega)]
theorem dropI_zero (n c : Int) : dropI n c ((0 : Nat) : Int) = [] := by unfold dropI iotaI; simp
theorem dropI_len (n c : Int) (i : Nat) : (dropI n c (i : Int)).length ≤ i := by
  unfold dropI
  split
  · rw [List.length_drop, iotaI_len]; omega
  · rw [List.length_take, iotaI_len]; omega
/-! ### elements -/
theorem rCount_nn : ∀ v : VT, 0 ≤ rCount v
  | .mk t n s l => by
    cases l with
    | nil => simp only [rCount]; (repeat' split) <;> omega
    | cons x l => simp only [rCount]; have := rCount_nn x; (repeat' split) <;> omega
theorem cnt_bk : ∀ v : VT, 1 ≤ v.bk ∧ (partP v → rCount v ≤ v.bk)
  | .mk t n s l => by
    refine ⟨bk_pos _, fun h => ?_⟩
    obtain ⟨h0, h5⟩ := h
    have h0 : 0 ≤ t := h0
    have h5 : t ≤ 5 := h5
    rw [VT.bk_eq]
    have := len_strs s
    have := len_bks l
    by_cases h3 : t = 3
    · subst h3; rw [cnt_s]; omega
    · by_cases hz : t = 0
      · subst hz; rw [cnt_l]; omega
      · rw [cnt_n h3 ⟨by omega, h5⟩]; omega
theorem null_n (t : Int) : (nullV t).n.length ≤ 1 := by
  unfold nullV atomV
  (repeat' split) <;> simp [VT.n]
theorem null_s (t : Int) : (nullV t).s.length ≤ 1 := by
  unfold nullV atomV
  (repeat' split) <;> simp [VT.s]
/-- What is known of a vector's element. -/
theorem vec_in {t n s l} (h1 : 1 ≤ t ∧ t ≤ 5) {i : Int} (hi : 0 ≤ i ∧ i < rCount (.mk t n s l)) : at1E (.mk t n s l) i = 0 ∧
    (t = 3 → (at1V (.mk t n s l) i).n = [] ∧ (at1V (.mk t n s l) i).s = [s.getD i.toNat ⟨#[]⟩]) ∧ (t ≠ 3 → (at1V (.mk t n s l) i).n = [n.getD i.toNat 0] ∧ (at1V (.mk t n s l) i).s = []) := by
  have hh : ¬ (i < 0 ∨ rCount (.mk t n s l) ≤ i) := by omega
  rw [at1E_yes hh, at1_yes hh]
  refine ⟨rfl, fun h3 => ?_, fun h3 => ?_⟩
  · subst h3; rw [at0_s]; exact ⟨rfl, rfl⟩
  · rw [at0_n h3 h1]
    have ha : rAbs t = t := by unfold rAbs; rw [if_neg (by omega)]
    unfold atomV
    rw [ha, if_neg (by omega)]
    exact ⟨rfl, rfl⟩
theorem pkN_len (v : VT) (hv : 1 ≤ v.t ∧ v.t ≤ 5) (i : Int) : (pkN v i).length ≤ 1 := by
  unfold pkN
  split
  · rename_i h
    obtain ⟨t, n, s, l⟩ := v
    have hv : 1 ≤ t ∧ t ≤ 5 := hv
    by_cases hi : 0 ≤ i ∧ i < rCount (.mk t n s l)
    · obtain ⟨_, a, b⟩ := vec_in (n := n) (s := s) (l := l) hv hi
      by_cases h3 : t = 3
      · rw [(a h3).1]; simp
      · rw [(b h3).1]; simp
    · rw [at1_no (by omega)]; simp [VT.n]
  · exact null_n _
theorem pkS_len (v : VT) (hv : 1 ≤ v.t ∧ v.t ≤ 5) (i : Int) : (pkS v i).length ≤ 1 := by
  unfold pkS
  split
  · rename_i h
    obtain ⟨t, n, s, l⟩ := v
    have hv : 1 ≤ t ∧ t ≤ 5 := hv
    by_cases hi : 0 ≤ i ∧ i < rCount (.mk t n s l)
    · obtain ⟨_, a, b⟩ := vec_in (n := n) (s := s) (l := l) hv hi
      by_cases h3 : t = 3
      · rw [(a h3).2]; simp
      · rw [(b h3).2]; simp
    · rw [at1_no (by omega)]; simp [VT.s]
  · exact null_s _
theorem flat1 {β : Type} (f : Int → List β) (h : ∀ i, (f i).length ≤ 1) : ∀ a : List Int, (a.flatMap f).length ≤ a.length
  | [] => by simp
  | x :: a => by have := h x; have := flat1 f h a; rw [List.flatMap_cons, List.length_append, List.length_cons]; omega
theorem flatI_take {β : Type} (f : Int → List β) (a : List Int) {i : Nat} (h : i < a.length) : (a.take (i + 1)).flatMap f = (a.take i).flatMap f ++ f (a.getD i 0) := by
  rw [take_at a 0 h, List.flatMap_append]
  simp only [List.flatMap_cons, List.flatMap_nil, List.append_nil]
def clampI (c x : Int) : Int := if x < 0 ∨ c ≤ x then -1 else x
theorem at1_clamp (v : VT) (x : Int) : at1V v (clampI (rCount v) x) = at1V v x ∧ at1E v (clampI (rCount v) x) = at1E v x := by
  unfold clampI
  by_cases h : x < 0 ∨ rCount v ≤ x
  · rw [if_pos h, at1_no h, at1E_no h, at1_no (by omega), at1E_no (by omega)]; exact ⟨rfl, rfl⟩
  · rw [if_neg h]; exact ⟨rfl, rfl⟩
theorem pick_clamp (v : VT) (a : List Int) : pickV v (a.map (clampI (rCount v))) = pickV v a := by
  have e1 : (a.map (clampI (rCount v))).map (at1V v) = a.map (at1V v) := by
    rw [List.map_map]; apply List.map_congr_left; intro x _; exact (at1_clamp v x).1
  have e2 : (a.map (clampI (rCount v))).flatMap (pkN v) = a.flatMap (pkN v) := by
    rw [List.flatMap_map]; congr 1; funext x; unfold pkN; rw [(at1_clamp v x).1, (at1_clamp v x).2]
  have e3 : (a.map (clampI (rCount v))).flatMap (pkS v) = a.flatMap (pkS v) := by
    rw [List.flatMap_map]; congr 1; funext x; unfold pkS; rw [(at1_clamp v x).1, (at1_clamp v x).2]
  unfold pickV
  rw [e1, e2, e3]
theorem pickOk_clamp {v : VT} {a : List Int} (h : pickOk v a) : pickOk v (a.map (clampI (rCount v))) := by
  have e1 : (a.map (clampI (rCount v))).map (at1V v) = a.map (at1V v) := by
    rw [List.map_map]; apply List.map_congr_left; intro x _; exact (at1_clamp v x).1
  intro hh
  refine ⟨by rw [List.length_map]; exact (h hh).1, ?_⟩
  rw [e1]; exact (h hh).2
theorem partial_tames {v : VT} {a : List Int} (h : tames (a.map (at1V v))) (i : Nat) : tames ((a.take i).map (at1V v)) := by
  unfold tames at *
  rw [List.map_take]
  have := bks_take (a.map (at1V v)) i
  omega
theorem fmod_rem {i c : Int} (hc : 0 < c) : (if ¬i.tmod c = 0 ∧ (decide (i.tmod c < 0) == decide (c < 0)) = false then IntKind.i64.wrap (i.tmod c + c) else i.tmod c) = if ¬i.tmod c = 0 ∧ (decide (i.tmod c < 0) == decide (c < 0)) = false then IntKind.i64.wrap (i.tmod c + c) else i.tmod c := rfl
theorem modI_neg {i c : Int} (hi : i < 0) (hc : 0 < c) : (c - (-i).tmod c).tmod c = i.fmod c := by
  have h1 := Int.emod_nonneg (-i) (show c ≠ 0 by omega)
  have h2 := Int.emod_lt_of_pos (-i) hc
  rw [Int.tmod_eq_emod_of_nonneg (show 0 ≤ -i by omega), Int.fmod_eq_emod_of_nonneg _ (by omega), Int.tmod_eq_emod_of_nonneg (by omega)]
  have h3 : c - (-i) % c = i + c * (1 + (-i) / c) := by
    have := Int.emod_add_mul_ediv (-i) c
    rw [Int.mul_add, Int.mul_one]; omega
  rw [h3, Int.add_mul_emod_self_left]
end Go.Qv
