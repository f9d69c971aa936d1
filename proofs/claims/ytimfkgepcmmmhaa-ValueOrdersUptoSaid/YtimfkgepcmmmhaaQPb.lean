/- What the readers of values tell, as functions of trees; their contracts; those that call no other. No condition. -/
import Derived.Test.YtimfkgepcmmmhaaQPa
set_option linter.unusedVariables false
set_option linter.unusedSimpArgs false
set_option maxRecDepth 100000
namespace Go.Qv
open Go Go.RowKit

def eqIs (a b : List Int) : Bool := decide (a = b)
def eqSs (a b : List ByteArray) : Bool := decide (a = b)
def cmpIs (a b : List Int) : Int := cmpL cmpI a b
def cmpSs (a b : List ByteArray) : Int := cmpL cmpS a b
noncomputable def veq (a b : VT) : Bool := @decide (a = b) (Classical.propDecidable _)
noncomputable def veqs (a b : List VT) : Bool := @decide (a = b) (Classical.propDecidable _)
def smaller (a : VT) (n : Nat) : Prop := a.sz < n
def smallers (l : List VT) (n : Nat) : Prop := ∀ x ∈ l, x.sz < n
def short (s : ByteArray) : Prop := s.size ≤ maxLen
def shorts (v : VT) : Prop := ∀ s ∈ v.s, s.size ≤ maxLen
def rAbs (t : Int) : Int := if t < 0 ∧ -5 ≤ t then -t else t
def rFields (t : Int) : Bool × Bool × Bool × Bool :=
  if rAbs t = 3 then (false, true, false, true)
  else if (t ≠ 0 ∧ 1 ≤ rAbs t) ∧ rAbs t ≤ 5 then (true, false, false, true)
  else if t = 0 ∨ t = 99 then (false, false, true, true)
  else if t = 98 then (false, true, true, true)
  else if t = 100 then (false, true, false, true)
  else (false, false, false, decide (t = 101))
def rfN (t : Int) : Bool := (rFields t).1
def rfS (t : Int) : Bool := (rFields t).2.1
def rfL (t : Int) : Bool := (rFields t).2.2.1
def rfI (t : Int) : Bool := (rFields t).2.2.2
def rRank (v : VT) : Int :=
  if rAbs v.t = 101 then 0 else if rAbs v.t = 1 then 1 else if rAbs v.t = 2 then 2 else if rAbs v.t = 4 then 3 else if rAbs v.t = 5 then 4
  else if rAbs v.t = 3 then 5 else if rAbs v.t = 0 then 6 else if rAbs v.t = 99 then 7 else if rAbs v.t = 98 then 8 else 9
def vRank (v : VT) : Int := idxI (rAbs v.t) [101, 1, 2, 4, 5, 3, 0, 99, 98, 100] 0
def isAtomT (t : Int) : Prop := t < 0 ∧ -5 ≤ t
instance (t : Int) : Decidable (isAtomT t) := inferInstanceAs (Decidable (_ ∧ _))
def isVecT (t : Int) : Prop := 1 ≤ t ∧ t ≤ 5
instance (t : Int) : Decidable (isVecT t) := inferInstanceAs (Decidable (_ ∧ _))
def isColT (t : Int) : Prop := isVecT t ∨ t = 0
instance (t : Int) : Decidable (isColT t) := inferInstanceAs (Decidable (_ ∨ _))
/-- What R.list tells, some elements gone through. -/
def rListGo (t0 : Int) : Bool → List VT → Bool
  | alike, [] => !alike
  | alike, x :: l => if x.t = 101 then false else rListGo t0 (alike && decide (isAtomT x.t ∧ x.t = t0)) l
def rList (v : VT) : Bool := rListGo ((v.l.getD 0 default).t) (decide (0 < v.l.length)) v.l
def isEmptyS (s : ByteArray) : Prop := s = ⟨#[]⟩
/-- What R.table tells, some names gone through (they stand in front). -/
def rTableGo (before : List ByteArray) : List ByteArray → List VT → Bool
  | [], _ => true
  | s :: r, l => if s = ⟨#[]⟩ ∨ noZero s = false ∨ ¬ isColT (l.headD default).t then false else if before.any (fun y => decide (y = s)) then false else rTableGo (before ++ [s]) r l.tail
def rTable (v : VT) : Bool := if v.s.length = 0 ∨ v.s.length ≠ v.l.length then false else rTableGo [] v.s v.l
def rSyms (s : List ByteArray) : Bool := s.all noZero
def byteOf (s : ByteArray) (i : Nat) : Int := byteI s i
def rPlain : VT → Bool
  | .mk t n s l =>
  if isAtomT t ∧ IntKind.i64.wrap (n.length + s.length) ≠ 1 then false
  else if rAbs t = 1 then n.all fun x => decide (x = 0 ∨ x = 1)
  else if t = 100 then decide (s.length = 1 ∧ 2 ≤ (s.getD 0 ⟨#[]⟩).size ∧ byteI (s.getD 0 ⟨#[]⟩) 0 = 123 ∧ byteI (s.getD 0 ⟨#[]⟩) ((s.getD 0 ⟨#[]⟩).size - 1) = 125)
  else if t = 0 then rList (.mk t n s l)
  else if t = 98 then rTable (.mk t n s l)
  else if t = 99 then decide (l.length = 2 ∧ ((isColT (l.getD 0 default).t ∧ isColT (l.getD 1 default).t) ∨ ((l.getD 0 default).t = 98 ∧ (l.getD 1 default).t = 98)))
  else if rAbs t = 3 then rSyms s
  else true
def rCount : VT → Int
  | .mk t n s l => if t = 3 then s.length else if isVecT t then n.length else if t = 0 then l.length else match l with
    | [] => 1
    | x :: _ => if t = 98 ∨ t = 99 then rCount x else 1
def rMany : VT → Bool
  | .mk t n s l => if t = 3 then decide ((65536 : Int) < s.length) else if 1 ≤ t ∧ t ≤ 5 then decide ((65536 : Int) < n.length) else if t = 98 then decide ((64 : Int) < s.length) || decide ((64 : Int) < l.length) else decide (t = 0) && decide ((65536 : Int) < l.length)
mutual
def rDepth : VT → Int
  | .mk _ _ _ l => IntKind.i64.wrap (rDepthL l 0 + 1)
def rDepthL : List VT → Int → Int
  | [], d => d
  | x :: l, d => rDepthL l (if rDepth x > d then rDepth x else d)
end
mutual
def rParts : VT → Int → Int
  | .mk t n s l, k =>
    if rfI t = false ∨ (rfN t = false ∧ 0 < n.length) ∨ (rfS t = false ∧ 0 < s.length) ∨ (rfL t = false ∧ 0 < l.length) then 30
    else if rMany (.mk t n s l) then 6 else if rLong (.mk t n s l) then 1 else if rPlain (.mk t n s l) = false then 30
    else if t ≠ 0 ∧ (l.drop 1).any (fun x => decide (rCount x ≠ rCount (l.getD 0 default))) = true then 32
    else if k = 0 then 0 else rPartsL l (IntKind.i64.wrap (k - 1))
def rPartsL : List VT → Int → Int
  | [], _ => 0
  | x :: l, k => if rParts x k ≠ 0 then rParts x k else rPartsL l k
end
def szStr : List ByteArray → Int → Int
  | [], n => n
  | s :: l, n => if n ≤ 70000 then szStr l (IntKind.i64.wrap (n + s.size)) else n
mutual
def szV : VT → Int
  | .mk _ n s l => szVs l (szStr s (IntKind.i64.wrap (IntKind.i64.wrap (1 + n.length) + s.length)))
def szVs : List VT → Int → Int
  | [], n => n
  | x :: l, n => if n ≤ 70000 then szVs l (IntKind.i64.wrap (n + szV x)) else n
end
def hugeB (l : List VT) : Bool := decide (70000 < szVs l 0)
mutual
def vcmp : VT → VT → Int
  | .mk t n s l, b => firstNZ [cmpI (vRank (.mk t n s l)) (vRank b), cmpI (if isAtomT t then 0 else 1) (if isAtomT b.t then 0 else 1), cmpIs n b.n, cmpSs s b.s, vcmps l b.l]
def vcmps : List VT → List VT → Int
  | [], [] => 0
  | [], _ :: _ => -1
  | _ :: _, [] => 1
  | x :: a, y :: b => if vcmp x y ≠ 0 then vcmp x y else vcmps a b
end
/-- The first difference, as far as both go. -/
def preL {α : Type} (f : α → α → Int) : List α → List α → Int
  | x :: a, y :: b => if f x y ≠ 0 then f x y else preL f a b
  | _, _ => 0
def dI (a b : Int) : Int := if a = b then 0 else if a < b then -1 else 1
def dS (a b : ByteArray) : Int := if a = b then 0 else if sless a b then -1 else 1
mutual
def rcmp : VT → VT → Int
  | .mk t n s l, b =>
    if rRank (.mk t n s l) ≠ rRank b then (if rRank (.mk t n s l) < rRank b then -1 else 1)
    else if ¬ (isAtomT t ↔ isAtomT b.t) then (if isAtomT t then -1 else 1)
    else if preL dI n b.n ≠ 0 then preL dI n b.n
    else if preL dS s b.s ≠ 0 then preL dS s b.s
    else if n.length ≠ b.n.length then (if n.length < b.n.length then -1 else 1)
    else if s.length ≠ b.s.length then (if s.length < b.s.length then -1 else 1)
    else if rcmps l b.l ≠ 0 then rcmps l b.l
    else if l.length < b.l.length then -1 else if b.l.length < l.length then 1 else 0
def rcmps : List VT → List VT → Int
  | [], _ => 0
  | _ :: _, [] => 0
  | x :: a, y :: b => if rcmp x y ≠ 0 then rcmp x y else rcmps a b
end

/-! ### contracts -/
def onII (f : List Int → List Int → T AV) : List AV → T AV
  | [x, y] => (match cInts [] .i64 x, cInts [] .i64 y with | some a, some b => f a b | _, _ => .stuck "onII")
  | _ => .stuck "onII"
def onSS (f : List ByteArray → List ByteArray → T AV) : List AV → T AV
  | [x, y] => (match cStrs [] x, cStrs [] y with | some a, some b => f a b | _, _ => .stuck "onSS")
  | _ => .stuck "onSS"
def onI (f : List Int → T AV) : List AV → T AV
  | [x] => (match cInts [] .i64 x with | some a => f a | none => .stuck "onI")
  | _ => .stuck "onI"
def onIn (f : List Int → Int → T AV) : List AV → T AV
  | [x, .int .i64 n] => (match cInts [] .i64 x with | some a => f a n | none => .stuck "onIn")
  | _ => .stuck "onIn"
def onInt (f : Int → T AV) : List AV → T AV
  | [.int .i64 n] => f n
  | _ => .stuck "onInt"
def onInt2 (f : Int → Int → T AV) : List AV → T AV
  | [.int .i64 n, .int .i64 m] => f n m
  | _ => .stuck "onInt2"
def onStr (f : ByteArray → T AV) : List AV → T AV
  | [.str s] => f s
  | _ => .stuck "onStr"
def onV (f : VT → T AV) : List AV → T AV
  | [x] => (match asV [] x with | some a => f a | none => .stuck "onV")
  | _ => .stuck "onV"
def onVn (f : VT → Int → T AV) : List AV → T AV
  | [x, .int .i64 n] => (match asV [] x with | some a => f a n | none => .stuck "onVn")
  | _ => .stuck "onVn"
def onVV (f : VT → VT → T AV) : List AV → T AV
  | [x, y] => (match asV [] x, asV [] y with | some a, some b => f a b | _, _ => .stuck "onVV")
  | _ => .stuck "onVV"
def onVs (f : List VT → T AV) : List AV → T AV
  | [x] => (match cVs [] x with | some a => f a | none => .stuck "onVs")
  | _ => .stuck "onVs"
def onVsF (g : FuncId) (f : List VT → List VT → T AV) : List AV → T AV
  | [x, y, .fn g' []] => (match Nat.beq g' g, cVs [] x, cVs [] y with | true, some a, some b => f a b | _, _, _ => .stuck "onVsF")
  | _ => .stuck "onVsF"
noncomputable def when_ {α : Type} (p : Prop) (t : T α) : T α := .req ⟨p, Classical.propDecidable _⟩ t
noncomputable def sp119 := onII fun a b => .leaf (.bool (eqIs a b))
noncomputable def sp120 := onSS fun a b => .leaf (.bool (eqSs a b))
noncomputable def sp114 := onII fun a b => .leaf (.int .i64 (cmpIs a b))
noncomputable def sp115 := onSS fun a b => .leaf (.int .i64 (cmpSs a b))
noncomputable def sp155 := onIn fun a n => .leaf (.int .i64 (idxI n a 0))
noncomputable def sp110 := onI fun a => .leaf (.int .i64 (firstNZ a))
noncomputable def sp172 := onStr fun s => when_ (short s) (.leaf (.bool (noZero s)))
noncomputable def sp151 := onV fun a => .leaf (.bool (rLong a))
noncomputable def sp169 := onV fun a => .leaf (.bool (rList a))
noncomputable def sp170 := onV fun a => when_ (shorts a) (.leaf (.bool (rTable a)))
noncomputable def sp152 := onV fun a => when_ (shorts a) (.leaf (.bool (rPlain a)))
noncomputable def sp70 (n : Nat) := onV fun a => when_ (smaller a n) (.leaf (.int .i64 (rCount a)))
noncomputable def sp70f := onV fun a => .leaf (.int .i64 (rCount a))
noncomputable def sp78 (n : Nat) := onV fun a => when_ (smaller a n) (.leaf (.int .i64 (rDepth a)))
noncomputable def sp78f := onV fun a => .leaf (.int .i64 (rDepth a))
noncomputable def sp105 (n : Nat) := onVn fun a k => when_ (smaller a n) (when_ (VT.Fine a) (.leaf (.int .i64 (rParts a k))))
noncomputable def sp105f := onVn fun a k => when_ (VT.Fine a) (.leaf (.int .i64 (rParts a k)))
noncomputable def sp104 (n : Nat) := onV fun a => when_ (smaller a n) (.leaf (.int .i64 (szV a)))
noncomputable def sp104f := onV fun a => .leaf (.int .i64 (szV a))
noncomputable def sp45 := onVs fun a => .leaf (.bool (hugeB a))
noncomputable def sp50 (n : Nat) := onVV fun a b => when_ (smaller a n) (.leaf (.bool (veq a b)))
noncomputable def sp50f := onVV fun a b => .leaf (.bool (veq a b))
noncomputable def sp121 (n : Nat) := onVsF 50 fun a b => when_ (smallers a n) (.leaf (.bool (veqs a b)))
noncomputable def sp21 (n : Nat) := onVV fun a b => when_ (smaller a n) (.leaf (.bool (veq a b)))
noncomputable def sp21f := onVV fun a b => .leaf (.bool (veq a b))
noncomputable def sp48 (n : Nat) := onVV fun a b => when_ (smaller a n) (.leaf (.int .i64 (vcmp a b)))
noncomputable def sp48f := onVV fun a b => .leaf (.int .i64 (vcmp a b))
noncomputable def sp116 (n : Nat) := onVsF 48 fun a b => when_ (smallers a n) (.leaf (.int .i64 (vcmps a b)))
noncomputable def sp49 (n : Nat) := onVV fun a b => when_ (smaller a n) (.leaf (.int .i64 (rcmp a b)))
noncomputable def sp49f := onVV fun a b => .leaf (.int .i64 (rcmp a b))
noncomputable def spAbs := onInt fun t => .leaf (.int .i64 (rAbs t))
noncomputable def sp149 := onInt fun t => .leaf (.tup [.bool (rfN t), .bool (rfS t), .bool (rfL t), .bool (rfI t)])
noncomputable def sp117 := onV fun a => .leaf (.int .i64 (rRank a))
noncomputable def sp112 := onV fun a => .leaf (.int .i64 (vRank a))
noncomputable def sp111 := onInt2 fun a b => .leaf (.int .i64 (cmpI a b))

/-! ### from a contract's use to its arguments -/
section
variable {Q : AV → Prop}
theorem onII_inv {f : List Int → List Int → T AV} {xs : List AV} (h : (onII f xs).sat Q) : ∃ x y a b, xs = [x, y] ∧ cInts [] .i64 x = some a ∧ cInts [] .i64 y = some b ∧ (f a b).sat Q := by
  unfold onII at h
  split at h
  · split at h
    · rename_i x y _ _ a b h1 h2; exact ⟨x, y, a, b, rfl, h1, h2, h⟩
    · exact h.elim
  · exact h.elim
theorem onSS_inv {f : List ByteArray → List ByteArray → T AV} {xs : List AV} (h : (onSS f xs).sat Q) : ∃ x y a b, xs = [x, y] ∧ cStrs [] x = some a ∧ cStrs [] y = some b ∧ (f a b).sat Q := by
  unfold onSS at h
  split at h
  · split at h
    · rename_i x y _ _ a b h1 h2; exact ⟨x, y, a, b, rfl, h1, h2, h⟩
    · exact h.elim
  · exact h.elim
theorem onI_inv {f : List Int → T AV} {xs : List AV} (h : (onI f xs).sat Q) : ∃ x a, xs = [x] ∧ cInts [] .i64 x = some a ∧ (f a).sat Q := by
  unfold onI at h
  split at h
  · split at h
    · rename_i x _ a h1; exact ⟨x, a, rfl, h1, h⟩
    · exact h.elim
  · exact h.elim
theorem onIn_inv {f : List Int → Int → T AV} {xs : List AV} (h : (onIn f xs).sat Q) : ∃ x n a, xs = [x, .int .i64 n] ∧ cInts [] .i64 x = some a ∧ (f a n).sat Q := by
  unfold onIn at h
  split at h
  · split at h
    · rename_i x n _ a h1; exact ⟨x, n, a, rfl, h1, h⟩
    · exact h.elim
  · exact h.elim
theorem onInt_inv {f : Int → T AV} {xs : List AV} (h : (onInt f xs).sat Q) : ∃ n, xs = [.int .i64 n] ∧ (f n).sat Q := by
  unfold onInt at h
  split at h
  · exact ⟨_, rfl, h⟩
  · exact h.elim
theorem onInt2_inv {f : Int → Int → T AV} {xs : List AV} (h : (onInt2 f xs).sat Q) : ∃ n m, xs = [.int .i64 n, .int .i64 m] ∧ (f n m).sat Q := by
  unfold onInt2 at h
  split at h
  · exact ⟨_, _, rfl, h⟩
  · exact h.elim
theorem onStr_inv {f : ByteArray → T AV} {xs : List AV} (h : (onStr f xs).sat Q) : ∃ n, xs = [.str n] ∧ (f n).sat Q := by
  unfold onStr at h
  split at h
  · exact ⟨_, rfl, h⟩
  · exact h.elim
theorem onV_inv {f : VT → T AV} {xs : List AV} (h : (onV f xs).sat Q) : ∃ x a, xs = [x] ∧ asV [] x = some a ∧ (f a).sat Q := by
  unfold onV at h
  split at h
  · split at h
    · rename_i x _ a h1; exact ⟨x, a, rfl, h1, h⟩
    · exact h.elim
  · exact h.elim
theorem onVn_inv {f : VT → Int → T AV} {xs : List AV} (h : (onVn f xs).sat Q) : ∃ x n a, xs = [x, .int .i64 n] ∧ asV [] x = some a ∧ (f a n).sat Q := by
  unfold onVn at h
  split at h
  · split at h
    · rename_i x n _ a h1; exact ⟨x, n, a, rfl, h1, h⟩
    · exact h.elim
  · exact h.elim
theorem onVV_inv {f : VT → VT → T AV} {xs : List AV} (h : (onVV f xs).sat Q) : ∃ x y a b, xs = [x, y] ∧ asV [] x = some a ∧ asV [] y = some b ∧ (f a b).sat Q := by
  unfold onVV at h
  split at h
  · split at h
    · rename_i x y _ _ a b h1 h2; exact ⟨x, y, a, b, rfl, h1, h2, h⟩
    · exact h.elim
  · exact h.elim
theorem onVs_inv {f : List VT → T AV} {xs : List AV} (h : (onVs f xs).sat Q) : ∃ x a, xs = [x] ∧ cVs [] x = some a ∧ (f a).sat Q := by
  unfold onVs at h
  split at h
  · split at h
    · rename_i x _ a h1; exact ⟨x, a, rfl, h1, h⟩
    · exact h.elim
  · exact h.elim
theorem onVsF_inv {g : FuncId} {f : List VT → List VT → T AV} {xs : List AV} (h : (onVsF g f xs).sat Q) : ∃ x y a b, xs = [x, y, .fn g []] ∧ cVs [] x = some a ∧ cVs [] y = some b ∧ (f a b).sat Q := by
  unfold onVsF at h
  split at h
  · split at h
    · rename_i x y g' _ _ _ a b h0 h1 h2
      have := Nat.eq_of_beq_eq_true h0; subst this
      exact ⟨x, y, a, b, rfl, h1, h2, h⟩
    · exact h.elim
  · exact h.elim
theorem when_inv {p : Prop} {t : T AV} (h : (when_ p t).sat Q) : p ∧ t.sat Q := h
end
section
variable {F : Nat → Prop} {w : World} {v : Value}
theorem FZ_nil {β : Nat → Option Value} : ∀ b, FZ [] β F b → F b := fun b h => by
  rcases h with h | ⟨i, hi, _⟩
  · exact h
  · simp at hi
theorem vr_back {β : Nat → Option Value} {x : AV} (h : VR β (FZ [] β F) w v x) : VR β F w v x := h.mono (fun _ _ h => h) FZ_nil (fun _ _ => rfl)
theorem own_no {x : AV} (hx : ∀ id ∈ x.owns, ∃ ob, (id, ob) ∈ ([] : List (Nat × HObj))) : ∀ id ∈ x.owns, id ∈ ([] : List Nat) := fun id h => by obtain ⟨_, h⟩ := hx id h; simp at h
theorem own_no1 {x : AV} (hx : ∀ id ∈ x.owns1, ∃ ob, (id, ob) ∈ ([] : List (Nat × HObj))) : ∀ id ∈ x.owns1, id ∈ ([] : List Nat) := fun id h => by obtain ⟨_, h⟩ := hx id h; simp at h
theorem as_V {x : AV} {a : VT} (h : asV [] x = some a) (hv : VR noβ F w v x) : VR noβ F w v (.agg a.cells) := vr_back (asV_ok (hs := []) (ids := []) (fun _ h => by simp at h) h hv (own_no (asV_known h)))
theorem as_I {x : AV} {k : IntKind} {a : List Int} (h : cInts [] k x = some a) (hv : VR noβ F w v x) : VR noβ F w v (.sl (.i k a)) := vr_back (cInts_ok (hs := []) (ids := []) (fun _ h => by simp at h) h hv (own_no1 (cInts_known h)))
theorem as_S {x : AV} {a : List ByteArray} (h : cStrs [] x = some a) (hv : VR noβ F w v x) : VR noβ F w v (.sl (.s a)) := vr_back (cStrs_ok (hs := []) (ids := []) (fun _ h => by simp at h) h hv (own_no1 (cStrs_known h)))
theorem as_Vs {x : AV} {a : List VT} (h : cVs [] x = some a) (hv : VR noβ F w v x) : VR noβ F w v (.sl (.v a)) := vr_back (cVs_ok (hs := []) (ids := []) (fun _ h => by simp at h) h hv (own_no1 (cVs_known h)))
variable {cs : Array Value}
theorem Args.conv1 {x y : AV} (h : Args F w cs [x]) (h1 : ∀ v, VR noβ F w v x → VR noβ F w v y) : Args F w cs [y] := by
  obtain ⟨a, b, c⟩ := h
  refine ⟨a, b, fun j v z hv hz => ?_⟩
  match j, hz with
  | 0, hz => simp at hz; subst hz; exact h1 v (c 0 v x hv rfl)
  | j + 1, hz => simp at hz
theorem Args.conv2 {x x' y y' : AV} (h : Args F w cs [x, x']) (h1 : ∀ v, VR noβ F w v x → VR noβ F w v y) (h2 : ∀ v, VR noβ F w v x' → VR noβ F w v y') : Args F w cs [y, y'] := by
  obtain ⟨a, b, c⟩ := h
  refine ⟨a, b, fun j v z hv hz => ?_⟩
  match j, hz with
  | 0, hz => simp at hz; subst hz; exact h1 v (c 0 v x hv rfl)
  | 1, hz => simp at hz; subst hz; exact h2 v (c 1 v x' hv rfl)
  | j + 2, hz => simp at hz
theorem Args.conv3 {x x' x'' y y' y'' : AV} (h : Args F w cs [x, x', x'']) (h1 : ∀ v, VR noβ F w v x → VR noβ F w v y) (h2 : ∀ v, VR noβ F w v x' → VR noβ F w v y') (h3 : ∀ v, VR noβ F w v x'' → VR noβ F w v y'') : Args F w cs [y, y', y''] := by
  obtain ⟨a, b, c⟩ := h
  refine ⟨a, b, fun j v z hv hz => ?_⟩
  match j, hz with
  | 0, hz => simp at hz; subst hz; exact h1 v (c 0 v x hv rfl)
  | 1, hz => simp at hz; subst hz; exact h2 v (c 1 v x' hv rfl)
  | 2, hz => simp at hz; subst hz; exact h3 v (c 2 v x'' hv rfl)
  | j + 3, hz => simp at hz
end
open Go.Proofs
theorem mixed : Try.prog.follows .mixedOrders = true := by rfl
/-- A contract out of a run. -/
theorem contract {orc : Orc} (horc : OrcOk Try.prog orc (fun _ => True)) {f : FuncId} {fn : Func} (hf : fns f = some fn) {cuts : List Cut} (hok : cutsOk cuts = true) {c0 : Cut} {xs : List AV} {ρ : List Lf}
    (hc0 : findCut 9999 cuts = some c0) (hpre : c0.pre = [.code (bodyOf fn)]) (hys : renL (renF (sig0 0) 5) xs = some xs) (hin : c0.tm.inst ρ = ⟨zipArgs 0 xs, [], [], 0, fn.ntmps⟩) (hnt : Nat.ble xs.length fn.ntmps = true)
    {cs : Array Value} {F : Nat → Prop} {w : World} {R : Value → World → Prop} {y : AV} (ha : Args F w cs xs) (hr : Rh (stepX O.real tb orc fn.results [] 0 cuts) (Ret y) (9999, ρ))
    (hK : ∀ v' F' w', PPost F w y v' F' w' → R v' w') : Goes Try.prog f cs w R := by
  obtain ⟨n, hn⟩ := hr
  refine flow_pure mixed tbOk horc fnsOk hf hok hc0 hpre hys hin hnt ha (K := fun z => z = y) (n := n) ?_ (fun z hz => by subst hz; exact hK)
  exact flow_pure.FS.imp (fun E hE => ⟨y, hE, rfl⟩) hn
theorem walked {sp : PS} (h : PureOk Try.prog sp) {kn md : FuncId → Bool} (n : Nat) : OrcOk Try.prog (inl O.real tb fns (pureOrc sp) kn md 300 n) (fun _ => True) := inl_ok mixed tbOk fnsOk (pureOrc_ok h) n
theorem walked0 {kn md : FuncId → Bool} (n : Nat) : OrcOk Try.prog (inl O.real tb fns noOrc kn md 300 n) (fun _ => True) := inl_ok mixed tbOk fnsOk (noOrc_ok _ _) n

theorem ok119 : Pure1 Try.prog 119 sp119 := by
  intro xs F w cs R ha h
  obtain ⟨x, y, a, b, rfl, h1, h2, h⟩ := onII_inv h
  have ha := ha.conv2 (fun v => as_I h1) (fun v => as_I h2)
  obtain ⟨v, hv⟩ := ha.at 0 rfl
  exact contract (fn := Try.f119) (walked0 14) (by kernel_rfl) w119C_ok (by rfl) (by rfl) (by rfl) (by rfl) (by rfl) ha (run119 a b hv.len) h
theorem ok120 : Pure1 Try.prog 120 sp120 := by
  intro xs F w cs R ha h
  obtain ⟨x, y, a, b, rfl, h1, h2, h⟩ := onSS_inv h
  have ha := ha.conv2 (fun v => as_S h1) (fun v => as_S h2)
  obtain ⟨v, hv⟩ := ha.at 0 rfl
  exact contract (fn := Try.f120) (walked0 14) (by kernel_rfl) w120C_ok (by rfl) (by rfl) (by rfl) (by rfl) (by rfl) ha (run120 a b hv.len) h
end Go.Qv
