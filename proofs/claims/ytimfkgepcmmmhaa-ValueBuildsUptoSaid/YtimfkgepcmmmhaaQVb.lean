/- What value.Check asks, as its contract says it. No condition. -/
import Derived.Test.YtimfkgepcmmmhaaQLv
import Derived.Test.YtimfkgepcmmmhaaQPz
set_option linter.unusedVariables false
set_option linter.unusedSimpArgs false
set_option maxRecDepth 100000
namespace Go.Qv
open Go Go.RowKit Go.Proofs
def firstIx (s : ByteArray) (c : Int) : Int := firstIdx s c.toNat.toUInt8
def zeroB (s : ByteArray) : Bool := decide (0 ≤ firstIx s 0)
def allShort (m : Int) (l : List ByteArray) : Prop := longer m l = false
def allNoZero (l : List ByteArray) : Prop := ∀ s ∈ l, noZero s = true
def bits01 (l : List Int) : Prop := ∀ x ∈ l, x = 0 ∨ x = 1
def allCol (l : List VT) : Prop := ∀ x ∈ l, isColT x.t
def notLong (a : VT) : Prop := rLong a = false
def tblOk (a : VT) : Prop := rTable a = true ∧ ∀ s ∈ a.s, s.size ≤ maxLen
def deepOk (a : VT) : Prop := rDepth a ≤ 32
def eachs (v : VT) : List VT := (List.range (rCount v).toNat).map fun (k : Nat) => atV v k
def appV (h l : List VT) : List VT := h ++ l
def lvOk (a : VT) : Prop := rPlain a = true ∧ ((a.t = 98 ∨ a.t = 100) → ∀ s ∈ a.s, s.size ≤ maxLen)
def onIsG (g : FuncId) (f : List Int → T AV) : List AV → T AV
  | [x, .fn g' []] => (match Nat.beq g' g, cInts [] .i64 x with | true, some a => f a | _, _ => .stuck "onIsG")
  | _ => .stuck "onIsG"
noncomputable def spIdxB : List AV → T AV
  | [.str s, .int .u8 c] => .leaf (.int .i64 (firstIx s c))
  | _ => .stuck "index"
noncomputable def sp179 := onStr fun s => .leaf (.bool (zeroB s))
noncomputable def se183 : List AV → List (Nat × HObj) → T Eff
  | [x, .fn g [.ptr 0 0]], [(0, .cells [.int .i64 m])] => (match Nat.beq g 176, cStrs [] x with
    | true, some l => whenE (allShort m l) (.leaf ⟨.int .i64 (-1), [(0, some (.cells [.int .i64 m]))], [], []⟩)
    | _, _ => .stuck "index: long")
  | [x, .fn g []], [] => (match Nat.beq g 179, cStrs [] x with
    | true, some l => whenE (allNoZero l) (.leaf ⟨.int .i64 (-1), [], [], []⟩)
    | _, _ => .stuck "index: zero")
  | _, _ => .stuck "index of texts"
noncomputable def sp184 := onIsG 178 fun l => when_ (bits01 l) (.leaf (.int .i64 (-1)))
noncomputable def spColIdx := onVsG 186 fun l => when_ (allCol l) (.leaf (.int .i64 (-1)))
noncomputable def sp159 := onInt fun t => .leaf (.tup [.agg [.bool (rfN t), .bool (rfS t), .bool (rfL t)], .bool (rfI t)])
noncomputable def sp161 := onV fun a => when_ (notLong a) (.leaf (.bool false))
noncomputable def sp180 := onV fun a => when_ (tblOk a) (.leaf (.bool true))
noncomputable def sp162 := onV fun a => when_ (lvOk a) (.leaf (.bool true))
noncomputable def sp132 (n : Nat) := onV fun a => when_ (smaller a n) (when_ (VT.Good a) (.leaf (.int .i64 0)))
noncomputable def sp132f := onV fun a => when_ (VT.Good a) (.leaf (.int .i64 0))
noncomputable def sp59 := onV fun a => when_ (VT.Good a) (when_ (deepOk a) (.leaf (.int .i64 0)))

theorem whenE_inv {p : Prop} {t : T Eff} {Q : Eff → Prop} (h : (whenE p t).sat Q) : p ∧ t.sat Q := h
theorem onIsG_inv {g : FuncId} {f : List Int → T AV} {xs : List AV} {Q : AV → Prop} (h : (onIsG g f xs).sat Q) : ∃ x a, xs = [x, .fn g []] ∧ cInts [] .i64 x = some a ∧ (f a).sat Q := by
  unfold onIsG at h
  split at h
  · split at h
    · rename_i x g' _ _ a h0 h1
      have := Nat.eq_of_beq_eq_true h0; subst this
      exact ⟨x, a, rfl, h1, h⟩
    · exact h.elim
  · exact h.elim
theorem okIdxB : Pure1 Try.prog 188 spIdxB := by
  intro xs F w cs R ha h
  refine ok188 xs F w cs R ha ?_
  unfold spIdxB at h
  split at h
  · exact h
  · exact h.elim
theorem long_iff {m : Int} {l : List ByteArray} : longer m l = false ↔ ∀ s ∈ l, (s.size : Int) ≤ m := by
  unfold longer
  rw [List.any_eq_false]
  constructor
  · intro h s hs; have := h s hs; simp at this; omega
  · intro h s hs; have := h s hs; simp; omega
theorem zero_no {s : ByteArray} (h : noZero s = true) : zeroB s = false := by
  unfold zeroB firstIx
  refine decide_eq_false ?_
  unfold firstIdx
  have hh : (List.range s.size).find? (fun i => s[i]! == (0 : Int).toNat.toUInt8) = none := by
    rw [List.find?_eq_none]
    intro i hi
    rw [List.mem_range] at hi
    have e : s[i]! = s.data.toList[i]'(by simpa using hi) := by
      rw [getElem!_pos s i hi]; rfl
    rw [e]
    intro he
    have he : s.data.toList[i]'(by simpa using hi) = 0 := by simpa using he
    unfold noZero at h
    rw [Bool.not_eq_true', List.contains_eq_mem, decide_eq_false_iff_not] at h
    exact h (he ▸ List.getElem_mem _)
  rw [hh]
  decide
/-! ### a value's elements -/
theorem eachs_len (v : VT) : (eachs v).length = (rCount v).toNat := by unfold eachs; simp
theorem eachs_at {v : VT} {k : Nat} (h : k < (rCount v).toNat) : (eachs v).getD k default = atV v k := by
  unfold eachs
  rw [List.getD_eq_getElem?_getD, List.getElem?_map, List.getElem?_range h]; rfl
theorem eachs_take {v : VT} {k : Nat} (h : k < (rCount v).toNat) : (eachs v).take (k + 1) = (eachs v).take k ++ [atV v k] := by
  rw [take_at _ default (by rw [eachs_len]; exact h), eachs_at h]
theorem map_range {α : Type} (l : List α) (d : α) : (List.range l.length).map (fun k => l.getD k d) = l := by
  apply List.ext_getElem
  · simp
  · intro i h1 h2
    simp only [List.getElem_map, List.getElem_range, List.getD_eq_getElem?_getD, List.getElem?_eq_getElem h2, Option.getD_some]
theorem set_new {α : Type} (h : List α) (z x : α) : (h ++ [z]).set h.length x = h ++ [x] := by
  rw [List.set_append_right _ _ (Nat.le_refl _), Nat.sub_self]; rfl
theorem at0_mk {t n s l} {i : Nat} : at0 (.mk t n s l) i = if t = 3 then .mk (-3) [] [s.getD i ⟨#[]⟩] [] else if isVecT t then atomV t (n.getD i 0) else if t = 0 then l.getD i default else .mk t n s l := rfl
/-! ### sets of texts -/
theorem key_ne {a b : ByteArray} (h : a ≠ b) : keyEq (.str a) (.str b) = false := by
  cases hk : keyEq (.str a) (.str b) with
  | false => rfl
  | true => exact absurd (eqBy_ok (a := a) (b := b) hk) h
theorem find_new {s : ByteArray} : ∀ {l : List ByteArray}, (∀ y ∈ l, y ≠ s) → findK (.str s) (sps l) = none
  | [], _ => rfl
  | y :: l, h => by
    show (match keyEq (.str s) (.str y) with | true => some (AV.bool true) | false => findK (.str s) (sps l)) = none
    rw [key_ne (fun e => h y List.mem_cons_self e.symm)]
    exact find_new (fun z hz => h z (List.mem_cons_of_mem _ hz))
theorem smem_new {s : ByteArray} {l : List ByteArray} (h : ∀ y ∈ l, y ≠ s) : O.real.smem s l = false := by
  show (findK (.str s) (sps l)).isSome = false
  rw [find_new h]; rfl
theorem sins_new {s : ByteArray} {l : List ByteArray} (h : ∀ y ∈ l, y ≠ s) : O.real.sins s l = l ++ [s] := by
  show (match findK (.str s) (sps l) with | some _ => l | none => l ++ [s]) = _
  rw [find_new h]
theorem key_short {s : ByteArray} (h : s.size ≤ maxLen) : keyOk (.str s) = true := Nat.ble_eq_true_of_le h
theorem keys_short : ∀ {l : List ByteArray}, (∀ y ∈ l, y.size ≤ maxLen) → keysOk (sps l) = true
  | [], _ => rfl
  | y :: l, h => by
    show (keyOk (.str y) && keysOk (sps l)) = true
    rw [key_short (h y List.mem_cons_self), keys_short (fun z hz => h z (List.mem_cons_of_mem _ hz))]; rfl
theorem take_succ' {s : List ByteArray} {i : Nat} (h : i < s.length) : s.take i ++ [s.getD i ⟨#[]⟩] = s.take (i + 1) := by
  rw [List.take_add_one, List.getD_eq_getElem?_getD, List.getElem?_eq_getElem h]; rfl
/-! ### a table's names -/
theorem table_at : ∀ (s : List ByteArray) (l : List VT) (b : List ByteArray), rTableGo b s l = true → ∀ i, i < s.length → s.getD i ⟨#[]⟩ ≠ ⟨#[]⟩ ∧ noZero (s.getD i ⟨#[]⟩) = true ∧ ∀ y ∈ b ++ s.take i, y ≠ s.getD i ⟨#[]⟩
  | [], l, b, h, i, hi => by simp at hi
  | x :: s, l, b, h, i, hi => by
    rw [rTableGo] at h
    split at h
    · cases h
    · rename_i h1
      split at h
      · cases h
      · rename_i h2
        simp only [not_or] at h1
        match i, hi with
        | 0, _ =>
          refine ⟨h1.1, ?_, fun y hy e => h2 ?_⟩
          · cases hz : noZero x with
            | true => exact hz
            | false => exact absurd hz h1.2.1
          · simp at hy
            exact List.any_eq_true.2 ⟨y, hy, decide_eq_true e⟩
        | i + 1, hi =>
          have := table_at s l.tail _ h i (by simpa using hi)
          simp only [List.getD_cons_succ, List.take_succ_cons]
          refine ⟨this.1, this.2.1, fun y hy => this.2.2 y ?_⟩
          simpa using hy
theorem rTable_facts {t n s l} (h : rTable (.mk t n s l) = true) : 0 < s.length ∧ s.length = l.length ∧ rTableGo [] s l = true := by
  unfold rTable at h
  split at h
  · cases h
  · rename_i h1
    have h1 : ¬ (s.length = 0 ∨ s.length ≠ l.length) := h1
    exact ⟨by omega, by omega, h⟩
end Go.Qv
