/- An argument of type V, as a tree: what the reading of an argument says of memory. -/
import Derived.Test.YtmeagbopnliddaaGreatQTmM
import Derived.ChangeArms
import Derived.ProofKit
set_option linter.unusedVariables false
set_option linter.unusedSimpArgs false
namespace Go.Qv
open Go.RowKit Go.ChangeShapes Go.WideShapes

/-- Whole numbers that are of their kind, strings and lists that are not too long. -/
inductive VT.Fine : VT → Prop
  | mk (t : Int) (n : List Int) (s : List ByteArray) (l : List VT) : (Lit.int .i64 t).wf = true → (∀ x ∈ n, (Lit.int .i64 x).wf = true) → (∀ x ∈ s, x.size ≤ maxLen) → (∀ x ∈ l, VT.Fine x) →
      n.length ≤ maxLen → s.length ≤ maxLen → l.length ≤ maxLen → VT.Fine (.mk t n s l)

theorem list_of {α : Type} {p : Nat → α → Prop} : ∀ (n : Nat), (∀ i, i < n → ∃ x, p i x) → ∃ l : List α, l.length = n ∧ ∀ i x, l[i]? = some x → p i x
  | 0, _ => ⟨[], rfl, fun i x h => by simp at h⟩
  | n + 1, h => by
    obtain ⟨l, h1, h2⟩ := list_of n (fun i hi => h i (by omega))
    obtain ⟨x, hx⟩ := h n (by omega)
    refine ⟨l ++ [x], by simp [h1], fun i y hy => ?_⟩
    rcases Nat.lt_or_ge i l.length with hi | hi
    · rw [List.getElem?_append_left hi] at hy; exact h2 i y hy
    · rw [List.getElem?_append_right hi] at hy
      have : i - l.length = 0 := by
        have := (List.getElem?_eq_some_iff.1 hy).1
        simp at this; omega
      rw [this] at hy
      simp at hy
      subst hy
      have : i = n := by omega
      subst this
      exact hx
section
variable {H : Type} {enc : TypeId × Value → H} {P : Program} {w : World} {base : Nat} {spare : Nat → Bool} {held : Bool}
theorem spot_of {a : Addr} {v : Value} (h : w.cell? a = some v) : a = ⟨a.block, a.off, none⟩ ∧ a.block < w.heap.size := by
  have hs := World.cell?_spot h
  obtain ⟨b, o, s⟩ := a
  simp only at hs
  subst hs
  refine ⟨rfl, ?_⟩
  unfold World.cell? at h
  cases hg : w.heap[b]? with
  | some ob => exact (Array.getElem?_eq_some_iff.1 hg).1
  | none => simp [hg] at h
/-- A slice that is read, its elements as they read. -/
theorem sl_open {β : Nat → Option Value} {F : Nat → Prop} (hF : ∀ b, b < w.heap.size → F b) {a : Addr} {len cap : Nat} {c : LS} (hlen : c.len = len) (hcap : len ≤ cap) (hmax : cap ≤ maxLen) (hok : c.ok)
    (h : ∀ i el, c.elems[i]? = some el → ∃ cs, w.cells? base (a.add (i * c.sz)) c.sz = some cs ∧ ∀ (j : Nat) (x : AV), el[j]? = some x → ∃ v, cs[j]? = some v ∧ VR β F w v x) : VR β F w (.slice (some a) len cap) (.sl c) := by
  rcases Nat.eq_zero_or_pos len with h0 | h0
  · subst h0; exact .sl0 _ _ _ hlen hok
  · have hsz := LS.sz_pos hok
    have hell : c.elems.length = len := by rw [LS.elems_len]; exact hlen
    have h1 := h 0 _ (List.getElem?_eq_getElem (by omega))
    obtain ⟨cs0, k1, _⟩ := h1
    obtain ⟨_, k2, k3⟩ := World.cells?_some k1
    have hc0 := k3 0 hsz
    rw [List.getElem?_eq_getElem (by omega)] at hc0
    have haa : (a.add (0 * c.sz)).add 0 = a := by simp [Addr.add]
    rw [haa] at hc0
    obtain ⟨ha, hab⟩ := spot_of hc0
    rw [ha]
    have cellAt : ∀ i j, i < len → j < c.sz → ∀ cs, w.cells? base (a.add (i * c.sz)) c.sz = some cs → w.cell? ⟨a.block, a.off + (i * c.sz + j), none⟩ = cs[j]? := fun i j hi hj cs hcs => by
      obtain ⟨_, _, q3⟩ := World.cells?_some hcs
      have := q3 j hj
      rw [ha] at this
      rw [addr_add, addr_add, Nat.add_assoc] at this
      exact this
    refine .sl c _ _ _ _ (fun i j => (w.cell? ⟨a.block, a.off + (i * c.sz + j), none⟩).getD undef) hlen.symm h0 hcap hmax (hF _ hab) hok (fun i j hi hj => ?_) (fun i el j x he hx => ?_)
    · obtain ⟨cs, q1, _⟩ := h i _ (List.getElem?_eq_getElem (by omega))
      obtain ⟨_, q2, _⟩ := World.cells?_some q1
      rw [cellAt i j hi hj cs q1, List.getElem?_eq_getElem (by omega)]
      rfl
    · have hi : i < len := by have := (List.getElem?_eq_some_iff.1 he).1; omega
      obtain ⟨cs, q1, q2⟩ := h i el he
      obtain ⟨v, q3, q4⟩ := q2 j x hx
      have hj : j < c.sz := by rw [← LS.el_len hok el (List.mem_of_getElem? he)]; exact (List.getElem?_eq_some_iff.1 hx).1
      simp only [cellAt i j hi hj cs q1, q3, Option.getD_some]
      exact q4

/-- The types that a V is of. -/
structure VTypes (P : Program) (tV tInt tN tI tS tStr tL : TypeId) : Prop where
  uV : ∃ fs, P.underlying tV = some (.struct fs) ∧ fs.toList.map (fun f => (f.type, f.offset)) = [(tInt, 0), (tN, 1), (tS, 2), (tL, 3)]
  uInt : P.underlying tInt = some (.int .i64)
  uN : P.underlying tN = some (.slice tI)
  uI : P.underlying tI = some (.int .i64)
  uS : P.underlying tS = some (.slice tStr)
  uStr : P.underlying tStr = some .string
  uL : P.underlying tL = some (.slice tV)
  cV : P.cellsOf tV = 4
  cInt : P.cellsOf tInt = 1
  cN : P.cellsOf tN = 1
  cI : P.cellsOf tI = 1
  cS : P.cellsOf tS = 1
  cStr : P.cellsOf tStr = 1
  cL : P.cellsOf tL = 1

end
end Go.Qv
