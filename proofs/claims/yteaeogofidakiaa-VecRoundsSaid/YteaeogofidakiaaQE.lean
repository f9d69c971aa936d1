/- What an operation leaves behind; the operations one by one. -/
import Derived.Test.YteaeogofidakiaaQD
import Derived.Laws.Entries
set_option linter.unusedVariables false
set_option linter.unusedSimpArgs false
namespace Go.Qv
open Go.RowKit

structure Post (hs : List (Nat × HObj)) (nx : Nat) (E : Eff) (β : Nat → Option Value) (F : Nat → Prop) (w : World) (v' : Value) (β' : Nat → Option Value) (F' : Nat → Prop) (w' : World) : Prop where
  vr : VR β' F' w' v' E.v
  βext : ∀ id x, β id = some x → β' id = some x
  βnew : ∀ id x, β' id = some x → β id = some x ∨ (nx ≤ id ∧ id < nx + E.new.length)
  Fext : ∀ b, F b → F' b
  Flt : ∀ b, F' b → b < w'.heap.size
  Fnew : ∀ b, F' b → F b ∨ w.heap.size ≤ b ∨ ∃ id ∈ E.frz, (id, none) ∈ E.hw ∧ ∃ x, β id = some x ∧ blkOf x = some b
  live : ∀ id ob, (id, some ob) ∈ E.hw → OR β' F' w' id ob
  news : ∀ j ob, E.new[j]? = some ob → OR β' F' w' (nx + j) ob
  newb : ∀ j x b, j < E.new.length → β' (nx + j) = some x → blkOf x = some b → ¬ F' b ∧ (w.heap.size ≤ b ∨ ∃ id, (id, none) ∈ E.hw ∧ ∃ y, β id = some y ∧ blkOf y = some b)
  newsep : ∀ j k x y b, j < E.new.length → k < E.new.length → j ≠ k → β' (nx + j) = some x → β' (nx + k) = some y → blkOf x = some b → blkOf y = some b → False
  known : ∀ p ∈ E.hw, ∃ ob, (p.1, ob) ∈ hs
  nd : ∀ id ob, (id, some ob) ∈ E.hw → (id, none) ∉ E.hw
  frame : ∀ b, b < w.heap.size → (∀ p ∈ E.hw, ∀ x, β p.1 = some x → blkOf x ≠ some b) → w'.heap[b]? = w.heap[b]?
  os : w'.os = w.os
  tape : w'.tape = w.tape
  output : w'.output = w.output
  size : w.heap.size ≤ w'.heap.size

structure Pre (hs : List (Nat × HObj)) (nx : Nat) (β : Nat → Option Value) (F : Nat → Prop) (w : World) : Prop where
  hn : ∀ id, nx ≤ id → id < nx + 64 → β id = none
  hF : ∀ b, F b → b < w.heap.size
  hh : ∀ p ∈ hs, OR β F w p.1 p.2 ∧ ∀ v b, β p.1 = some v → blkOf v = some b → ¬ F b
  hsep : ∀ p ∈ hs, ∀ q ∈ hs, p.1 ≠ q.1 → ∀ x y b, β p.1 = some x → β q.1 = some y → blkOf x = some b → blkOf y = some b → False

theorem lk_mem {α : Type} : ∀ {l : List (Nat × α)} {i : Nat} {x : α}, lk l i = some x → (i, x) ∈ l
  | [], i, x, h => by simp [lk] at h
  | (j, y) :: l, i, x, h => by
    unfold lk at h
    split at h
    · rename_i he
      have := Nat.eq_of_beq_eq_true he
      subst this
      injection h with h
      subst h
      exact List.mem_cons_self
    · exact List.mem_cons_of_mem _ (lk_mem h)

section
variable {P : Program} {hs : List (Nat × HObj)} {nx : Nat} {β : Nat → Option Value} {F : Nat → Prop} {w : World}
theorem Post.pure (hp : Pre hs nx β F w) {v : Value} {x : AV} (h : VR β F w v x) : Post hs nx ⟨x, [], [], []⟩ β F w v β F w where
  vr := h
  βext _ _ h := h
  βnew _ _ h := .inl h
  Fext _ h := h
  Flt := hp.hF
  Fnew _ h := .inl h
  live _ _ h := by simp at h
  news _ _ h := by simp at h
  newb _ _ _ h := by simp at h
  newsep _ _ _ _ _ h := by simp at h
  known _ h := by simp at h
  nd _ _ h := by simp at h
  frame _ _ _ := rfl
  os := rfl
  tape := rfl
  output := rfl
  size := Nat.le_refl _

def βset (β : Nat → Option Value) (n : Nat) (v : Value) : Nat → Option Value := fun id => if id = n then some v else β id
theorem βset_self (β : Nat → Option Value) (n : Nat) (v : Value) : βset β n v n = some v := by simp [βset]
theorem βset_ext (hn : ∀ id, nx ≤ id → id < nx + 64 → β id = none) (v : Value) : ∀ id x, β id = some x → βset β nx v id = some x := by
  intro id x h
  unfold βset
  split
  · rename_i e; subst e; rw [hn id (Nat.le_refl _) (by omega)] at h; cases h
  · exact h
theorem alloc_keeps (w : World) (ob : Obj) {b : Nat} (h : b < w.heap.size) : (w.alloc ob).heap[b]? = w.heap[b]? := Below.heap_alloc w ob b h
theorem addr_add (b o n : Nat) : (⟨b, o, none⟩ : Addr).add n = ⟨b, o + n, none⟩ := by
  unfold Addr.add; split <;> simp_all

/-- A new variable. -/
theorem Post.alloc (hp : Pre hs nx β F w) (cur : Array Value) (e : TypeId) (l : List AV) (hl : l.length ≤ cur.size)
    (h : ∀ (j : Nat) (x : AV), l[j]? = some x → x.one = true ∧ ∃ v, cur[j]? = some v ∧ VR β F w v x) :
    Post hs nx ⟨.ptr nx 0, [], [], [.cells l]⟩ β F w (.pointer (some ⟨w.heap.size, 0, none⟩)) (βset β nx (.pointer (some ⟨w.heap.size, 0, none⟩))) F (w.alloc (.cells cur e)) where
  vr := .ptr nx 0 w.heap.size 0 (βset_self _ _ _)
  βext := βset_ext hp.hn _
  βnew id x hx := by
    unfold βset at hx
    split at hx
    · rename_i e; subst e; exact .inr ⟨Nat.le_refl _, by simp⟩
    · exact .inl hx
  Fext _ h := h
  Flt b hb := by have := hp.hF b hb; simp; omega
  Fnew _ h := .inl h
  live _ _ h := by simp at h
  news j ob hj := by
    match j, hj with
    | 0, hj =>
      simp at hj
      subst hj
      refine ⟨w.heap.size, 0, cur, e, βset_self _ _ _, heap_alloc_new w _, by simpa using hl, fun j x hx => ?_⟩
      obtain ⟨h1, v, h2, h3⟩ := h j x hx
      exact ⟨h1, v, by simpa using h2, h3.mono (βset_ext hp.hn _) (fun _ h => h) (fun b hb => alloc_keeps w _ (hp.hF b hb))⟩
  newb j x b hj hx hb := by
    have : j = 0 := by simpa using hj
    subst this
    rw [Nat.add_zero, βset_self] at hx
    injection hx with hx
    subst hx
    simp [blkOf] at hb
    subst hb
    exact ⟨fun h => by have := hp.hF _ h; omega, .inl (Nat.le_refl _)⟩
  newsep j k x y b hj hk hne := by
    have : j = 0 := by simpa using hj
    have : k = 0 := by simpa using hk
    omega
  known _ h := by simp at h
  nd _ _ h := by simp at h
  frame b hb _ := alloc_keeps w _ hb
  os := rfl
  tape := rfl
  output := rfl
  size := by simp
end
end Go.Qv
