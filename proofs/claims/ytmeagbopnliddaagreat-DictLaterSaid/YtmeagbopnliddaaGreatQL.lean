/- The operations, all together: what the evaluator says of an operation is what the machine does. -/
import Derived.Test.YtmeagbopnliddaaGreatQK
set_option linter.unusedVariables false
set_option linter.unusedSimpArgs false
namespace Go.Qv
open Go.RowKit
section
variable {P : Program} {tb : Tb} {orc : Orc} {hs : List (Nat × HObj)} {nx : Nat} {β : Nat → Option Value} {F : Nat → Prop} {w : World} {C : World → Prop}

/-- A call of a function, with what is to hold behind it. -/
def Goes (P : Program) (f : FuncId) (args : Array Value) (w : World) (R : Value → World → Prop) : Prop :=
  match (callFunc f args).run P w with
  | .ok (.enter g as) w' => Calls P g as w' fun e w'' => ∃ v, e = .returned v ∧ R v w''
  | .ok (.value v) w' => R v w'
  | _ => False
def OrcOk (P : Program) (orc : Orc) (C : World → Prop) : Prop :=
  ∀ (f : FuncId) (nx : Nat) (xs : List AV) (hs : List (Nat × HObj)) (β : Nat → Option Value) (F : Nat → Prop) (w : World) (cs : Array Value) (R : Value → World → Prop),
    C w → Pre hs nx β F w → cs.size = xs.length → (∀ (j : Nat) (v : Value) (x : AV), cs[j]? = some v → xs[j]? = some x → VR β F w v x) →
    (orc f nx xs hs).sat (fun E => ∀ v' β' F' w', Post hs nx E β F w v' β' F' w' → R v' w') → Goes P f cs w R

theorem cInts_known {k : IntKind} {x : AV} {l : List Int} (h : cInts hs k x = some l) : ∀ id ∈ x.owns1, ∃ ob, (id, ob) ∈ hs := by
  intro id hid
  unfold cInts at h
  split at h <;> simp [AV.owns1] at hid
  subst hid
  split at h
  · rename_i hl; exact ⟨_, lk_mem hl⟩
  · cases h
theorem cStrs_known {x : AV} {l : List ByteArray} (h : cStrs hs x = some l) : ∀ id ∈ x.owns1, ∃ ob, (id, ob) ∈ hs := by
  intro id hid
  unfold cStrs at h
  split at h <;> simp [AV.owns1] at hid
  subst hid
  split at h
  · rename_i hl; exact ⟨_, lk_mem hl⟩
  · cases h
theorem cVs_known {x : AV} {l : List VT} (h : cVs hs x = some l) : ∀ id ∈ x.owns1, ∃ ob, (id, ob) ∈ hs := by
  intro id hid
  unfold cVs at h
  split at h <;> simp [AV.owns1] at hid
  subst hid
  split at h
  · rename_i hl; exact ⟨_, lk_mem hl⟩
  · cases h
theorem asV_known {x : AV} {z : VT} (h : asV hs x = some z) : ∀ id ∈ x.owns, ∃ ob, (id, ob) ∈ hs := by
  intro id hid
  unfold asV at h
  split at h
  · rename_i t n s l
    split at h
    · rename_i h1 h2 h3
      simp only [AV.owns, List.mem_flatMap, List.mem_cons, List.not_mem_nil, or_false] at hid
      obtain ⟨y, hy, hid⟩ := hid
      rcases hy with rfl | rfl | rfl | rfl
      · simp [AV.owns1] at hid
      · exact cInts_known h1 id hid
      · exact cStrs_known h2 id hid
      · exact cVs_known h3 id hid
    · cases h
  · cases h
theorem asCell_known {ck : CK} {x y : AV} (h : asCell hs ck x = some y) : ∀ id ∈ x.owns1, ∃ ob, (id, ob) ∈ hs := by
  intro id hid
  unfold asCell at h
  split at h
  · simp [AV.owns1] at hid
  · simp [AV.owns1] at hid
  · simp [AV.owns1] at hid
  · split at h
    · rename_i he; exact cInts_known he id hid
    · cases h
  · split at h
    · rename_i he; exact cStrs_known he id hid
    · cases h
  · split at h
    · rename_i he; exact cVs_known he id hid
    · cases h
  · split at h
    · rename_i h1 h2; rw [h2] at hid; simp at hid
    · cases h
  · cases h
theorem asRec_known : ∀ {sh : List CK} {xs ys : List AV}, asRec hs sh xs = some ys → ∀ x ∈ xs, ∀ id ∈ x.owns1, ∃ ob, (id, ob) ∈ hs
  | [], [], ys, h, x, hx, _, _ => by simp at hx
  | [], _ :: _, ys, h, _, _, _, _ => by simp [asRec] at h
  | _ :: _, [], ys, h, _, _, _, _ => by simp [asRec] at h
  | ck :: sh, x0 :: xs, ys, h, x, hx, id, hid => by
    simp only [asRec] at h
    split at h
    · rename_i y ys' h1 h2
      rcases List.mem_cons.1 hx with rfl | hx
      · exact asCell_known h1 id hid
      · exact asRec_known h2 x hx id hid
    · cases h
theorem asEl_known {c c' : LS} {x : AV} (h : asEl hs c x = some c') : ∀ id ∈ x.owns, ∃ ob, (id, ob) ∈ hs := by
  intro id hid
  unfold asEl at h
  split at h
  · simp [AV.owns, AV.owns1] at hid
  · simp [AV.owns, AV.owns1] at hid
  · split at h
    · rename_i hn; exact asV_known hn id hid
    · cases h
  · split at h
    · rename_i hn
      simp only [AV.owns, List.mem_flatMap] at hid
      obtain ⟨y, hy, hid⟩ := hid
      exact asRec_known hn y hy id hid
    · cases h
  · rename_i ck xs hna
    split at h
    · rename_i hy
      refine asCell_known hy id ?_
      cases x <;> first | exact hid | skip
      rename_i l; exact absurd rfl (hna l)
    · cases h
  · cases h
theorem asListFrom_known : ∀ {xs : List AV} {c c' : LS}, asListFrom hs c xs = some c' → ∀ x ∈ xs, ∀ id ∈ x.owns, ∃ ob, (id, ob) ∈ hs
  | [], _, _, _, x, hx, _, _ => by simp at hx
  | x0 :: xs, c, c', h, x, hx, id, hid => by
    simp only [asListFrom] at h
    split at h
    · rename_i c1 h1
      rcases List.mem_cons.1 hx with rfl | hx
      · exact asEl_known h1 id hid
      · exact asListFrom_known h x hx id hid
    · cases h
theorem mem_true : ∀ {l : List Nat} {n : Nat}, mem n l = true ↔ n ∈ l
  | [], n => by simp [mem]
  | m :: l, n => by
    unfold mem
    split
    · rename_i h; simp [Nat.eq_of_beq_eq_true h]
    · rename_i h
      have hne : n ≠ m := fun e => by subst e; simp at h
      rw [mem_true]
      simp [hne]
theorem oset_real {c c1 c' : LS} {i : Int} (h : c.oset O.real i c1 = some c') (hk : c.ok) (hk1 : c1.ok) : ∃ el, c1.elems = [el] ∧ c'.elems = c.elems.set i.toNat el ∧ c'.sz = c.sz ∧ c1.sz = c.sz ∧ c'.ok ∧ c1.len = 1 := by
  unfold LS.oset at h
  split at h
  · split at h
    · rename_i he; have := of_decide_eq_true he; subst this; injection h with h; subst h; exact ⟨_, rfl, by simp [LS.elems, O.real, List.map_set], rfl, rfl, trivial, rfl⟩
    · cases h
  · injection h with h; subst h; exact ⟨_, rfl, by simp [LS.elems, O.real, List.map_set], rfl, rfl, trivial, rfl⟩
  · injection h with h; subst h; exact ⟨_, rfl, by simp [LS.elems, O.real, List.map_set], rfl, rfl, trivial, rfl⟩
  · split at h
    · rename_i sh xs sh' n he
      have := of_decide_eq_true he; subst this; injection h with h; subst h
      refine ⟨_, rfl, by simp [LS.elems, O.real], rfl, rfl, ⟨hk.1, fun e he => ?_⟩, rfl⟩
      rcases List.mem_or_eq_of_mem_set he with he | he
      · exact hk.2 e he
      · subst he; exact hk1.2 _ (by simp)
    · cases h
  · cases h
theorem cval1_ok {v : Value} {x : AV} (h : cval1 v = some x) : VR β F w v x ∧ x.one = true := by
  unfold cval1 at h
  split at h <;> first | (cases h; done) | (injection h with h; subst h)
  · exact ⟨.int _ _, rfl⟩
  · exact ⟨.bool _, rfl⟩
  · exact ⟨.str _, rfl⟩
  · exact ⟨.nilp, rfl⟩
  · exact ⟨.nils, rfl⟩
  · exact ⟨.nilf, rfl⟩
  · exact ⟨.nili, rfl⟩
  · exact ⟨.nilm, rfl⟩
theorem cvals_ok : ∀ {vs : List Value} {xs : List AV}, cvals vs = some xs → vs.length = xs.length ∧ (∀ x ∈ xs, x.one = true) ∧ ∀ (j : Nat) (v : Value) (x : AV), vs[j]? = some v → xs[j]? = some x → VR β F w v x
  | [], xs, h => by simp [cvals] at h; subst h; simp
  | v :: vs, xs, h => by
    simp only [cvals] at h
    split at h
    · rename_i x r h1 h2
      injection h with h
      subst h
      obtain ⟨a1, a2, a3⟩ := cvals_ok h2
      obtain ⟨b1, b2⟩ := cval1_ok (β := β) (F := F) (w := w) h1
      refine ⟨by simp [a1], fun y hy => ?_, fun j v' x' hv hx => ?_⟩
      · rcases List.mem_cons.1 hy with rfl | hy
        · exact b2
        · exact a2 y hy
      · match j, hv, hx with
        | 0, hv, hx => simp at hv hx; subst hv; subst hx; exact b1
        | j + 1, hv, hx => simp at hv hx; exact a3 j v' x' hv hx
    · cases h
theorem cval_ok {v : Value} {x : AV} (h : cval v = some x) : VR β F w v x := by
  unfold cval at h
  split at h
  · rename_i cs
    split at h
    · rename_i l hl
      injection h with h
      subst h
      obtain ⟨a1, a2, a3⟩ := cvals_ok (β := β) (F := F) (w := w) hl
      exact .agg _ _ (by simpa using a1) a2 (fun j v x hv hx => a3 j v x (by simpa using hv) hx)
    · cases h
  · exact (cval1_ok h).1
end
end Go.Qv
