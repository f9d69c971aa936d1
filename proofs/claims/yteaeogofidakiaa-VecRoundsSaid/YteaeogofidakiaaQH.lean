/- The operations, third part: slices seen as lists, struct and slice literals. -/
import Derived.Test.YteaeogofidakiaaQG
set_option linter.unusedVariables false
set_option linter.unusedSimpArgs false
namespace Go.Qv
open Go.RowKit
section
variable {P : Program} {tb : Tb} {hs : List (Nat × HObj)} {nx : Nat} {β : Nat → Option Value} {F : Nat → Prop} {w : World}

/-- Some objects' blocks besides. -/
def FZ (ids : List Nat) (β : Nat → Option Value) (F : Nat → Prop) : Nat → Prop := fun b => F b ∨ ∃ id ∈ ids, ∃ v, β id = some v ∧ blkOf v = some b
theorem FZ.ext {ids : List Nat} : ∀ b, F b → FZ ids β F b := fun _ h => .inl h
theorem VR.fz {ids : List Nat} {v : Value} {x : AV} (h : VR β F w v x) : VR β (FZ ids β F) w v x := h.mono (fun _ _ h => h) FZ.ext (fun _ _ => rfl)
theorem own_sl {ids : List Nat} {id : Nat} {e : TypeId} {c : LS} {v : Value} (hO : OR β F w id (.arr e c)) (hv : VR β F w v (.own id)) (hi : id ∈ ids) : VR β (FZ ids β F) w v (.sl c) := by
  obtain ⟨u, cvs, h1, h2, hk, h4⟩ := hO
  cases hv with
  | own _ _ hb _ =>
    rw [hb] at h1
    injection h1 with h1
    subst h1
    rcases h2.2 with ⟨rfl, hn⟩ | ⟨g, cap, cur, rfl, _, hg, hnc, hcm, hcs, htk⟩
    · exact .sl0 _ _ _ hn hk
    · rcases Nat.eq_zero_or_pos c.len with h0 | h0
      · rw [h0]; exact .sl0 _ _ _ h0 hk
      · refine .sl c g 0 c.len cap (fun i j => cur.getD (i * c.sz + j) undef) rfl h0 hnc hcm (.inr ⟨id, hi, _, hb, rfl⟩) hk (fun i j hi' hj => ?_) (fun i el j x he hx => ?_)
        · have hlt : i * c.sz + c.sz ≤ c.len * c.sz := by rw [← Nat.succ_mul]; exact Nat.mul_le_mul_right _ (by omega)
          have hle : c.len * c.sz ≤ cap * c.sz := Nat.mul_le_mul_right _ hnc
          have : i * c.sz + j < cur.size := by omega
          simp only [World.cell?, hg, Option.isSome_none, Bool.false_eq_true, if_false, Nat.zero_add]
          simp [this]
        · obtain ⟨u, h6, h7⟩ := h4 i el j x he hx
          have : cur.getD (i * c.sz + j) undef = u := by
            rw [← htk, List.getElem?_take] at h6
            split at h6
            · simp only [Array.getElem?_toList] at h6
              simp [Array.getD_eq_getD_getElem?, h6]
            · cases h6
          rw [this]
          exact h7.fz
theorem nils_sl {v : Value} {c : LS} (hv : VR β F w v .nils) (h0 : c.len = 0) (hk : c.ok) : VR β F w v (.sl c) := by
  cases hv; exact .sl0 _ _ _ h0 hk

theorem cInts_ok {ids : List Nat} {k : IntKind} {x : AV} {l : List Int} {v : Value} (hO : ∀ p ∈ hs, OR β F w p.1 p.2) (h : cInts hs k x = some l) (hv : VR β F w v x) (hi : ∀ id ∈ x.owns1, id ∈ ids) :
    VR β (FZ ids β F) w v (.sl (.i k l)) := by
  unfold cInts at h
  split at h
  · injection h with h; subst h; exact nils_sl hv.fz rfl trivial
  · split at h
    · rename_i hd; injection h with h; subst h; rw [← of_decide_eq_true hd]; exact hv.fz
    · cases h
  · rename_i id
    split at h
    · rename_i e k' xs hl
      split at h
      · rename_i hd; injection h with h; subst h; rw [← of_decide_eq_true hd]
        exact own_sl (hO _ (lk_mem hl)) hv (hi id (by simp [AV.owns1]))
      · cases h
    · cases h
  · cases h
theorem cStrs_ok {ids : List Nat} {x : AV} {l : List ByteArray} {v : Value} (hO : ∀ p ∈ hs, OR β F w p.1 p.2) (h : cStrs hs x = some l) (hv : VR β F w v x) (hi : ∀ id ∈ x.owns1, id ∈ ids) :
    VR β (FZ ids β F) w v (.sl (.s l)) := by
  unfold cStrs at h
  split at h
  · injection h with h; subst h; exact nils_sl hv.fz rfl trivial
  · injection h with h; subst h; exact hv.fz
  · rename_i id
    split at h
    · rename_i e xs hl
      injection h with h; subst h
      exact own_sl (hO _ (lk_mem hl)) hv (hi id (by simp [AV.owns1]))
    · cases h
  · cases h
theorem cVs_ok {ids : List Nat} {x : AV} {l : List VT} {v : Value} (hO : ∀ p ∈ hs, OR β F w p.1 p.2) (h : cVs hs x = some l) (hv : VR β F w v x) (hi : ∀ id ∈ x.owns1, id ∈ ids) :
    VR β (FZ ids β F) w v (.sl (.v l)) := by
  unfold cVs at h
  split at h
  · injection h with h; subst h; exact nils_sl hv.fz rfl trivial
  · injection h with h; subst h; exact hv.fz
  · rename_i id
    split at h
    · rename_i e xs hl
      injection h with h; subst h
      exact own_sl (hO _ (lk_mem hl)) hv (hi id (by simp [AV.owns1]))
    · cases h
  · cases h
theorem cRs_ok {ids : List Nat} {sh : List CK} {x : AV} {l : List (List AV)} {v : Value} (hO : ∀ p ∈ hs, OR β F w p.1 p.2) (h : cRs hs sh x = some l) (hv : VR β F w v x) (hi : ∀ id ∈ x.owns1, id ∈ ids) :
    VR β (FZ ids β F) w v (.sl (.r sh l)) := by
  unfold cRs at h
  split at h
  · split at h
    · cases h
    · rename_i hs0
      injection h with h; subst h
      exact nils_sl hv.fz rfl ⟨by cases sh with | nil => exact absurd rfl hs0 | cons a b => simp, by simp⟩
  · split at h
    · rename_i hd; injection h with h; subst h; rw [← of_decide_eq_true hd]; exact hv.fz
    · cases h
  · rename_i id
    split at h
    · rename_i e k' xs hl
      split at h
      · rename_i hd; injection h with h; subst h; rw [← of_decide_eq_true hd]
        exact own_sl (hO _ (lk_mem hl)) hv (hi id (by simp [AV.owns1]))
      · cases h
    · cases h
  · cases h
theorem cLS_ok {ids : List Nat} {k : LK} {x : AV} {c : LS} {v : Value} (hO : ∀ p ∈ hs, OR β F w p.1 p.2) (h : cLS hs k x = some c) (hv : VR β F w v x) (hi : ∀ id ∈ x.owns1, id ∈ ids) :
    VR β (FZ ids β F) w v (.sl c) := by
  unfold cLS at h
  split at h <;> split at h <;> first | (cases h; done) | (rename_i he; injection h with h; subst h)
  · exact cInts_ok hO he hv hi
  · exact cStrs_ok hO he hv hi
  · exact cVs_ok hO he hv hi
  · exact cRs_ok hO he hv hi
theorem asV_ok {ids : List Nat} {x : AV} {z : VT} {v : Value} (hO : ∀ p ∈ hs, OR β F w p.1 p.2) (h : asV hs x = some z) (hv : VR β F w v x) (hi : ∀ id ∈ x.owns, id ∈ ids) :
    VR β (FZ ids β F) w v (.agg z.cells) := by
  unfold asV at h
  split at h
  · rename_i t n s l
    split at h
    · rename_i n' s' l' h1 h2 h3
      injection h with h
      subst h
      have hi' : ∀ y ∈ [AV.int .i64 t, n, s, l], ∀ id ∈ y.owns1, id ∈ ids := fun y hy id hid => hi id (by simp only [AV.owns, List.mem_flatMap]; exact ⟨y, hy, hid⟩)
      cases hv with
      | agg cs _ hs1 h1' hv =>
        refine .agg cs _ hs1 (by simp [VT.cells, VT.t, VT.n, VT.s, VT.l, AV.one]) (fun j u y hu hy => ?_)
        match j, hy with
        | 0, hy => simp [VT.cells, VT.t] at hy; subst hy; exact (hv 0 u _ hu rfl).fz
        | 1, hy => simp [VT.cells, VT.n] at hy; subst hy; exact cInts_ok hO h1 (hv 1 u _ hu rfl) (hi' n (by simp))
        | 2, hy => simp [VT.cells, VT.s] at hy; subst hy; exact cStrs_ok hO h2 (hv 2 u _ hu rfl) (hi' s (by simp))
        | 3, hy => simp [VT.cells, VT.l] at hy; subst hy; exact cVs_ok hO h3 (hv 3 u _ hu rfl) (hi' l (by simp))
    · cases h
  · cases h
end
end Go.Qv
