/- The operations, fourth part: literals of structs and of slices. -/
import Derived.Test.YtmeagbopnliddaaGreatQGM
set_option linter.unusedVariables false
set_option linter.unusedSimpArgs false
namespace Go.Qv
open Go.RowKit
section
variable {P : Program} {tb : Tb} {hs : List (Nat × HObj)} {nx : Nat} {β : Nat → Option Value} {F : Nat → Prop} {w : World}

/-- Cells in a row hold a list. -/
def RowR (β : Nat → Option Value) (F : Nat → Prop) (w : World) (us : List Value) (c : LS) : Prop :=
  us.length = c.len * c.sz ∧ c.ok ∧ ∀ (i : Nat) (el : List AV) (j : Nat) (x : AV), c.elems[i]? = some el → el[j]? = some x → ∃ u, us[i * c.sz + j]? = some u ∧ VR β F w u x
theorem RowR.nil {k : LK} (hk : k.good = true) : RowR β F w [] k.nil := by
  refine ⟨by cases k <;> simp [LK.nil, LS.len], ?_, fun i el j x he => ?_⟩
  · cases k with
    | r sh => exact ⟨by cases sh <;> first | (simp [LK.good] at hk; done) | simp, by simp⟩
    | _ => exact trivial
  · cases k <;> simp [LK.nil, LS.elems] at he
theorem RowR.snoc {us vs : List Value} {c c' : LS} {el : List AV} (h : RowR β F w us c) (he : c'.elems = c.elems ++ [el]) (hz : c'.sz = c.sz) (hk : c'.ok) (hl : vs.length = c.sz)
    (hv : ∀ (j : Nat) (x : AV), el[j]? = some x → ∃ u, vs[j]? = some u ∧ VR β F w u x) : RowR β F w (us ++ vs) c' := by
  have hlen : c'.len = c.len + 1 := by rw [← LS.elems_len, he, List.length_append, LS.elems_len]; rfl
  refine ⟨by rw [List.length_append, h.1, hl, hz, hlen, Nat.succ_mul], hk, fun i el' j x he' hx => ?_⟩
  rw [he] at he'
  have hel : el'.length = c.sz := by
    rw [← hz]; exact LS.el_len hk _ (by rw [he]; exact List.mem_of_getElem? he')
  have hj : j < c.sz := by rw [← hel]; exact (List.getElem?_eq_some_iff.1 hx).1
  rw [hz]
  rcases Nat.lt_or_ge i c.elems.length with hi | hi
  · rw [List.getElem?_append_left hi] at he'
    obtain ⟨u, h1, h2⟩ := h.2.2 i el' j x he' hx
    rw [LS.elems_len] at hi
    have : i * c.sz + c.sz ≤ c.len * c.sz := by rw [← Nat.succ_mul]; exact Nat.mul_le_mul_right _ hi
    exact ⟨u, by rw [List.getElem?_append_left (by rw [h.1]; omega)]; exact h1, h2⟩
  · rw [List.getElem?_append_right hi] at he'
    have h0 : i - c.elems.length = 0 := by
      have := (List.getElem?_eq_some_iff.1 he').1
      simpa using this
    rw [h0] at he'
    simp at he'
    subst he'
    have hi' : i = c.len := by rw [← LS.elems_len]; omega
    obtain ⟨u, h1, h2⟩ := hv j x hx
    refine ⟨u, ?_, h2⟩
    rw [List.getElem?_append_right (by rw [h.1, hi']; omega), h.1, hi']
    rw [show c.len * c.sz + j - c.len * c.sz = j by omega]
    exact h1

def ckOk : CK → AV → Prop
  | .int k, .int k' _ => k' = k
  | .bool, .bool _ => True
  | .str, .str _ => True
  | .ints k, .sl (.i k' _) => k' = k
  | .strs, .sl (.s _) => True
  | .vs, .sl (.v _) => True
  | .any, y => y.one = true
  | _, _ => False
theorem ckOk_at {ck : CK} {y : AV} {r : List AV} {j : Nat} (h : ckOk ck y) (hr : r[j]? = some y) : ck.at r j = y := by
  by_cases hany : ck = .any
  · subst hany
    have h1 : y.one = true := by cases y <;> exact h
    simp [CK.at, rAny, hr, h1]
  cases ck <;> first | (exact absurd rfl hany) | skip
  all_goals cases y <;> simp only [ckOk] at h <;> first | (exact h.elim) | skip
  · subst h; simp [CK.at, rInt, hr]
  · simp [CK.at, rBool, hr]
  · simp [CK.at, rStr, hr]
  · rename_i c; cases c <;> simp only [ckOk] at h <;> first | exact h.elim | skip
    subst h; simp [CK.at, rInts, hr]
  · rename_i c; cases c <;> simp only [ckOk] at h <;> first | exact h.elim | skip
    simp [CK.at, rStrs, hr]
  · rename_i c; cases c <;> simp only [ckOk] at h <;> first | exact h.elim | skip
    simp [CK.at, rVs, hr]
theorem asCell_ok {ids : List Nat} {ck : CK} {x y : AV} {v : Value} (hO : ∀ p ∈ hs, OR β F w p.1 p.2) (h : asCell hs ck x = some y) (hv : VR β F w v x) (hi : ∀ id ∈ x.owns1, id ∈ ids) :
    ckOk ck y ∧ VR β (FZ ids β F) w v y := by
  unfold asCell at h
  split at h
  · split at h
    · rename_i hd; injection h with h; subst h; exact ⟨(of_decide_eq_true hd).symm, hv.fz⟩
    · cases h
  · injection h with h; subst h; exact ⟨trivial, hv.fz⟩
  · injection h with h; subst h; exact ⟨trivial, hv.fz⟩
  · split at h
    · rename_i he; injection h with h; subst h; exact ⟨rfl, cInts_ok hO he hv hi⟩
    · cases h
  · split at h
    · rename_i he; injection h with h; subst h; exact ⟨trivial, cStrs_ok hO he hv hi⟩
    · cases h
  · split at h
    · rename_i he; injection h with h; subst h; exact ⟨trivial, cVs_ok hO he hv hi⟩
    · cases h
  · split at h
    · rename_i h1 h2
      injection h with h; subst h
      refine ⟨?_, hv.fz⟩
      cases x <;> exact h1
    · cases h
  · cases h
theorem asRec_len : ∀ {sh : List CK} {xs ys : List AV}, asRec hs sh xs = some ys → ys.length = sh.length ∧ xs.length = sh.length
  | [], [], ys, h => by simp [asRec] at h; subst h; exact ⟨rfl, rfl⟩
  | [], _ :: _, ys, h => by simp [asRec] at h
  | _ :: _, [], ys, h => by simp [asRec] at h
  | ck :: sh, x :: xs, ys, h => by
    simp only [asRec] at h
    split at h
    · rename_i y ys' h1 h2; injection h with h; subst h; have := asRec_len h2; simp [this]
    · cases h
theorem asRec_at : ∀ {sh : List CK} {xs ys : List AV}, asRec hs sh xs = some ys → ∀ (j : Nat) (ck : CK) (x y : AV), sh[j]? = some ck → xs[j]? = some x → ys[j]? = some y → asCell hs ck x = some y
  | [], [], ys, h, j, ck, x, y, h1, _, _ => by simp at h1
  | [], _ :: _, ys, h, _, _, _, _, _, _, _ => by simp [asRec] at h
  | _ :: _, [], ys, h, _, _, _, _, _, _, _ => by simp [asRec] at h
  | ck :: sh, x :: xs, ys, h, j, ck', x', y', h1, h2, h3 => by
    simp only [asRec] at h
    split at h
    · rename_i y ys' e1 e2
      injection h with h
      subst h
      match j, h1, h2, h3 with
      | 0, h1, h2, h3 => simp at h1 h2 h3; subst h1; subst h2; subst h3; exact e1
      | j + 1, h1, h2, h3 => simp at h1 h2 h3; exact asRec_at e2 j ck' x' y' h1 h2 h3
    · cases h
theorem shapeFrom_self {ys : List AV} : ∀ {sh : List CK} {k : Nat} {zs : List AV}, zs.length = sh.length → (∀ (j : Nat) (ck : CK) (y : AV), sh[j]? = some ck → zs[j]? = some y → ckOk ck y) →
    (∀ j, j < zs.length → ys[k + j]? = zs[j]?) → shapeFrom ys k sh = zs
  | [], k, [], _, _, _ => rfl
  | [], k, _ :: _, h, _, _ => by simp at h
  | _ :: _, k, [], h, _, _ => by simp at h
  | ck :: sh, k, z :: zs, hl, h1, h2 => by
    simp only [shapeFrom]
    rw [ckOk_at (h1 0 ck z rfl rfl) (by have := h2 0 (by simp); simpa using this), shapeFrom_self (by simpa using hl) (fun j ck' y a b => h1 (j + 1) ck' y a b) (fun j hj => by
      have := h2 (j + 1) (by simp; omega); rw [show k + 1 + j = k + (j + 1) by omega, this]; rfl)]

theorem asEl_ok {ids : List Nat} {us : List Value} {c c' : LS} {x : AV} {v : Value} (hO : ∀ p ∈ hs, OR β F w p.1 p.2) (hr : RowR β (FZ ids β F) w us c) (h : asEl hs c x = some c') (hv : VR β F w v x) (hi : ∀ id ∈ x.owns, id ∈ ids) :
    RowR β (FZ ids β F) w (us ++ v.cells.toList) c' ∧ v.cells.size = c.sz ∧ c'.sz = c.sz ∧ ∀ u ∈ v.cells.toList, u.oneCell' = true := by
  unfold asEl at h
  split at h
  · rename_i k xs k' n
    split at h
    · rename_i hd
      injection h with h
      subst h
      have := of_decide_eq_true hd
      subst this
      cases hv
      refine ⟨hr.snoc (el := [.int k' n]) (by simp [LS.elems]) rfl trivial rfl (fun j x hx => ?_), rfl, rfl, by simp [Value.cells, Value.oneCell']⟩
      match j, hx with
      | 0, hx => simp at hx; subst hx; exact ⟨_, rfl, .int _ _⟩
    · cases h
  · rename_i xs n
    injection h with h
    subst h
    cases hv
    refine ⟨hr.snoc (el := [.str n]) (by simp [LS.elems]) rfl trivial rfl (fun j x hx => ?_), rfl, rfl, by simp [Value.cells, Value.oneCell']⟩
    match j, hx with
    | 0, hx => simp at hx; subst hx; exact ⟨_, rfl, .str _⟩
  · split at h
    · rename_i n hn
      injection h with h
      subst h
      have h1 := asV_ok hO hn hv hi
      obtain ⟨h2, h3, h4⟩ := h1.cells (by simp [cellsOf, VT.cells])
      refine ⟨hr.snoc (el := n.cells) (by simp [LS.elems]) rfl trivial (by rw [Array.length_toList, h2]; rfl) (fun j x hx => ?_), by rw [h2]; rfl, rfl, h3⟩
      obtain ⟨_, u, h5, h6⟩ := h4 j x hx
      exact ⟨u, by simpa using h5, h6⟩
    · cases h
  · rename_i sh xs cs
    split at h
    · rename_i n hn
      injection h with h
      subst h
      have hl := asRec_len hn
      cases hv with
      | agg cs' _ hs1 h1' hv =>
        have hat : ∀ (j : Nat) (ck : CK) (y : AV), sh[j]? = some ck → n[j]? = some y → ∃ u, cs'[j]? = some u ∧ ckOk ck y ∧ VR β (FZ ids β F) w u y := by
          intro j ck y hck hy
          have hj : j < sh.length := (List.getElem?_eq_some_iff.1 hck).1
          have hc : cs[j]? = some (cs[j]'(by omega)) := List.getElem?_eq_getElem (by omega)
          have hc' : cs'[j]? = some (cs'[j]'(by omega)) := Array.getElem?_eq_getElem (by omega)
          have := asCell_ok (ids := ids) hO (asRec_at hn j ck _ y hck hc hy) (hv j _ _ hc' hc) (fun id hid => hi id (by simp only [AV.owns, List.mem_flatMap]; exact ⟨_, List.getElem_mem _, hid⟩))
          exact ⟨_, hc', this.1, this.2⟩
        have hsh : shapeFrom n 0 sh = n := shapeFrom_self hl.1 (fun j ck y a b => (hat j ck y a b).choose_spec.2.1) (fun j hj => by rw [Nat.zero_add])
        refine ⟨hr.snoc (el := n) (by simp [LS.elems]) rfl ⟨hr.2.1.1, fun e he => ?_⟩ (by rw [Array.length_toList]; show cs'.size = sh.length; omega) (fun j x hx => ?_), by show cs'.size = sh.length; omega, rfl, ?_⟩
        · rcases List.mem_append.1 he with he | he
          · exact hr.2.1.2 e he
          · simp at he; subst he; exact hsh.symm
        · have hj : j < sh.length := by rw [← hl.1]; exact (List.getElem?_eq_some_iff.1 hx).1
          obtain ⟨u, h5, _, h6⟩ := hat j _ x (List.getElem?_eq_getElem hj) hx
          exact ⟨u, by simpa [Value.cells] using h5, h6⟩
        · exact (VR.cells (.agg cs' cs hs1 h1' hv) (by show 0 < cs.length; have := hr.2.1.1; omega)).2.1
    · cases h
  · rename_i ck xs hna
    split at h
    · rename_i y hy
      injection h with h
      subst h
      obtain ⟨k1, k2⟩ := asCell_ok (ids := ids) hO hy hv (fun id hid => hi id (by
        cases x <;> first | exact hid | skip
        rename_i l; exact absurd rfl (hna l)))
      have hone : x.one = true := by
        cases x <;> first | rfl | skip
        · rename_i l; exact absurd rfl (hna l)
        · cases ck <;> simp [asCell, cInts, cStrs, cVs, AV.one] at hy
      have hcl : cellsOf x = [x] := by
        cases x <;> first | rfl | (simp [AV.one] at hone; done) | skip
      obtain ⟨m1, m2, m3⟩ := hv.cells (by rw [hcl]; simp)
      rw [hcl] at m1 m3
      obtain ⟨_, u, m4, m5⟩ := m3 0 x rfl
      have huv : u = v := by
        have hvc : v.cells = #[v] := by
          have := hv.one hone
          cases v <;> first | rfl | (simp [Value.oneCell'] at this; done)
        rw [hvc] at m4
        simpa using m4.symm
      subst huv
      refine ⟨hr.snoc (el := [y]) (by simp [LS.elems]) rfl ⟨by simp, fun e he => ?_⟩ (by simpa [LS.sz] using m1) (fun j z hz => ?_), by simpa [LS.sz] using m1, rfl, m2⟩
      · rcases List.mem_append.1 he with he | he
        · exact hr.2.1.2 e he
        · simp at he; subst he
          show [y] = [ck.at [y] 0]
          rw [ckOk_at k1 (by rfl)]
      · match j, hz with
        | 0, hz => simp at hz; subst hz; exact ⟨u, by rw [← Array.getElem?_toList] at m4; exact m4, k2⟩
    · cases h
  · cases h
theorem asListFrom_ok {ids : List Nat} (hO : ∀ p ∈ hs, OR β F w p.1 p.2) : ∀ {xs : List AV} {vs : List Value} {us : List Value} {c c' : LS}, RowR β (FZ ids β F) w us c → asListFrom hs c xs = some c' →
    vs.length = xs.length → (∀ (j : Nat) (v : Value) (x : AV), vs[j]? = some v → xs[j]? = some x → VR β F w v x) → (∀ x ∈ xs, ∀ id ∈ x.owns, id ∈ ids) →
    RowR β (FZ ids β F) w (us ++ vs.flatMap fun v => v.cells.toList) c' ∧ c'.sz = c.sz ∧ ∀ v ∈ vs, v.cells.size = c.sz ∧ ∀ u ∈ v.cells.toList, u.oneCell' = true
  | [], [], us, c, c', hr, h, _, _, _ => by simp [asListFrom] at h; subst h; exact ⟨by simpa using hr, rfl, by simp⟩
  | [], _ :: _, _, _, _, _, _, hl, _, _ => by simp at hl
  | _ :: _, [], _, _, _, _, _, hl, _, _ => by simp at hl
  | x :: xs, v :: vs, us, c, c', hr, h, hl, hv, hi => by
    simp only [asListFrom] at h
    split at h
    · rename_i c1 h1
      obtain ⟨h2, h3, h4, h5⟩ := asEl_ok hO hr h1 (hv 0 v x rfl rfl) (hi x (by simp))
      obtain ⟨h6, h7, h8⟩ := asListFrom_ok hO (vs := vs) h2 h (by simpa using hl) (fun j v' x' a b => hv (j + 1) v' x' a b) (fun x' hx' => hi x' (by simp [hx']))
      refine ⟨by simpa using h6, h7.trans h4, fun v' hv' => ?_⟩
      rcases List.mem_cons.1 hv' with rfl | hv'
      · exact ⟨h3, h5⟩
      · rw [← h4]; exact h8 v' hv'
    · cases h
/-! ### fill -/
theorem fold_put : ∀ (vs : List Value) (k off : Nat) (cs : Array Value), off + k + vs.length ≤ cs.size →
    ((vs.zipIdx k).foldl (fun cs (x : Value × Nat) => cs.setIfInBounds (off + x.2) x.1) cs).toList = cs.toList.take (off + k) ++ vs ++ cs.toList.drop (off + k + vs.length)
  | [], k, off, cs, _ => by simp
  | v :: vs, k, off, cs, h => by
    simp only [List.zipIdx_cons, List.foldl_cons]
    rw [fold_put vs (k + 1) off _ (by simp at h ⊢; omega)]
    have := list_seg_step cs.toList (off + k) v vs (by simp at h ⊢; omega)
    simpa [Array.toList_setIfInBounds, Nat.add_assoc] using this
theorem fold_put_arr (vs cs : Array Value) (off : Nat) (h : off + vs.size ≤ cs.size) :
    (vs.zipIdx.foldl (fun cs (x : Value × Nat) => cs.setIfInBounds (off + x.2) x.1) cs).toList = cs.toList.take off ++ vs.toList ++ cs.toList.drop (off + vs.size) := by
  rw [← Array.foldl_toList, Array.toList_zipIdx]
  have := fold_put vs.toList 0 off cs (by simpa using h)
  simpa using this
/-- The parts of a slice's literal, one behind the other. -/
theorem fill_slice (sz : Nat) : ∀ (vs : List Value) (k : Nat) (cs : Array Value), (∀ v ∈ vs, v.cells.size = sz) → (k + vs.length) * sz ≤ cs.size →
    ∃ r : Array Value, Instr.fill (fun i => some (i * sz, sz)) cs ((List.range' k vs.length).zip vs) = some r ∧
      r.toList = cs.toList.take (k * sz) ++ (vs.flatMap fun v => v.cells.toList) ++ cs.toList.drop ((k + vs.length) * sz)
  | [], k, cs, _, _ => ⟨cs, by simp [Instr.fill], by simp⟩
  | v :: vs, k, cs, h, hs => by
    have hv := h v (by simp)
    have hk : k * sz + sz ≤ cs.size := by
      have : (k + 1) * sz ≤ (k + (vs.length + 1)) * sz := Nat.mul_le_mul_right _ (by omega)
      rw [Nat.succ_mul] at this
      simp at hs
      omega
    simp only [List.length_cons, List.range'_succ, List.zip_cons_cons, Instr.fill]
    rw [if_neg (by rw [hv]; simp; omega)]
    have hf := fold_put_arr v.cells cs (k * sz) (by omega)
    obtain ⟨r, h1, h2⟩ := fill_slice sz vs (k + 1) (v.cells.zipIdx.foldl (fun cs (x : Value × Nat) => cs.setIfInBounds (k * sz + x.2) x.1) cs) (fun v' hv' => h v' (by simp [hv'])) (by
      have : (v.cells.zipIdx.foldl (fun cs (x : Value × Nat) => cs.setIfInBounds (k * sz + x.2) x.1) cs).size = cs.size := by
        rw [← Array.length_toList, hf]; simp; omega
      rw [this]; simp at hs; rw [show k + 1 + vs.length = k + (vs.length + 1) by omega]; exact hs)
    refine ⟨r, h1, ?_⟩
    have hl1 : (cs.toList.take (k * sz) ++ v.cells.toList).length = (k + 1) * sz := by simp [hv, Nat.succ_mul]; omega
    have e1 : (k + 1 + vs.length) * sz = (k + (vs.length + 1)) * sz := by rw [show k + 1 + vs.length = k + (vs.length + 1) by omega]
    rw [h2, hf, hv, List.take_append_of_le_length (by omega), List.take_of_length_le (by omega), e1]
    have e2 : (cs.toList.take (k * sz) ++ v.cells.toList ++ cs.toList.drop (k * sz + sz)).drop ((k + (vs.length + 1)) * sz) = cs.toList.drop ((k + (vs.length + 1)) * sz) := by
      have hge : (k + 1) * sz ≤ (k + (vs.length + 1)) * sz := Nat.mul_le_mul_right _ (by omega)
      rw [List.drop_append, hl1, List.drop_eq_nil_of_le (by omega), List.nil_append, List.drop_drop]
      congr 1
      rw [Nat.succ_mul] at hge ⊢
      omega
    rw [e2]
    simp [List.append_assoc]
theorem Post.arr (hp : Pre hs nx β F w) {e : TypeId} {c : LS} {v' : Value} {cvs : List Value} {w' : World} {hw : List (Nat × Option HObj)} {frz : List Nat} {row : Option Nat}
    (hhw : ∀ p ∈ hw, p.2 = none ∧ ∃ ob, (p.1, ob) ∈ hs) (hfz : ∀ id ∈ frz, (id, none) ∈ hw) (hs' : ∃ A n c, v' = .slice A n c)
    (ho : w'.ownsRow 0 e c.sz v' c.len cvs) (hr : RowR β (FZ frz β F) w cvs c) (hg : w.grownBy w' row)
    (hrow : ∀ b, row = some b → ¬ FZ frz β F b ∧ ∃ id y, (id, none) ∈ hw ∧ β id = some y ∧ blkOf y = some b)
    (hb : ∀ b, blkOf v' = some b → ¬ FZ frz β F b ∧ (w.heap.size ≤ b ∨ row = some b)) :
    Post hs nx ⟨.own nx, hw, frz, [.arr e c]⟩ β F w v' (βset β nx v') (FZ frz β F) w' := by
  have hlt : ∀ b, FZ frz β F b → b < w.heap.size := by
    rintro b (h | ⟨id, hid, y, h1, h2⟩)
    · exact hp.hF b h
    · obtain ⟨_, ob, hob⟩ := hhw _ (hfz id hid)
      exact (hp.hh _ hob).1.lt h1 h2
  have hkeep : ∀ b, FZ frz β F b → w'.heap[b]? = w.heap[b]? := fun b h => hg.block b (hlt b h) (fun e => (hrow b e.symm).1 h)
  have hext := βset_ext hp.hn v'
  constructor
  · exact .own _ _ (βset_self _ _ _) hs'
  · exact hext
  · intro id x hx
    unfold βset at hx
    split at hx
    · rename_i e; subst e; exact .inr ⟨Nat.le_refl _, by simp⟩
    · exact .inl hx
  · exact FZ.ext
  · exact fun b h => Nat.lt_of_lt_of_le (hlt b h) hg.size
  · rintro b (h | ⟨id, hid, y, h1, h2⟩)
    · exact .inl h
    · exact .inr (.inr ⟨id, hid, hfz id hid, y, h1, h2⟩)
  · intro id ob h
    have := (hhw _ h).1
    simp at this
  · intro j ob hj
    match j, hj with
    | 0, hj =>
      simp at hj
      subst hj
      refine ⟨v', cvs, βset_self _ _ _, ho, hr.2.1, fun i el j x he hx => ?_⟩
      obtain ⟨u, h1, h2⟩ := hr.2.2 i el j x he hx
      exact ⟨u, h1, h2.mono hext (fun _ h => h) hkeep⟩
  · intro j x b hj hx hbx
    have : j = 0 := by simpa using hj
    subst this
    rw [Nat.add_zero, βset_self] at hx
    injection hx with hx
    subst hx
    refine ⟨(hb b hbx).1, ?_⟩
    rcases (hb b hbx).2 with h | h
    · exact .inl h
    · obtain ⟨_, id, y, h1, h2, h3⟩ := hrow b h
      exact .inr ⟨id, h1, y, h2, h3⟩
  · intro j k x y b hj hk hne
    have : j = 0 := by simpa using hj
    have : k = 0 := by simpa using hk
    omega
  · exact fun p h => (hhw p h).2
  · intro id ob h
    have := (hhw _ h).1
    simp at this
  · intro b hb' hne
    refine hg.block b hb' (fun e => ?_)
    obtain ⟨_, id, y, h1, h2, h3⟩ := hrow b e.symm
    exact hne _ h1 y h2 h3
  · exact hg.os
  · exact hg.tape
  · exact hg.output
  · exact hg.size

theorem flat_length (sz : Nat) : ∀ (vs : List Value), (∀ v ∈ vs, v.cells.size = sz) → (vs.flatMap fun v => v.cells.toList).length = vs.length * sz
  | [], _ => by simp
  | v :: vs, h => by simp [flat_length sz vs (fun v' hv' => h v' (by simp [hv'])), h v (by simp), Nat.succ_mul]; omega
theorem zip_range (f : Nat × Operand → Nat × Value) (ps : List (Nat × Operand)) (n : Nat) (h : ps.map (·.1) = List.range n) (hf : ∀ p, (f p).1 = p.1) : ps.map f = (List.range' 0 (ps.map fun p => (f p).2).length).zip (ps.map fun p => (f p).2) := by
  have hl : ps.length = n := by have := congrArg List.length h; simpa using this
  apply List.ext_getElem?
  intro j
  simp only [List.getElem?_map, List.length_map]
  rw [← List.range_eq_range', hl]
  by_cases hj : j < n
  · have hj' : j < ps.length := by omega
    have h1 : ps[j].1 = j := by
      have := congrArg (fun l => l[j]?) h
      simp [hj, hj'] at this
      exact this
    have hz : j < ((List.range n).zip (ps.map fun p => (f p).2)).length := by simp; omega
    rw [List.getElem?_eq_getElem hz, List.getElem?_eq_getElem hj']
    simp only [Option.map_some, List.getElem_zip, List.getElem_range, List.getElem_map]
    congr 1
    exact Prod.ext (by rw [hf, h1]) rfl
  · rw [List.getElem?_eq_none (by omega)]
    simp
    omega
theorem gone_mem {ids : List Nat} {p : Nat × Option HObj} (h : p ∈ gone ids) : p.2 = none ∧ p.1 ∈ ids := by
  simp only [gone, List.mem_map] at h
  obtain ⟨i, hi, rfl⟩ := h
  exact ⟨rfl, hi⟩
theorem buildSlice_row {t e : TypeId} {k : LK} {d dt : TyD} {n : Nat} {ps : Array (Nat × Operand)} {ρ : Operand → Value} {c : LS} {frz : List Nat} (hp : Pre hs nx β F w) (htt : tyOk P t dt = true) (hkt : dt.kd = .slice e k) (hte : tyOk P e d = true)
    (h1 : RowR β (FZ frz β F) w ((ps.toList.map fun p => ρ p.2).flatMap fun v => v.cells.toList) c) (hcs : ∀ v ∈ (ps.toList.map fun p => ρ p.2), v.cells.size = d.size) (hidx : ps.toList.map (·.1) = List.range n) (hpl : ps.toList.length = n) (hsz : d.size = c.sz) (h24 : n * d.size ≤ 16777216)
    (hids : ∀ id ∈ frz, ∃ ob, (id, ob) ∈ hs) :
    ∃ w' v', (Instr.buildSlice t n (ps.map fun (i, x) => (i, ρ x))).run P w = .ok v' w' ∧ Post hs nx ⟨.own nx, gone frz, frz, [.arr e c]⟩ β F w v' (βset β nx v') (FZ frz β F) w' := by
  obtain ⟨i, u, z, hi, hu, hs1, hb1, hs0, hb0, hk, hz, hzz, hzl⟩ := tyOk_parts hte
  have hkt' := kdIs htt
  rw [hkt] at hkt'
  simp only [KdIs] at hkt'
  have hcl : c.len = n := by
    have e1 := h1.1
    rw [flat_length d.size _ hcs, ← hsz] at e1
    have := Nat.eq_of_mul_eq_mul_right hs0 e1
    rw [List.length_map] at this
    omega
  obtain ⟨zero, hz1, hz2⟩ : ∃ zero : Array Value, (n * d.size = 0 → zero = #[]) ∧ (n * d.size ≠ 0 → zero = z.cells) := by
    by_cases h0 : n * d.size = 0
    · exact ⟨#[], fun _ => rfl, fun h => absurd h0 h⟩
    · exact ⟨z.cells, fun h => absurd h h0, fun _ => rfl⟩
  obtain ⟨r, hf1, hf2⟩ := fill_slice d.size (ps.toList.map fun p => ρ p.2) 0 ((Array.range (n * d.size)).map (zero[· % zero.size]!)) hcs (by simp; rw [← hpl]; simp)
  have hzip : (ps.map fun (x : Nat × Operand) => (x.1, ρ x.2)).toList = (List.range' 0 (ps.toList.map fun p => ρ p.2).length).zip (ps.toList.map fun p => ρ p.2) := by
    rw [Array.toList_map]
    exact zip_range (fun p => (p.1, ρ p.2)) ps.toList n hidx (fun _ => rfl)
  have hr2 : r.toList = ps.toList.flatMap fun p => (ρ p.2).cells.toList := by
    rw [hf2]
    simp only [Nat.zero_mul, List.take_zero, List.nil_append, List.length_map, hpl, Nat.zero_add]
    rw [List.drop_eq_nil_of_le (by simp), List.append_nil]
    simp [List.flatMap_map]
  refine ⟨w.alloc (.cells r e), .slice (some ⟨w.heap.size, 0, none⟩) n n, ?_, ?_⟩
  · simp only [Instr.buildSlice, Sem.run_bind, run_underlying hkt', Result.andThen_ok, run_size hte]
    rw [if_neg (by omega)]
    have fin : (newRow e r).run P w = .ok ⟨w.heap.size, 0, none⟩ (w.alloc (.cells r e)) := by simp [newRow]
    by_cases h0 : n * d.size = 0
    · rw [if_pos h0]
      simp only [Sem.run_bind, Sem.run_pure, Result.andThen_ok]
      rw [← hz1 h0, hzip, hf1]
      simp only [Sem.run_bind, fin, Result.andThen_ok, Sem.run_pure]
    · rw [if_neg h0]
      have hzv : (zeroValue e).run P w = .ok z w := by simp [zeroValue, typeInfo, hi, hz]
      simp only [Sem.run_bind, Sem.run_pure, hzv, Result.andThen_ok]
      rw [← hz2 h0, hzip, hf1]
      simp only [Sem.run_bind, fin, Result.andThen_ok, Sem.run_pure]
  · refine Post.arr (row := none) (cvs := r.toList) hp (fun p hp' => ⟨(gone_mem hp').1, hids _ (gone_mem hp').2⟩) (fun id hid => by simp only [gone, List.mem_map]; exact ⟨id, hid, rfl⟩) ⟨_, _, _, rfl⟩ ?_ ?_ (World.grownBy_alloc w _ _) (by simp) (fun b hb => ?_)
    · refine ⟨by rw [hr2]; have := h1.1; simp only [List.flatMap_map] at this; exact this, .inr ⟨w.heap.size, n, r, by rw [hcl], Nat.zero_le _, heap_alloc_new w _, by omega, ?_, ?_, ?_⟩⟩
      · have : n ≤ n * d.size := Nat.le_mul_of_pos_right _ hs0
        unfold maxLen; omega
      · rw [← Array.length_toList, hr2]; have := h1.1; simp only [List.flatMap_map] at this; rw [this, hcl]
      · rw [List.take_of_length_le]; rw [hr2]; have := h1.1; simp only [List.flatMap_map] at this; omega
    · rw [hr2]; simpa only [List.flatMap_map] using h1
    · simp [blkOf] at hb
      subst hb
      refine ⟨?_, .inl (Nat.le_refl _)⟩
      rintro (h' | ⟨id, hid, y, h4, h5⟩)
      · have := hp.hF _ h'; omega
      · obtain ⟨ob, hob⟩ := hids id hid
        have := (hp.hh _ hob).1.lt h4 h5
        omega
theorem buildSlice_ok {t e : TypeId} {k k2 : LK} {d dt : TyD} {n : Nat} {ps : Array (Nat × Operand)} {ρ : Operand → Value} {xs : List AV} {c : LS} (hp : Pre hs nx β F w) (htt : tyOk P t dt = true) (hkt : dt.kd = .slice e k) (hte : tyOk P e d = true)
    (h : asList hs k2 xs = some c) (hn : xs.length = n) (hidx : ps.toList.map (·.1) = List.range n) (hsz : d.size = c.sz) (h24 : n * d.size ≤ 16777216)
    (hx : ∀ (j : Nat) (y : Nat × Operand) (x : AV), ps.toList[j]? = some y → xs[j]? = some x → VR β F w (ρ y.2) x) (hids : ∀ id ∈ xs.flatMap AV.owns, ∃ ob, (id, ob) ∈ hs) :
    ∃ w' v', (Instr.buildSlice t n (ps.map fun (i, x) => (i, ρ x))).run P w = .ok v' w' ∧ Post hs nx ⟨.own nx, gone (xs.flatMap AV.owns), xs.flatMap AV.owns, [.arr e c]⟩ β F w v' (βset β nx v') (FZ (xs.flatMap AV.owns) β F) w' := by
  obtain ⟨i, u, z, hi, hu, hs1, hb1, hs0, hb0, hk, hz, hzz, hzl⟩ := tyOk_parts hte
  have hkt' := kdIs htt
  rw [hkt] at hkt'
  simp only [KdIs] at hkt'
  unfold asList at h
  split at h
  · rename_i hgood
    have hpl : ps.toList.length = n := by have := congrArg List.length hidx; simpa using this
    obtain ⟨h1, h2, h3⟩ := asListFrom_ok (ids := xs.flatMap AV.owns) (vs := ps.toList.map fun p => ρ p.2) (fun p hp' => (hp.hh p hp').1) (RowR.nil hgood) h (by simp; rw [hn]; simpa using hpl) (fun j v x hv hx' => by
      simp only [List.getElem?_map] at hv
      obtain ⟨y, hy, rfl⟩ := Option.map_eq_some_iff.1 hv
      exact hx j y x hy hx') (fun x hx' id hid => List.mem_flatMap.2 ⟨x, hx', hid⟩)
    rw [List.nil_append] at h1
    have hcs : ∀ v ∈ (ps.toList.map fun p => ρ p.2), v.cells.size = d.size := fun v hv => by rw [(h3 v hv).1, hsz, h2]
    exact buildSlice_row hp htt hkt hte h1 hcs hidx hpl hsz h24 hids
  · cases h
theorem vr_cells1 {v : Value} {x : AV} (h : VR β F w v x) (hx : x.one = true) : v.cells = #[v] := by
  have h1 := h.one hx
  cases v <;> first | rfl | (simp [Value.oneCell'] at h1)
theorem anyRows {xs : List AV} {vs : List Value} (hl : xs.length = vs.length) (h1 : ∀ x ∈ xs, x.one = true) (hv : ∀ (j : Nat) (v : Value) (x : AV), vs[j]? = some v → xs[j]? = some x → VR β F w v x) :
    (∀ v ∈ vs, v.cells = #[v]) ∧ RowR β F w (vs.flatMap fun v => v.cells.toList) (.r [.any] (xs.map fun x => [x])) := by
  have hc : ∀ v ∈ vs, v.cells = #[v] := fun v hm => by
    obtain ⟨j, hj, rfl⟩ := List.getElem_of_mem hm
    exact vr_cells1 (hv j _ xs[j] (List.getElem?_eq_getElem hj) (List.getElem?_eq_getElem (by omega))) (h1 _ (List.getElem_mem _))
  have hf : ∀ {l : List Value}, (∀ v ∈ l, v.cells = #[v]) → (l.flatMap fun v => v.cells.toList) = l := by
    intro l
    induction l with
    | nil => intro _; rfl
    | cons a l ih => intro h; rw [List.flatMap_cons, h a List.mem_cons_self, ih (fun v hv => h v (List.mem_cons_of_mem _ hv))]; rfl
  refine ⟨hc, ?_⟩
  rw [hf hc]
  refine ⟨by simp [LS.len, LS.sz, hl], ⟨by simp, ?_⟩, fun i el j x he hx => ?_⟩
  · intro e he
    obtain ⟨x, hx, rfl⟩ := List.mem_map.1 he
    exact (shapeFrom_self (ys := [x]) (sh := [.any]) (k := 0) (zs := [x]) rfl (fun j ck y a b => by
      match j, a, b with
      | 0, a, b => simp at a b; subst a; subst b; exact h1 x hx
      | j + 1, a, b => simp at a) (fun j hj => by simp)).symm
  · simp only [LS.elems, List.getElem?_map, Option.map_eq_some_iff] at he
    obtain ⟨y, hy, rfl⟩ := he
    match j, hx with
    | 0, hx =>
      simp at hx
      subst hx
      have hi : i < vs.length := by have := (List.getElem?_eq_some_iff.1 hy).1; omega
      exact ⟨vs[i], by simp [LS.sz, List.getElem?_eq_getElem hi], hv i _ _ (List.getElem?_eq_getElem hi) hy⟩
    | j + 1, hx => simp at hx
/-! ### a struct's literal -/
/-- Cells and what they hold. -/
def CellsR (β : Nat → Option Value) (F : Nat → Prop) (w : World) (cs : Array Value) (l : List AV) : Prop :=
  cs.size = l.length ∧ ∀ (j : Nat) (x : AV), l[j]? = some x → x.one = true ∧ ∃ u, cs[j]? = some u ∧ VR β F w u x
theorem setParts_ok (place : Nat → Option (Nat × Nat)) {fs : List (Nat × Nat × Bool)} (hfs : ∀ (i off sz : Nat) (g : Bool), fs[i]? = some (off, sz, g) → place i = some (off, sz) ∧ 0 < sz) (sz0 : Nat)
    (hin : ∀ (i off sz : Nat) (g : Bool), fs[i]? = some (off, sz, g) → off + sz ≤ sz0) :
    ∀ {ps : List (Nat × AV)} {vs : List (Nat × Value)} {z l : List AV} {cs : Array Value}, CellsR β F w cs z → z.length = sz0 → setParts fs z ps = some l → vs.length = ps.length →
    (∀ (j : Nat) (v : Nat × Value) (x : Nat × AV), vs[j]? = some v → ps[j]? = some x → v.1 = x.1 ∧ VR β F w v.2 x.2) →
    ∃ r, Instr.fill place cs vs = some r ∧ CellsR β F w r l ∧ l.length = sz0
  | [], [], z, l, cs, hr, hz, h, _, _ => by simp [setParts] at h; subst h; exact ⟨cs, by simp [Instr.fill], hr, hz⟩
  | [], _ :: _, _, _, _, _, _, _, hl, _ => by simp at hl
  | _ :: _, [], _, _, _, _, _, _, hl, _ => by simp at hl
  | (i, x) :: ps, (i', v) :: vs, z, l, cs, hr, hz, h, hl, hv => by
    obtain ⟨h1, h2⟩ := hv 0 (i', v) (i, x) rfl rfl
    simp only at h1 h2
    subst h1
    simp only [setParts] at h
    split at h
    · rename_i off sz g hf
      split at h
      · rename_i hb
        have hb := Nat.eq_of_beq_eq_true hb
        obtain ⟨hp, hpos⟩ := hfs _ _ _ _ hf
        have hle := hin _ _ _ _ hf
        obtain ⟨c1, c2, c3⟩ := h2.cells (by omega)
        have hfold := fold_put_arr v.cells cs off (by rw [c1, hb, hr.1, hz]; exact hle)
        have hnew : CellsR β F w (v.cells.zipIdx.foldl (fun cs (x : Value × Nat) => cs.setIfInBounds (off + x.2) x.1) cs) (putCells z off (cellsOf x)) := by
          have hsize : (v.cells.zipIdx.foldl (fun cs (x : Value × Nat) => cs.setIfInBounds (off + x.2) x.1) cs).size = cs.size := by
            rw [← Array.length_toList, hfold]
            have := seg_length cs.toList v.cells.toList off (by simp; rw [c1, hb, hr.1, hz]; exact hle)
            simpa using this
          refine ⟨by rw [hsize, hr.1]; unfold putCells; rw [seg_length _ _ _ (by omega)], fun j y hy => ?_⟩
          unfold putCells at hy
          rw [seg_get _ _ _ _ (by omega)] at hy
          have hget : (v.cells.zipIdx.foldl (fun cs (x : Value × Nat) => cs.setIfInBounds (off + x.2) x.1) cs)[j]? = if j < off then cs[j]? else if j < off + v.cells.size then v.cells[j - off]? else cs[j]? := by
            rw [← Array.getElem?_toList, hfold]
            have := seg_get cs.toList v.cells.toList off j (by simp; rw [c1, hb, hr.1, hz]; exact hle)
            simpa using this
          rw [hget, c1]
          by_cases g1 : j < off
          · rw [if_pos g1] at hy ⊢; exact hr.2 j y hy
          · rw [if_neg g1] at hy ⊢
            by_cases g2 : j < off + (cellsOf x).length
            · rw [if_pos g2] at hy ⊢; exact c3 _ y hy
            · rw [if_neg g2] at hy ⊢; exact hr.2 j y hy
        obtain ⟨r, h3, h4, h5⟩ := setParts_ok place hfs sz0 hin (vs := vs) hnew (by unfold putCells; rw [seg_length _ _ _ (by omega)]; exact hz) h (by simpa using hl) (fun j v' x' a b => hv (j + 1) v' x' a b)
        refine ⟨r, ?_, h4, h5⟩
        simp only [Instr.fill, hp]
        rw [if_neg (by rw [c1, hb, hr.1, hz]; simp; omega)]
        exact h3
      · cases h
    · cases h
theorem zip_get {α γ : Type} (a : List α) (b : List γ) (j : Nat) (x : α × γ) (h : (a.zip b)[j]? = some x) : a[j]? = some x.1 ∧ b[j]? = some x.2 := by
  rw [List.getElem?_zip_eq_some] at h
  exact h
theorem build_ok {t : TypeId} {d : TyD} {ps : Array (Nat × Operand)} {ρ : Operand → Value} {xs l : List AV} (ht : tyOk P t d = true) (hkd : d.kd = .struct) (h : setParts d.fs d.zero ((ps.toList.map (·.1)).zip xs) = some l)
    (hl : xs.length = ps.size) (hx : ∀ (j : Nat) (y : Nat × Operand) (x : AV), ps.toList[j]? = some y → xs[j]? = some x → VR β F w (ρ y.2) x) :
    ∃ v, (Instr.build t (ps.map fun (i, x) => (i, ρ x))).run P w = .ok v w ∧ VR β F w v (.agg l) := by
  obtain ⟨i, u, z, hi, hu, hs1, hb1, hs0, hb0, hk, hz, hzz, hzl⟩ := tyOk_parts ht
  have hk' := kdIs ht
  rw [hkd] at hk'
  obtain ⟨fs, hfs⟩ := hk'
  rw [hu] at hfs
  injection hfs with hfs
  subst hfs
  simp only [kdOk, hkd, Bool.true_and, Bool.and_eq_true, Nat.beq_eq, List.all_eq_true] at hk
  obtain ⟨hflen, hfall⟩ := hk
  have hfield : ∀ (j off sz : Nat) (g : Bool), d.fs[j]? = some (off, sz, g) → ∃ f fi, fs[j]? = some f ∧ P.info? f.type = some fi ∧ f.offset = off ∧ fi.size = sz ∧ 0 < sz ∧ off + sz ≤ d.size := by
    intro j off sz g hj
    have := hfall ((off, sz, g), j) (by rw [List.mem_zipIdx_iff_getElem?]; exact hj)
    simp only at this
    split at this
    · rename_i f hf
      split at this
      · rename_i fi fu hfi hfu
        simp only [Bool.and_eq_true, Nat.beq_eq, Bool.not_eq_true', Nat.ble_eq] at this
        obtain ⟨⟨⟨⟨a1, a2⟩, a3⟩, a4⟩, a5⟩ := this
        refine ⟨f, fi, hf, hfi, a1, a2, ?_, a5⟩
        rw [← a2]
        cases hz0 : fi.size with
        | zero => rw [hz0] at a4; simp [Nat.beq] at a4
        | succ n => omega
      · simp at this
    · simp at this
  have hpl : fs.toList.mapM (fun f => (P.info? f.type).map fun i => (f.offset, i.size)) = some (d.fs.map fun x => (x.1, x.2.1)) := by
    have gen : ∀ (fl : List Field) (dl : List (Nat × Nat × Bool)), fl.length = dl.length → (∀ (j off sz : Nat) (g : Bool), dl[j]? = some (off, sz, g) → ∃ f fi, fl[j]? = some f ∧ P.info? f.type = some fi ∧ f.offset = off ∧ fi.size = sz) →
        fl.mapM (fun f => (P.info? f.type).map fun i => (f.offset, i.size)) = some (dl.map fun x => (x.1, x.2.1)) := by
      intro fl
      induction fl with
      | nil => intro dl h1 _; cases dl with | nil => rfl | cons a b => simp at h1
      | cons f fl ih =>
        intro dl h1 h2
        cases dl with
        | nil => simp at h1
        | cons x dl =>
          obtain ⟨f', fi, a1, a2, a3, a4⟩ := h2 0 x.1 x.2.1 x.2.2 rfl
          simp at a1
          subst a1
          have := ih dl (by simpa using h1) (fun j off sz g hj => h2 (j + 1) off sz g hj)
          simp [List.mapM_cons, a2, this, a3, a4]
    refine gen _ _ (by rw [Array.length_toList]; exact hflen.symm) (fun j off sz g hj => ?_)
    obtain ⟨f, fi, a1, a2, a3, a4, _⟩ := hfield j off sz g hj
    exact ⟨f, fi, by simpa using a1, a2, a3, a4⟩
  obtain ⟨r, h1, h2, _⟩ := setParts_ok (β := β) (F := F) (w := w) (fun i => (d.fs.map fun x => (x.1, x.2.1))[i]?) (fs := d.fs) (fun i off sz g hj => by
      obtain ⟨_, _, _, _, _, _, h, _⟩ := hfield i off sz g hj
      exact ⟨by simp [hj], h⟩) d.size (fun i off sz g hj => by obtain ⟨_, _, _, _, _, _, _, h⟩ := hfield i off sz g hj; exact h)
    (cs := z.cells) (vs := ps.toList.map fun p => (p.1, ρ p.2)) ⟨by have := zoks_len hzz; simpa using this, fun j x hx' => by
      have hj : j < z.cells.toList.length := by rw [zoks_len hzz]; exact (List.getElem?_eq_some_iff.1 hx').1
      have hzk := zoks_at hzz j _ x (List.getElem?_eq_getElem hj) hx'
      exact ⟨(zok_one hzk).1, _, by rw [← Array.getElem?_toList]; exact List.getElem?_eq_getElem hj, zok_vr hzk⟩⟩ hzl h (by simp [hl]) (fun j v x hv hx' => by
      obtain ⟨e1, e2⟩ := zip_get _ _ _ _ hx'
      simp only [List.getElem?_map] at hv e1
      obtain ⟨y, hy, rfl⟩ := Option.map_eq_some_iff.1 hv
      obtain ⟨y', hy', e3⟩ := Option.map_eq_some_iff.1 e1
      rw [hy] at hy'
      injection hy' with hy'
      subst hy'
      exact ⟨e3, hx j y _ hy e2⟩)
  refine ⟨.agg r, run_build w t _ r ?_, .agg _ _ h2.1 (fun x hx' => ?_) (fun j v x hv hx' => ?_)⟩
  · unfold Program.built
    simp only [hi, hu, hz]
    rw [show (ps.map fun (x : Nat × Operand) => (x.1, ρ x.2)).toList = ps.toList.map fun p => (p.1, ρ p.2) from Array.toList_map]
    rw [hpl]
    simp only [List.getElem?_toArray]
    exact h1
  · obtain ⟨j, hj, rfl⟩ := List.getElem_of_mem hx'
    exact (h2.2 j _ (List.getElem?_eq_getElem hj)).1
  · obtain ⟨_, u, a, b⟩ := h2.2 j x hx'
    rw [hv] at a
    injection a with a
    subst a
    exact b
theorem build_arr_ok {t e : TypeId} {n : Nat} {d de : TyD} {ps : Array (Nat × Operand)} {ρ : Operand → Value} {xs l : List AV} (ht : tyOk P t d = true) (hkd : d.kd = .array n e) (hte : tyOk P e de = true) (hb : n * de.size ≤ d.size)
    (h : setParts ((List.range n).map fun i => (i * de.size, de.size, de.kd.agg)) d.zero ((ps.toList.map (·.1)).zip xs) = some l)
    (hl : xs.length = ps.size) (hx : ∀ (j : Nat) (y : Nat × Operand) (x : AV), ps.toList[j]? = some y → xs[j]? = some x → VR β F w (ρ y.2) x) :
    ∃ v, (Instr.build t (ps.map fun (i, x) => (i, ρ x))).run P w = .ok v w ∧ VR β F w v (.agg l) := by
  obtain ⟨i, u, z, hi, hu, hs1, hb1, hs0, hb0, hk, hz, hzz, hzl⟩ := tyOk_parts ht
  obtain ⟨ie, ue, ze, hie, hue, hse, hbe, hs0e, _⟩ := tyOk_parts hte
  have hk' := kdIs ht
  rw [hkd] at hk'
  simp only [KdIs] at hk'
  have hat : ∀ (j off sz : Nat) (g : Bool), ((List.range n).map fun i => (i * de.size, de.size, de.kd.agg))[j]? = some (off, sz, g) → j < n ∧ off = j * de.size ∧ sz = de.size := fun j off sz g hj => by
    rw [List.getElem?_map] at hj
    obtain ⟨k, hk, e⟩ := Option.map_eq_some_iff.1 hj
    have hk1 := List.getElem?_eq_some_iff.1 hk
    obtain ⟨hlt, hk2⟩ := hk1
    simp at hlt hk2
    subst hk2
    injection e with e1 e2
    injection e2 with e2 e3
    exact ⟨hlt, e1.symm, e2.symm⟩
  obtain ⟨r, h1, h2, _⟩ := setParts_ok (β := β) (F := F) (w := w) (fun i => some (i * de.size, de.size)) (fs := (List.range n).map fun i => (i * de.size, de.size, de.kd.agg)) (fun i off sz g hj => by
      obtain ⟨_, rfl, rfl⟩ := hat i off sz g hj
      exact ⟨rfl, hs0e⟩) d.size (fun i off sz g hj => by
      obtain ⟨h1, rfl, rfl⟩ := hat i off sz g hj
      have : (i + 1) * de.size ≤ n * de.size := Nat.mul_le_mul_right _ h1
      rw [Nat.add_mul] at this; omega)
    (cs := z.cells) (vs := ps.toList.map fun p => (p.1, ρ p.2)) ⟨by have := zoks_len hzz; simpa using this, fun j x hx' => by
      have hj : j < z.cells.toList.length := by rw [zoks_len hzz]; exact (List.getElem?_eq_some_iff.1 hx').1
      have hzk := zoks_at hzz j _ x (List.getElem?_eq_getElem hj) hx'
      exact ⟨(zok_one hzk).1, _, by rw [← Array.getElem?_toList]; exact List.getElem?_eq_getElem hj, zok_vr hzk⟩⟩ hzl h (by simp [hl]) (fun j v x hv hx' => by
      obtain ⟨e1, e2⟩ := zip_get _ _ _ _ hx'
      simp only [List.getElem?_map] at hv e1
      obtain ⟨y, hy, rfl⟩ := Option.map_eq_some_iff.1 hv
      obtain ⟨y', hy', e3⟩ := Option.map_eq_some_iff.1 e1
      rw [hy] at hy'
      injection hy' with hy'
      subst hy'
      exact ⟨e3, hx j y _ hy e2⟩)
  refine ⟨.agg r, ?_, .agg _ _ h2.1 (fun x hx' => ?_) (fun j v x hv hx' => ?_)⟩
  · simp only [Instr.build, Sem.run_bind]
    have hzr : (zeroValue t).run P w = .ok z w := by simp [zeroValue, typeInfo, hi, hz]
    have hsr : (sizeOf e).run P w = .ok de.size w := by simp [sizeOf, typeInfo, hie, hse]
    have hpt : (ps.map fun (x : Nat × Operand) => (x.1, ρ x.2)).toList = ps.toList.map fun p => (p.1, ρ p.2) := Array.toList_map
    simp only [hzr, Result.andThen_ok, run_underlying hk', Sem.run_bind, hsr, hpt, h1, Sem.run_pure]
  · obtain ⟨j, hj, rfl⟩ := List.getElem_of_mem hx'
    exact (h2.2 j _ (List.getElem?_eq_getElem hj)).1
  · obtain ⟨_, u, a, b⟩ := h2.2 j x hx'
    rw [hv] at a
    injection a with a
    subst a
    exact b
end
end Go.Qv
