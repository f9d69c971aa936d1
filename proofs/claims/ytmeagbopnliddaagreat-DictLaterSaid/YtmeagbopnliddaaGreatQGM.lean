/- The operations, second part: memory that is read and written. -/
import Derived.Test.YtmeagbopnliddaaGreatQF
set_option linter.unusedVariables false
set_option linter.unusedSimpArgs false
namespace Go.Qv
open Go.RowKit
section
variable {P : Program} {tb : Tb} {hs : List (Nat × HObj)} {nx : Nat} {β : Nat → Option Value} {F : Nat → Prop} {w : World}

theorem kd_agg {t : TypeId} {d : TyD} {u : TypeDesc} (h : tyOk P t d = true) (hu : P.underlying t = some u) : TypeDesc.isAgg u = d.kd.agg := by
  have hk := kdIs h
  unfold KdIs at hk
  split at hk <;> rename_i hd <;> rw [hd]
  · rw [hu] at hk; injection hk with hk; subst hk; rfl
  · rw [hu] at hk; injection hk with hk; subst hk; rfl
  · rw [hu] at hk; injection hk with hk; subst hk; rfl
  · obtain ⟨_, _, _, hk⟩ := hk; rw [hu] at hk; injection hk with hk; subst hk; rfl
  · obtain ⟨_, hk⟩ := hk; rw [hu] at hk; injection hk with hk; subst hk; rfl
  · rw [hu] at hk; injection hk with hk; subst hk; rfl
  · obtain ⟨_, hk⟩ := hk; rw [hu] at hk; injection hk with hk; subst hk; rfl
  · rw [hu] at hk; injection hk with hk; subst hk; rfl
  · rw [hu] at hk; injection hk with hk; subst hk; rfl
  · rw [hu] at hk; injection hk with hk; subst hk; rfl
  · obtain ⟨_, hk, h2⟩ := hk; rw [hu] at hk; injection hk with hk; subst hk; exact h2
theorem run_isAgg {t : TypeId} {d : TyD} (h : tyOk P t d = true) (w : World) : (isAgg t).run P w = .ok d.kd.agg w := by
  obtain ⟨i, u, z, hi, hu, _⟩ := tyOk_parts h
  rw [← kd_agg h hu]
  unfold isAgg
  simp only [Sem.run_bind, run_underlying hu, Result.andThen_ok]
  cases u <;> rfl
theorem run_size {t : TypeId} {d : TyD} (h : tyOk P t d = true) (w : World) : (sizeOf t).run P w = .ok d.size w := by
  obtain ⟨i, u, z, hi, hu, hs, _⟩ := tyOk_parts h
  simp [sizeOf, typeInfo, hi, hs]
theorem mkAgg_some {g : Bool} {cs : List AV} {z : AV} (h : mkAgg g cs = some z) : (g = true ∧ z = .agg cs) ∨ (g = false ∧ cs = [z]) := by
  unfold mkAgg at h
  split at h
  · injection h with h; exact .inl ⟨rfl, h.symm⟩
  · split at h
    · injection h with h; subst h; exact .inr ⟨rfl, rfl⟩
    · cases h
theorem loadAt_ok {t : TypeId} {d : TyD} {b o : Nat} {cv : Nat → Value} {cs : List AV} {z : AV} (h : tyOk P t d = true) (hc : ∀ j, j < d.size → w.cell? ⟨b, o + j, none⟩ = some (cv j))
    (hl : cs.length = d.size) (h1 : ∀ x ∈ cs, x.one = true) (hv : ∀ (j : Nat) (x : AV), cs[j]? = some x → VR β F w (cv j) x) (hm : mkAgg d.kd.agg cs = some z) :
    ∃ r, (Instr.loadAt t (.pointer (some ⟨b, o, none⟩))).run P w = .ok r w ∧ VR β F w r z := by
  simp only [Instr.loadAt, Instr.sureAddr, Sem.run_bind, Sem.run_pure, Result.andThen_ok, loadVar, run_isAgg h]
  rcases mkAgg_some hm with ⟨hg, rfl⟩ | ⟨hg, rfl⟩
  · have hlc := run_loadCells (P := P) w ⟨b, o, none⟩ d.size cv (fun j hj => by rw [addr_add]; exact hc j hj)
    refine ⟨.agg ((List.range d.size).map cv).toArray, ?_, ?_⟩
    · simp [hg, Sem.run_bind, run_size h, hlc]
    · refine .agg _ _ (by simp [hl]) h1 (fun j v x hv' hx => ?_)
      simp only [List.getElem?_toArray, List.getElem?_map] at hv'
      obtain ⟨k, hk, rfl⟩ := Option.map_eq_some_iff.1 hv'
      have : k = j := by
        have := List.getElem?_eq_some_iff.1 hk
        obtain ⟨_, h⟩ := this
        simpa using h.symm
      subst this
      exact hv _ x hx
  · have hs : d.size = 1 := by simpa using hl.symm
    have h0 := hc 0 (by omega)
    refine ⟨cv 0, ?_, hv 0 z rfl⟩
    simp only [hg, Bool.false_eq_true, if_false]
    rw [Nat.add_zero] at h0
    rw [run_load, h0]

/-- A pointer into a variable. -/
theorem OR.cells_at {id : Nat} {l : List AV} (h : OR β F w id (.cells l)) {v : Value} {a : Nat} (hv : VR β F w v (.ptr id a)) :
    ∃ b o, v = .pointer (some ⟨b, o + a, none⟩) ∧ ∃ cv : Nat → Value, (∀ j, a + j < l.length → w.cell? ⟨b, o + a + j, none⟩ = some (cv j)) ∧
      (∀ (j : Nat) (x : AV), (l.drop a)[j]? = some x → x.one = true ∧ VR β F w (cv j) x) := by
  obtain ⟨b, o, cur, e, h1, h2, h3, h4⟩ := h
  cases hv with
  | ptr _ _ b' o' h5 =>
    rw [h1] at h5
    injection h5 with h5
    injection h5 with h5
    injection h5 with h5
    injection h5 with h5 h6
    subst h5
    subst h6
    refine ⟨b, o, rfl, fun j => cur.getD (o + (a + j)) undef, fun j hj => ?_, fun j x hx => ?_⟩
    · have hlt : o + (a + j) < cur.size := by omega
      simp only [World.cell?, h2, Option.isSome_none, Bool.false_eq_true, if_false, Nat.add_assoc]
      simp [hlt]
    · rw [List.getElem?_drop] at hx
      obtain ⟨h5, v, h6, h7⟩ := h4 (a + j) x hx
      refine ⟨h5, ?_⟩
      simp only [Array.getD_eq_getD_getElem?, h6, Option.getD_some]
      exact h7
theorem oshape_real (r : List AV) : ∀ (sh : List CK) (j : Nat), oshape O.real r j sh = shapeFrom r j sh
  | [], _ => rfl
  | ck :: sh, j => by simp only [oshape, shapeFrom, oshape_real r sh]; cases ck <;> rfl
theorem olen_real (c : LS) : c.olen O.real = (c.len : Int) := by cases c <;> rfl
theorem oget_real {c : LS} {i : Int} (hk : c.ok) (h : O.real.inb i (c.olen O.real)) : c.elems[i.toNat]? = some (c.oget O.real i) := by
  rw [olen_real] at h
  obtain ⟨h0, h1⟩ : 0 ≤ i ∧ i < (c.len : Int) := h
  have hlt : i.toNat < c.len := by omega
  cases c with
  | i k xs => simp only [LS.len] at hlt; simp [LS.elems, LS.oget, O.real, List.getD_eq_getElem?_getD, hlt]
  | s xs => simp only [LS.len] at hlt; simp [LS.elems, LS.oget, O.real, List.getD_eq_getElem?_getD, hlt]
  | v xs => simp only [LS.len] at hlt; simp [LS.elems, LS.oget, O.real, List.getD_eq_getElem?_getD, hlt, ocells, VT.cells]
  | r sh xs =>
    simp only [LS.len] at hlt
    have hm := hk.2 (xs[i.toNat]) (List.getElem_mem hlt)
    simp only [LS.elems, LS.oget, oshape_real]
    have : (O.real.rget xs i) = xs[i.toNat] := by simp [O.real, List.getD_eq_getElem?_getD, hlt]
    rw [this, ← hm, List.getElem?_eq_getElem hlt]
theorem oget_one {c : LS} {i : Int} (hk : c.ok) (h : O.real.inb i (c.olen O.real)) : ∀ x ∈ c.oget O.real i, x.one = true :=
  LS.el_one hk _ (List.mem_of_getElem? (oget_real hk h))
theorem oget_length {c : LS} {i : Int} (hk : c.ok) (h : O.real.inb i (c.olen O.real)) : (c.oget O.real i).length = c.sz :=
  LS.el_len hk _ (List.mem_of_getElem? (oget_real hk h))

/-- The cells of element i of an array of the call's own. -/
theorem OR.arr_at {id : Nat} {e : TypeId} {c : LS} (h : OR β F w id (.arr e c)) {b n cap : Nat} (hb : β id = some (.slice (some ⟨b, 0, none⟩) n cap)) {i : Int} (hi : O.real.inb i (c.olen O.real)) :
    ∃ cv : Nat → Value, (∀ j, j < c.sz → w.cell? ⟨b, i.toNat * c.sz + j, none⟩ = some (cv j)) ∧ ∀ (j : Nat) (x : AV), (c.oget O.real i)[j]? = some x → VR β F w (cv j) x := by
  obtain ⟨v, cvs, h1, h2, hk, h4⟩ := h
  rw [hb] at h1
  injection h1 with h1
  subst h1
  have hi' := hi
  rw [olen_real] at hi'
  obtain ⟨h0, h1⟩ : 0 ≤ i ∧ i < (c.len : Int) := hi'
  rcases h2.2 with ⟨h5, _⟩ | ⟨g, cap', cur, h5, _, hg, hnc, hcm, hcs, htk⟩
  · cases h5
  · injection h5 with h5 h6 h7
    injection h5 with h5
    injection h5 with h5
    subst h5
    have hlt : i.toNat * c.sz + c.sz ≤ c.len * c.sz := by
      rw [← Nat.succ_mul]; exact Nat.mul_le_mul_right _ (by omega)
    have hle : c.len * c.sz ≤ cap' * c.sz := Nat.mul_le_mul_right _ hnc
    refine ⟨fun j => cur.getD (i.toNat * c.sz + j) undef, fun j hj => ?_, fun j x hx => ?_⟩
    · have : i.toNat * c.sz + j < cur.size := by omega
      simp only [World.cell?, hg, Option.isSome_none, Bool.false_eq_true, if_false]
      simp [this]
    · have hel := oget_real hk hi
      obtain ⟨u, h6, h7⟩ := h4 _ _ j x hel hx
      have hj : j < c.sz := by rw [← oget_length hk hi]; exact (List.getElem?_eq_some_iff.1 hx).1
      have : cur.getD (i.toNat * c.sz + j) undef = u := by
        rw [← htk, List.getElem?_take] at h6
        split at h6
        · simp only [Array.getElem?_toList] at h6
          simp [Array.getD_eq_getD_getElem?, h6]
        · cases h6
      show VR β F w (cur.getD (i.toNat * c.sz + j) undef) x
      rw [this]
      exact h7
/-- A slice that is read: the cells of element i. -/
theorem VR.sl_at {v : Value} {c : LS} (h : VR β F w v (.sl c)) {i : Int} (hi : O.real.inb i (c.olen O.real)) : ∃ b o n cap, v = .slice (some ⟨b, o, none⟩) n cap ∧ n = c.len ∧
    VR β F w (.pointer (some ⟨b, o + i.toNat * c.sz, none⟩)) (.rp (c.oget O.real i)) := by
  have hi' := hi
  rw [olen_real] at hi'
  obtain ⟨h0, h1⟩ : 0 ≤ i ∧ i < (c.len : Int) := hi'
  cases h with
  | sl0 _ A cap hc hk => omega
  | sl _ b o n cap cv e1 h2 h3 h4 hf hk hc hv =>
    refine ⟨b, o, n, cap, rfl, e1, .rp _ b _ (fun j => cv i.toNat j) hf (fun j hj => ?_) (fun j x hx => ?_) (fun j x hx => ?_)⟩
    · rw [oget_length hk hi] at hj
      have := hc i.toNat j (by omega) hj
      rwa [Nat.add_assoc]
    · exact oget_one hk hi x (List.mem_of_getElem? hx)
    · exact hv i.toNat _ j x (oget_real hk hi) hx
theorem VR.len_eq {v : Value} {c : LS} (h : VR β F w v (.sl c)) : ∃ A cap, v = .slice A c.len cap := by
  cases h with
  | sl0 _ A cap hc => exact ⟨A, cap, by rw [hc]⟩
  | sl _ b o n cap cv e1 => exact ⟨_, cap, by rw [e1]⟩
theorem OR.own_len {id : Nat} {e : TypeId} {c : LS} (h : OR β F w id (.arr e c)) {v : Value} (hv : VR β F w v (.own id)) : ∃ A cap, v = .slice A c.len cap ∧ β id = some v := by
  obtain ⟨u, cvs, h1, h2, _⟩ := h
  cases hv with
  | own _ _ hb _ =>
    rw [hb] at h1
    injection h1 with h1
    subst h1
    rcases h2.2 with ⟨rfl, hn⟩ | ⟨g, cap', cur, rfl, _⟩
    · exact ⟨none, 0, by rw [hn], hb⟩
    · exact ⟨_, cap', rfl, hb⟩
theorem seg_get {α : Type} (A B : List α) (p j : Nat) (h : p + B.length ≤ A.length) :
    (A.take p ++ B ++ A.drop (p + B.length))[j]? = if j < p then A[j]? else if j < p + B.length then B[j - p]? else A[j]? := by
  have hp : (A.take p).length = p := by simp; omega
  by_cases h1 : j < p
  · rw [if_pos h1, List.append_assoc, List.getElem?_append_left (by omega), List.getElem?_take, if_pos h1]
  · rw [if_neg h1]
    by_cases h2 : j < p + B.length
    · rw [if_pos h2, List.append_assoc, List.getElem?_append_right (by omega), List.getElem?_append_left (by omega), hp]
    · rw [if_neg h2, List.getElem?_append_right (by simp; omega), List.getElem?_drop]
      congr 1
      simp
      omega
theorem seg_length {α : Type} (A B : List α) (p : Nat) (h : p + B.length ≤ A.length) : (A.take p ++ B ++ A.drop (p + B.length)).length = A.length := by
  simp; omega
theorem VR.cells {v : Value} {x : AV} (h : VR β F w v x) (hl : 0 < (cellsOf x).length) : v.cells.size = (cellsOf x).length ∧ (∀ u ∈ v.cells.toList, u.oneCell' = true) ∧
    ∀ (j : Nat) (y : AV), (cellsOf x)[j]? = some y → y.one = true ∧ ∃ u, v.cells[j]? = some u ∧ VR β F w u y := by
  have one : ∀ {v : Value} {x : AV}, VR β F w v x → x.one = true → cellsOf x = [x] → v.cells = #[v] → v.cells.size = (cellsOf x).length ∧ (∀ u ∈ v.cells.toList, u.oneCell' = true) ∧
      ∀ (j : Nat) (y : AV), (cellsOf x)[j]? = some y → y.one = true ∧ ∃ u, v.cells[j]? = some u ∧ VR β F w u y := by
    intro v x h h1 h2 h3
    rw [h2, h3]
    refine ⟨rfl, by simpa using h.one h1, fun j y hy => ?_⟩
    match j, hy with
    | 0, hy => simp at hy; subst hy; exact ⟨h1, v, rfl, h⟩
  have h0 := h
  cases h with
  | agg cs l hs h1 hv =>
    refine ⟨hs, fun u hu => ?_, fun j y hy => ?_⟩
    · obtain ⟨j, hj, rfl⟩ := List.getElem_of_mem hu
      have hj' : j < l.length := by simp [Value.cells] at hj; omega
      exact (hv j _ l[j] (by simp [Value.cells] at hj ⊢) (List.getElem?_eq_getElem hj')).one (h1 _ (List.getElem_mem hj'))
    · have hj : j < l.length := (List.getElem?_eq_some_iff.1 hy).1
      have hj2 : cs[j]? = some (cs[j]'(by omega)) := Array.getElem?_eq_getElem (by omega)
      exact ⟨h1 y (List.mem_of_getElem? hy), _, hj2, hv j _ y hj2 hy⟩
  | tup cs l hs hv => simp [cellsOf] at hl
  | own id v hb hs => obtain ⟨A, n, c, rfl⟩ := hs; exact one h0 rfl rfl rfl
  | raw v h1 => exact one h0 rfl rfl (by cases v <;> first | rfl | (simp [Value.oneCell'] at h1))
  | _ => exact one h0 rfl rfl rfl

/-- A store into a variable. -/
theorem store_ok {t : TypeId} {d : TyD} {id : Nat} {l : List AV} {v u : Value} {a : Nat} {x : AV} (hp : Pre hs nx β F w) (hm : (id, .cells l) ∈ hs) (ht : tyOk P t d = true)
    (hv : VR β F w v (.ptr id a)) (hu : VR β F w u x) (hx : (cellsOf x).length = d.size) (hr : a + d.size ≤ l.length) :
    ∃ w', (Instr.storeAt t v u).run P w = .ok () w' ∧ Post hs nx ⟨.tup [], [(id, some (.cells (putCells l a (cellsOf x))))], [], []⟩ β F w undef β F w' := by
  obtain ⟨i0, u0, z0, hi0, hu0, hs0, hb0, hsz, _⟩ := tyOk_parts ht
  obtain ⟨hO, hF⟩ := hp.hh _ hm
  obtain ⟨hc1, hc2, hc3⟩ := hu.cells (by omega)
  obtain ⟨b, o, cur, e, h1, h2, h3, h4⟩ := hO
  cases hv with
  | ptr _ _ b' o' h5 =>
    rw [h1] at h5
    injection h5 with h5
    injection h5 with h5
    injection h5 with h5
    injection h5 with h5 h6
    subst h5
    subst h6
    have hnF : ¬ F b := hF _ b h1 rfl
    have hlen : u.cells.toList.length = d.size := by rw [Array.length_toList, hc1, hx]
    have hst := run_storeCells_at P b (o + a) e u.cells.toList 0 cur w h2 (by rw [hlen]; omega) hc2
    refine ⟨w.setRow b (cur.toList.take (o + a + 0) ++ u.cells.toList ++ cur.toList.drop (o + a + 0 + u.cells.toList.length)).toArray, ?_, ?_⟩
    · simp only [Instr.storeAt, Instr.sureAddr, Sem.run_bind, Sem.run_pure, Result.andThen_ok, storeVar, run_size ht]
      rw [if_neg (by rw [hc1, hx]; simp)]
      exact hst
    · have hother : ∀ k, k ≠ b → (w.setRow b (cur.toList.take (o + a + 0) ++ u.cells.toList ++ cur.toList.drop (o + a + 0 + u.cells.toList.length)).toArray).heap[k]? = w.heap[k]? := fun k hk => setRow_other w b k _ hk
      have hF' : ∀ k, F k → k ≠ b := fun k hk e => hnF (e ▸ hk)
      constructor
      · exact .tup _ _ rfl (fun j v x hv => by simp at hv)
      · exact fun _ _ h => h
      · exact fun _ _ h => .inl h
      · exact fun _ h => h
      · exact fun k hk => by have := hp.hF k hk; simpa using this
      · exact fun _ h => .inl h
      · intro id' ob hob
        simp only [List.mem_singleton, Prod.mk.injEq, Option.some.injEq] at hob
        obtain ⟨rfl, rfl⟩ := hob
        have hcur : cur.toList.length = cur.size := by simp
        refine ⟨b, o, _, e, h1, setRow_heap w b cur _ e _ h2, ?_, fun j y hy => ?_⟩
        · simp only [List.size_toArray, Nat.add_zero]
          rw [seg_length _ _ _ (by rw [hlen, hcur]; omega)]
          unfold putCells
          rw [seg_length _ _ _ (by omega), hcur]
          exact h3
        · unfold putCells at hy
          rw [seg_get _ _ _ _ (by omega)] at hy
          simp only [List.getElem?_toArray, Nat.add_zero]
          rw [seg_get _ _ _ _ (by rw [hlen, hcur]; omega), hlen]
          by_cases g1 : j < a
          · rw [if_pos g1] at hy
            rw [if_pos (by omega)]
            obtain ⟨h5, v, h6, h7⟩ := h4 j y hy
            exact ⟨h5, v, by simpa using h6, h7.mono (fun _ _ h => h) (fun _ h => h) (fun k hk => setRow_other w b k _ (hF' k hk))⟩
          · rw [if_neg g1] at hy
            rw [if_neg (by omega)]
            by_cases g2 : j < a + d.size
            · rw [hx, if_pos g2] at hy
              rw [if_pos (by omega)]
              obtain ⟨h5, v, h6, h7⟩ := hc3 (j - a) y hy
              refine ⟨h5, v, ?_, h7.mono (fun _ _ h => h) (fun _ h => h) (fun k hk => setRow_other w b k _ (hF' k hk))⟩
              rw [show o + j - (o + a) = j - a by omega]
              simpa using h6
            · rw [hx, if_neg g2] at hy
              rw [if_neg (by omega)]
              obtain ⟨h5, v, h6, h7⟩ := h4 j y hy
              exact ⟨h5, v, by simpa using h6, h7.mono (fun _ _ h => h) (fun _ h => h) (fun k hk => setRow_other w b k _ (hF' k hk))⟩
      · intro j ob h; simp at h
      · intro j x b h; simp at h
      · intro j k x y b h; simp at h
      · intro p hp'
        simp only [List.mem_singleton] at hp'
        subst hp'
        exact ⟨_, hm⟩
      · intro id' ob h h'
        simp at h'
      · intro k hk hne
        refine hother k (fun e => ?_)
        subst e
        exact hne (id, _) (List.mem_singleton.2 rfl) _ h1 rfl
      · rfl
      · rfl
      · rfl
      · simp
end
end Go.Qv
/- The operations, third part: slices seen as lists, struct and slice literals. -/
set_option linter.unusedVariables false
set_option linter.unusedSimpArgs false
namespace Go.Qv
open Go.RowKit
section
variable {P : Program} {tb : Tb} {hs : List (Nat × HObj)} {nx : Nat} {β : Nat → Option Value} {F : Nat → Prop} {w : World}

/-- Some objects' blocks besides. -/
def FZ (ids : List Nat) (β : Nat → Option Value) (F : Nat → Prop) : Nat → Prop := fun b => F b ∨ ∃ id ∈ ids, ∃ v, β id = some v ∧ blkOf v = some b
theorem FZ.ext {ids : List Nat} : ∀ b, F b → FZ ids β F b := fun _ h => .inl h
theorem VR.fz {ids : List Nat} {v : Value} {x : AV} (h : VR β F w v x) : VR β (FZ ids β F) w v x := h.mono (fun _ _ h => h) FZ.ext (fun _ _ => rfl)
theorem own_sl {ids : List Nat} {id : Nat} {e : TypeId} {c : LS} {v : Value} (hO : OR β F w id (.arr e c)) (hv : VR β F w v (.own id)) (hi : id ∈ ids) : VR β (FZ ids β F) w v (.sl c) := by
  obtain ⟨u, cvs, h1, h2, hk, h4⟩ := hO
  cases hv with
  | own _ _ hb _ =>
    rw [hb] at h1
    injection h1 with h1
    subst h1
    rcases h2.2 with ⟨rfl, hn⟩ | ⟨g, cap, cur, rfl, _, hg, hnc, hcm, hcs, htk⟩
    · exact .sl0 _ _ _ hn hk
    · rcases Nat.eq_zero_or_pos c.len with h0 | h0
      · rw [h0]; exact .sl0 _ _ _ h0 hk
      · refine .sl c g 0 c.len cap (fun i j => cur.getD (i * c.sz + j) undef) rfl h0 hnc hcm (.inr ⟨id, hi, _, hb, rfl⟩) hk (fun i j hi' hj => ?_) (fun i el j x he hx => ?_)
        · have hlt : i * c.sz + c.sz ≤ c.len * c.sz := by rw [← Nat.succ_mul]; exact Nat.mul_le_mul_right _ (by omega)
          have hle : c.len * c.sz ≤ cap * c.sz := Nat.mul_le_mul_right _ hnc
          have : i * c.sz + j < cur.size := by omega
          simp only [World.cell?, hg, Option.isSome_none, Bool.false_eq_true, if_false, Nat.zero_add]
          simp [this]
        · obtain ⟨u, h6, h7⟩ := h4 i el j x he hx
          have : cur.getD (i * c.sz + j) undef = u := by
            rw [← htk, List.getElem?_take] at h6
            split at h6
            · simp only [Array.getElem?_toList] at h6
              simp [Array.getD_eq_getD_getElem?, h6]
            · cases h6
          rw [this]
          exact h7.fz
theorem nils_sl {v : Value} {c : LS} (hv : VR β F w v .nils) (h0 : c.len = 0) (hk : c.ok) : VR β F w v (.sl c) := by
  cases hv; exact .sl0 _ _ _ h0 hk

theorem cInts_ok {ids : List Nat} {k : IntKind} {x : AV} {l : List Int} {v : Value} (hO : ∀ p ∈ hs, OR β F w p.1 p.2) (h : cInts hs k x = some l) (hv : VR β F w v x) (hi : ∀ id ∈ x.owns1, id ∈ ids) :
    VR β (FZ ids β F) w v (.sl (.i k l)) := by
  unfold cInts at h
  split at h
  · injection h with h; subst h; exact nils_sl hv.fz rfl trivial
  · split at h
    · rename_i hd; injection h with h; subst h; rw [← of_decide_eq_true hd]; exact hv.fz
    · cases h
  · rename_i id
    split at h
    · rename_i e k' xs hl
      split at h
      · rename_i hd; injection h with h; subst h; rw [← of_decide_eq_true hd]
        exact own_sl (hO _ (lk_mem hl)) hv (hi id (by simp [AV.owns1]))
      · cases h
    · cases h
  · cases h
theorem cStrs_ok {ids : List Nat} {x : AV} {l : List ByteArray} {v : Value} (hO : ∀ p ∈ hs, OR β F w p.1 p.2) (h : cStrs hs x = some l) (hv : VR β F w v x) (hi : ∀ id ∈ x.owns1, id ∈ ids) :
    VR β (FZ ids β F) w v (.sl (.s l)) := by
  unfold cStrs at h
  split at h
  · injection h with h; subst h; exact nils_sl hv.fz rfl trivial
  · injection h with h; subst h; exact hv.fz
  · rename_i id
    split at h
    · rename_i e xs hl
      injection h with h; subst h
      exact own_sl (hO _ (lk_mem hl)) hv (hi id (by simp [AV.owns1]))
    · cases h
  · cases h
theorem cVs_ok {ids : List Nat} {x : AV} {l : List VT} {v : Value} (hO : ∀ p ∈ hs, OR β F w p.1 p.2) (h : cVs hs x = some l) (hv : VR β F w v x) (hi : ∀ id ∈ x.owns1, id ∈ ids) :
    VR β (FZ ids β F) w v (.sl (.v l)) := by
  unfold cVs at h
  split at h
  · injection h with h; subst h; exact nils_sl hv.fz rfl trivial
  · injection h with h; subst h; exact hv.fz
  · rename_i id
    split at h
    · rename_i e xs hl
      injection h with h; subst h
      exact own_sl (hO _ (lk_mem hl)) hv (hi id (by simp [AV.owns1]))
    · cases h
  · cases h
theorem asV_ok {ids : List Nat} {x : AV} {z : VT} {v : Value} (hO : ∀ p ∈ hs, OR β F w p.1 p.2) (h : asV hs x = some z) (hv : VR β F w v x) (hi : ∀ id ∈ x.owns, id ∈ ids) :
    VR β (FZ ids β F) w v (.agg z.cells) := by
  unfold asV at h
  split at h
  · rename_i t n s l
    split at h
    · rename_i n' s' l' h1 h2 h3
      injection h with h
      subst h
      have hi' : ∀ y ∈ [AV.int .i64 t, n, s, l], ∀ id ∈ y.owns1, id ∈ ids := fun y hy id hid => hi id (by simp only [AV.owns, List.mem_flatMap]; exact ⟨y, hy, hid⟩)
      cases hv with
      | agg cs _ hs1 h1' hv =>
        refine .agg cs _ hs1 (by simp [VT.cells, VT.t, VT.n, VT.s, VT.l, AV.one]) (fun j u y hu hy => ?_)
        match j, hy with
        | 0, hy => simp [VT.cells, VT.t] at hy; subst hy; exact (hv 0 u _ hu rfl).fz
        | 1, hy => simp [VT.cells, VT.n] at hy; subst hy; exact cInts_ok hO h1 (hv 1 u _ hu rfl) (hi' n (by simp))
        | 2, hy => simp [VT.cells, VT.s] at hy; subst hy; exact cStrs_ok hO h2 (hv 2 u _ hu rfl) (hi' s (by simp))
        | 3, hy => simp [VT.cells, VT.l] at hy; subst hy; exact cVs_ok hO h3 (hv 3 u _ hu rfl) (hi' l (by simp))
    · cases h
  · cases h
end
end Go.Qv
/- Values that name no object. A new slice that nobody will write. No condition. -/
set_option linter.unusedVariables false
set_option linter.unusedSimpArgs false
namespace Go.Qv
open Go.RowKit

section
variable {β : Nat → Option Value} {F : Nat → Prop} {w : World}
inductive Clean : AV → Prop
  | int (k n) : Clean (.int k n)
  | bool (b) : Clean (.bool b)
  | str (b) : Clean (.str b)
  | nilp : Clean .nilp
  | nils : Clean .nils
  | sl (c) : c.plain = true → Clean (.sl c)
  | nilf : Clean .nilf
  | nili : Clean .nili
  | nilm : Clean .nilm
  | raw (v) : Clean (.raw v)
  | rp (l) : (∀ x ∈ l, Clean x) → Clean (.rp l)
  | agg (l) : (∀ x ∈ l, Clean x) → Clean (.agg l)
  | tup (l) : (∀ x ∈ l, Clean x) → Clean (.tup l)
  | fn (f l) : (∀ x ∈ l, Clean x) → Clean (.fn f l)
  | iface (t x) : Clean x → Clean (.iface t x)
theorem shapeFrom_clean (r : List AV) : ∀ (sh : List CK) (j : Nat), hasAny sh = false → ∀ x ∈ shapeFrom r j sh, Clean x
  | [], _, _, x, h => by simp [shapeFrom] at h
  | ck :: sh, j, hp, x, h => by
    simp only [shapeFrom, List.mem_cons] at h
    rcases h with rfl | h
    · cases ck <;> first | (simp [hasAny] at hp; done) | (constructor; done) | exact .sl _ rfl
    · exact shapeFrom_clean r sh _ (by cases ck <;> first | exact hp | (simp [hasAny] at hp; done)) x h
theorem LS.el_clean {c : LS} (h : c.ok) (hpl : c.plain = true) : ∀ e ∈ c.elems, ∀ x ∈ e, Clean x := by
  intro e he x hx
  cases c with
  | i k xs => simp only [LS.elems, List.mem_map] at he; obtain ⟨_, _, rfl⟩ := he; simp at hx; subst hx; constructor
  | s xs => simp only [LS.elems, List.mem_map] at he; obtain ⟨_, _, rfl⟩ := he; simp at hx; subst hx; constructor
  | v xs =>
    simp only [LS.elems, List.mem_map] at he
    obtain ⟨_, _, rfl⟩ := he
    simp [VT.cells] at hx
    rcases hx with rfl | rfl | rfl | rfl <;> first | (constructor; done) | exact .sl _ rfl
  | r sh xs => rw [h.2 e he] at hx; exact shapeFrom_clean _ _ _ (by simpa [LS.plain] using hpl) x hx
theorem VR.clean {β β' : Nat → Option Value} {v : Value} {x : AV} (h : VR β F w v x) (hx : Clean x) : VR β' F w v x := by
  induction h with
  | int => exact .int _ _
  | bool => exact .bool _
  | str => exact .str _
  | nilp => exact .nilp
  | ptr id off b o h => cases hx
  | ep id sz i off b n c h => cases hx
  | rp cs b o cv hf hc h1 _ ih => cases hx with | rp _ hx => exact .rp _ _ _ cv hf hc h1 (fun j x hj => ih j x hj (hx x (List.mem_of_getElem? hj)))
  | nils => exact .nils
  | sl0 c A cap h hk => exact .sl0 _ _ _ h hk
  | sl c b o n cap cv h1 h2 h3 h4 hf h5 hc _ ih => cases hx with | sl _ hpl => exact .sl _ _ _ _ _ cv h1 h2 h3 h4 hf h5 hc (fun i e j x he hj => ih i e j x he hj (LS.el_clean h5 hpl e (List.mem_of_getElem? he) x (List.mem_of_getElem? hj)))
  | own id v h hs => cases hx
  | fn f cs l h _ ih => cases hx with | fn _ _ hx => exact .fn _ _ _ h (fun j v x hv hj => ih j v x hv hj (hx x (List.mem_of_getElem? hj)))
  | nilf => exact .nilf
  | raw v h => exact .raw _ h
  | agg cs l h h2 _ ih => cases hx with | agg _ hx => exact .agg _ _ h h2 (fun j v x hv hj => ih j v x hv hj (hx x (List.mem_of_getElem? hj)))
  | tup cs l h _ ih => cases hx with | tup _ hx => exact .tup _ _ h (fun j v x hv hj => ih j v x hv hj (hx x (List.mem_of_getElem? hj)))
  | iface t v x _ ih => cases hx with | iface _ _ hx => exact .iface _ _ _ (ih hx)
  | nili => exact .nili
  | mp id r h => cases hx
  | nilm => exact .nilm
  | vw id sz lo b n c h1 h2 => cases hx
def clean1 : AV → Bool
  | .int _ _ => true | .bool _ => true | .str _ => true | .nilp => true | .nils => true | .sl c => c.plain | .nilf => true | .nili => true | .nilm => true | .raw _ => true
  | .fn _ [] => true | _ => false
def allC : List AV → Bool
  | [] => true
  | x :: l => match clean1 x with | true => allC l | false => false
def cleanA : AV → Bool
  | .agg l => allC l | .tup l => allC l | .rp l => allC l | .fn _ l => allC l | .iface _ x => clean1 x | x => clean1 x
theorem clean1_ok : ∀ {x : AV}, clean1 x = true → Clean x
  | .int _ _, _ => .int _ _
  | .bool _, _ => .bool _
  | .str _, _ => .str _
  | .nilp, _ => .nilp
  | .nils, _ => .nils
  | .sl _, h => .sl _ h
  | .nilf, _ => .nilf
  | .nili, _ => .nili
  | .nilm, _ => .nilm
  | .mp _, h => by simp [clean1] at h
  | .vw _ _ _, h => by simp [clean1] at h
  | .raw _, _ => .raw _
  | .fn _ [], _ => .fn _ _ (by simp)
  | .fn _ (_ :: _), h => by simp [clean1] at h
  | .ptr _ _, h => by simp [clean1] at h
  | .ep _ _ _ _, h => by simp [clean1] at h
  | .own _, h => by simp [clean1] at h
  | .rp _, h => by simp [clean1] at h
  | .agg _, h => by simp [clean1] at h
  | .tup _, h => by simp [clean1] at h
  | .iface _ _, h => by simp [clean1] at h
theorem allC_ok : ∀ {l : List AV}, allC l = true → ∀ x ∈ l, Clean x
  | [], _, x, h => by simp at h
  | y :: l, h, x, hx => by
    unfold allC at h
    split at h
    · rename_i hc
      rcases List.mem_cons.1 hx with rfl | hx
      · exact clean1_ok hc
      · exact allC_ok h x hx
    · cases h
theorem cleanA_ok {x : AV} (h : cleanA x = true) : Clean x := by
  unfold cleanA at h
  split at h
  · exact .agg _ (allC_ok h)
  · exact .tup _ (allC_ok h)
  · exact .rp _ (allC_ok h)
  · exact .fn _ _ (allC_ok h)
  · exact .iface _ _ (clean1_ok h)
  · exact clean1_ok h
end
section
variable {hs : List (Nat × HObj)} {nx : Nat} {β : Nat → Option Value} {F : Nat → Prop} {w : World}
/-- What is new is let go at once. -/
theorem Post.frz1 {hw : List (Nat × Option HObj)} {frz : List Nat} {e : TypeId} {c : LS} {v' : Value} {β' : Nat → Option Value} {F' : Nat → Prop} {w' : World} (p : Post hs nx ⟨.own nx, hw, frz, [.arr e c]⟩ β F w v' β' F' w')
    (hp : Pre hs nx β F w) (hc : c.plain = true) (hn : ∀ q ∈ hw, q.2 = none) (hf : ∀ id, (id, none) ∈ hw → id ∈ frz) : Post hs nx ⟨.sl c, hw, frz, []⟩ β F w v' β (FZ [nx] β' F') w' := by
  have hnew := p.news 0 _ rfl
  rw [Nat.add_zero] at hnew
  constructor
  · exact (own_sl hnew p.vr (by simp)).clean (.sl _ hc)
  · exact fun _ _ h => h
  · exact fun _ _ h => .inl h
  · exact fun b h => .inl (p.Fext b h)
  · rintro b (h | ⟨id, hid, v, h1, h2⟩)
    · exact p.Flt b h
    · simp at hid; subst hid; exact hnew.lt h1 h2
  · rintro b (h | ⟨id, hid, v, h1, h2⟩)
    · exact p.Fnew b h
    · simp at hid; subst hid
      obtain ⟨_, h3⟩ := p.newb 0 v b (by simp) (by simpa using h1) h2
      rcases h3 with h3 | ⟨i, hi, y, h4, h5⟩
      · exact .inr (.inl h3)
      · exact .inr (.inr ⟨i, hf i hi, hi, y, h4, h5⟩)
  · intro id ob hm
    have := hn _ hm
    cases this
  · intro j ob h; simp at h
  · intro j x b h; simp at h
  · intro j k x y b h; simp at h
  · exact p.known
  · exact p.nd
  · exact p.frame
  · exact p.os
  · exact p.tape
  · exact p.output
  · exact p.size
end
end Go.Qv
