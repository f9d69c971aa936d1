/- The operations, second part: memory that is read and written. -/
import Derived.Test.YteaeogofidakiaaQF
set_option linter.unusedVariables false
set_option linter.unusedSimpArgs false
namespace Go.Qv
open Go.RowKit
section
variable {P : Program} {tb : Tb} {hs : List (Nat × HObj)} {nx : Nat} {β : Nat → Option Value} {F : Nat → Prop} {w : World}

theorem kd_agg {t : TypeId} {d : TyD} {u : TypeDesc} (h : tyOk P t d = true) (hu : P.underlying t = some u) : TypeDesc.isAgg u = d.kd.agg := by
  have hk := kdIs h
  unfold KdIs at hk
  split at hk <;> rename_i hd <;> rw [hd]
  · rw [hu] at hk; injection hk with hk; subst hk; rfl
  · rw [hu] at hk; injection hk with hk; subst hk; rfl
  · rw [hu] at hk; injection hk with hk; subst hk; rfl
  · obtain ⟨_, _, _, hk⟩ := hk; rw [hu] at hk; injection hk with hk; subst hk; rfl
  · obtain ⟨_, hk⟩ := hk; rw [hu] at hk; injection hk with hk; subst hk; rfl
  · rw [hu] at hk; injection hk with hk; subst hk; rfl
  · obtain ⟨_, hk⟩ := hk; rw [hu] at hk; injection hk with hk; subst hk; rfl
  · rw [hu] at hk; injection hk with hk; subst hk; rfl
  · rw [hu] at hk; injection hk with hk; subst hk; rfl
  · rw [hu] at hk; injection hk with hk; subst hk; rfl
  · obtain ⟨_, hk, h2⟩ := hk; rw [hu] at hk; injection hk with hk; subst hk; exact h2
theorem run_isAgg {t : TypeId} {d : TyD} (h : tyOk P t d = true) (w : World) : (isAgg t).run P w = .ok d.kd.agg w := by
  obtain ⟨i, u, z, hi, hu, _⟩ := tyOk_parts h
  rw [← kd_agg h hu]
  unfold isAgg
  simp only [Sem.run_bind, run_underlying hu, Result.andThen_ok]
  cases u <;> rfl
theorem run_size {t : TypeId} {d : TyD} (h : tyOk P t d = true) (w : World) : (sizeOf t).run P w = .ok d.size w := by
  obtain ⟨i, u, z, hi, hu, hs, _⟩ := tyOk_parts h
  simp [sizeOf, typeInfo, hi, hs]
theorem mkAgg_some {g : Bool} {cs : List AV} {z : AV} (h : mkAgg g cs = some z) : (g = true ∧ z = .agg cs) ∨ (g = false ∧ cs = [z]) := by
  unfold mkAgg at h
  split at h
  · injection h with h; exact .inl ⟨rfl, h.symm⟩
  · split at h
    · injection h with h; subst h; exact .inr ⟨rfl, rfl⟩
    · cases h
theorem loadAt_ok {t : TypeId} {d : TyD} {b o : Nat} {cv : Nat → Value} {cs : List AV} {z : AV} (h : tyOk P t d = true) (hc : ∀ j, j < d.size → w.cell? ⟨b, o + j, none⟩ = some (cv j))
    (hl : cs.length = d.size) (h1 : ∀ x ∈ cs, x.one = true) (hv : ∀ (j : Nat) (x : AV), cs[j]? = some x → VR β F w (cv j) x) (hm : mkAgg d.kd.agg cs = some z) :
    ∃ r, (Instr.loadAt t (.pointer (some ⟨b, o, none⟩))).run P w = .ok r w ∧ VR β F w r z := by
  simp only [Instr.loadAt, Instr.sureAddr, Sem.run_bind, Sem.run_pure, Result.andThen_ok, loadVar, run_isAgg h]
  rcases mkAgg_some hm with ⟨hg, rfl⟩ | ⟨hg, rfl⟩
  · have hlc := run_loadCells (P := P) w ⟨b, o, none⟩ d.size cv (fun j hj => by rw [addr_add]; exact hc j hj)
    refine ⟨.agg ((List.range d.size).map cv).toArray, ?_, ?_⟩
    · simp [hg, Sem.run_bind, run_size h, hlc]
    · refine .agg _ _ (by simp [hl]) h1 (fun j v x hv' hx => ?_)
      simp only [List.getElem?_toArray, List.getElem?_map] at hv'
      obtain ⟨k, hk, rfl⟩ := Option.map_eq_some_iff.1 hv'
      have : k = j := by
        have := List.getElem?_eq_some_iff.1 hk
        obtain ⟨_, h⟩ := this
        simpa using h.symm
      subst this
      exact hv _ x hx
  · have hs : d.size = 1 := by simpa using hl.symm
    have h0 := hc 0 (by omega)
    refine ⟨cv 0, ?_, hv 0 z rfl⟩
    simp only [hg, Bool.false_eq_true, if_false]
    rw [Nat.add_zero] at h0
    rw [run_load, h0]

/-- A pointer into a variable. -/
theorem OR.cells_at {id : Nat} {l : List AV} (h : OR β F w id (.cells l)) {v : Value} {a : Nat} (hv : VR β F w v (.ptr id a)) :
    ∃ b o, v = .pointer (some ⟨b, o + a, none⟩) ∧ ∃ cv : Nat → Value, (∀ j, a + j < l.length → w.cell? ⟨b, o + a + j, none⟩ = some (cv j)) ∧
      (∀ (j : Nat) (x : AV), (l.drop a)[j]? = some x → x.one = true ∧ VR β F w (cv j) x) := by
  obtain ⟨b, o, cur, e, h1, h2, h3, h4⟩ := h
  cases hv with
  | ptr _ _ b' o' h5 =>
    rw [h1] at h5
    injection h5 with h5
    injection h5 with h5
    injection h5 with h5
    injection h5 with h5 h6
    subst h5
    subst h6
    refine ⟨b, o, rfl, fun j => cur.getD (o + (a + j)) undef, fun j hj => ?_, fun j x hx => ?_⟩
    · have hlt : o + (a + j) < cur.size := by omega
      simp only [World.cell?, h2, Option.isSome_none, Bool.false_eq_true, if_false, Nat.add_assoc]
      simp [hlt]
    · rw [List.getElem?_drop] at hx
      obtain ⟨h5, v, h6, h7⟩ := h4 (a + j) x hx
      refine ⟨h5, ?_⟩
      simp only [Array.getD_eq_getD_getElem?, h6, Option.getD_some]
      exact h7
theorem oshape_real (r : List AV) : ∀ (sh : List CK) (j : Nat), oshape O.real r j sh = shapeFrom r j sh
  | [], _ => rfl
  | ck :: sh, j => by simp only [oshape, shapeFrom, oshape_real r sh]; cases ck <;> rfl
theorem olen_real (c : LS) : c.olen O.real = (c.len : Int) := by cases c <;> rfl
theorem oget_real {c : LS} {i : Int} (hk : c.ok) (h : O.real.inb i (c.olen O.real)) : c.elems[i.toNat]? = some (c.oget O.real i) := by
  rw [olen_real] at h
  obtain ⟨h0, h1⟩ : 0 ≤ i ∧ i < (c.len : Int) := h
  have hlt : i.toNat < c.len := by omega
  cases c with
  | i k xs => simp only [LS.len] at hlt; simp [LS.elems, LS.oget, O.real, List.getD_eq_getElem?_getD, hlt]
  | s xs => simp only [LS.len] at hlt; simp [LS.elems, LS.oget, O.real, List.getD_eq_getElem?_getD, hlt]
  | v xs => simp only [LS.len] at hlt; simp [LS.elems, LS.oget, O.real, List.getD_eq_getElem?_getD, hlt, ocells, VT.cells]
  | r sh xs =>
    simp only [LS.len] at hlt
    have hm := hk.2 (xs[i.toNat]) (List.getElem_mem hlt)
    simp only [LS.elems, LS.oget, oshape_real]
    have : (O.real.rget xs i) = xs[i.toNat] := by simp [O.real, List.getD_eq_getElem?_getD, hlt]
    rw [this, ← hm, List.getElem?_eq_getElem hlt]
theorem oget_one {c : LS} {i : Int} (hk : c.ok) (h : O.real.inb i (c.olen O.real)) : ∀ x ∈ c.oget O.real i, x.one = true :=
  LS.el_one hk _ (List.mem_of_getElem? (oget_real hk h))
theorem oget_length {c : LS} {i : Int} (hk : c.ok) (h : O.real.inb i (c.olen O.real)) : (c.oget O.real i).length = c.sz :=
  LS.el_len hk _ (List.mem_of_getElem? (oget_real hk h))

/-- The cells of element i of an array of the call's own. -/
theorem OR.arr_at {id : Nat} {e : TypeId} {c : LS} (h : OR β F w id (.arr e c)) {b n cap : Nat} (hb : β id = some (.slice (some ⟨b, 0, none⟩) n cap)) {i : Int} (hi : O.real.inb i (c.olen O.real)) :
    ∃ cv : Nat → Value, (∀ j, j < c.sz → w.cell? ⟨b, i.toNat * c.sz + j, none⟩ = some (cv j)) ∧ ∀ (j : Nat) (x : AV), (c.oget O.real i)[j]? = some x → VR β F w (cv j) x := by
  obtain ⟨v, cvs, h1, h2, hk, h4⟩ := h
  rw [hb] at h1
  injection h1 with h1
  subst h1
  have hi' := hi
  rw [olen_real] at hi'
  obtain ⟨h0, h1⟩ : 0 ≤ i ∧ i < (c.len : Int) := hi'
  rcases h2.2 with ⟨h5, _⟩ | ⟨g, cap', cur, h5, _, hg, hnc, hcm, hcs, htk⟩
  · cases h5
  · injection h5 with h5 h6 h7
    injection h5 with h5
    injection h5 with h5
    subst h5
    have hlt : i.toNat * c.sz + c.sz ≤ c.len * c.sz := by
      rw [← Nat.succ_mul]; exact Nat.mul_le_mul_right _ (by omega)
    have hle : c.len * c.sz ≤ cap' * c.sz := Nat.mul_le_mul_right _ hnc
    refine ⟨fun j => cur.getD (i.toNat * c.sz + j) undef, fun j hj => ?_, fun j x hx => ?_⟩
    · have : i.toNat * c.sz + j < cur.size := by omega
      simp only [World.cell?, hg, Option.isSome_none, Bool.false_eq_true, if_false]
      simp [this]
    · have hel := oget_real hk hi
      obtain ⟨u, h6, h7⟩ := h4 _ _ j x hel hx
      have hj : j < c.sz := by rw [← oget_length hk hi]; exact (List.getElem?_eq_some_iff.1 hx).1
      have : cur.getD (i.toNat * c.sz + j) undef = u := by
        rw [← htk, List.getElem?_take] at h6
        split at h6
        · simp only [Array.getElem?_toList] at h6
          simp [Array.getD_eq_getD_getElem?, h6]
        · cases h6
      show VR β F w (cur.getD (i.toNat * c.sz + j) undef) x
      rw [this]
      exact h7
/-- A slice that is read: the cells of element i. -/
theorem VR.sl_at {v : Value} {c : LS} (h : VR β F w v (.sl c)) {i : Int} (hi : O.real.inb i (c.olen O.real)) : ∃ b o n cap, v = .slice (some ⟨b, o, none⟩) n cap ∧ n = c.len ∧
    VR β F w (.pointer (some ⟨b, o + i.toNat * c.sz, none⟩)) (.rp (c.oget O.real i)) := by
  have hi' := hi
  rw [olen_real] at hi'
  obtain ⟨h0, h1⟩ : 0 ≤ i ∧ i < (c.len : Int) := hi'
  cases h with
  | sl0 _ A cap hc hk => omega
  | sl _ b o n cap cv e1 h2 h3 h4 hf hk hc hv =>
    refine ⟨b, o, n, cap, rfl, e1, .rp _ b _ (fun j => cv i.toNat j) hf (fun j hj => ?_) (fun j x hx => ?_) (fun j x hx => ?_)⟩
    · rw [oget_length hk hi] at hj
      have := hc i.toNat j (by omega) hj
      rwa [Nat.add_assoc]
    · exact oget_one hk hi x (List.mem_of_getElem? hx)
    · exact hv i.toNat _ j x (oget_real hk hi) hx
theorem VR.len_eq {v : Value} {c : LS} (h : VR β F w v (.sl c)) : ∃ A cap, v = .slice A c.len cap := by
  cases h with
  | sl0 _ A cap hc => exact ⟨A, cap, by rw [hc]⟩
  | sl _ b o n cap cv e1 => exact ⟨_, cap, by rw [e1]⟩
theorem OR.own_len {id : Nat} {e : TypeId} {c : LS} (h : OR β F w id (.arr e c)) {v : Value} (hv : VR β F w v (.own id)) : ∃ A cap, v = .slice A c.len cap ∧ β id = some v := by
  obtain ⟨u, cvs, h1, h2, _⟩ := h
  cases hv with
  | own _ _ hb _ =>
    rw [hb] at h1
    injection h1 with h1
    subst h1
    rcases h2.2 with ⟨rfl, hn⟩ | ⟨g, cap', cur, rfl, _⟩
    · exact ⟨none, 0, by rw [hn], hb⟩
    · exact ⟨_, cap', rfl, hb⟩
theorem seg_get {α : Type} (A B : List α) (p j : Nat) (h : p + B.length ≤ A.length) :
    (A.take p ++ B ++ A.drop (p + B.length))[j]? = if j < p then A[j]? else if j < p + B.length then B[j - p]? else A[j]? := by
  have hp : (A.take p).length = p := by simp; omega
  by_cases h1 : j < p
  · rw [if_pos h1, List.append_assoc, List.getElem?_append_left (by omega), List.getElem?_take, if_pos h1]
  · rw [if_neg h1]
    by_cases h2 : j < p + B.length
    · rw [if_pos h2, List.append_assoc, List.getElem?_append_right (by omega), List.getElem?_append_left (by omega), hp]
    · rw [if_neg h2, List.getElem?_append_right (by simp; omega), List.getElem?_drop]
      congr 1
      simp
      omega
theorem seg_length {α : Type} (A B : List α) (p : Nat) (h : p + B.length ≤ A.length) : (A.take p ++ B ++ A.drop (p + B.length)).length = A.length := by
  simp; omega
theorem VR.cells {v : Value} {x : AV} (h : VR β F w v x) (hl : 0 < (cellsOf x).length) : v.cells.size = (cellsOf x).length ∧ (∀ u ∈ v.cells.toList, u.oneCell' = true) ∧
    ∀ (j : Nat) (y : AV), (cellsOf x)[j]? = some y → y.one = true ∧ ∃ u, v.cells[j]? = some u ∧ VR β F w u y := by
  have one : ∀ {v : Value} {x : AV}, VR β F w v x → x.one = true → cellsOf x = [x] → v.cells = #[v] → v.cells.size = (cellsOf x).length ∧ (∀ u ∈ v.cells.toList, u.oneCell' = true) ∧
      ∀ (j : Nat) (y : AV), (cellsOf x)[j]? = some y → y.one = true ∧ ∃ u, v.cells[j]? = some u ∧ VR β F w u y := by
    intro v x h h1 h2 h3
    rw [h2, h3]
    refine ⟨rfl, by simpa using h.one h1, fun j y hy => ?_⟩
    match j, hy with
    | 0, hy => simp at hy; subst hy; exact ⟨h1, v, rfl, h⟩
  have h0 := h
  cases h with
  | agg cs l hs h1 hv =>
    refine ⟨hs, fun u hu => ?_, fun j y hy => ?_⟩
    · obtain ⟨j, hj, rfl⟩ := List.getElem_of_mem hu
      have hj' : j < l.length := by simp [Value.cells] at hj; omega
      exact (hv j _ l[j] (by simp [Value.cells] at hj ⊢) (List.getElem?_eq_getElem hj')).one (h1 _ (List.getElem_mem hj'))
    · have hj : j < l.length := (List.getElem?_eq_some_iff.1 hy).1
      have hj2 : cs[j]? = some (cs[j]'(by omega)) := Array.getElem?_eq_getElem (by omega)
      exact ⟨h1 y (List.mem_of_getElem? hy), _, hj2, hv j _ y hj2 hy⟩
  | tup cs l hs hv => simp [cellsOf] at hl
  | own id v hb hs => obtain ⟨A, n, c, rfl⟩ := hs; exact one h0 rfl rfl rfl
  | raw v h1 => exact one h0 rfl rfl (by cases v <;> first | rfl | (simp [Value.oneCell'] at h1))
  | _ => exact one h0 rfl rfl rfl

/-- A store into a variable. -/
theorem store_ok {t : TypeId} {d : TyD} {id : Nat} {l : List AV} {v u : Value} {a : Nat} {x : AV} (hp : Pre hs nx β F w) (hm : (id, .cells l) ∈ hs) (ht : tyOk P t d = true)
    (hv : VR β F w v (.ptr id a)) (hu : VR β F w u x) (hx : (cellsOf x).length = d.size) (hr : a + d.size ≤ l.length) :
    ∃ w', (Instr.storeAt t v u).run P w = .ok () w' ∧ Post hs nx ⟨.tup [], [(id, some (.cells (putCells l a (cellsOf x))))], [], []⟩ β F w undef β F w' := by
  obtain ⟨i0, u0, z0, hi0, hu0, hs0, hb0, hsz, _⟩ := tyOk_parts ht
  obtain ⟨hO, hF⟩ := hp.hh _ hm
  obtain ⟨hc1, hc2, hc3⟩ := hu.cells (by omega)
  obtain ⟨b, o, cur, e, h1, h2, h3, h4⟩ := hO
  cases hv with
  | ptr _ _ b' o' h5 =>
    rw [h1] at h5
    injection h5 with h5
    injection h5 with h5
    injection h5 with h5
    injection h5 with h5 h6
    subst h5
    subst h6
    have hnF : ¬ F b := hF _ b h1 rfl
    have hlen : u.cells.toList.length = d.size := by rw [Array.length_toList, hc1, hx]
    have hst := run_storeCells_at P b (o + a) e u.cells.toList 0 cur w h2 (by rw [hlen]; omega) hc2
    refine ⟨w.setRow b (cur.toList.take (o + a + 0) ++ u.cells.toList ++ cur.toList.drop (o + a + 0 + u.cells.toList.length)).toArray, ?_, ?_⟩
    · simp only [Instr.storeAt, Instr.sureAddr, Sem.run_bind, Sem.run_pure, Result.andThen_ok, storeVar, run_size ht]
      rw [if_neg (by rw [hc1, hx]; simp)]
      exact hst
    · have hother : ∀ k, k ≠ b → (w.setRow b (cur.toList.take (o + a + 0) ++ u.cells.toList ++ cur.toList.drop (o + a + 0 + u.cells.toList.length)).toArray).heap[k]? = w.heap[k]? := fun k hk => setRow_other w b k _ hk
      have hF' : ∀ k, F k → k ≠ b := fun k hk e => hnF (e ▸ hk)
      constructor
      · exact .tup _ _ rfl (fun j v x hv => by simp at hv)
      · exact fun _ _ h => h
      · exact fun _ _ h => .inl h
      · exact fun _ h => h
      · exact fun k hk => by have := hp.hF k hk; simpa using this
      · exact fun _ h => .inl h
      · intro id' ob hob
        simp only [List.mem_singleton, Prod.mk.injEq, Option.some.injEq] at hob
        obtain ⟨rfl, rfl⟩ := hob
        have hcur : cur.toList.length = cur.size := by simp
        refine ⟨b, o, _, e, h1, setRow_heap w b cur _ e _ h2, ?_, fun j y hy => ?_⟩
        · simp only [List.size_toArray, Nat.add_zero]
          rw [seg_length _ _ _ (by rw [hlen, hcur]; omega)]
          unfold putCells
          rw [seg_length _ _ _ (by omega), hcur]
          exact h3
        · unfold putCells at hy
          rw [seg_get _ _ _ _ (by omega)] at hy
          simp only [List.getElem?_toArray, Nat.add_zero]
          rw [seg_get _ _ _ _ (by rw [hlen, hcur]; omega), hlen]
          by_cases g1 : j < a
          · rw [if_pos g1] at hy
            rw [if_pos (by omega)]
            obtain ⟨h5, v, h6, h7⟩ := h4 j y hy
            exact ⟨h5, v, by simpa using h6, h7.mono (fun _ _ h => h) (fun _ h => h) (fun k hk => setRow_other w b k _ (hF' k hk))⟩
          · rw [if_neg g1] at hy
            rw [if_neg (by omega)]
            by_cases g2 : j < a + d.size
            · rw [hx, if_pos g2] at hy
              rw [if_pos (by omega)]
              obtain ⟨h5, v, h6, h7⟩ := hc3 (j - a) y hy
              refine ⟨h5, v, ?_, h7.mono (fun _ _ h => h) (fun _ h => h) (fun k hk => setRow_other w b k _ (hF' k hk))⟩
              rw [show o + j - (o + a) = j - a by omega]
              simpa using h6
            · rw [hx, if_neg g2] at hy
              rw [if_neg (by omega)]
              obtain ⟨h5, v, h6, h7⟩ := h4 j y hy
              exact ⟨h5, v, by simpa using h6, h7.mono (fun _ _ h => h) (fun _ h => h) (fun k hk => setRow_other w b k _ (hF' k hk))⟩
      · intro j ob h; simp at h
      · intro j x b h; simp at h
      · intro j k x y b h; simp at h
      · intro p hp'
        simp only [List.mem_singleton] at hp'
        subst hp'
        exact ⟨_, hm⟩
      · intro id' ob h h'
        simp at h'
      · intro k hk hne
        refine hother k (fun e => ?_)
        subst e
        exact hne (id, _) (List.mem_singleton.2 rfl) _ h1 rfl
      · rfl
      · rfl
      · rfl
      · simp
end
end Go.Qv
