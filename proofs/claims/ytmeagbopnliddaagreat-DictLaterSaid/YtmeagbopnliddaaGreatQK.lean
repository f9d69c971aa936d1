/- The operations, sixth part: cuts, fields, stores into arrays. -/
import Derived.Test.YtmeagbopnliddaaGreatQJM
set_option linter.unusedVariables false
set_option linter.unusedSimpArgs false
namespace Go.Qv
open Go.RowKit
section
variable {P : Program} {tb : Tb} {hs : List (Nat × HObj)} {nx : Nat} {β : Nat → Option Value} {F : Nat → Prop} {w : World}

theorem Post.frz (hp : Pre hs nx β F w) {ids : List Nat} {v : Value} {x : AV} (hids : ∀ id ∈ ids, ∃ ob, (id, ob) ∈ hs) (h : VR β (FZ ids β F) w v x) : Post hs nx ⟨x, gone ids, ids, []⟩ β F w v β (FZ ids β F) w where
  vr := h
  βext _ _ h := h
  βnew _ _ h := .inl h
  Fext := FZ.ext
  Flt b hb := by
    rcases hb with hb | ⟨id, hid, y, h1, h2⟩
    · exact hp.hF b hb
    · obtain ⟨ob, hob⟩ := hids id hid
      exact (hp.hh _ hob).1.lt h1 h2
  Fnew b hb := by
    rcases hb with hb | ⟨id, hid, y, h1, h2⟩
    · exact .inl hb
    · exact .inr (.inr ⟨id, hid, by simp only [gone, List.mem_map]; exact ⟨id, hid, rfl⟩, y, h1, h2⟩)
  live id ob h := by have := (gone_mem h).1; simp at this
  news _ _ h := by simp at h
  newb _ _ _ h := by simp at h
  newsep _ _ _ _ _ h := by simp at h
  known p h := hids _ (gone_mem h).2
  nd id ob h := by have := (gone_mem h).1; simp at this
  frame _ _ _ := rfl
  os := rfl
  tape := rfl
  output := rfl
  size := Nat.le_refl _

theorem ocut_real (c : LS) (l h : Int) (hk : c.ok) : (c.ocut O.real l h).elems = (c.elems.drop l.toNat).take (h - l).toNat ∧ (c.ocut O.real l h).sz = c.sz ∧ (c.ocut O.real l h).ok := by
  cases c with
  | i k xs => exact ⟨by simp [LS.elems, LS.ocut, O.real, List.map_take, List.map_drop], rfl, trivial⟩
  | s xs => exact ⟨by simp [LS.elems, LS.ocut, O.real, List.map_take, List.map_drop], rfl, trivial⟩
  | v xs => exact ⟨by simp [LS.elems, LS.ocut, O.real, List.map_take, List.map_drop], rfl, trivial⟩
  | r sh xs => exact ⟨by simp [LS.elems, LS.ocut, O.real], rfl, hk.1, fun e he => hk.2 e (List.mem_of_mem_drop (List.mem_of_mem_take he))⟩
theorem ocut_len (c : LS) (l h : Int) (hk : c.ok) (hb : O.real.cutb l h (c.olen O.real)) : (c.ocut O.real l h).len = (h - l).toNat := by
  rw [olen_real] at hb
  obtain ⟨h1, h2, h3⟩ : 0 ≤ l ∧ l ≤ h ∧ h ≤ (c.len : Int) := hb
  rw [← LS.elems_len, (ocut_real c l h hk).1, List.length_take, List.length_drop, LS.elems_len]
  omega
/-- A bound that is there, or is not. -/
def BndIs (ρ : Operand → Value) (b : Option Operand) (d : Int) (z : Int) : Prop :=
  (b = none ∧ z = d) ∨ ∃ x k, b = some x ∧ ρ x = .int k z
theorem run_bounds {s : Bool} {n cap : Nat} {ρ : Operand → Value} {lo hi : Option Operand} {l h : Int} (hl : BndIs ρ lo 0 l) (hh : BndIs ρ hi n h) (h1 : 0 ≤ l) (h2 : l ≤ h) (h3 : h ≤ n) (h4 : n ≤ cap) :
    (Instr.sliceBounds s n cap (lo.map ρ) (hi.map ρ) none).run P w = .ok (l.toNat, h.toNat, cap) w := by
  have a2 : h ≤ (cap : Int) := by omega
  have a3 : 0 ≤ h := by omega
  have a4 : l ≤ (h.toNat : Int) := by omega
  rcases hl with ⟨rfl, rfl⟩ | ⟨x, k, rfl, hx⟩ <;> rcases hh with ⟨rfl, rfl⟩ | ⟨y, k', rfl, hy⟩
  · simp [Instr.sliceBounds]
  · simp [Instr.sliceBounds, Instr.sliceBound, hy, asIntOf, a2, a3]
  · simp [Instr.sliceBounds, Instr.sliceBound, hx, asIntOf, h1, h2]
  · simp [Instr.sliceBounds, Instr.sliceBound, hx, hy, asIntOf, a2, a3, h1, a4, h2]
    intro hlt; omega
theorem cut_ok {t e : TypeId} {k : LK} {d dt : TyD} {c : LS} {v : Value} {lo hi : Option Operand} {ρ : Operand → Value} {l h : Int} (htt : tyOk P t dt = true) (hkt : dt.kd = .slice e k) (hte : tyOk P e d = true) (hsz : d.size = c.sz)
    (hv : VR β F w v (.sl c)) (hl : BndIs ρ lo 0 l) (hh : BndIs ρ hi (c.olen O.real) h) (hb : O.real.cutb l h (c.olen O.real)) :
    ∃ r, (Instr.sliceAt t v (lo.map ρ) (hi.map ρ) none).run P w = .ok r w ∧ VR β F w r (.sl (c.ocut O.real l h)) := by
  have hkt' := kdIs htt
  rw [hkt] at hkt'
  simp only [KdIs] at hkt'
  have hb' := hb
  rw [olen_real] at hb hh
  obtain ⟨h1, h2, h3⟩ : 0 ≤ l ∧ l ≤ h ∧ h ≤ (c.len : Int) := hb
  have go : ∀ (A : Option Addr) (n cap : Nat), n = c.len → n ≤ cap → v = .slice A n cap → (Instr.sliceAt t v (lo.map ρ) (hi.map ρ) none).run P w = .ok (.slice (if cap = l.toNat then A else A.map (·.add (l.toNat * d.size))) (h.toNat - l.toNat) (cap - l.toNat)) w := by
    intro A n cap hn hc hv
    subst hv
    subst hn
    simp only [Instr.sliceAt, Sem.run_bind, run_underlying hkt', Result.andThen_ok]
    simp only [Instr.slice, Sem.run_bind, run_underlying hkt', Result.andThen_ok, run_bounds hl hh h1 h2 h3 hc, run_size hte, Sem.run_pure]
  have hk : c.ok := by cases hv <;> assumption
  obtain ⟨o1, o2, o3⟩ := ocut_real c l h hk
  have o4 := ocut_len c l h hk hb'
  cases hv with
  | sl0 _ A cap hc _ =>
    refine ⟨_, go A 0 cap hc.symm (Nat.zero_le _) rfl, ?_⟩
    have hl0 : l.toNat = 0 := by omega
    have hh0 : h.toNat = 0 := by omega
    rw [hl0, hh0]
    exact .sl0 _ _ _ (by rw [o4]; omega) o3
  | sl _ b o n cap cv e1 g2 g3 g4 hf _ hc hvv =>
    subst e1
    refine ⟨_, go (some ⟨b, o, none⟩) c.len cap rfl g3 rfl, ?_⟩
    have hn : h.toNat - l.toNat = (h - l).toNat := by omega
    rw [hn]
    rcases Nat.eq_zero_or_pos (h - l).toNat with h0 | h0
    · rw [h0]
      exact .sl0 _ _ _ (by rw [o4]; exact h0) o3
    · have hne : cap ≠ l.toNat := by omega
      rw [if_neg hne]
      simp only [Option.map_some]
      rw [addr_add, hsz]
      refine .sl _ b _ _ _ (fun i j => cv (l.toNat + i) j) o4.symm h0 (by omega) (by omega) hf o3 (fun i j hi hj => ?_) (fun i el j x he hx => ?_)
      · rw [o2] at hj ⊢
        have := hc (l.toNat + i) j (by omega) hj
        rw [Nat.add_mul] at this
        rw [show o + l.toNat * c.sz + (i * c.sz + j) = o + (l.toNat * c.sz + i * c.sz + j) by omega]
        exact this
      · rw [o1] at he
        have he' : c.elems[l.toNat + i]? = some el := by
          rw [List.getElem?_take] at he
          split at he
          · rwa [List.getElem?_drop] at he
          · cases he
        exact hvv _ el j x he' hx
theorem cut_str {t : TypeId} {dt : TyD} {s : ByteArray} {lo hi : Option Operand} {ρ : Operand → Value} {l h : Int} (htt : tyOk P t dt = true) (hkt : dt.kd = .str)
    (hl : BndIs ρ lo 0 l) (hh : BndIs ρ hi (O.real.slen s) h) (hb : O.real.cutb l h (O.real.slen s)) :
    (Instr.sliceAt t (.string s) (lo.map ρ) (hi.map ρ) none).run P w = .ok (.string (O.real.scut s l h)) w := by
  have hkt' := kdIs htt
  rw [hkt] at hkt'
  simp only [KdIs] at hkt'
  obtain ⟨h1, h2, h3⟩ : 0 ≤ l ∧ l ≤ h ∧ h ≤ (s.size : Int) := hb
  simp only [Instr.sliceAt, Sem.run_bind, run_underlying hkt', Result.andThen_ok]
  simp [Instr.slice, Sem.run_bind, run_underlying hkt', run_bounds hl hh h1 h2 h3 (Nat.le_refl _), O.real]

/-! ### fields -/
theorem fs_at {t : TypeId} {d : TyD} (ht : tyOk P t d = true) (hkd : d.kd = .struct) {j off sz : Nat} {g : Bool} (hj : d.fs[j]? = some (off, sz, g)) :
    ∃ fs f fi fu, P.underlying t = some (.struct fs) ∧ fs[j]? = some f ∧ P.info? f.type = some fi ∧ P.underlying f.type = some fu ∧ f.offset = off ∧ fi.size = sz ∧ 0 < sz ∧ TypeDesc.isAgg fu = g ∧ off + sz ≤ d.size := by
  obtain ⟨i, u, z, hi, hu, hs1, hb1, hs0, hb0, hk, hz, hzz, hzl⟩ := tyOk_parts ht
  have hk' := kdIs ht
  rw [hkd] at hk'
  obtain ⟨fs, hfs⟩ := hk'
  rw [hu] at hfs
  injection hfs with hfs
  subst hfs
  simp only [kdOk, hkd, Bool.true_and, Bool.and_eq_true, Nat.beq_eq, List.all_eq_true] at hk
  obtain ⟨hflen, hfall⟩ := hk
  have := hfall ((off, sz, g), j) (by rw [List.mem_zipIdx_iff_getElem?]; exact hj)
  simp only at this
  split at this
  · rename_i f hf
    split at this
    · rename_i fi fu hfi hfu
      simp only [Bool.and_eq_true, Nat.beq_eq, Bool.not_eq_true', Nat.ble_eq, beq_iff_eq] at this
      obtain ⟨⟨⟨⟨a1, a2⟩, a3⟩, a4⟩, a5⟩ := this
      refine ⟨fs, f, fi, fu, hu, hf, hfi, hfu, a1, a2, ?_, a3, a5⟩
      rw [← a2]
      cases hz0 : fi.size with
      | zero => rw [hz0] at a4; simp [Nat.beq] at a4
      | succ n => omega
    · simp at this
  · simp at this
theorem fieldAt_ok {t : TypeId} {d : TyD} (ht : tyOk P t d = true) (hkd : d.kd = .struct) {j off sz : Nat} {g : Bool} (hj : d.fs[j]? = some (off, sz, g)) (b o : Nat) :
    (Instr.fieldAt t (.pointer (some ⟨b, o, none⟩)) j).run P w = .ok (.pointer (some ⟨b, o + off, none⟩)) w := by
  obtain ⟨fs, f, fi, fu, h1, h2, h3, h4, h5, h6, h7, h8, h9⟩ := fs_at ht hkd hj
  have hne : fi.size ≠ 0 := by omega
  simp [Instr.fieldAt, run_underlying h1, h2, Instr.sureAddr, fieldPlace, sizeOf, typeInfo, h3, hne, addr_add, h5]
theorem field_ok {t : TypeId} {d : TyD} {v : Value} {l : List AV} {z : AV} (ht : tyOk P t d = true) (hkd : d.kd = .struct) {j off sz : Nat} {g : Bool} (hj : d.fs[j]? = some (off, sz, g)) (hv : VR β F w v (.agg l))
    (hm : mkAgg g ((l.drop off).take sz) = some z) (hl : off + sz ≤ l.length) : ∃ r, (Instr.field t v j).run P w = .ok r w ∧ VR β F w r z := by
  obtain ⟨fs, f, fi, fu, h1, h2, h3, h4, h5, h6, h7, h8, h9⟩ := fs_at ht hkd hj
  cases hv with
  | agg cs _ hs h1' hv =>
    have hagg : (isAgg f.type).run P w = .ok (TypeDesc.isAgg fu) w := by
      unfold isAgg
      simp only [Sem.run_bind, run_underlying h4, Result.andThen_ok]
      cases fu <;> rfl
    simp only [Instr.field, Sem.run_bind, run_underlying h1, Result.andThen_ok, h2, asAgg, Sem.run_pure, part, hagg, h8, h5]
    rcases mkAgg_some hm with ⟨rfl, rfl⟩ | ⟨rfl, hz⟩
    · refine ⟨.agg (cs.extract off (off + sz)), by simp [sizeOf, typeInfo, h3, h6], .agg _ _ (by simp; omega) (fun x hx => h1' x (List.mem_of_mem_drop (List.mem_of_mem_take hx))) (fun i u x hu hx => ?_)⟩
      rw [List.getElem?_take] at hx
      split at hx
      · rw [List.getElem?_drop] at hx
        rw [Array.getElem?_extract] at hu
        split at hu
        · exact hv _ u x hu hx
        · cases hu
      · cases hx
    · have hz0 : l[off]? = some z := by
        have : ((l.drop off).take sz)[0]? = some z := by rw [hz]; rfl
        rw [List.getElem?_take, if_pos h7, List.getElem?_drop] at this
        simpa using this
      have hlt : off < cs.size := by have := (List.getElem?_eq_some_iff.1 hz0).1; omega
      refine ⟨cs[off], by simp [hlt], hv off _ z (Array.getElem?_eq_getElem hlt) hz0⟩
theorem indexArr_ok {t e : TypeId} {n : Nat} {d dt : TyD} {v : Value} {l : List AV} {z : AV} {i : Int} {ki : IntKind} (htt : tyOk P t dt = true) (hkt : dt.kd = .array n e) (hte : tyOk P e d = true) (hg : d.kd.agg = false) (hsz : d.size = 1)
    (hv : VR β F w v (.agg l)) (h0 : 0 ≤ i) (h1 : i < (n : Int)) (hz : l[i.toNat]? = some z) : ∃ r, (Instr.index t v (.int ki i)).run P w = .ok r w ∧ VR β F w r z := by
  have hkt' := kdIs htt
  rw [hkt] at hkt'
  simp only [KdIs] at hkt'
  cases hv with
  | agg cs _ hs h1' hv =>
    have hlt : i.toNat < cs.size := by have := (List.getElem?_eq_some_iff.1 hz).1; omega
    have hagg := run_isAgg hte w
    rw [hg] at hagg
    refine ⟨cs[i.toNat], ?_, hv _ _ z (Array.getElem?_eq_getElem hlt) hz⟩
    simp [Instr.index, asIntOf, Sem.run_bind, run_underlying hkt', h0, h1, run_size hte, hsz, part, hagg, hlt]
theorem indexAt_sl {t e : TypeId} {k : LK} {d dt : TyD} {c : LS} {v : Value} {i : Int} {ki : IntKind} (htt : tyOk P t dt = true) (hkt : dt.kd = .slice e k) (hte : tyOk P e d = true) (hsz : d.size = c.sz)
    (hv : VR β F w v (.sl c)) (hi : O.real.inb i (c.olen O.real)) : ∃ r, (Instr.indexAt t v (.int ki i)).run P w = .ok r w ∧ VR β F w r (.rp (c.oget O.real i)) := by
  have hkt' := kdIs htt
  rw [hkt] at hkt'
  simp only [KdIs] at hkt'
  obtain ⟨b, o, n, cap, rfl, hn, hr⟩ := hv.sl_at hi
  rw [olen_real] at hi
  obtain ⟨h0, h1⟩ : 0 ≤ i ∧ i < (c.len : Int) := hi
  refine ⟨_, ?_, hr⟩
  have h2 : i < (n : Int) := by rw [hn]; exact h1
  simp [Instr.indexAt, asIntOf, run_underlying hkt', h0, h2, run_size hte, addr_add, hsz]
theorem indexAt_own {t e e' : TypeId} {k : LK} {d dt : TyD} {c : LS} {v : Value} {i : Int} {ki : IntKind} {id : Nat} (htt : tyOk P t dt = true) (hkt : dt.kd = .slice e k) (hte : tyOk P e d = true) (hsz : d.size = c.sz)
    (hO : OR β F w id (.arr e' c)) (hv : VR β F w v (.own id)) (hi : O.real.inb i (c.olen O.real)) : ∃ r, (Instr.indexAt t v (.int ki i)).run P w = .ok r w ∧ VR β F w r (.ep id c.sz i 0) := by
  have hkt' := kdIs htt
  rw [hkt] at hkt'
  simp only [KdIs] at hkt'
  rw [olen_real] at hi
  obtain ⟨h0, h1⟩ : 0 ≤ i ∧ i < (c.len : Int) := hi
  obtain ⟨u, cvs, e1, e2, _⟩ := hO
  cases hv with
  | own _ _ hb hs' =>
    rw [hb] at e1
    injection e1 with e1
    subst e1
    rcases e2.2 with ⟨rfl, hn⟩ | ⟨g, cap, cur, rfl, _⟩
    · omega
    · exact ⟨_, by simp [Instr.indexAt, asIntOf, run_underlying hkt', h0, h1, run_size hte, addr_add, hsz]; rfl, by have := VR.ep (F := F) (w := w) id c.sz i 0 g c.len cap hb; simpa using this⟩
/-! ### a store into an array of the call's own -/
theorem arr_store {t e : TypeId} {d : TyD} {c c' : LS} {v u : Value} {i : Int} {id : Nat} {ids : List Nat} {el : List AV} (hp : Pre hs nx β F w) (hm : (id, .arr e c) ∈ hs) (ht : tyOk P t d = true) (hids : ∀ i ∈ ids, ∃ ob, (i, ob) ∈ hs) (hnot : id ∉ ids)
    (hsep : ∀ j ∈ ids, ∀ y y' b, β j = some y → β id = some y' → blkOf y = some b → blkOf y' = some b → False)
    (hv : VR β F w v (.ep id c.sz i 0)) (hi : O.real.inb i (c.olen O.real)) (hd : d.size = c.sz) (hul : u.cells.size = c.sz) (hu1 : ∀ x ∈ u.cells.toList, x.oneCell' = true)
    (hu : ∀ (j : Nat) (x : AV), el[j]? = some x → ∃ y, u.cells[j]? = some y ∧ VR β (FZ ids β F) w y x)
    (he : c'.elems = c.elems.set i.toNat el) (hz : c'.sz = c.sz) (hk' : c'.ok) :
    ∃ w', (Instr.storeAt t v u).run P w = .ok () w' ∧ Post hs nx ⟨.tup [], (id, some (.arr e c')) :: gone ids, ids, []⟩ β F w undef β (FZ ids β F) w' := by
  obtain ⟨i0, u0, z0, hi0, hu0, hs0, hb0, hsz, _⟩ := tyOk_parts ht
  obtain ⟨hO, hF⟩ := hp.hh _ hm
  have hO0 := hO
  obtain ⟨v0, cvs, e1, e2, hk, e4⟩ := hO
  have hi' := hi
  rw [olen_real] at hi'
  obtain ⟨h0, h1⟩ : 0 ≤ i ∧ i < (c.len : Int) := hi'
  cases hv with
  | ep _ _ _ _ b n cap hb =>
    rw [hb] at e1
    injection e1 with e1
    subst e1
    rcases e2.2 with ⟨h5, _⟩ | ⟨g, cap', cur, h5, _, hg, hnc, hcm, hcs, htk⟩
    · cases h5
    injection h5 with h5 h6 h7
    injection h5 with h5
    injection h5 with h5
    subst h5
    subst h6
    subst h7
    have hnF : ¬ F b := hF _ b hb rfl
    have hlt : i.toNat * c.sz + c.sz ≤ c.len * c.sz := by rw [← Nat.succ_mul]; exact Nat.mul_le_mul_right _ (by omega)
    have hle : c.len * c.sz ≤ cap * c.sz := Nat.mul_le_mul_right _ hnc
    have hlen : u.cells.toList.length = c.sz := by rw [Array.length_toList, hul]
    have hst := run_storeCells_at P b (i.toNat * c.sz) e u.cells.toList 0 cur w hg (by rw [hlen]; omega) hu1
    have hltF : ∀ k, FZ ids β F k → k < w.heap.size := by
      rintro k (h | ⟨j, hj, y, a1, a2⟩)
      · exact hp.hF k h
      · obtain ⟨ob, hob⟩ := hids j hj
        exact (hp.hh _ hob).1.lt a1 a2
    have hne : ∀ k, FZ ids β F k → k ≠ b := by
      rintro k (h | ⟨j, hj, y, a1, a2⟩) rfl
      · exact hnF h
      · exact hsep j hj y _ k a1 hb a2 rfl
    have hclen : c'.len = c.len := by rw [← LS.elems_len, he, List.length_set, LS.elems_len]
    have hcur : cur.toList.length = cap * c.sz := by rw [Array.length_toList, hcs]
    refine ⟨w.setRow b (cur.toList.take (i.toNat * c.sz + 0) ++ u.cells.toList ++ cur.toList.drop (i.toNat * c.sz + 0 + u.cells.toList.length)).toArray, ?_, ?_⟩
    · simp only [Instr.storeAt, Instr.sureAddr, Sem.run_bind, Sem.run_pure, Result.andThen_ok, storeVar, run_size ht]
      rw [if_neg (by rw [hul, hd]; simp)]
      exact hst
    · constructor
      · exact .tup _ _ rfl (fun j v x hv => by simp at hv)
      · exact fun _ _ h => h
      · exact fun _ _ h => .inl h
      · exact FZ.ext
      · exact fun k hk => by have := hltF k hk; simpa using this
      · rintro k (h | ⟨j, hj, y, a1, a2⟩)
        · exact .inl h
        · exact .inr (.inr ⟨j, hj, List.mem_cons_of_mem _ (by simp only [gone, List.mem_map]; exact ⟨j, hj, rfl⟩), y, a1, a2⟩)
      · intro id' ob hob
        rcases List.mem_cons.1 hob with hob | hob
        · injection hob with a1 a2
          injection a2 with a2
          subst a1
          subst a2
          refine ⟨_, (cur.toList.take (i.toNat * c.sz + 0) ++ u.cells.toList ++ cur.toList.drop (i.toNat * c.sz + 0 + u.cells.toList.length)).take (c.len * c.sz), hb, ?_, hk', ?_⟩
          · refine ⟨?_, .inr ⟨b, cap, _, by rw [hclen], Nat.zero_le _, setRow_heap w b cur _ e _ hg, by rw [hclen]; exact hnc, hcm, ?_, ?_⟩⟩
            · rw [List.length_take, seg_length _ _ _ (by rw [hlen, hcur]; omega), hcur, hclen, hz]; omega
            · rw [List.size_toArray, seg_length _ _ _ (by rw [hlen, hcur]; omega), hcur, hz]
            · rw [hclen, hz]
          · intro i' el' j x he' hx
            have hj : j < c.sz := by rw [← hz, ← LS.el_len hk' el' (List.mem_of_getElem? he')]; exact (List.getElem?_eq_some_iff.1 hx).1
            have hi'' : i' < c.len := by have := (List.getElem?_eq_some_iff.1 he').1; rw [LS.elems_len, hclen] at this; exact this
            have hlt' : i' * c.sz + c.sz ≤ c.len * c.sz := by rw [← Nat.succ_mul]; exact Nat.mul_le_mul_right _ hi''
            have keep : ∀ {y : Value} {x : AV}, VR β (FZ ids β F) w y x → VR β (FZ ids β F) (w.setRow b (cur.toList.take (i.toNat * c.sz + 0) ++ u.cells.toList ++ cur.toList.drop (i.toNat * c.sz + 0 + u.cells.toList.length)).toArray) y x :=
              fun h => h.mono (fun _ _ h => h) (fun _ h => h) (fun k hk => setRow_other w b k _ (hne k hk))
            rw [hz, List.getElem?_take, if_pos (by omega), seg_get _ _ _ _ (by rw [hlen, hcur]; omega), hlen]
            simp only [hlen] at keep
            rw [he, List.getElem?_set] at he'
            by_cases hii : i.toNat = i'
            · subst hii
              rw [if_pos rfl, if_pos (by rw [LS.elems_len]; omega)] at he'
              injection he' with he'
              subst he'
              obtain ⟨y, b1, b2⟩ := hu j x hx
              refine ⟨y, ?_, keep b2⟩
              rw [if_neg (by omega), if_pos (by omega)]
              rw [show i.toNat * c.sz + j - (i.toNat * c.sz + 0) = j by omega]
              simpa using b1
            · rw [if_neg hii] at he'
              obtain ⟨y, b1, b2⟩ := e4 i' el' j x he' hx
              refine ⟨y, ?_, keep b2.fz⟩
              rw [← htk, List.getElem?_take, if_pos (by omega)] at b1
              rcases Nat.lt_or_gt_of_ne hii with hlt2 | hlt2
              · have : (i.toNat + 1) * c.sz ≤ i' * c.sz := Nat.mul_le_mul_right _ hlt2
                rw [Nat.succ_mul] at this
                rw [if_neg (by omega), if_neg (by omega)]
                exact b1
              · have : (i' + 1) * c.sz ≤ i.toNat * c.sz := Nat.mul_le_mul_right _ hlt2
                rw [Nat.succ_mul] at this
                rw [if_pos (by omega)]
                exact b1
        · have := (gone_mem hob).1
          simp at this
      · intro j ob h; simp at h
      · intro j x b h; simp at h
      · intro j k x y b h; simp at h
      · intro p hp'
        rcases List.mem_cons.1 hp' with hp' | hp'
        · subst hp'; exact ⟨_, hm⟩
        · exact hids _ (gone_mem hp').2
      · intro id' ob hob hob'
        rcases List.mem_cons.1 hob with hob | hob
        · injection hob with a1 a2
          subst a1
          rcases List.mem_cons.1 hob' with hob' | hob'
          · injection hob' with a1 a2; cases a2
          · exact hnot (gone_mem hob').2
        · have := (gone_mem hob).1
          simp at this
      · intro k hk hne'
        refine setRow_other w b k _ (fun e => ?_)
        subst e
        exact hne' (id, _) (List.mem_cons_self) _ hb rfl
      · rfl
      · rfl
      · rfl
      · simp
theorem shapeFrom_get (r : List AV) : ∀ (sh : List CK) (k j : Nat) (ck : CK), sh[j]? = some ck → (shapeFrom r k sh)[j]? = some (ck.at r (k + j))
  | [], _, _, _, h => by simp at h
  | c :: sh, k, 0, ck, h => by simp at h; subst h; simp [shapeFrom]
  | c :: sh, k, j + 1, ck, h => by
    simp only [List.getElem?_cons_succ] at h
    simp only [shapeFrom, List.getElem?_cons_succ]
    rw [shapeFrom_get r sh (k + 1) j ck h, show k + 1 + j = k + (j + 1) by omega]
/-- One cell of any kind turned. -/
theorem shapeFrom_set {r : List AV} {sh : List CK} {a : Nat} {x : AV} (h : r = shapeFrom r 0 sh) (ha : sh[a]? = some .any) (hx : x.one = true) : r.set a x = shapeFrom (r.set a x) 0 sh := by
  have hl : r.length = sh.length := by rw [h, shapeFrom_length]
  have hal : a < sh.length := (List.getElem?_eq_some_iff.1 ha).1
  apply List.ext_getElem?
  intro j
  by_cases hj : j < sh.length
  · have hs : sh[j]? = some sh[j] := List.getElem?_eq_getElem hj
    rw [shapeFrom_get _ _ _ _ _ hs, Nat.zero_add]
    have hr : r[j]? = some (sh[j].at r j) := by
      have := shapeFrom_get r sh 0 j sh[j] hs
      rw [← h, Nat.zero_add] at this
      exact this
    by_cases hja : a = j
    · subst hja
      have : sh[a] = .any := by rw [hs] at ha; injection ha
      rw [List.getElem?_set, if_pos rfl, if_pos (by omega), this]
      simp [CK.at, rAny, List.getElem?_set, hl, hal, hx]
    · rw [List.getElem?_set, if_neg hja, hr]
      have e : ∀ ck : CK, ck.at (r.set a x) j = ck.at r j := by
        intro ck
        have : (r.set a x)[j]? = r[j]? := by rw [List.getElem?_set, if_neg hja]
        cases ck <;> simp only [CK.at, rInt, rBool, rStr, rInts, rStrs, rVs, rAny, this]
      rw [e]
  · rw [List.getElem?_eq_none (by simp; omega), List.getElem?_eq_none (by rw [shapeFrom_length]; omega)]
theorem anyAt_ok {sh : List CK} {j : Nat} (h : anyAt sh j = true) : sh[j]? = some .any := by
  unfold anyAt at h
  split at h
  · assumption
  · cases h
/-- A store into one cell of an element. -/
theorem arr_store1 {t e : TypeId} {d : TyD} {sh : List CK} {ys : List (List AV)} {v u : Value} {i : Int} {id a : Nat} {x : AV} (hp : Pre hs nx β F w) (hm : (id, .arr e (.r sh ys)) ∈ hs) (ht : tyOk P t d = true)
    (hv : VR β F w v (.ep id sh.length i a)) (hi : O.real.inb i (O.real.rlen ys)) (hd : d.size = 1) (hany : sh[a]? = some .any) (hx1 : x.one = true) (hu : VR β F w u x) :
    ∃ w', (Instr.storeAt t v u).run P w = .ok () w' ∧ Post hs nx ⟨.tup [], [(id, some (.arr e (.r sh (O.real.rset ys i ((O.real.rget ys i).set a x)))))], [], []⟩ β F w undef β F w' := by
  obtain ⟨i0, u0, z0, hi0, hu0, hs0, hb0, hsz, _⟩ := tyOk_parts ht
  obtain ⟨hO, hF⟩ := hp.hh _ hm
  obtain ⟨v0, cvs, e1, e2, hk, e4⟩ := hO
  obtain ⟨h0, h1⟩ : 0 ≤ i ∧ i < (ys.length : Int) := hi
  have ha : a < sh.length := (List.getElem?_eq_some_iff.1 hany).1
  have hlti : i.toNat < ys.length := by omega
  have hget : O.real.rget ys i = ys[i.toNat] := by simp [O.real, List.getD_eq_getElem?_getD, hlti]
  have hset : O.real.rset ys i ((O.real.rget ys i).set a x) = ys.set i.toNat (ys[i.toNat].set a x) := by rw [hget]; rfl
  rw [hset]
  have hrow : ys[i.toNat] = shapeFrom ys[i.toNat] 0 sh := hk.2 _ (List.getElem_mem _)
  have hrl : ys[i.toNat].length = sh.length := by rw [hrow, shapeFrom_length]
  have hk' : (LS.r sh (ys.set i.toNat (ys[i.toNat].set a x))).ok := by
    refine ⟨hk.1, fun el hel => ?_⟩
    rcases List.mem_or_eq_of_mem_set hel with hel | rfl
    · exact hk.2 el hel
    · exact shapeFrom_set hrow hany hx1
  have hu1 : u.cells = #[u] ∧ u.oneCell' = true := by
    have h1 := hu.one hx1
    refine ⟨?_, h1⟩
    cases u <;> first | rfl | (simp [Value.oneCell'] at h1)
  cases hv with
  | ep _ _ _ _ b n cap hb =>
    rw [hb] at e1
    injection e1 with e1
    subst e1
    rcases e2.2 with ⟨h5, _⟩ | ⟨g, cap', cur, h5, _, hg, hnc, hcm, hcs, htk⟩
    · cases h5
    injection h5 with h5 h6 h7
    injection h5 with h5
    injection h5 with h5
    subst h5
    subst h6
    subst h7
    have hnF : ¬ F b := hF _ b hb rfl
    have hnc : ys.length ≤ cap := hnc
    have hcs : cur.size = cap * sh.length := hcs
    have htk : cur.toList.take (ys.length * sh.length) = cvs := htk
    have hlt : i.toNat * sh.length + sh.length ≤ ys.length * sh.length := by rw [← Nat.succ_mul]; exact Nat.mul_le_mul_right _ (by omega)
    have hle : ys.length * sh.length ≤ cap * sh.length := Nat.mul_le_mul_right _ hnc
    have hlen : u.cells.toList.length = 1 := by rw [hu1.1]; rfl
    have hst := run_storeCells_at P b (i.toNat * sh.length + a) e u.cells.toList 0 cur w hg (by rw [hlen]; omega) (by rw [hu1.1]; intro y hy; simp at hy; subst hy; exact hu1.2)
    have hne : ∀ k, F k → k ≠ b := fun k hk e => hnF (e ▸ hk)
    have hcur : cur.toList.length = cap * sh.length := by rw [Array.length_toList, hcs]
    refine ⟨w.setRow b (cur.toList.take (i.toNat * sh.length + a + 0) ++ u.cells.toList ++ cur.toList.drop (i.toNat * sh.length + a + 0 + u.cells.toList.length)).toArray, ?_, ?_⟩
    · simp only [Instr.storeAt, Instr.sureAddr, Sem.run_bind, Sem.run_pure, Result.andThen_ok, storeVar, run_size ht]
      rw [if_neg (by rw [hu1.1, hd]; simp)]
      exact hst
    · constructor
      · exact .tup _ _ rfl (fun j v x hv => by simp at hv)
      · exact fun _ _ h => h
      · exact fun _ _ h => .inl h
      · exact fun _ h => h
      · exact fun k hk => by have := hp.hF k hk; simpa using this
      · exact fun _ h => .inl h
      · intro id' ob hob
        simp only [List.mem_singleton, Prod.mk.injEq, Option.some.injEq] at hob
        obtain ⟨rfl, rfl⟩ := hob
        refine ⟨_, (cur.toList.take (i.toNat * sh.length + a + 0) ++ u.cells.toList ++ cur.toList.drop (i.toNat * sh.length + a + 0 + u.cells.toList.length)).take (ys.length * sh.length), hb, ?_, hk', ?_⟩
        · refine ⟨?_, .inr ⟨b, cap, _, by simp [LS.len], Nat.zero_le _, setRow_heap w b cur _ e _ hg, by simpa [LS.len] using hnc, hcm, ?_, ?_⟩⟩
          · rw [List.length_take, seg_length _ _ _ (by rw [hlen, hcur]; omega), hcur, Nat.min_eq_left hle]; simp [LS.len, LS.sz]
          · rw [List.size_toArray, seg_length _ _ _ (by rw [hlen, hcur]; omega), hcur]; rfl
          · simp [LS.len, LS.sz]
        · intro i' el' j y he' hy
          have hj : j < sh.length := by have := LS.el_len hk' el' (List.mem_of_getElem? he'); rw [show (LS.r sh (ys.set i.toNat (ys[i.toNat].set a x))).sz = sh.length from rfl] at this; rw [← this]; exact (List.getElem?_eq_some_iff.1 hy).1
          have he' : (ys.set i.toNat (ys[i.toNat].set a x))[i']? = some el' := he'
          have hi'' : i' < ys.length := by have := (List.getElem?_eq_some_iff.1 he').1; simpa using this
          have hlt' : i' * sh.length + sh.length ≤ ys.length * sh.length := by rw [← Nat.succ_mul]; exact Nat.mul_le_mul_right _ hi''
          have keep : ∀ {y : Value} {x : AV}, VR β F w y x → VR β F (w.setRow b (cur.toList.take (i.toNat * sh.length + a + 0) ++ u.cells.toList ++ cur.toList.drop (i.toNat * sh.length + a + 0 + u.cells.toList.length)).toArray) y x :=
            fun h => h.mono (fun _ _ h => h) (fun _ h => h) (fun k hk => setRow_other w b k _ (hne k hk))
          rw [show (LS.r sh (ys.set i.toNat (ys[i.toNat].set a x))).sz = sh.length from rfl, List.getElem?_take, if_pos (by omega), seg_get _ _ _ _ (by rw [hlen, hcur]; omega), hlen]
          simp only [hlen] at keep
          have old : ∀ el y, ys[i']? = some el → el[j]? = some y → ∃ u, cur.toList[i' * sh.length + j]? = some u ∧ VR β F w u y := by
            intro el y g1 g2
            obtain ⟨y', b1, b2⟩ := e4 i' el j y g1 g2
            have b1 : cvs[i' * sh.length + j]? = some y' := b1
            rw [← htk, List.getElem?_take, if_pos (by omega)] at b1
            exact ⟨y', b1, b2⟩
          rw [List.getElem?_set] at he'
          by_cases hii : i.toNat = i'
          · subst hii
            rw [if_pos rfl, if_pos hlti] at he'
            injection he' with he'
            subst he'
            rw [List.getElem?_set] at hy
            by_cases haj : a = j
            · subst haj
              rw [if_pos rfl, if_pos (by omega)] at hy
              injection hy with hy
              subst hy
              refine ⟨u, ?_, keep hu⟩
              rw [if_neg (by omega), if_pos (by omega), hu1.1]
              simp
            · rw [if_neg haj] at hy
              obtain ⟨y', b1, b2⟩ := old _ _ (List.getElem?_eq_getElem hlti) hy
              refine ⟨y', ?_, keep b2⟩
              by_cases hja : j < a
              · rw [if_pos (by omega)]; exact b1
              · rw [if_neg (by omega), if_neg (by omega)]; exact b1
          · rw [if_neg hii] at he'
            obtain ⟨y', b1, b2⟩ := old _ _ he' hy
            refine ⟨y', ?_, keep b2⟩
            rcases Nat.lt_or_gt_of_ne hii with hlt2 | hlt2
            · have : (i.toNat + 1) * sh.length ≤ i' * sh.length := Nat.mul_le_mul_right _ hlt2
              rw [Nat.succ_mul] at this
              rw [if_neg (by omega), if_neg (by omega)]
              exact b1
            · have : (i' + 1) * sh.length ≤ i.toNat * sh.length := Nat.mul_le_mul_right _ hlt2
              rw [Nat.succ_mul] at this
              rw [if_pos (by omega)]
              exact b1
      · intro j ob h; simp at h
      · intro j x b h; simp at h
      · intro j k x y b h; simp at h
      · intro p hp'
        simp only [List.mem_singleton] at hp'
        subst hp'
        exact ⟨_, hm⟩
      · intro id' ob h h'
        simp at h'
      · intro k hk hne'
        refine setRow_other w b k _ (fun e => ?_)
        subst e
        exact hne' (id, _) (List.mem_singleton.2 rfl) _ hb rfl
      · rfl
      · rfl
      · rfl
      · simp
end
end Go.Qv
