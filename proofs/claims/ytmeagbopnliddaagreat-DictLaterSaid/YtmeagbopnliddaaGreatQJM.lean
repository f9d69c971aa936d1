/- The operations, fifth part: append, addresses, cuts. -/
import Derived.Test.YtmeagbopnliddaaGreatQI
import Derived.Laws.BytesString
set_option linter.unusedVariables false
set_option linter.unusedSimpArgs false
namespace Go.Qv
open Go.RowKit
section
variable {P : Program} {tb : Tb} {hs : List (Nat × HObj)} {nx : Nat} {β : Nat → Option Value} {F : Nat → Prop} {w : World}

theorem divmod (i j n : Nat) (h : j < n) : (i * n + j) / n = i ∧ (i * n + j) % n = j := by
  constructor
  · rw [Nat.mul_comm, Nat.mul_add_div (by omega), Nat.div_eq_of_lt h, Nat.add_zero]
  · rw [Nat.mul_comm, Nat.mul_add_mod, Nat.mod_eq_of_lt h]
def Rows (β : Nat → Option Value) (F : Nat → Prop) (w : World) (v : Value) (c : LS) : Prop :=
  ∃ A cap us, v = .slice A c.len cap ∧ RowR β F w us c ∧ (∀ u ∈ us, u.oneCell' = true) ∧
    ((A = none ∧ c.len = 0) ∨ ∃ a : Addr, A = some a ∧ ∀ (j : Nat) (u : Value), us[j]? = some u → w.cell? (a.add j) = some u)
/-- A slice that is read, with its cells in a row. -/
theorem VR.rows {v : Value} {c : LS} (h : VR β F w v (.sl c)) : Rows β F w v c := by
  cases h with
  | sl0 _ A cap hc hk =>
    refine ⟨A, cap, [], by rw [hc], ⟨by rw [hc]; simp, hk, fun i el j x he => ?_⟩, by simp, ?_⟩
    · have := (List.getElem?_eq_some_iff.1 he).1
      rw [LS.elems_len] at this
      omega
    · cases A with
      | none => exact .inl ⟨rfl, hc⟩
      | some a => exact .inr ⟨a, rfl, by simp⟩
  | sl _ b o n cap cv e1 h2 h3 h4 hf hk hc hv =>
    subst e1
    have hsz := LS.sz_pos hk
    have hel : ∀ i, i < c.len → ∃ el, c.elems[i]? = some el ∧ el.length = c.sz := fun i hi => by
      have : i < c.elems.length := by rw [LS.elems_len]; exact hi
      exact ⟨_, List.getElem?_eq_getElem this, LS.el_len hk _ (List.getElem_mem this)⟩
    refine ⟨_, cap, (List.range (c.len * c.sz)).map fun k => cv (k / c.sz) (k % c.sz), rfl, ⟨by simp, hk, fun i el j x he hx => ?_⟩, fun u hu => ?_, .inr ⟨⟨b, o, none⟩, rfl, fun j u hu => ?_⟩⟩
    · have hi : i < c.len := by have := (List.getElem?_eq_some_iff.1 he).1; rwa [LS.elems_len] at this
      have hj : j < c.sz := by rw [← LS.el_len hk _ (List.mem_of_getElem? he)]; exact (List.getElem?_eq_some_iff.1 hx).1
      have hlt : i * c.sz + j < c.len * c.sz := by
        have : (i + 1) * c.sz ≤ c.len * c.sz := Nat.mul_le_mul_right _ hi
        rw [Nat.succ_mul] at this
        omega
      refine ⟨cv i j, ?_, hv i el j x he hx⟩
      obtain ⟨d1, d2⟩ := divmod i j c.sz hj
      simp [hlt, d1, d2]
    · simp only [List.mem_map, List.mem_range] at hu
      obtain ⟨k, hk', rfl⟩ := hu
      have hi : k / c.sz < c.len := Nat.div_lt_of_lt_mul (by rw [Nat.mul_comm]; exact hk')
      obtain ⟨el, he, hl⟩ := hel _ hi
      have hj : k % c.sz < el.length := by rw [hl]; exact Nat.mod_lt _ hsz
      exact (hv _ el _ _ he (List.getElem?_eq_getElem hj)).one (LS.el_one hk _ (List.mem_of_getElem? he) _ (List.getElem_mem hj))
    · simp only [List.getElem?_map] at hu
      obtain ⟨k, hk', rfl⟩ := Option.map_eq_some_iff.1 hu
      obtain ⟨hlt, hkj⟩ := List.getElem?_eq_some_iff.1 hk'
      simp at hkj hlt
      subst hkj
      have := hc (j / c.sz) (j % c.sz) (Nat.div_lt_of_lt_mul (by rw [Nat.mul_comm]; exact hlt)) (Nat.mod_lt _ hsz)
      rw [addr_add]
      rwa [Nat.div_add_mod'] at this
theorem RowR.app {us vs : List Value} {c d c' : LS} (h : RowR β F w us c) (k : RowR β F w vs d) (he : c'.elems = c.elems ++ d.elems) (hz : c'.sz = c.sz) (hz2 : d.sz = c.sz) (hk : c'.ok) : RowR β F w (us ++ vs) c' := by
  have hlen : c'.len = c.len + d.len := by rw [← LS.elems_len, he, List.length_append, LS.elems_len, LS.elems_len]
  refine ⟨by rw [List.length_append, h.1, k.1, hz, hz2, hlen, Nat.add_mul], hk, fun i el j x he' hx => ?_⟩
  have hj : j < c.sz := by
    rw [← hz, ← LS.el_len hk el (List.mem_of_getElem? he')]; exact (List.getElem?_eq_some_iff.1 hx).1
  rw [he] at he'
  rw [hz]
  rcases Nat.lt_or_ge i c.elems.length with hi | hi
  · rw [List.getElem?_append_left hi] at he'
    obtain ⟨u, h1, h2⟩ := h.2.2 i el j x he' hx
    rw [LS.elems_len] at hi
    have : i * c.sz + c.sz ≤ c.len * c.sz := by rw [← Nat.succ_mul]; exact Nat.mul_le_mul_right _ hi
    exact ⟨u, by rw [List.getElem?_append_left (by rw [h.1]; omega)]; exact h1, h2⟩
  · rw [List.getElem?_append_right hi] at he'
    obtain ⟨u, h1, h2⟩ := k.2.2 _ el j x he' hx
    rw [LS.elems_len] at h1 hi
    refine ⟨u, ?_, h2⟩
    have hle : c.len * c.sz ≤ i * c.sz := Nat.mul_le_mul_right _ hi
    rw [List.getElem?_append_right (by rw [h.1]; omega), h.1, ← h1, hz2, Nat.sub_mul]
    congr 1
    omega
theorem oapp_real {c d c' : LS} (h : c.oapp O.real d = some c') (hk : c.ok) (hd : d.ok) : c'.elems = c.elems ++ d.elems ∧ c'.sz = c.sz ∧ d.sz = c.sz ∧ c'.ok := by
  cases c <;> cases d <;> simp only [LS.oapp] at h <;> first | (cases h; done) | skip
  · split at h
    · rename_i he; have := of_decide_eq_true he; subst this; injection h with h; subst h; exact ⟨by simp [LS.elems, O.real], rfl, rfl, trivial⟩
    · cases h
  · injection h with h; subst h; exact ⟨by simp [LS.elems, O.real], rfl, rfl, trivial⟩
  · injection h with h; subst h; exact ⟨by simp [LS.elems, O.real], rfl, rfl, trivial⟩
  · split at h
    · rename_i he; have := of_decide_eq_true he; subst this; injection h with h; subst h
      refine ⟨by simp [LS.elems, O.real], rfl, rfl, hk.1, fun e he => ?_⟩
      rcases List.mem_append.1 he with he | he
      · exact hk.2 e he
      · exact hd.2 e he
    · cases h

theorem RowR.one {us : List Value} {c : LS} (h : RowR β F w us c) : ∀ u ∈ us, u.oneCell' = true := by
  intro u hu
  obtain ⟨k, hk, rfl⟩ := List.getElem_of_mem hu
  have hsz := LS.sz_pos h.2.1
  rw [h.1] at hk
  have hi : k / c.sz < c.elems.length := by rw [LS.elems_len]; exact Nat.div_lt_of_lt_mul (by rw [Nat.mul_comm]; exact hk)
  have hel := LS.el_len h.2.1 _ (List.getElem_mem hi)
  have hj : k % c.sz < (c.elems[k / c.sz]).length := by rw [hel]; exact Nat.mod_lt _ hsz
  obtain ⟨u, h1, h2⟩ := h.2.2 _ _ _ _ (List.getElem?_eq_getElem hi) (List.getElem?_eq_getElem hj)
  rw [Nat.div_add_mod'] at h1
  have e : us[k]'(by rw [h.1]; exact hk) = u := by
    rw [List.getElem?_eq_getElem (by rw [h.1]; exact hk)] at h1
    injection h1
  rw [e]
  exact h2.one (LS.el_one h.2.1 _ (List.getElem_mem hi) _ (List.getElem_mem hj))
theorem own_rows {id : Nat} {e : TypeId} {c : LS} {v : Value} (hO : OR β F w id (.arr e c)) (hv : VR β F w v (.own id)) : Rows β F w v c := by
  obtain ⟨u, cvs, h1, h2, hk, h4⟩ := hO
  cases hv with
  | own _ _ hb _ =>
    rw [hb] at h1
    injection h1 with h1
    subst h1
    have hr : RowR β F w cvs c := ⟨h2.1, hk, h4⟩
    rcases h2.2 with ⟨rfl, hn⟩ | ⟨g, cap, cur, rfl, _, hg, hnc, hcm, hcs, htk⟩
    · exact ⟨none, 0, cvs, by rw [hn], hr, hr.one, .inl ⟨rfl, hn⟩⟩
    · refine ⟨_, cap, cvs, rfl, hr, hr.one, .inr ⟨⟨g, 0, none⟩, rfl, fun j u hj => ?_⟩⟩
      rw [addr_add]
      rw [← htk, List.getElem?_take] at hj
      split at hj
      · simp only [Array.getElem?_toList] at hj
        simp only [World.cell?, hg, Option.isSome_none, Bool.false_eq_true, if_false, Nat.zero_add]
        exact hj
      · cases hj
theorem nils_rows {v : Value} {c : LS} (hv : VR β F w v .nils) (h0 : c.len = 0) (hk : c.ok) : Rows β F w v c := (nils_sl hv h0 hk).rows
theorem cLS_rows {k : LK} {x : AV} {c : LS} {v : Value} (hO : ∀ p ∈ hs, OR β F w p.1 p.2) (h : cLS hs k x = some c) (hv : VR β F w v x) : Rows β F w v c := by
  unfold cLS at h
  split at h <;> split at h <;> first | (cases h; done) | (rename_i he; injection h with h; subst h)
  · unfold cInts at he
    split at he
    · injection he with he; subst he; exact nils_rows hv rfl trivial
    · split at he
      · rename_i hd; injection he with he; subst he; rw [← of_decide_eq_true hd]; exact hv.rows
      · cases he
    · split at he
      · rename_i hl
        split at he
        · rename_i hd; injection he with he; subst he; rw [← of_decide_eq_true hd]; exact own_rows (hO _ (lk_mem hl)) hv
        · cases he
      · cases he
    · cases he
  · unfold cStrs at he
    split at he
    · injection he with he; subst he; exact nils_rows hv rfl trivial
    · injection he with he; subst he; exact hv.rows
    · split at he
      · rename_i hl; injection he with he; subst he; exact own_rows (hO _ (lk_mem hl)) hv
      · cases he
    · cases he
  · unfold cVs at he
    split at he
    · injection he with he; subst he; exact nils_rows hv rfl trivial
    · injection he with he; subst he; exact hv.rows
    · split at he
      · rename_i hl; injection he with he; subst he; exact own_rows (hO _ (lk_mem hl)) hv
      · cases he
    · cases he
  · unfold cRs at he
    split at he
    · split at he
      · cases he
      · rename_i hs0
        injection he with he; subst he
        exact nils_rows hv rfl ⟨List.length_pos_iff.2 hs0, by simp⟩
    · split at he
      · rename_i hd; injection he with he; subst he; rw [← of_decide_eq_true hd]; exact hv.rows
      · cases he
    · split at he
      · rename_i hl
        split at he
        · rename_i hd; injection he with he; subst he; rw [← of_decide_eq_true hd]; exact own_rows (hO _ (lk_mem hl)) hv
        · cases he
      · cases he
    · cases he
theorem append_run {t e : TypeId} {k : LK} {d dt : TyD} {c : LS} {v u : Value} {n : Nat} {zs : List Value} {Fu : Nat → Prop} (htt : tyOk P t dt = true) (hkt : dt.kd = .slice e k) (hte : tyOk P e d = true)
    (hu : Rows β Fu w u c) (hsz : d.size = c.sz) (ho : w.ownsRow 0 e c.sz v n zs) (hfit : ((n : Int) + (c.len : Int)) * (d.bytes : Int) ≤ 140737488355328) (ty : TypeId) :
    ∃ v' w' us, (Builtin.append_ #[t, t] ty #[v, u]).run P w = .ok v' w' ∧ w'.ownsRow 0 e c.sz v' (n + c.len) (zs ++ us) ∧ w.grownBy w' v.ownBlock ∧ (v'.ownBlock = v.ownBlock ∨ v'.ownBlock = some w.heap.size) ∧ RowR β Fu w us c ∧ ∃ A m cp, v' = .slice A m cp := by
  obtain ⟨i, u0, z, hi, hu0, hs1, hb1, hs0, hb0, hk, hz, hzz, hzl⟩ := tyOk_parts hte
  have hkt' := kdIs htt
  rw [hkt] at hkt'
  simp only [KdIs] at hkt'
  obtain ⟨A, cap, us, rfl, hr, h1, hA⟩ := hu
  have hfit' : (n + c.len) * d.bytes ≤ 140737488355328 := by
    have : (((n + c.len) * d.bytes : Nat) : Int) ≤ 140737488355328 := by push_cast; exact hfit
    omega
  have h63 : n + c.len ≤ maxLen := by
    have : n + c.len ≤ (n + c.len) * d.bytes := Nat.le_mul_of_pos_right _ hb0
    unfold maxLen; omega
  rcases hA with ⟨rfl, h0⟩ | ⟨ad, rfl, hc⟩
  · have hus : us = [] := List.eq_nil_of_length_eq_zero (by rw [hr.1, h0, Nat.zero_mul])
    subst hus
    refine ⟨v, w, [], ?_, by rw [h0]; simpa using ho, World.grownBy.refl w _, .inl rfl, hr, ?_⟩
    · rw [h0]
      rcases ho.2 with ⟨rfl, hn⟩ | ⟨g, cap', cur, rfl, _, _, hnc, _⟩
      · simp [Builtin.append_, run_underlying hkt', sizeOf, typeInfo, hi, Builtin.lenOf, Builtin.firstCells]
      · simp [Builtin.append_, run_underlying hkt', sizeOf, typeInfo, hi, Builtin.lenOf, Builtin.firstCells, hnc, storeCells]
    · rcases ho.2 with ⟨rfl, hn⟩ | ⟨g, cap', cur, rfl, _⟩ <;> exact ⟨_, _, _, rfl⟩
  · obtain ⟨v', w', hrun, how, hg, hnil, hat⟩ := run_append_own_at (P := P) w 0 t ty e i z c.sz d.bytes hkt' hi hz (by rw [hs1, hsz]) hb1 (by
        have := zoks_len hzz; rw [Array.length_toList] at this; rw [this, hzl, hsz]) (by rw [← hsz]; exact hs0) v n zs ho ad c.len cap us hr.1 (fun j u hj => hc j u hj) h1 h63 hfit' (Nat.zero_le _)
    refine ⟨v', w', us, hrun, how, hg, hat, hr, ?_⟩
    rcases how.2 with ⟨rfl, hn⟩ | ⟨g, cap', cur, rfl, _⟩ <;> exact ⟨_, _, _, rfl⟩
theorem fz_nil {b : Nat} (h : ¬ F b) : ¬ FZ [] β F b := by
  rintro (h' | ⟨id, hid, _⟩)
  · exact h h'
  · simp at hid
theorem RowR.fz {ids : List Nat} {us : List Value} {c : LS} (h : RowR β F w us c) : RowR β (FZ ids β F) w us c :=
  ⟨h.1, h.2.1, fun i el j x he hx => by obtain ⟨u, h1, h2⟩ := h.2.2 i el j x he hx; exact ⟨u, h1, h2.fz⟩⟩
theorem append_nils {t e : TypeId} {k k2 : LK} {d dt : TyD} {c : LS} {v u : Value} {x : AV} (hp : Pre hs nx β F w) (htt : tyOk P t dt = true) (hkt : dt.kd = .slice e k) (hte : tyOk P e d = true)
    (hc : cLS hs k2 x = some c) (hv : VR β F w v .nils) (hu : VR β F w u x) (hsz : d.size = c.sz) (hfit : O.real.fit 0 (c.olen O.real) d.bytes) (ty : TypeId) :
    ∃ v' w', (Builtin.append_ #[t, t] ty #[v, u]).run P w = .ok v' w' ∧ Post hs nx ⟨.own nx, [], [], [.arr e c]⟩ β F w v' (βset β nx v') (FZ [] β F) w' := by
  have hr := cLS_rows (fun p hp' => (hp.hh p hp').1) hc hu
  cases hv
  obtain ⟨v', w', us, h1, h2, h3, h4, h5, h6⟩ := append_run (n := 0) (zs := []) htt hkt hte hr hsz (World.ownsRow_nil w 0 e c.sz) (by rw [olen_real] at hfit; exact hfit) ty
  rw [Nat.zero_add, List.nil_append] at h2
  refine ⟨v', w', h1, Post.arr (row := none) (cvs := us) hp (by simp) (by simp) h6 h2 h5.fz h3 (by simp) (fun b hb => ?_)⟩
  have hb' : v'.ownBlock = some b := by
    obtain ⟨A, m, cp, rfl⟩ := h6
    cases A <;> simp [blkOf, Value.ownBlock] at hb ⊢; exact hb
  rcases h4 with h4 | h4
  · rw [hb'] at h4; simp [Value.ownBlock] at h4
  · rw [hb'] at h4
    injection h4 with h4
    subst h4
    exact ⟨fz_nil (fun h => by have := hp.hF _ h; omega), .inl (Nat.le_refl _)⟩
theorem append_own {t e : TypeId} {k k2 : LK} {d dt : TyD} {c zs c' : LS} {v u : Value} {x : AV} {id : Nat} (hp : Pre hs nx β F w) (htt : tyOk P t dt = true) (hkt : dt.kd = .slice e k) (hte : tyOk P e d = true)
    (hc : cLS hs k2 x = some c) (hm : (id, .arr e zs) ∈ hs) (hv : VR β F w v (.own id)) (hu : VR β F w u x) (hsz : d.size = c.sz) (happ : zs.oapp O.real c = some c') (hfit : O.real.fit (zs.olen O.real) (c.olen O.real) d.bytes) (ty : TypeId) :
    ∃ v' w', (Builtin.append_ #[t, t] ty #[v, u]).run P w = .ok v' w' ∧ Post hs nx ⟨.own nx, [(id, none)], [], [.arr e c']⟩ β F w v' (βset β nx v') (FZ [] β F) w' := by
  have hr := cLS_rows (fun p hp' => (hp.hh p hp').1) hc hu
  obtain ⟨hO, hF⟩ := hp.hh _ hm
  obtain ⟨v0, cvs, e1, e2, hk, e4⟩ := hO
  have hv0 := hv
  cases hv with
  | own _ _ hb hs' =>
    rw [hb] at e1
    injection e1 with e1
    subst e1
    have hcok : c.ok := by obtain ⟨_, _, _, _, h, _⟩ := hr; exact h.2.1
    obtain ⟨a1, a2, a3, a4⟩ := oapp_real happ hk hcok
    obtain ⟨v', w', us, h1, h2, h3, h4, h5, h6⟩ := append_run (n := zs.len) (zs := cvs) htt hkt hte hr hsz (by rw [a3]; exact e2) (by rw [olen_real, olen_real] at hfit; exact hfit) ty
    have hlen : c'.len = zs.len + c.len := by rw [← LS.elems_len, a1, List.length_append, LS.elems_len, LS.elems_len]
    have hblk : ∀ {y : Value} {b : Nat}, (∃ A m cp, y = .slice A m cp) → (blkOf y = some b ↔ y.ownBlock = some b) := by
      rintro y b ⟨A, m, cp, rfl⟩
      cases A <;> simp [blkOf, Value.ownBlock]
    refine ⟨v', w', h1, Post.arr (row := v.ownBlock) (cvs := cvs ++ us) hp (by rintro p hp'; simp at hp'; subst hp'; exact ⟨rfl, _, hm⟩) (by simp) h6 (by rw [a2, ← a3, hlen]; exact h2) (RowR.app ⟨e2.1, hk, e4⟩ h5 a1 a2 a3 a4).fz h3 (fun b hb' => ?_) (fun b hb' => ?_)⟩
    · have := (hblk hs').2 hb'
      exact ⟨fz_nil (hF _ b hb this), id, v, by simp, hb, this⟩
    · have hb2 := (hblk h6).1 hb'
      rcases h4 with h4 | h4
      · rw [hb2] at h4
        exact ⟨fz_nil (hF _ b hb ((hblk hs').2 h4.symm)), .inr h4.symm⟩
      · rw [hb2] at h4
        injection h4 with h4
        subst h4
        exact ⟨fz_nil (fun h => by have := hp.hF _ h; omega), .inl (Nat.le_refl _)⟩
end
end Go.Qv
/- Texts' bytes behind a list of bytes. No condition. -/
set_option linter.unusedVariables false
set_option linter.unusedSimpArgs false
namespace Go.Qv
open Go.RowKit
section
variable {P : Program} {β : Nat → Option Value} {F : Nat → Prop} {w : World} {hs : List (Nat × HObj)} {nx : Nat}
def byVals (s : ByteArray) : List Value := s.data.toList.map fun b => Value.int .u8 b.toNat
theorem byVals_len (s : ByteArray) : (byVals s).length = s.size := by simp [byVals]
theorem firstCells_str (sz : Nat) (s : ByteArray) (w : World) : (Builtin.firstCells sz s.size (.string s)).run P w = .ok (byVals s).toArray w := by
  have hx : (Array.map (fun b : UInt8 => Value.int IntKind.u8 (b.toNat : Int)) s.data).extract 0 s.size = Array.map (fun b : UInt8 => Value.int IntKind.u8 (b.toNat : Int)) s.data := by
    have hs : s.size = (Array.map (fun b : UInt8 => Value.int IntKind.u8 (b.toNat : Int)) s.data).size := by rw [Array.size_map]; rfl
    rw [hs, Array.extract_size]
  simp [Builtin.firstCells, byVals]
  exact Array.ext' (by simp)
theorem append_room_str (t u ty e : TypeId) (i : TypeInfo) (ht : P.underlying t = some (.slice e)) (hu : P.underlying u = some .string) (hi : P.info? e = some i)
    (g sLen sCap : Nat) (cur : Array Value) (hg : w.heap[g]? = some (.cells cur e (0, 0))) (s : ByteArray) (hroom : sLen + s.size ≤ sCap) (hfit : sLen * i.size + s.size ≤ cur.size) :
    (Builtin.append_ #[t, u] ty #[.slice (some ⟨g, 0, none⟩) sLen sCap, .string s]).run P w =
      .ok (.slice (some ⟨g, 0, none⟩) (sLen + s.size) sCap) (w.setRow g (cur.toList.take (sLen * i.size) ++ byVals s ++ cur.toList.drop (sLen * i.size + (byVals s).length)).toArray) := by
  have hf := firstCells_str (P := P) i.size s w
  have hst := run_storeCells_at P g (sLen * i.size) e (byVals s) 0 cur w hg (by rw [byVals_len]; simpa using hfit) (fun u hu => by
    obtain ⟨b, _, rfl⟩ := List.mem_map.1 hu; rfl)
  simp only [Nat.add_zero] at hst
  simp [Builtin.append_, run_underlying ht, run_underlying hu, sizeOf, typeInfo, hi, Builtin.lenOf, hroom, hf, Addr.add_lit, hst]
theorem append_grow_str (t u ty e : TypeId) (i : TypeInfo) (z : Value) (ht : P.underlying t = some (.slice e)) (hu : P.underlying u = some .string) (hi : P.info? e = some i) (hz : i.zero = some z)
    (b : Addr) (sLen sCap : Nat) (olds : List Value) (hlo : olds.length = sLen * i.size) (holds : ∀ j v, olds[j]? = some v → w.cell? (b.add j) = some v)
    (s : ByteArray) (hg : sCap < sLen + s.size) (h63 : ((sLen + s.size : Nat) : Int) ≤ 9223372036854775807) (hfit : Builtin.nextslicecap (sLen + s.size) sCap * i.bytes ≤ 281474976710656) :
    (Builtin.append_ #[t, u] ty #[.slice (some b) sLen sCap, .string s]).run P w =
      .ok (.slice (some ⟨w.heap.size, 0, none⟩) (sLen + s.size) (grownCap w (sLen + s.size) sCap e))
        (w.drew.alloc (.cells (olds.toArray ++ (byVals s).toArray ++ Builtin.zeroCells z.cells (grownCap w (sLen + s.size) sCap e - (sLen + s.size))) e)) := by
  have hn : ¬ (sLen + s.size ≤ sCap) := by omega
  have h63' : ¬ (9223372036854775807 < ((sLen : Int) + (s.size : Int))) := by omega
  have h48' : ¬ (281474976710656 < Builtin.nextslicecap (sLen + s.size) sCap * i.bytes) := by omega
  have hf := firstCells_str (P := P) i.size s w.drew
  have hfo := run_firstCells_some (P := P) w.drew i.size sLen b sLen sCap olds hlo (by simpa using holds)
  simp [Builtin.append_, run_underlying ht, run_underlying hu, sizeOf, typeInfo, zeroValue, hi, hz, Builtin.lenOf, hn, h63', h48', Question.forced, hf, hfo, newRow, grownCap]
  congr 2
  apply Array.ext'
  simp [List.append_assoc]
theorem append_own_str (t u ty e : TypeId) (i : TypeInfo) (z : Value) (bytes : Nat) (ht : P.underlying t = some (.slice e)) (hu : P.underlying u = some .string) (hi : P.info? e = some i) (hz : i.zero = some z)
    (hsize : i.size = 1) (hby : i.bytes = bytes) (hzs : z.cells.size = 1)
    (v : Value) (n : Nat) (xs : List Value) (hown : w.ownsRow 0 e 1 v n xs) (s : ByteArray) (h63 : n + s.size ≤ maxLen) (hbytes : (n + s.size) * bytes ≤ 140737488355328) :
    ∃ v' w', (Builtin.append_ #[t, u] ty #[v, .string s]).run P w = .ok v' w' ∧ w'.ownsRow 0 e 1 v' (n + s.size) (xs ++ byVals s) ∧ w.grownBy w' v.ownBlock ∧ (v'.ownBlock = v.ownBlock ∨ v'.ownBlock = some w.heap.size) := by
  subst hby
  have hl := byVals_len s
  have hsmall : n + s.size ≤ 9223372036854775807 := by simp only [maxLen] at h63; omega
  have hlen : (xs ++ byVals s).length = (n + s.size) * 1 := by rw [List.length_append, hown.1, hl]; omega
  have grown : ∀ (old : Nat), old < n + s.size → ∀ (row : Option Nat),
      (w.drew.alloc (.cells (xs.toArray ++ (byVals s).toArray ++ Builtin.zeroCells z.cells (grownCap w (n + s.size) old e - (n + s.size))) e)).ownsRow 0 e 1
        (.slice (some ⟨w.heap.size, 0, none⟩) (n + s.size) (grownCap w (n + s.size) old e)) (n + s.size) (xs ++ byVals s) ∧
      w.grownBy (w.drew.alloc (.cells (xs.toArray ++ (byVals s).toArray ++ Builtin.zeroCells z.cells (grownCap w (n + s.size) old e - (n + s.size))) e)) row := by
    intro old ho row
    have hge := grownCap_ge w (n + s.size) old e
    have hcm : grownCap w (n + s.size) old e ≤ maxLen := grownCap_le_maxLen w (n + s.size) old e h63
    refine ⟨⟨hlen, .inr ⟨w.heap.size, _, _, rfl, Nat.zero_le _, heap_alloc_new w.drew _, hge, hcm, ?_, ?_⟩⟩, ⟨rfl, rfl, rfl, by simp, fun k hk _ => heap_alloc_old w.drew _ hk⟩⟩
    · simp only [Array.size_append, List.size_toArray, size_zeroCells, hzs, hown.1, hl]
      omega
    · simp only [Array.toList_append, List.append_assoc]
      rw [← List.append_assoc, ← hlen]
      exact List.take_left
  rcases hown.2 with ⟨rfl, rfl⟩ | ⟨g, cap, cur, rfl, hbg, hg, hnc, hcm, hcs, htake⟩
  · have hx : xs = [] := List.eq_nil_of_length_eq_zero (by simpa using hown.1)
    subst hx
    by_cases hm : s.size = 0
    · have hn : byVals s = [] := List.eq_nil_of_length_eq_zero (by rw [hl, hm])
      refine ⟨.slice none 0 0, w, ?_, by rw [hn, hm]; exact World.ownsRow_nil w 0 e 1, ⟨rfl, rfl, rfl, Nat.le_refl _, fun _ _ _ => rfl⟩, Or.inl rfl⟩
      have hf := firstCells_str (P := P) i.size s w
      rw [hm] at hf
      simp [Builtin.append_, run_underlying ht, run_underlying hu, sizeOf, typeInfo, hi, Builtin.lenOf, hm, hf]
    · have hr := run_append_nil_string (P := P) w t u ty e i z ht hu hi hz s (by omega) (by omega) (by have hb := hbytes; simp only [Nat.zero_add] at hb; omega)
      have hgr := grown 0 (by omega) (Value.ownBlock (.slice none 0 0))
      have e0 : s.data.map (fun b => Value.int .u8 b.toNat) = (byVals s).toArray := by unfold byVals; exact Array.ext' (by simp)
      rw [e0] at hr
      have e1 : ([] : List Value).toArray ++ (byVals s).toArray = (byVals s).toArray := by simp
      rw [e1] at hgr
      simp only [Nat.zero_add, List.nil_append] at hgr ⊢
      exact ⟨_, _, hr, hgr.1, hgr.2, Or.inr rfl⟩
  · by_cases hroom : n + s.size ≤ cap
    · have hfit : n * i.size + s.size ≤ cur.size := by rw [hsize, hcs]; omega
      have hr := append_room_str (P := P) t u ty e i ht hu hi g n cap cur hg s hroom hfit
      rw [hsize] at hr
      refine ⟨_, _, hr, ⟨hlen, .inr ⟨g, cap, _, rfl, hbg, setRow_heap w g cur _ e _ hg, hroom, hcm, ?_, ?_⟩⟩, ⟨rfl, rfl, rfl, by simp, fun k _ hk => setRow_other w g k _ (fun e => hk (by simp [Value.ownBlock, e]))⟩, Or.inl rfl⟩
      · simp only [List.size_toArray, List.length_append, List.length_take, List.length_drop, Array.length_toList]
        omega
      · rw [htake, ← hlen]
        exact List.take_left
    · have holds : ∀ j u, xs[j]? = some u → w.cell? ((⟨g, 0, none⟩ : Addr).add j) = some u := hown.cells (g := g) rfl
      have hr := append_grow_str (P := P) t u ty e i z ht hu hi hz ⟨g, 0, none⟩ n cap xs (by rw [hsize]; exact hown.1) holds s (by omega) (by omega) (growslice_fits (by omega) hbytes)
      have hgr := grown cap (by omega) (Value.ownBlock (.slice (some ⟨g, 0, none⟩) n cap))
      exact ⟨_, _, hr, hgr.1, hgr.2, Or.inr rfl⟩
theorem byVals_row (s : ByteArray) : RowR β F w (byVals s) (.i .u8 (O.real.stb s)) := by
  have e : O.real.stb s = s.data.toList.map fun b => (b.toNat : Int) := rfl
  refine ⟨by rw [byVals_len, e]; simp [LS.len, LS.sz], trivial, fun i el j x he hx => ?_⟩
  rw [e] at he
  simp only [LS.elems, List.getElem?_map, Option.map_map, Option.map_eq_some_iff, Function.comp] at he
  obtain ⟨b, hb, rfl⟩ := he
  match j, hx with
  | 0, hx =>
    simp at hx
    subst hx
    exact ⟨.int .u8 b.toNat, by simp [byVals, LS.sz, hb], .int _ _⟩
  | j + 1, hx => simp at hx
theorem text_run {t t' e : TypeId} {k : LK} {d dt ds : TyD} {v : Value} {n : Nat} {zs : List Value} {s : ByteArray} (htt : tyOk P t dt = true) (hkt : dt.kd = .slice e k) (htu : tyOk P t' ds = true) (hku : ds.kd = .str) (hte : tyOk P e d = true) (hsz : d.size = 1)
    (ho : w.ownsRow 0 e 1 v n zs) (hfit : ((n : Int) + (s.size : Int)) * (d.bytes : Int) ≤ 140737488355328) (ty : TypeId) :
    ∃ v' w', (Builtin.append_ #[t, t'] ty #[v, .string s]).run P w = .ok v' w' ∧ w'.ownsRow 0 e 1 v' (n + s.size) (zs ++ byVals s) ∧ w.grownBy w' v.ownBlock ∧ (v'.ownBlock = v.ownBlock ∨ v'.ownBlock = some w.heap.size) ∧ ∃ A m cp, v' = .slice A m cp := by
  obtain ⟨i, u0, z, hi, hu0, hs1, hb1, hs0, hb0, hk, hz, hzz, hzl⟩ := tyOk_parts hte
  have hkt' := kdIs htt
  rw [hkt] at hkt'
  simp only [KdIs] at hkt'
  have hku' := kdIs htu
  rw [hku] at hku'
  simp only [KdIs] at hku'
  have hfit' : (n + s.size) * d.bytes ≤ 140737488355328 := by
    have : (((n + s.size) * d.bytes : Nat) : Int) ≤ 140737488355328 := by push_cast; exact hfit
    omega
  have h63 : n + s.size ≤ maxLen := by
    have : n + s.size ≤ (n + s.size) * d.bytes := Nat.le_mul_of_pos_right _ hb0
    unfold maxLen; omega
  obtain ⟨v', w', h1, h2, h3, h4⟩ := append_own_str (P := P) (w := w) t t' ty e i z d.bytes hkt' hku' hi hz (by rw [hs1, hsz]) hb1 (by
        have := zoks_len hzz; rw [Array.length_toList] at this; rw [this, hzl, hsz]) v n zs ho s h63 hfit'
  refine ⟨v', w', h1, h2, h3, h4, ?_⟩
  rcases h2.2 with ⟨rfl, hn⟩ | ⟨g, cap', cur, rfl, _⟩ <;> exact ⟨_, _, _, rfl⟩
theorem text_nils {t t' e : TypeId} {k : LK} {d dt ds : TyD} {v : Value} {s : ByteArray} (hp : Pre hs nx β F w) (htt : tyOk P t dt = true) (hkt : dt.kd = .slice e k) (htu : tyOk P t' ds = true) (hku : ds.kd = .str) (hte : tyOk P e d = true)
    (hv : VR β F w v .nils) (hsz : d.size = 1) (hfit : O.real.fit 0 (O.real.slen s) d.bytes) (ty : TypeId) :
    ∃ v' w', (Builtin.append_ #[t, t'] ty #[v, .string s]).run P w = .ok v' w' ∧ Post hs nx ⟨.own nx, [], [], [.arr e (.i .u8 (O.real.stb s))]⟩ β F w v' (βset β nx v') (FZ [] β F) w' := by
  cases hv
  obtain ⟨v', w', h1, h2, h3, h4, h6⟩ := text_run (n := 0) (zs := []) htt hkt htu hku hte hsz (World.ownsRow_nil w 0 e 1) hfit ty
  rw [Nat.zero_add, List.nil_append] at h2
  have hl : (LS.i .u8 (O.real.stb s)).len = s.size := by rw [← byVals_len s]; simp [LS.len, byVals, O.real]
  refine ⟨v', w', h1, Post.arr (row := none) (cvs := byVals s) hp (by simp) (by simp) h6 (by rw [hl]; exact h2) (byVals_row s) h3 (by simp) (fun b hb => ?_)⟩
  have hb' : v'.ownBlock = some b := by
    obtain ⟨A, m, cp, rfl⟩ := h6
    cases A <;> simp [blkOf, Value.ownBlock] at hb ⊢; exact hb
  rcases h4 with h4 | h4
  · rw [hb'] at h4; simp [Value.ownBlock] at h4
  · rw [hb'] at h4
    injection h4 with h4
    subst h4
    exact ⟨fz_nil (fun h => by have := hp.hF _ h; omega), .inl (Nat.le_refl _)⟩
theorem text_own {t t' e : TypeId} {k : LK} {d dt ds : TyD} {v : Value} {s : ByteArray} {zs : List Int} {id : Nat} (hp : Pre hs nx β F w) (htt : tyOk P t dt = true) (hkt : dt.kd = .slice e k) (htu : tyOk P t' ds = true) (hku : ds.kd = .str) (hte : tyOk P e d = true)
    (hm : (id, .arr e (.i .u8 zs)) ∈ hs) (hv : VR β F w v (.own id)) (hsz : d.size = 1) (hfit : O.real.fit (O.real.ilen zs) (O.real.slen s) d.bytes) (ty : TypeId) :
    ∃ v' w', (Builtin.append_ #[t, t'] ty #[v, .string s]).run P w = .ok v' w' ∧ Post hs nx ⟨.own nx, [(id, none)], [], [.arr e (.i .u8 (O.real.iapp zs (O.real.stb s)))]⟩ β F w v' (βset β nx v') (FZ [] β F) w' := by
  obtain ⟨hO, hF⟩ := hp.hh _ hm
  obtain ⟨v0, cvs, e1, e2, hk, e4⟩ := hO
  have hv0 := hv
  have happ : (LS.i .u8 zs).oapp O.real (.i .u8 (O.real.stb s)) = some (.i .u8 (O.real.iapp zs (O.real.stb s))) := by simp [LS.oapp]
  cases hv with
  | own _ _ hb hs' =>
    rw [hb] at e1
    injection e1 with e1
    subst e1
    obtain ⟨a1, a2, a3, a4⟩ := oapp_real happ hk trivial
    obtain ⟨v', w', h1, h2, h3, h4, h6⟩ := text_run (n := zs.length) (zs := cvs) htt hkt htu hku hte hsz e2 hfit ty
    have hl : (LS.i .u8 (O.real.stb s)).len = s.size := by rw [← byVals_len s]; simp [LS.len, byVals, O.real]
    have hlen : (LS.i .u8 (O.real.iapp zs (O.real.stb s))).len = zs.length + s.size := by rw [← LS.elems_len, a1, List.length_append, LS.elems_len, LS.elems_len, hl]; rfl
    have hblk : ∀ {y : Value} {b : Nat}, (∃ A m cp, y = .slice A m cp) → (blkOf y = some b ↔ y.ownBlock = some b) := by
      rintro y b ⟨A, m, cp, rfl⟩
      cases A <;> simp [blkOf, Value.ownBlock]
    refine ⟨v', w', h1, Post.arr (row := v.ownBlock) (cvs := cvs ++ byVals s) hp (by rintro p hp'; simp at hp'; subst hp'; exact ⟨rfl, _, hm⟩) (by simp) h6 (by rw [hlen]; exact h2) (RowR.app ⟨e2.1, hk, e4⟩ (byVals_row s) a1 a2 a3 a4).fz h3 (fun b hb' => ?_) (fun b hb' => ?_)⟩
    · have := (hblk hs').2 hb'
      exact ⟨fz_nil (hF _ b hb this), id, v, by simp, hb, this⟩
    · have hb2 := (hblk h6).1 hb'
      rcases h4 with h4 | h4
      · rw [hb2] at h4
        exact ⟨fz_nil (hF _ b hb ((hblk hs').2 h4.symm)), .inr h4.symm⟩
      · rw [hb2] at h4
        injection h4 with h4
        subst h4
        exact ⟨fz_nil (fun h => by have := hp.hF _ h; omega), .inl (Nat.le_refl _)⟩
/-! ### bytes as a text -/
theorem convert_bytes {src dst e : TypeId} {x : AV} {l : List Int} {v : Value} (hO : ∀ p ∈ hs, OR β F w p.1 p.2) (h1 : P.underlying src = some (.slice e)) (h2 : P.underlying e = some (.int .u8)) (h3 : P.underlying dst = some .string) (hl : cInts hs .u8 x = some l) (hv : VR β F w v x) :
    (convert src dst v).run P w = .ok (.string (O.real.bts l)) w := by
  have hr := cLS_rows (k := .i .u8) (c := .i .u8 l) hO (by show (match cInts hs .u8 x with | some l => some (LS.i .u8 l) | none => none) = _; rw [hl]) hv
  obtain ⟨A, cap, us, rfl, hr, _, hA⟩ := hr
  have hus : us = l.map (Value.int .u8) := by
    have hlen : us.length = l.length := by have := hr.1; simpa [LS.len, LS.sz] using this
    apply List.ext_getElem (by simpa using hlen)
    intro i i1 i2
    have hi : i < l.length := by omega
    obtain ⟨u, q1, q2⟩ := hr.2.2 i [.int .u8 l[i]] 0 (.int .u8 l[i]) (by simp [LS.elems, List.getElem?_eq_getElem hi]) rfl
    have q1 : us[i]? = some u := by simpa [LS.sz] using q1
    rw [List.getElem?_eq_getElem i1] at q1
    injection q1 with q1
    rw [q1]
    cases q2
    simp
  rw [run_convert_bytes_string w src dst e A _ cap h1 h2 h3]
  rcases hA with ⟨rfl, h0⟩ | ⟨ad, rfl, hc⟩
  · have : l = [] := List.eq_nil_of_length_eq_zero (by simpa [LS.len] using h0)
    subst this
    simp [Conv.bytesToString, O.real]
  · have hld := run_loadCells_list (P := P) w ad us hc
    rw [hus] at hld
    have := run_bytesToString (P := P) w ad l.length cap l (by simpa using hld)
    exact this
end
theorem cLA_some {hs : List (Nat × HObj)} {k : LK} {x : AV} {c : LS} (h : cLA hs k x = some c) : ∃ k2, cLS hs k2 x = some c := by
  unfold cLA at h
  split at h
  · rename_i c' h1; injection h with h; subst h; exact ⟨_, h1⟩
  · exact ⟨_, h⟩
end Go.Qv
