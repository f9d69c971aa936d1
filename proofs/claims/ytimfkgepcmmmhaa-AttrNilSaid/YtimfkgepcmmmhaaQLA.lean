/- Maps: what is looked up, what is put in. -/
import Derived.Test.YtimfkgepcmmmhaaQL
set_option linter.unusedVariables false
set_option linter.unusedSimpArgs false
namespace Go.Qv
open Go.RowKit

theorem bytesEq_ok : ∀ {a b : List UInt8}, bytesEq a b = true ↔ a = b
  | [], [] => by simp [bytesEq]
  | [], _ :: _ => by simp [bytesEq]
  | _ :: _, [] => by simp [bytesEq]
  | a :: l, b :: r => by
    simp only [bytesEq]
    split
    · rename_i h
      have h := Nat.eq_of_beq_eq_true h
      have : a = b := UInt8.toNat_inj.1 h
      subst this
      rw [bytesEq_ok]; simp
    · rename_i h
      constructor
      · intro h'; cases h'
      · intro h'; injection h' with h1 h2; subst h1; simp [Nat.beq_refl] at h
theorem bytes_ext {a b : ByteArray} : a.data.toList = b.data.toList ↔ a = b := by
  cases a; cases b; simp
theorem keyEq1_ok {c : CK} {x y : AV} {u v : Value} (hx : keyCk c x = true) (hy : keyCk c y = true) (hu : kval1 x = some u) (hv : kval1 y = some v) : keyEq1 x y = true ↔ u = v := by
  unfold keyCk at hx
  split at hx <;> first | (cases hx; done) | skip
  all_goals (unfold keyCk at hy; split at hy <;> first | (cases hy; done) | skip)
  all_goals simp_all
  all_goals simp [kval1] at hu hv <;> subst hu <;> subst hv <;> simp_all [keyEq1, bytesEq_ok, bytes_ext]
  all_goals exact ⟨fun h => bytes_ext.1 (by rw [h]), fun h => by rw [h]⟩
theorem keyEqs_ok : ∀ {cs : List CK} {xs ys : List AV} {us vs : List Value}, keyCks cs xs = true → keyCks cs ys = true → kvals xs = some us → kvals ys = some vs → (keyEqs xs ys = true ↔ us = vs)
  | [], [], [], us, vs, _, _, hu, hv => by simp [kvals] at hu hv; subst hu; subst hv; simp [keyEqs]
  | [], _ :: _, _, _, _, h, _, _, _ => by simp [keyCks] at h
  | [], [], _ :: _, _, _, _, h, _, _ => by simp [keyCks] at h
  | _ :: _, [], _, _, _, h, _, _, _ => by simp [keyCks] at h
  | _ :: _, _ :: _, [], _, _, _, h, _, _ => by simp [keyCks] at h
  | c :: cs, x :: xs, y :: ys, us, vs, hx, hy, hu, hv => by
    simp only [keyCks, Bool.and_eq_true] at hx hy
    simp only [kvals] at hu hv
    split at hu <;> split at hv <;> first | (cases hu; done) | (cases hv; done) | skip
    rename_i _ _ u us' h1 h2 _ _ v vs' h3 h4
    injection hu with hu
    injection hv with hv
    subst hu; subst hv
    simp only [keyEqs, Bool.and_eq_true, keyEq1_ok hx.1 hy.1 h1 h3, keyEqs_ok hx.2 hy.2 h2 h4, List.cons.injEq]
theorem keyEq_ok {ag : Bool} {ks : List CK} {x y : AV} {u v : Value} (hx : keySh ag ks x = true) (hy : keySh ag ks y = true) (hu : kval x = some u) (hv : kval y = some v) : keyEq x y = true ↔ u = v := by
  unfold keySh at hx
  split at hx
  · unfold keySh at hy
    split at hy
    · simp only [kval] at hu hv
      split at hu <;> split at hv <;> first | (cases hu; done) | (cases hv; done) | skip
      rename_i h1 _ _ h2
      injection hu with hu
      injection hv with hv
      subst hu; subst hv
      simp only [keyEq]
      rw [keyEqs_ok hx hy h1 h2]
      simp
    · simp_all
    · cases hy
  · simp only [keySh] at hy
    · have n1 : ∀ l, x ≠ .agg l := fun l e => by subst e; simp [keyCk] at hx
      have n2 : ∀ l, y ≠ .agg l := fun l e => by subst e; simp [keyCk] at hy
      have k1 : kval x = kval1 x := by cases x <;> first | rfl | exact absurd rfl (n1 _)
      have k2 : kval y = kval1 y := by cases y <;> first | rfl | exact absurd rfl (n2 _)
      have k3 : keyEq x y = keyEq1 x y := by cases x <;> first | rfl | exact absurd rfl (n1 _)
      rw [k3]
      exact keyEq1_ok hx hy (by rw [← k1]; exact hu) (by rw [← k2]; exact hv)
  · cases hx
section
variable {P : Program} {tb : Tb} {hs : List (Nat × HObj)} {nx : Nat} {β : Nat → Option Value} {F : Nat → Prop} {w : World}
theorem key1_val {c : CK} {x : AV} {v : Value} (hx : keyCk c x = true) (h : VR β F w v x) : kval1 x = some v := by
  unfold keyCk at hx
  split at hx <;> first | (cases hx; done) | (cases h; rfl)
theorem keys_val : ∀ {cs : List CK} {xs : List AV} {vs : List Value}, keyCks cs xs = true → vs.length = xs.length → (∀ (j : Nat) (v : Value) (x : AV), vs[j]? = some v → xs[j]? = some x → VR β F w v x) → kvals xs = some vs
  | [], [], [], _, _, _ => rfl
  | [], [], _ :: _, _, h, _ => by simp at h
  | [], _ :: _, _, h, _, _ => by simp [keyCks] at h
  | _ :: _, [], _, h, _, _ => by simp [keyCks] at h
  | _ :: _, _ :: _, [], _, h, _ => by simp at h
  | c :: cs, x :: xs, v :: vs, hx, hl, h => by
    simp only [keyCks, Bool.and_eq_true] at hx
    simp only [kvals, key1_val hx.1 (h 0 v x rfl rfl), keys_val hx.2 (by simpa using hl) (fun j v x hv hx => h (j + 1) v x hv hx)]
theorem key_val {ag : Bool} {ks : List CK} {x : AV} {v : Value} (hx : keySh ag ks x = true) (h : VR β F w v x) : kval x = some v := by
  unfold keySh at hx
  split at hx
  · cases h with
    | agg cs l hs h1 h2 =>
      have := keys_val (vs := cs.toList) hx (by simpa using hs) (fun j v x hv hx => h2 j v x (by simpa using hv) hx)
      simp [kval, this]
  · rename_i c _
    have n1 : ∀ l, x ≠ .agg l := fun l e => by subst e; simp [keyCk] at hx
    have k1 : kval x = kval1 x := by cases x <;> first | rfl | exact absurd rfl (n1 _)
    rw [k1]; exact key1_val hx h
  · cases hx
theorem idxK_shift {k : AV} : ∀ {ps : List (AV × AV)} {n : Nat}, idxK k ps (n + 1) = (idxK k ps n).map (· + 1)
  | [], _ => rfl
  | (k', y) :: r, n => by
    simp only [idxK]
    split
    · rfl
    · exact idxK_shift
theorem findK_some {k : AV} : ∀ {ps : List (AV × AV)} {x : AV}, findK k ps = some x → ∃ j k', ps[j]? = some (k', x) ∧ keyEq k k' = true ∧ (∀ y, setK k y ps = ps.set j (k, y)) ∧ delK k ps = ps.eraseIdx j ∧ idxK k ps 0 = some j
  | [], x, h => by simp [findK] at h
  | (k', y) :: r, x, h => by
    unfold findK at h
    split at h
    · rename_i he
      injection h with h
      subst h
      exact ⟨0, k', rfl, he, fun z => by simp [setK, he], by simp [delK, he], by simp [idxK, he]⟩
    · rename_i he
      obtain ⟨j, k2, h1, h2, h3, h4, h5⟩ := findK_some h
      exact ⟨j + 1, k2, by simpa using h1, h2, fun z => by simp [setK, he, h3], by simp [delK, he, h4], by simp [idxK, he, idxK_shift, h5]⟩
theorem findK_none {k : AV} : ∀ {ps : List (AV × AV)}, findK k ps = none → (∀ p ∈ ps, keyEq k p.1 = false) ∧ (∀ y, setK k y ps = ps ++ [(k, y)]) ∧ delK k ps = ps
  | [], h => by simp [setK, delK]
  | (k', y) :: r, h => by
    unfold findK at h
    split at h
    · cases h
    · rename_i he
      obtain ⟨h1, h2, h3⟩ := findK_none h
      refine ⟨fun p hp => ?_, fun z => by simp [setK, he, h2], by simp [delK, he, h3]⟩
      rcases List.mem_cons.1 hp with rfl | hp
      · exact he
      · exact h1 p hp
theorem keysSh_at {ag : Bool} {ks : List CK} : ∀ {ps : List (AV × AV)}, keysSh ag ks ps = true → ∀ p ∈ ps, keySh ag ks p.1 = true
  | [], _, p, hp => by simp at hp
  | (k, x) :: r, h, p, hp => by
    simp only [keysSh, Bool.and_eq_true] at h
    rcases List.mem_cons.1 hp with rfl | hp
    · exact h.1
    · exact keysSh_at h.2 p hp
theorem keysOk_at : ∀ {ps : List (AV × AV)}, keysOk ps → ∀ p ∈ ps, keyOk p.1
  | [], _, p, hp => by simp at hp
  | (k, x) :: r, h, p, hp => by
    simp only [keysOk, Bool.and_eq_true] at h
    rcases List.mem_cons.1 hp with rfl | hp
    · exact h.1
    · exact keysOk_at h.2 p hp

/-- What a search in a map's block finds. -/
theorem find_ok {kt : TypeId} {ag : Bool} {ks : List CK} (K : KeyedBy P kt ag ks) {es : Array MapEntry} {ps : List (AV × AV)} {k : AV} {key : Value} (hpw : es.toList.Pairwise (fun a b => a.key ≠ b.key)) (hsz : es.size = ps.length)
    (he : ∀ (j : Nat) (k x : AV), ps[j]? = some (k, x) → ∃ e, es[j]? = some e ∧ kval k = some e.key ∧ VR β F w e.val x)
    (hsh : keySh ag ks k = true) (hshs : keysSh ag ks ps = true) (hk : keyOk k) (hks : keysOk ps) (hv : kval k = some key) :
    (∀ em, (Instr.checkKey em 10000 kt key).run P w = .ok () w) ∧ (Instr.keyThatStays key key).run P w = .ok key w ∧
    ((findK k ps = none ∧ (Instr.findKey kt key es.toList).run P w = .ok none w ∧ (∀ e ∈ es.toList, e.key ≠ key)) ∨
     ∃ (j : Nat) (e : MapEntry) (k' x : AV), findK k ps = some x ∧ (Instr.findKey kt key es.toList).run P w = .ok (some (j, e.val)) w ∧ es[j]? = some e ∧ e.key = key ∧ ps[j]? = some (k', x) ∧ (∀ y, setK k y ps = ps.set j (k, y)) ∧ delK k ps = ps.eraseIdx j ∧ idxK k ps 0 = some j) := by
  obtain ⟨Kd, hof⟩ := K
  obtain ⟨l, hl⟩ := hof k key hsh hk hv
  have hent : ∀ e ∈ es.toList, ∃ j k' x, ps[j]? = some (k', x) ∧ es[j]? = some e ∧ kval k' = some e.key := fun e hm => by
    obtain ⟨j, hj, he2⟩ := List.getElem_of_mem hm
    have hj' : j < ps.length := by simp at hj; omega
    obtain ⟨k', x, hkx⟩ : ∃ k' x, ps[j] = (k', x) := ⟨_, _, rfl⟩
    have h1 : ps[j]? = some (k', x) := by rw [List.getElem?_eq_getElem hj', hkx]
    obtain ⟨e', h2, h3, _⟩ := he j k' x h1
    have h4 : es[j]? = some e := by rw [← Array.getElem?_toList, List.getElem?_eq_getElem hj, he2]
    rw [h4] at h2
    injection h2 with h2
    subst h2
    exact ⟨j, k', x, h1, h4, h3⟩
  have hall : ∀ e ∈ es.toList, ∃ l, keyOf P kt e.key = some l := fun e hm => by
    obtain ⟨j, k', x, h1, h2, h3⟩ := hent e hm
    have hmem := List.mem_of_getElem? h1
    exact hof k' e.key (keysSh_at hshs _ hmem) (keysOk_at hks _ hmem) h3
  refine ⟨fun em => Kd.check w em hl, Kd.stays w hl, ?_⟩
  have hEq : ∀ k' u, (∃ x, (k', x) ∈ ps) → kval k' = some u → (keyEq k k' = true ↔ key = u) := fun k' u ⟨x, hm⟩ hu => keyEq_ok hsh (keysSh_at hshs _ hm) hv hu
  rcases Kd.find w hl es.toList hall with ⟨h1, h2⟩ | ⟨j, e, h1, h2, h3⟩
  · left
    refine ⟨?_, h1, h2⟩
    cases hf : findK k ps with
    | none => rfl
    | some x =>
      exfalso
      obtain ⟨j, k', g1, g2, _⟩ := findK_some hf
      obtain ⟨e, g3, g4, _⟩ := he j k' x g1
      have := (hEq k' e.key ⟨x, List.mem_of_getElem? g1⟩ g4).1 g2
      exact h2 e (List.mem_of_getElem? (by rw [Array.getElem?_toList]; exact g3)) this.symm
  · right
    obtain ⟨j', k', x, g1, g2, g3⟩ := hent e (List.mem_of_getElem? h2)
    have hkk : keyEq k k' = true := (hEq k' e.key ⟨x, List.mem_of_getElem? g1⟩ g3).2 h3.symm
    cases hf : findK k ps with
    | none =>
      have := (findK_none hf).1 _ (List.mem_of_getElem? g1)
      rw [hkk] at this
      cases this
    | some x0 =>
      obtain ⟨j0, k0, q1, q2, q3, q4, q4'⟩ := findK_some hf
      obtain ⟨e0, q5, q6, _⟩ := he j0 k0 x0 q1
      have hkey0 := (hEq k0 e0.key ⟨x0, List.mem_of_getElem? q1⟩ q6).1 q2
      have hjj : j0 = j := by
        have hpw' := List.pairwise_iff_getElem.1 hpw
        have b0 : es.toList[j0]? = some e0 := by rw [Array.getElem?_toList]; exact q5
        obtain ⟨c0, d0⟩ := List.getElem?_eq_some_iff.1 b0
        obtain ⟨c1, d1⟩ := List.getElem?_eq_some_iff.1 h2
        rcases Nat.lt_trichotomy j0 j with hlt | heq | hgt
        · exfalso
          have := hpw' j0 j c0 c1 hlt
          rw [d0, d1] at this
          exact this (by rw [← hkey0, h3])
        · exact heq
        · exfalso
          have := hpw' j j0 c1 c0 hgt
          rw [d0, d1] at this
          exact this (by rw [← hkey0, h3])
      subst hjj
      have : e0 = e := by
        rw [← Array.getElem?_toList, h2] at q5
        injection q5 with q5
        exact q5.symm
      subst this
      exact ⟨j0, e0, k0, x0, rfl, h1, q5, h3, q1, q3, q4, q4'⟩

theorem zero_ok {t : TypeId} {d : TyD} {z : AV} (h : tyOk P t d = true) (hz : mkAgg d.kd.agg d.zero = some z) : ∃ v, (zeroValue t).run P w = .ok v w ∧ VR β F w v z := by
  obtain ⟨i, v, h1, h2, h3, h4⟩ := tyOk_zero h
  refine ⟨v, by simp [zeroValue, typeInfo, h1, h2], ?_⟩
  have hl := zoks_len h3
  rcases mkAgg_some hz with ⟨hg, rfl⟩ | ⟨hg, hzz⟩
  · rw [hg] at h4
    cases v <;> simp [zAgg] at h4
    rename_i cs
    refine .agg cs _ (by simpa [Value.cells] using hl) (fun x hx => ?_) (fun j v x hv hx => ?_)
    · obtain ⟨j, hj, rfl⟩ := List.getElem_of_mem hx
      have hj' : j < cs.toList.length := by simp [Value.cells] at hl; simp; omega
      exact (zok_one (zoks_at h3 j _ _ (List.getElem?_eq_getElem (by simpa [Value.cells] using hj')) (List.getElem?_eq_getElem hj))).1
    · exact zok_vr (zoks_at h3 j v x (by simpa [Value.cells] using hv) hx)
  · rw [hg] at h4
    have hc : v.cells = #[v] := by cases v <;> first | rfl | (simp [zAgg] at h4; done) | skip
    rw [hzz, hc] at h3
    exact zok_vr (zoks_at h3 0 v z rfl rfl)

theorem lookup_ok {t kt et : TypeId} {ag ok : Bool} {ks : List CK} {id c : Nat} {bs : List Nat} {ps : List (AV × AV)} {k : AV} {v u : Value} {d : TyD} (K : KeyedBy P kt ag ks) (ht : P.underlying t = some (.map kt et)) (hp : Pre hs nx β F w) (hm : (id, .map c bs ps) ∈ hs) (hte : tyOk P et d = true)
    (hv : VR β F w v (.mp id)) (hu : VR β F w u k) (hsh : keySh ag ks k = true) (hshs : keysSh ag ks ps = true) (hk : keyOk k) (hks : keysOk ps) :
    ∃ r, (Instr.lookup t v u ok).run P w = .ok (if ok then .tuple #[r, .bool (findK k ps).isSome] else r) w ∧ ∀ x, (findK k ps = some x ∨ (findK k ps = none ∧ mkAgg d.kd.agg d.zero = some x)) → VR β F w r x := by
  obtain ⟨r, es, h1, h2, hbs, h0, h3, h4⟩ := (hp.hh _ hm).1
  cases hv with
  | mp _ r' hb =>
    rw [h1] at hb
    injection hb with hb
    injection hb with hb
    injection hb with hb
    subst hb
    obtain ⟨c1, c2, c3⟩ := find_ok (P := P) K h0 h3 h4 hsh hshs hk hks (key_val hsh hu)
    rcases c3 with ⟨f1, f2, f3⟩ | ⟨j, e, k', x, f1, f2, f3, f4, f5, f6, f7⟩
    · cases hz : mkAgg d.kd.agg d.zero with
      | none =>
        obtain ⟨i, z, g1, g2, _⟩ := tyOk_zero hte
        refine ⟨z, ?_, fun x hx => ?_⟩
        · simp [Instr.lookup, Sem.run_bind, run_underlying ht, MapKept.run_getObj_map h2, c1, f2, Result.andThen, zeroValue, typeInfo, g1, g2, f1]
        · rcases hx with hx | ⟨_, hx⟩
          · rw [f1] at hx; cases hx
          · cases hx
      | some z =>
        obtain ⟨zv, g1, g2⟩ := zero_ok (P := P) (w := w) (β := β) (F := F) hte hz
        refine ⟨zv, ?_, fun x hx => ?_⟩
        · simp [Instr.lookup, Sem.run_bind, run_underlying ht, MapKept.run_getObj_map h2, c1, f2, Result.andThen, g1, f1]
        · rcases hx with hx | ⟨_, hx⟩
          · rw [f1] at hx; cases hx
          · injection hx with hx; subst hx; exact g2
    · refine ⟨e.val, ?_, fun y hy => ?_⟩
      · simp [Instr.lookup, Sem.run_bind, run_underlying ht, MapKept.run_getObj_map h2, c1, f2, Result.andThen, f1]
      · rcases hy with hy | ⟨hy, _⟩
        · rw [f1] at hy
          injection hy with hy
          subst hy
          obtain ⟨e', g1, g2, g3⟩ := h4 j k' x f5
          rw [f3] at g1
          injection g1 with g1
          subst g1
          exact g3
        · rw [f1] at hy; cases hy
theorem lookup_nil {t kt et : TypeId} {ag ok : Bool} {ks : List CK} {k : AV} {u : Value} {d : TyD} {z : AV} (K : KeyedBy P kt ag ks) (ht : P.underlying t = some (.map kt et)) (hte : tyOk P et d = true)
    (hu : VR β F w u k) (hsh : keySh ag ks k = true) (hk : keyOk k) (hz : mkAgg d.kd.agg d.zero = some z) :
    ∃ r, (Instr.lookup t (.map none) u ok).run P w = .ok (if ok then .tuple #[r, .bool false] else r) w ∧ VR β F w r z := by
  obtain ⟨c1, c2, c3⟩ := find_ok (P := P) (β := β) (F := F) (w := w) (es := #[]) (ps := []) K List.Pairwise.nil rfl (by simp) hsh rfl hk rfl (key_val hsh hu)
  obtain ⟨zv, g1, g2⟩ := zero_ok (P := P) (w := w) (β := β) (F := F) hte hz
  rcases c3 with ⟨f1, f2, f3⟩ | ⟨j, e, k', x, f1, _⟩
  · refine ⟨zv, ?_, g2⟩
    simp only [Array.toList_empty] at f2
    simp [Instr.lookup, Sem.run_bind, run_underlying ht, c1, f2, Result.andThen, g1]
  · simp [findK] at f1

theorem Post.map1 {id r : Nat} {es es' : Array MapEntry} {clock clock' c0 : Nat} {bs bs' : List Nat} {ps ps' : List (AV × AV)} {x : AV} (hx : x.one = true ∨ True) (hp : Pre hs nx β F w) (hm : (id, .map c0 bs ps) ∈ hs) (h1 : β id = some (.map (some r))) (h2 : w.heap[r]? = some (.map es clock))
    (hpw : es'.toList.Pairwise (fun a b => a.key ≠ b.key)) (hsz : es'.size = ps'.length) (hbs : es'.toList.map (·.born) = bs')
    (he : ∀ (j : Nat) (k x : AV), ps'[j]? = some (k, x) → ∃ e, es'[j]? = some e ∧ kval k = some e.key ∧ VR β F w e.val x) :
    ∀ v, VR β F w v x → Post hs nx ⟨x, [(id, some (.map clock' bs' ps'))], [], []⟩ β F w v β F (ChangeMaps.setBlock w r (.map es' clock')) := by
  have hnF : ¬ F r := (hp.hh _ hm).2 _ r h1 rfl
  have hother : ∀ b, b ≠ r → (ChangeMaps.setBlock w r (.map es' clock')).heap[b]? = w.heap[b]? := fun b hb => ChangeMaps.heap_setBlock_other h2 _ hb
  have hF : ∀ b, F b → (ChangeMaps.setBlock w r (.map es' clock')).heap[b]? = w.heap[b]? := fun b hb => hother b (fun e => hnF (e ▸ hb))
  have hsize : (ChangeMaps.setBlock w r (.map es' clock')).heap.size = w.heap.size := by simp [ChangeMaps.setBlock]
  intro v hv
  · constructor
    · exact hv.mono (fun _ _ h => h) (fun _ h => h) hF
    · exact fun _ _ h => h
    · exact fun _ _ h => .inl h
    · exact fun _ h => h
    · exact fun b hb => by rw [hsize]; exact hp.hF b hb
    · exact fun _ h => .inl h
    · intro id' ob hob
      simp only [List.mem_singleton, Prod.mk.injEq, Option.some.injEq] at hob
      obtain ⟨rfl, rfl⟩ := hob
      refine ⟨r, es', h1, ChangeMaps.heap_setBlock_same h2 _, hbs, hpw, hsz, fun j k x hj => ?_⟩
      obtain ⟨e, g1, g2, g3⟩ := he j k x hj
      exact ⟨e, g1, g2, g3.mono (fun _ _ h => h) (fun _ h => h) hF⟩
    · intro j ob h; simp at h
    · intro j x b h; simp at h
    · intro j k x y b h; simp at h
    · intro p hp'
      simp only [List.mem_singleton] at hp'
      subst hp'
      exact ⟨_, hm⟩
    · intro id' ob h h'
      simp at h'
    · intro b hb hne
      refine hother b (fun e => ?_)
      subst e
      exact hne (id, _) (List.mem_singleton.2 rfl) _ h1 rfl
    · rfl
    · rfl
    · rfl
    · rw [hsize]; exact Nat.le_refl _
theorem undef_vr : VR β F w undef (.tup []) := .tup _ _ rfl (fun j v x hv => by simp at hv)
theorem born_modify (es : Array MapEntry) (j : Nat) (f : MapEntry → MapEntry) (hf : ∀ e, (f e).born = e.born) : (es.modify j f).toList.map (·.born) = es.toList.map (·.born) := by
  refine List.ext_getElem? (fun i => ?_)
  simp only [List.getElem?_map, Array.getElem?_toList, Array.getElem?_modify]
  split
  · rename_i e; subst e; cases es[j]? <;> simp [hf]
  · rfl
theorem mapUpdate_ok {t kt et : TypeId} {ag : Bool} {ks : List CK} {id c : Nat} {bs : List Nat} {ps : List (AV × AV)} {k x : AV} {v u y : Value} (K : KeyedBy P kt ag ks) (ht : P.underlying t = some (.map kt et)) (hp : Pre hs nx β F w) (hm : (id, .map c bs ps) ∈ hs)
    (hv : VR β F w v (.mp id)) (hu : VR β F w u k) (hy : VR β F w y x) (hsh : keySh ag ks k = true) (hshs : keysSh ag ks ps = true) (hk : keyOk k) (hks : keysOk ps) :
    ∃ w', (Instr.mapUpdate t v u y).run P w = .ok () w' ∧ Post hs nx ⟨.tup [], [(id, some (.map (setC c k ps) (setB bs c k ps) (setK k x ps)))], [], []⟩ β F w undef β F w' := by
  obtain ⟨r, es, h1, h2, hbs, h0, h3, h4⟩ := (hp.hh _ hm).1
  cases hv with
  | mp _ r' hb =>
    rw [h1] at hb
    injection hb with hb
    injection hb with hb
    injection hb with hb
    subst hb
    have hkv := key_val hsh hu
    obtain ⟨c1, c2, c3⟩ := find_ok (P := P) K h0 h3 h4 hsh hshs hk hks hkv
    rcases c3 with ⟨f1, f2, f3⟩ | ⟨j, e, k', x0, f1, f2, f3, f4, f5, f6, f7, f8⟩
    · rw [show setC c k ps = c + 1 by simp [setC, f1], show setB bs c k ps = bs ++ [c] by simp [setB, f1]]
      refine ⟨ChangeMaps.setBlock w r (.map (es.push ⟨u, y, c⟩) (c + 1)), ?_, Post.map1 (.inr trivial) hp hm h1 h2 (es' := es.push ⟨u, y, c⟩) (ps' := setK k x ps) ?_ ?_ (by simp [hbs]) ?_ _ undef_vr⟩
      · simp [Instr.mapUpdate, Sem.run_bind, run_underlying ht, MapKept.run_getObj_map h2, c1, f2, MapKept.run_setObj_map _ h2, Result.andThen, ChangeMaps.setBlock]
      · simp only [Array.toList_push]
        rw [List.pairwise_append]
        refine ⟨h0, by simp, fun a ha b hb => ?_⟩
        simp at hb
        subst hb
        exact f3 a ha
      · rw [(findK_none f1).2.1]; simp [h3]
      · intro j k2 x2 hj
        rw [(findK_none f1).2.1] at hj
        rcases Nat.lt_or_ge j ps.length with hl | hl
        · rw [List.getElem?_append_left hl] at hj
          obtain ⟨e, g1, g2, g3⟩ := h4 j k2 x2 hj
          exact ⟨e, by rw [Array.getElem?_push_lt (by omega)]; rw [← g1]; exact (Array.getElem?_eq_getElem (by omega)).symm, g2, g3⟩
        · rw [List.getElem?_append_right hl] at hj
          have : j - ps.length = 0 := by
            have := (List.getElem?_eq_some_iff.1 hj).1
            simp at this; omega
          rw [this] at hj
          simp at hj
          obtain ⟨rfl, rfl⟩ := hj
          have hjj : j = es.size := by omega
          subst hjj
          exact ⟨⟨u, y, c⟩, by simp, hkv, hy⟩
    · have hjs : j < es.size := (Array.getElem?_eq_some_iff.1 f3).1
      have hget : ∀ i, (es.modify j fun e => { e with key := u, val := y })[i]? = if i = j then some { e with key := u, val := y } else es[i]? := fun i => by
        rw [Array.getElem?_modify]
        by_cases hi : j = i
        · subst hi; simp [f3]
        · rw [if_neg hi, if_neg (fun e => hi e.symm)]
      rw [show setC c k ps = c by simp [setC, f1], show setB bs c k ps = bs by simp [setB, f1]]
      refine ⟨ChangeMaps.setBlock w r (.map (es.modify j fun e => { e with key := u, val := y }) c), ?_, Post.map1 (.inr trivial) hp hm h1 h2 (es' := es.modify j fun e => { e with key := u, val := y }) (ps' := setK k x ps) ?_ ?_ (by rw [← hbs]; exact born_modify _ _ _ (fun _ => rfl)) ?_ _ undef_vr⟩
      · simp [Instr.mapUpdate, Sem.run_bind, run_underlying ht, MapKept.run_getObj_map h2, c1, f2, MapKept.run_setObj_map _ h2, Result.andThen, ChangeMaps.setBlock, f3, f4, c2]
      · rw [List.pairwise_iff_getElem] at h0 ⊢
        intro i1 i2 hi1 hi2 hlt
        have e1 : ∀ i (hi : i < (es.modify j fun e => { e with key := u, val := y }).toList.length), ((es.modify j fun e => { e with key := u, val := y }).toList[i]).key = (es.toList[i]'(by simpa using hi)).key := fun i hi => by
          have hi' : i < es.size := by simpa using hi
          have g := hget i
          rw [← Array.getElem?_toList, List.getElem?_eq_getElem hi] at g
          by_cases hij : i = j
          · subst hij
            rw [if_pos rfl] at g
            injection g with g
            rw [g]
            simp only
            rw [← Array.getElem?_toList] at f3
            obtain ⟨q1, q2⟩ := List.getElem?_eq_some_iff.1 f3
            rw [q2]; exact f4.symm
          · rw [if_neg hij, Array.getElem?_eq_getElem hi'] at g
            injection g with g
            rw [g]; simp
        rw [e1 i1 hi1, e1 i2 hi2]
        exact h0 i1 i2 (by simpa using hi1) (by simpa using hi2) hlt
      · rw [f6]; simp [h3]
      · intro i k2 x2 hi
        rw [f6] at hi
        rw [hget i]
        by_cases hij : i = j
        · subst hij
          have hl : i < ps.length := by omega
          rw [List.getElem?_set_self hl] at hi
          simp at hi
          obtain ⟨rfl, rfl⟩ := hi
          exact ⟨_, by rw [if_pos rfl], hkv, hy⟩
        · rw [List.getElem?_set_ne (fun e => hij e.symm)] at hi
          rw [if_neg hij]
          exact h4 i k2 x2 hi
theorem tup2 {β : Nat → Option Value} {F : Nat → Prop} {w : World} {v u : Value} {x y : AV} (h1 : VR β F w v x) (h2 : VR β F w u y) : VR β F w (.tuple #[v, u]) (.tup [x, y]) :=
  .tup #[v, u] _ rfl (fun j v z hv hz => by
    match j, hv, hz with
    | 0, hv, hz => simp at hv hz; subst hv; subst hz; exact h1
    | 1, hv, hz => simp at hv hz; subst hv; subst hz; exact h2
    | j + 2, hv, hz => simp at hz)
theorem mapEntry_none {t kt et : TypeId} {ag : Bool} {ks : List CK} {id c : Nat} {bs : List Nat} {ps : List (AV × AV)} {k : AV} {v u : Value} {d : TyD} {z : AV} (K : KeyedBy P kt ag ks) (ht : P.underlying t = some (.map kt et)) (hp : Pre hs nx β F w) (hm : (id, .map c bs ps) ∈ hs) (hte : tyOk P et d = true)
    (hv : VR β F w v (.mp id)) (hu : VR β F w u k) (hsh : keySh ag ks k = true) (hshs : keysSh ag ks ps = true) (hk : keyOk k) (hks : keysOk ps) (hf : findK k ps = none) (hz : mkAgg d.kd.agg d.zero = some z) :
    ∃ r w', (Instr.mapEntry t v u).run P w = .ok r w' ∧ Post hs nx ⟨.tup [z, .int .i64 (c : Int)], [(id, some (.map (c + 1) (bs ++ [c]) (setK k z ps)))], [], []⟩ β F w r β F w' := by
  obtain ⟨r, es, h1, h2, hbs, h0, h3, h4⟩ := (hp.hh _ hm).1
  cases hv with
  | mp _ r' hb =>
    rw [h1] at hb
    injection hb with hb
    injection hb with hb
    injection hb with hb
    subst hb
    have hkv := key_val hsh hu
    obtain ⟨c1, c2, c3⟩ := find_ok (P := P) K h0 h3 h4 hsh hshs hk hks hkv
    obtain ⟨zv, g1, g2⟩ := zero_ok (P := P) (w := w) (β := β) (F := F) hte hz
    rcases c3 with ⟨f1, f2, f3⟩ | ⟨j, e, k', x0, f1, _⟩
    · refine ⟨.tuple #[zv, goInt c], ChangeMaps.setBlock w r (.map (es.push ⟨u, zv, c⟩) (c + 1)), ?_, Post.map1 (.inr trivial) hp hm h1 h2 (es' := es.push ⟨u, zv, c⟩) (ps' := setK k z ps) ?_ ?_ (by simp [hbs]) ?_ _ (tup2 g2 (.int _ _))⟩
      · simp [Instr.mapEntry, Sem.run_bind, run_underlying ht, MapKept.run_getObj_map h2, c1, f2, MapKept.run_setObj_map _ h2, Result.andThen, ChangeMaps.setBlock, g1]
      · simp only [Array.toList_push]
        rw [List.pairwise_append]
        refine ⟨h0, by simp, fun a ha b hb => ?_⟩
        simp at hb
        subst hb
        exact f3 a ha
      · rw [(findK_none f1).2.1]; simp [h3]
      · intro j k2 x2 hj
        rw [(findK_none f1).2.1] at hj
        rcases Nat.lt_or_ge j ps.length with hl | hl
        · rw [List.getElem?_append_left hl] at hj
          obtain ⟨e, g1, g2, g3⟩ := h4 j k2 x2 hj
          exact ⟨e, by rw [Array.getElem?_push_lt (by omega)]; rw [← g1]; exact (Array.getElem?_eq_getElem (by omega)).symm, g2, g3⟩
        · rw [List.getElem?_append_right hl] at hj
          have : j - ps.length = 0 := by
            have := (List.getElem?_eq_some_iff.1 hj).1
            simp at this; omega
          rw [this] at hj
          simp at hj
          obtain ⟨rfl, rfl⟩ := hj
          have hjj : j = es.size := by omega
          subst hjj
          exact ⟨⟨u, zv, c⟩, by simp, hkv, g2⟩
    · rw [hf] at f1; cases f1
theorem mapEntry_some {t kt et : TypeId} {ag : Bool} {ks : List CK} {id c b j : Nat} {bs : List Nat} {ps : List (AV × AV)} {k x : AV} {v u : Value} (K : KeyedBy P kt ag ks) (ht : P.underlying t = some (.map kt et)) (hp : Pre hs nx β F w) (hm : (id, .map c bs ps) ∈ hs)
    (hv : VR β F w v (.mp id)) (hu : VR β F w u k) (hsh : keySh ag ks k = true) (hshs : keysSh ag ks ps = true) (hk : keyOk k) (hks : keysOk ps) (hf : findK k ps = some x) (hj : idxK k ps 0 = some j) (hbj : bs[j]? = some b) :
    ∃ r w', (Instr.mapEntry t v u).run P w = .ok r w' ∧ Post hs nx ⟨.tup [x, .int .i64 (b : Int)], [(id, some (.map c bs (setK k x ps)))], [], []⟩ β F w r β F w' := by
  obtain ⟨r, es, h1, h2, hbs, h0, h3, h4⟩ := (hp.hh _ hm).1
  cases hv with
  | mp _ r' hb =>
    rw [h1] at hb
    injection hb with hb
    injection hb with hb
    injection hb with hb
    subst hb
    have hkv := key_val hsh hu
    obtain ⟨c1, c2, c3⟩ := find_ok (P := P) K h0 h3 h4 hsh hshs hk hks hkv
    rcases c3 with ⟨f1, f2, f3⟩ | ⟨j', e, k', x0, f1, f2, f3, f4, f5, f6, f7, f8⟩
    · rw [hf] at f1; cases f1
    · rw [hj] at f8
      injection f8 with f8
      subst f8
      rw [hf] at f1
      injection f1 with f1
      subst f1
      have hborn : e.born = b := by
        rw [← hbs, List.getElem?_map, Array.getElem?_toList, f3] at hbj
        simpa using hbj
      obtain ⟨e', g1, g2, g3⟩ := h4 j k' x f5
      rw [f3] at g1
      injection g1 with g1
      subst g1
      have hget : ∀ i, (es.modify j fun e => { e with key := u })[i]? = if i = j then some { e with key := u } else es[i]? := fun i => by
        rw [Array.getElem?_modify]
        by_cases hi : j = i
        · subst hi; simp [f3]
        · rw [if_neg hi, if_neg (fun e => hi e.symm)]
      have hsame : (es.modify j fun e => { e with key := u }) = es := by
        refine Array.ext_getElem? (fun i => ?_)
        rw [hget i]
        split
        · rename_i hi; subst hi; rw [f3]; subst f4; rfl
        · rfl
      refine ⟨.tuple #[e.val, goInt e.born], ChangeMaps.setBlock w r (.map es c), ?_, ?_⟩
      · simp [Instr.mapEntry, Sem.run_bind, run_underlying ht, MapKept.run_getObj_map h2, c1, f2, MapKept.run_setObj_map _ h2, Result.andThen, ChangeMaps.setBlock, f3, f4, c2, hsame]
      · refine Post.map1 (.inr trivial) hp hm h1 h2 (es' := es) (ps' := setK k x ps) h0 (by rw [f6]; simp [h3]) hbs ?_ _ (tup2 g3 (by rw [hborn]; exact .int _ _))
        intro i k2 x2 hi
        rw [f6] at hi
        by_cases hij : i = j
        · subst hij
          have hl : i < ps.length := (List.getElem?_eq_some_iff.1 f5).1
          rw [List.getElem?_set_self hl] at hi
          simp at hi
          obtain ⟨rfl, rfl⟩ := hi
          exact ⟨e, f3, by rw [f4]; exact hkv, g3⟩
        · rw [List.getElem?_set_ne (fun e => hij e.symm)] at hi
          exact h4 i k2 x2 hi
theorem idxB_spec {b : Int} : ∀ {bs : List Nat} {n j : Nat}, idxB b bs n = some j → ∃ i, j = n + i ∧ bs.findIdx? (fun (x : Nat) => (x : Int) == b) = some i
  | [], n, j, h => by simp [idxB] at h
  | x :: r, n, j, h => by
    unfold idxB at h
    split at h
    · rename_i hd
      injection h with h
      subst h
      exact ⟨0, rfl, by simp [List.findIdx?_cons, of_decide_eq_true hd]⟩
    · rename_i hd
      obtain ⟨i, h1, h2⟩ := idxB_spec h
      have hne : ¬ (x : Int) = b := of_decide_eq_false hd
      exact ⟨i + 1, by omega, by simp [List.findIdx?_cons, hne, h2]⟩
theorem entryStore_ok {t : TypeId} {id c j : Nat} {bs : List Nat} {ps : List (AV × AV)} {k x0 x : AV} {q : IntKind} {n : Int} {v u y : Value} (hp : Pre hs nx β F w) (hm : (id, .map c bs ps) ∈ hs)
    (hv : VR β F w v (.mp id)) (hu : VR β F w u (.int q n)) (hy : VR β F w y x) (hj : idxB n bs 0 = some j) (hpj : ps[j]? = some (k, x0)) :
    ∃ w', (Instr.entryStore t v u y).run P w = .ok () w' ∧ Post hs nx ⟨.tup [], [(id, some (.map c bs (ps.set j (k, x))))], [], []⟩ β F w undef β F w' := by
  obtain ⟨r, es, h1, h2, hbs, h0, h3, h4⟩ := (hp.hh _ hm).1
  cases hu
  cases hv with
  | mp _ r' hb =>
    rw [h1] at hb
    injection hb with hb
    injection hb with hb
    injection hb with hb
    subst hb
    obtain ⟨i, e1, e2⟩ := idxB_spec hj
    have e1 : j = i := by omega
    subst e1
    have hfi : es.findIdx? (fun e => (e.born : Int) == n) = some j := by
      rw [← hbs, List.findIdx?_map] at e2
      obtain ⟨l⟩ := es
      simpa [List.findIdx?_toArray, Function.comp_def] using e2
    obtain ⟨e, g1, g2, g3⟩ := h4 j k x0 hpj
    have hget : ∀ i, (es.modify j fun e => { e with val := y })[i]? = if i = j then some { e with val := y } else es[i]? := fun i => by
      rw [Array.getElem?_modify]
      by_cases hi : j = i
      · subst hi; simp [g1]
      · rw [if_neg hi, if_neg (fun e => hi e.symm)]
    refine ⟨ChangeMaps.setBlock w r (.map (es.modify j fun e => { e with val := y }) c), ?_, Post.map1 (.inr trivial) hp hm h1 h2 (es' := es.modify j fun e => { e with val := y }) (ps' := ps.set j (k, x)) ?_ (by simp [h3]) (by rw [← hbs]; exact born_modify _ _ _ (fun _ => rfl)) ?_ _ undef_vr⟩
    · simp [Instr.entryStore, Sem.run_bind, MapKept.run_getObj_map h2, MapKept.run_setObj_map _ h2, Result.andThen, ChangeMaps.setBlock, asInt, asIntOf, hfi]
    · rw [List.pairwise_iff_getElem] at h0 ⊢
      intro i1 i2 hi1 hi2 hlt
      have e1 : ∀ i (hi : i < (es.modify j fun e => { e with val := y }).toList.length), ((es.modify j fun e => { e with val := y }).toList[i]).key = (es.toList[i]'(by simpa using hi)).key := fun i hi => by
        have hi' : i < es.size := by simpa using hi
        have g := hget i
        rw [← Array.getElem?_toList, List.getElem?_eq_getElem hi] at g
        by_cases hij : i = j
        · subst hij
          rw [if_pos rfl] at g
          injection g with g
          rw [g]
          simp only
          rw [← Array.getElem?_toList] at g1
          obtain ⟨q1, q2⟩ := List.getElem?_eq_some_iff.1 g1
          rw [q2]
        · rw [if_neg hij, Array.getElem?_eq_getElem hi'] at g
          injection g with g
          rw [g]; simp
      rw [e1 i1 hi1, e1 i2 hi2]
      exact h0 i1 i2 (by simpa using hi1) (by simpa using hi2) hlt
    · intro i k2 x2 hi
      rw [hget i]
      by_cases hij : i = j
      · subst hij
        have hl : i < ps.length := (List.getElem?_eq_some_iff.1 hpj).1
        rw [List.getElem?_set_self hl] at hi
        simp at hi
        obtain ⟨rfl, rfl⟩ := hi
        exact ⟨{ e with val := y }, by rw [if_pos rfl], g2, hy⟩
      · rw [List.getElem?_set_ne (fun e => hij e.symm)] at hi
        rw [if_neg hij]
        exact h4 i k2 x2 hi
/-- A new map. -/
theorem Post.newmap (hp : Pre hs nx β F w) : Post hs nx ⟨.mp nx, [], [], [.map 0 [] []]⟩ β F w (.map (some w.heap.size)) (βset β nx (.map (some w.heap.size))) F (w.alloc (.map #[] 0)) where
  vr := .mp nx w.heap.size (βset_self _ _ _)
  βext := βset_ext hp.hn _
  βnew id x hx := by
    unfold βset at hx
    split at hx
    · rename_i e; subst e; exact .inr ⟨Nat.le_refl _, by simp⟩
    · exact .inl hx
  Fext _ h := h
  Flt b hb := by have := hp.hF b hb; simp; omega
  Fnew _ h := .inl h
  live _ _ h := by simp at h
  news j ob hj := by
    match j, hj with
    | 0, hj =>
      simp at hj
      subst hj
      exact ⟨w.heap.size, #[], βset_self _ _ _, heap_alloc_new w _, rfl, List.Pairwise.nil, rfl, fun j k x hj => by simp at hj⟩
  newb j x b hj hx hb := by
    have : j = 0 := by simpa using hj
    subst this
    rw [Nat.add_zero, βset_self] at hx
    injection hx with hx
    subst hx
    simp [blkOf] at hb
    subst hb
    exact ⟨fun h => by have := hp.hF _ h; omega, .inl (Nat.le_refl _)⟩
  newsep j k x y b hj hk hne := by
    have : j = 0 := by simpa using hj
    have : k = 0 := by simpa using hk
    omega
  known _ h := by simp at h
  nd _ _ h := by simp at h
  frame b hb _ := alloc_keeps w _ hb
  os := rfl
  tape := rfl
  output := rfl
  size := by simp
end
end Go.Qv
