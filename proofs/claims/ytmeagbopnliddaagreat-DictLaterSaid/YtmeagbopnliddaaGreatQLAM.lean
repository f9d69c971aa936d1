/- Maps: what is looked up, what is put in. -/
import Derived.Test.YtmeagbopnliddaaGreatQL
set_option linter.unusedVariables false
set_option linter.unusedSimpArgs false
namespace Go.Qv
open Go.RowKit

theorem bytesEq_ok : ∀ {a b : List UInt8}, bytesEq a b = true ↔ a = b
  | [], [] => by simp [bytesEq]
  | [], _ :: _ => by simp [bytesEq]
  | _ :: _, [] => by simp [bytesEq]
  | a :: l, b :: r => by
    simp only [bytesEq]
    split
    · rename_i h
      have h := Nat.eq_of_beq_eq_true h
      have : a = b := UInt8.toNat_inj.1 h
      subst this
      rw [bytesEq_ok]; simp
    · rename_i h
      constructor
      · intro h'; cases h'
      · intro h'; injection h' with h1 h2; subst h1; simp [Nat.beq_refl] at h
theorem bytes_ext {a b : ByteArray} : a.data.toList = b.data.toList ↔ a = b := by
  cases a; cases b; simp
theorem keyEq1_ok {c : CK} {x y : AV} {u v : Value} (hx : keyCk c x = true) (hy : keyCk c y = true) (hu : kval1 x = some u) (hv : kval1 y = some v) : keyEq1 x y = true ↔ u = v := by
  unfold keyCk at hx
  split at hx <;> first | (cases hx; done) | skip
  all_goals (unfold keyCk at hy; split at hy <;> first | (cases hy; done) | skip)
  all_goals simp_all
  all_goals simp [kval1] at hu hv <;> subst hu <;> subst hv <;> simp_all [keyEq1, bytesEq_ok, bytes_ext]
  all_goals exact ⟨fun h => bytes_ext.1 (by rw [h]), fun h => by rw [h]⟩
theorem keyEqs_ok : ∀ {cs : List CK} {xs ys : List AV} {us vs : List Value}, keyCks cs xs = true → keyCks cs ys = true → kvals xs = some us → kvals ys = some vs → (keyEqs xs ys = true ↔ us = vs)
  | [], [], [], us, vs, _, _, hu, hv => by simp [kvals] at hu hv; subst hu; subst hv; simp [keyEqs]
  | [], _ :: _, _, _, _, h, _, _, _ => by simp [keyCks] at h
  | [], [], _ :: _, _, _, _, h, _, _ => by simp [keyCks] at h
  | _ :: _, [], _, _, _, h, _, _, _ => by simp [keyCks] at h
  | _ :: _, _ :: _, [], _, _, _, h, _, _ => by simp [keyCks] at h
  | c :: cs, x :: xs, y :: ys, us, vs, hx, hy, hu, hv => by
    simp only [keyCks, Bool.and_eq_true] at hx hy
    simp only [kvals] at hu hv
    split at hu <;> split at hv <;> first | (cases hu; done) | (cases hv; done) | skip
    rename_i _ _ u us' h1 h2 _ _ v vs' h3 h4
    injection hu with hu
    injection hv with hv
    subst hu; subst hv
    simp only [keyEqs, Bool.and_eq_true, keyEq1_ok hx.1 hy.1 h1 h3, keyEqs_ok hx.2 hy.2 h2 h4, List.cons.injEq]
theorem keyEq_ok {ag : Bool} {ks : List CK} {x y : AV} {u v : Value} (hx : keySh ag ks x = true) (hy : keySh ag ks y = true) (hu : kval x = some u) (hv : kval y = some v) : keyEq x y = true ↔ u = v := by
  unfold keySh at hx
  split at hx
  · unfold keySh at hy
    split at hy
    · simp only [kval] at hu hv
      split at hu <;> split at hv <;> first | (cases hu; done) | (cases hv; done) | skip
      rename_i h1 _ _ h2
      injection hu with hu
      injection hv with hv
      subst hu; subst hv
      simp only [keyEq]
      rw [keyEqs_ok hx hy h1 h2]
      simp
    · simp_all
    · cases hy
  · simp only [keySh] at hy
    · have n1 : ∀ l, x ≠ .agg l := fun l e => by subst e; simp [keyCk] at hx
      have n2 : ∀ l, y ≠ .agg l := fun l e => by subst e; simp [keyCk] at hy
      have k1 : kval x = kval1 x := by cases x <;> first | rfl | exact absurd rfl (n1 _)
      have k2 : kval y = kval1 y := by cases y <;> first | rfl | exact absurd rfl (n2 _)
      have k3 : keyEq x y = keyEq1 x y := by cases x <;> first | rfl | exact absurd rfl (n1 _)
      rw [k3]
      exact keyEq1_ok hx hy (by rw [← k1]; exact hu) (by rw [← k2]; exact hv)
  · cases hx
section
variable {P : Program} {tb : Tb} {hs : List (Nat × HObj)} {nx : Nat} {β : Nat → Option Value} {F : Nat → Prop} {w : World}
theorem key1_val {c : CK} {x : AV} {v : Value} (hx : keyCk c x = true) (h : VR β F w v x) : kval1 x = some v := by
  unfold keyCk at hx
  split at hx <;> first | (cases hx; done) | (cases h; rfl)
theorem keys_val : ∀ {cs : List CK} {xs : List AV} {vs : List Value}, keyCks cs xs = true → vs.length = xs.length → (∀ (j : Nat) (v : Value) (x : AV), vs[j]? = some v → xs[j]? = some x → VR β F w v x) → kvals xs = some vs
  | [], [], [], _, _, _ => rfl
  | [], [], _ :: _, _, h, _ => by simp at h
  | [], _ :: _, _, h, _, _ => by simp [keyCks] at h
  | _ :: _, [], _, h, _, _ => by simp [keyCks] at h
  | _ :: _, _ :: _, [], _, h, _ => by simp at h
  | c :: cs, x :: xs, v :: vs, hx, hl, h => by
    simp only [keyCks, Bool.and_eq_true] at hx
    simp only [kvals, key1_val hx.1 (h 0 v x rfl rfl), keys_val hx.2 (by simpa using hl) (fun j v x hv hx => h (j + 1) v x hv hx)]
theorem key_val {ag : Bool} {ks : List CK} {x : AV} {v : Value} (hx : keySh ag ks x = true) (h : VR β F w v x) : kval x = some v := by
  unfold keySh at hx
  split at hx
  · cases h with
    | agg cs l hs h1 h2 =>
      have := keys_val (vs := cs.toList) hx (by simpa using hs) (fun j v x hv hx => h2 j v x (by simpa using hv) hx)
      simp [kval, this]
  · rename_i c _
    have n1 : ∀ l, x ≠ .agg l := fun l e => by subst e; simp [keyCk] at hx
    have k1 : kval x = kval1 x := by cases x <;> first | rfl | exact absurd rfl (n1 _)
    rw [k1]; exact key1_val hx h
  · cases hx
theorem idxK_shift {k : AV} : ∀ {ps : List (AV × AV)} {n : Nat}, idxK k ps (n + 1) = (idxK k ps n).map (· + 1)
  | [], _ => rfl
  | (k', y) :: r, n => by
    simp only [idxK]
    split
    · rfl
    · exact idxK_shift
theorem findK_some {k : AV} : ∀ {ps : List (AV × AV)} {x : AV}, findK k ps = some x → ∃ j k', ps[j]? = some (k', x) ∧ keyEq k k' = true ∧ (∀ y, setK k y ps = ps.set j (k, y)) ∧ delK k ps = ps.eraseIdx j ∧ idxK k ps 0 = some j
  | [], x, h => by simp [findK] at h
  | (k', y) :: r, x, h => by
    unfold findK at h
    split at h
    · rename_i he
      injection h with h
      subst h
      exact ⟨0, k', rfl, he, fun z => by simp [setK, he], by simp [delK, he], by simp [idxK, he]⟩
    · rename_i he
      obtain ⟨j, k2, h1, h2, h3, h4, h5⟩ := findK_some h
      exact ⟨j + 1, k2, by simpa using h1, h2, fun z => by simp [setK, he, h3], by simp [delK, he, h4], by simp [idxK, he, idxK_shift, h5]⟩
theorem findK_none {k : AV} : ∀ {ps : List (AV × AV)}, findK k ps = none → (∀ p ∈ ps, keyEq k p.1 = false) ∧ (∀ y, setK k y ps = ps ++ [(k, y)]) ∧ delK k ps = ps
  | [], h => by simp [setK, delK]
  | (k', y) :: r, h => by
    unfold findK at h
    split at h
    · cases h
    · rename_i he
      obtain ⟨h1, h2, h3⟩ := findK_none h
      refine ⟨fun p hp => ?_, fun z => by simp [setK, he, h2], by simp [delK, he, h3]⟩
      rcases List.mem_cons.1 hp with rfl | hp
      · exact he
      · exact h1 p hp
theorem keysSh_at {ag : Bool} {ks : List CK} : ∀ {ps : List (AV × AV)}, keysSh ag ks ps = true → ∀ p ∈ ps, keySh ag ks p.1 = true
  | [], _, p, hp => by simp at hp
  | (k, x) :: r, h, p, hp => by
    simp only [keysSh, Bool.and_eq_true] at h
    rcases List.mem_cons.1 hp with rfl | hp
    · exact h.1
    · exact keysSh_at h.2 p hp
theorem keysOk_at : ∀ {ps : List (AV × AV)}, keysOk ps → ∀ p ∈ ps, keyOk p.1
  | [], _, p, hp => by simp at hp
  | (k, x) :: r, h, p, hp => by
    simp only [keysOk, Bool.and_eq_true] at h
    rcases List.mem_cons.1 hp with rfl | hp
    · exact h.1
    · exact keysOk_at h.2 p hp

/-- What a search in a map's block finds. -/
theorem find_ok {kt : TypeId} {ag : Bool} {ks : List CK} (K : KeyedBy P kt ag ks) {es : Array MapEntry} {ps : List (AV × AV)} {k : AV} {key : Value} (hpw : es.toList.Pairwise (fun a b => a.key ≠ b.key)) (hsz : es.size = ps.length)
    (he : ∀ (j : Nat) (k x : AV), ps[j]? = some (k, x) → ∃ e, es[j]? = some e ∧ kval k = some e.key ∧ VR β F w e.val x)
    (hsh : keySh ag ks k = true) (hshs : keysSh ag ks ps = true) (hk : keyOk k) (hks : keysOk ps) (hv : kval k = some key) :
    (∀ em, (Instr.checkKey em 10000 kt key).run P w = .ok () w) ∧ (Instr.keyThatStays key key).run P w = .ok key w ∧
    ((findK k ps = none ∧ (Instr.findKey kt key es.toList).run P w = .ok none w ∧ (∀ e ∈ es.toList, e.key ≠ key)) ∨
     ∃ (j : Nat) (e : MapEntry) (k' x : AV), findK k ps = some x ∧ (Instr.findKey kt key es.toList).run P w = .ok (some (j, e.val)) w ∧ es[j]? = some e ∧ e.key = key ∧ ps[j]? = some (k', x) ∧ (∀ y, setK k y ps = ps.set j (k, y)) ∧ delK k ps = ps.eraseIdx j ∧ idxK k ps 0 = some j) := by
  obtain ⟨Kd, hof⟩ := K
  obtain ⟨l, hl⟩ := hof k key hsh hk hv
  have hent : ∀ e ∈ es.toList, ∃ j k' x, ps[j]? = some (k', x) ∧ es[j]? = some e ∧ kval k' = some e.key := fun e hm => by
    obtain ⟨j, hj, he2⟩ := List.getElem_of_mem hm
    have hj' : j < ps.length := by simp at hj; omega
    obtain ⟨k', x, hkx⟩ : ∃ k' x, ps[j] = (k', x) := ⟨_, _, rfl⟩
    have h1 : ps[j]? = some (k', x) := by rw [List.getElem?_eq_getElem hj', hkx]
    obtain ⟨e', h2, h3, _⟩ := he j k' x h1
    have h4 : es[j]? = some e := by rw [← Array.getElem?_toList, List.getElem?_eq_getElem hj, he2]
    rw [h4] at h2
    injection h2 with h2
    subst h2
    exact ⟨j, k', x, h1, h4, h3⟩
  have hall : ∀ e ∈ es.toList, ∃ l, keyOf P kt e.key = some l := fun e hm => by
    obtain ⟨j, k', x, h1, h2, h3⟩ := hent e hm
    have hmem := List.mem_of_getElem? h1
    exact hof k' e.key (keysSh_at hshs _ hmem) (keysOk_at hks _ hmem) h3
  refine ⟨fun em => Kd.check w em hl, Kd.stays w hl, ?_⟩
  have hEq : ∀ k' u, (∃ x, (k', x) ∈ ps) → kval k' = some u → (keyEq k k' = true ↔ key = u) := fun k' u ⟨x, hm⟩ hu => keyEq_ok hsh (keysSh_at hshs _ hm) hv hu
  rcases Kd.find w hl es.toList hall with ⟨h1, h2⟩ | ⟨j, e, h1, h2, h3⟩
  · left
    refine ⟨?_, h1, h2⟩
    cases hf : findK k ps with
    | none => rfl
    | some x =>
      exfalso
      obtain ⟨j, k', g1, g2, _⟩ := findK_some hf
      obtain ⟨e, g3, g4, _⟩ := he j k' x g1
      have := (hEq k' e.key ⟨x, List.mem_of_getElem? g1⟩ g4).1 g2
      exact h2 e (List.mem_of_getElem? (by rw [Array.getElem?_toList]; exact g3)) this.symm
  · right
    obtain ⟨j', k', x, g1, g2, g3⟩ := hent e (List.mem_of_getElem? h2)
    have hkk : keyEq k k' = true := (hEq k' e.key ⟨x, List.mem_of_getElem? g1⟩ g3).2 h3.symm
    cases hf : findK k ps with
    | none =>
      have := (findK_none hf).1 _ (List.mem_of_getElem? g1)
      rw [hkk] at this
      cases this
    | some x0 =>
      obtain ⟨j0, k0, q1, q2, q3, q4, q4'⟩ := findK_some hf
      obtain ⟨e0, q5, q6, _⟩ := he j0 k0 x0 q1
      have hkey0 := (hEq k0 e0.key ⟨x0, List.mem_of_getElem? q1⟩ q6).1 q2
      have hjj : j0 = j := by
        have hpw' := List.pairwise_iff_getElem.1 hpw
        have b0 : es.toList[j0]? = some e0 := by rw [Array.getElem?_toList]; exact q5
        obtain ⟨c0, d0⟩ := List.getElem?_eq_some_iff.1 b0
        obtain ⟨c1, d1⟩ := List.getElem?_eq_some_iff.1 h2
        rcases Nat.lt_trichotomy j0 j with hlt | heq | hgt
        · exfalso
          have := hpw' j0 j c0 c1 hlt
          rw [d0, d1] at this
          exact this (by rw [← hkey0, h3])
        · exact heq
        · exfalso
          have := hpw' j j0 c1 c0 hgt
          rw [d0, d1] at this
          exact this (by rw [← hkey0, h3])
      subst hjj
      have : e0 = e := by
        rw [← Array.getElem?_toList, h2] at q5
        injection q5 with q5
        exact q5.symm
      subst this
      exact ⟨j0, e0, k0, x0, rfl, h1, q5, h3, q1, q3, q4, q4'⟩

theorem zero_ok {t : TypeId} {d : TyD} {z : AV} (h : tyOk P t d = true) (hz : mkAgg d.kd.agg d.zero = some z) : ∃ v, (zeroValue t).run P w = .ok v w ∧ VR β F w v z := by
  obtain ⟨i, v, h1, h2, h3, h4⟩ := tyOk_zero h
  refine ⟨v, by simp [zeroValue, typeInfo, h1, h2], ?_⟩
  have hl := zoks_len h3
  rcases mkAgg_some hz with ⟨hg, rfl⟩ | ⟨hg, hzz⟩
  · rw [hg] at h4
    cases v <;> simp [zAgg] at h4
    rename_i cs
    refine .agg cs _ (by simpa [Value.cells] using hl) (fun x hx => ?_) (fun j v x hv hx => ?_)
    · obtain ⟨j, hj, rfl⟩ := List.getElem_of_mem hx
      have hj' : j < cs.toList.length := by simp [Value.cells] at hl; simp; omega
      exact (zok_one (zoks_at h3 j _ _ (List.getElem?_eq_getElem (by simpa [Value.cells] using hj')) (List.getElem?_eq_getElem hj))).1
    · exact zok_vr (zoks_at h3 j v x (by simpa [Value.cells] using hv) hx)
  · rw [hg] at h4
    have hc : v.cells = #[v] := by cases v <;> first | rfl | (simp [zAgg] at h4; done) | skip
    rw [hzz, hc] at h3
    exact zok_vr (zoks_at h3 0 v z rfl rfl)

theorem lookup_okO {t kt et : TypeId} {ag ok : Bool} {ks : List CK} {id c : Nat} {bs : List Nat} {ps : List (AV × AV)} {k : AV} {v u : Value} {d : TyD} (K : KeyedBy P kt ag ks) (ht : P.underlying t = some (.map kt et)) (ho : OR β F w id (.map c bs ps)) (hte : tyOk P et d = true)
    (hv : VR β F w v (.mp id)) (hu : VR β F w u k) (hsh : keySh ag ks k = true) (hshs : keysSh ag ks ps = true) (hk : keyOk k) (hks : keysOk ps) :
    ∃ r, (Instr.lookup t v u ok).run P w = .ok (if ok then .tuple #[r, .bool (findK k ps).isSome] else r) w ∧ ∀ x, (findK k ps = some x ∨ (findK k ps = none ∧ mkAgg d.kd.agg d.zero = some x)) → VR β F w r x := by
  obtain ⟨r, es, h1, h2, hbs, h0, h3, h4⟩ := ho
  cases hv with
  | mp _ r' hb =>
    rw [h1] at hb
    injection hb with hb
    injection hb with hb
    injection hb with hb
    subst hb
    obtain ⟨c1, c2, c3⟩ := find_ok (P := P) K h0 h3 h4 hsh hshs hk hks (key_val hsh hu)
    rcases c3 with ⟨f1, f2, f3⟩ | ⟨j, e, k', x, f1, f2, f3, f4, f5, f6, f7⟩
    · cases hz : mkAgg d.kd.agg d.zero with
      | none =>
        obtain ⟨i, z, g1, g2, _⟩ := tyOk_zero hte
        refine ⟨z, ?_, fun x hx => ?_⟩
        · simp [Instr.lookup, Sem.run_bind, run_underlying ht, MapKept.run_getObj_map h2, c1, f2, Result.andThen, zeroValue, typeInfo, g1, g2, f1]
        · rcases hx with hx | ⟨_, hx⟩
          · rw [f1] at hx; cases hx
          · cases hx
      | some z =>
        obtain ⟨zv, g1, g2⟩ := zero_ok (P := P) (w := w) (β := β) (F := F) hte hz
        refine ⟨zv, ?_, fun x hx => ?_⟩
        · simp [Instr.lookup, Sem.run_bind, run_underlying ht, MapKept.run_getObj_map h2, c1, f2, Result.andThen, g1, f1]
        · rcases hx with hx | ⟨_, hx⟩
          · rw [f1] at hx; cases hx
          · injection hx with hx; subst hx; exact g2
    · refine ⟨e.val, ?_, fun y hy => ?_⟩
      · simp [Instr.lookup, Sem.run_bind, run_underlying ht, MapKept.run_getObj_map h2, c1, f2, Result.andThen, f1]
      · rcases hy with hy | ⟨hy, _⟩
        · rw [f1] at hy
          injection hy with hy
          subst hy
          obtain ⟨e', g1, g2, g3⟩ := h4 j k' x f5
          rw [f3] at g1
          injection g1 with g1
          subst g1
          exact g3
        · rw [f1] at hy; cases hy
theorem lookup_ok {t kt et : TypeId} {ag ok : Bool} {ks : List CK} {id c : Nat} {bs : List Nat} {ps : List (AV × AV)} {k : AV} {v u : Value} {d : TyD} (K : KeyedBy P kt ag ks) (ht : P.underlying t = some (.map kt et)) (hp : Pre hs nx β F w) (hm : (id, .map c bs ps) ∈ hs) (hte : tyOk P et d = true)
    (hv : VR β F w v (.mp id)) (hu : VR β F w u k) (hsh : keySh ag ks k = true) (hshs : keysSh ag ks ps = true) (hk : keyOk k) (hks : keysOk ps) :
    ∃ r, (Instr.lookup t v u ok).run P w = .ok (if ok then .tuple #[r, .bool (findK k ps).isSome] else r) w ∧ ∀ x, (findK k ps = some x ∨ (findK k ps = none ∧ mkAgg d.kd.agg d.zero = some x)) → VR β F w r x :=
  lookup_okO K ht (hp.hh _ hm).1 hte hv hu hsh hshs hk hks
theorem keysSh_sps : ∀ l : List ByteArray, keysSh false [.str] (sps l) = true
  | [] => rfl
  | s :: l => by show (keySh false [.str] (.str s) && keysSh false [.str] (sps l)) = true; rw [keysSh_sps l]; rfl
theorem findK_sps {k x : AV} : ∀ {l : List ByteArray}, findK k (sps l) = some x → x = .bool true
  | [], h => by simp [sps, findK] at h
  | s :: l, h => by
    have h : (match keyEq k (.str s) with | true => some (AV.bool true) | false => findK k (sps l)) = some x := h
    split at h
    · injection h with h; exact h.symm
    · exact findK_sps h
theorem setK_sps {s : ByteArray} : ∀ {l : List ByteArray}, setK (.str s) (.bool true) (sps l) = sps (match findK (.str s) (sps l) with | some _ => l | none => l ++ [s])
  | [] => rfl
  | y :: l => by
    show (match keyEq (.str s) (.str y) with | true => ((.str s, .bool true) : AV × AV) :: sps l | false => (.str y, .bool true) :: setK (.str s) (.bool true) (sps l)) = sps (match (match keyEq (.str s) (.str y) with | true => some (AV.bool true) | false => findK (.str s) (sps l)) with | some _ => y :: l | none => y :: l ++ [s])
    cases hk : keyEq (.str s) (.str y) with
    | true =>
      have := eqBy_ok (a := s) (b := y) hk
      subst this
      rfl
    | false =>
      simp only [setK_sps]
      cases findK (.str s) (sps l) <;> rfl
theorem strSet_ok {tb : Tb} {et : TypeId} {ag : Bool} {ks : List CK} (h : strSet tb et ag ks = true) : ag = false ∧ ks = [.str] ∧ ∃ d, tb et = some d ∧ mkAgg d.kd.agg d.zero = some (.bool false) := by
  unfold strSet at h
  split at h
  · rename_i d hd
    split at h
    · rename_i hz; exact ⟨rfl, rfl, d, hd, hz⟩
    · cases h
  · cases h
theorem lookup_sset {t kt et : TypeId} {id : Nat} {l : List ByteArray} {s : ByteArray} {v u : Value} {d : TyD} (K : KeyedBy P kt false [.str]) (ht : P.underlying t = some (.map kt et)) (hp : Pre hs nx β F w) (hm : (id, .sset l) ∈ hs) (hte : tyOk P et d = true) (hz : mkAgg d.kd.agg d.zero = some (.bool false))
    (hv : VR β F w v (.mp id)) (hu : VR β F w u (.str s)) (hk : keyOk (.str s)) (hks : keysOk (sps l)) :
    ∃ r, (Instr.lookup t v u false).run P w = .ok r w ∧ VR β F w r (.bool (O.real.smem s l)) := by
  obtain ⟨c, bs, ho⟩ := OR.sset_iff.1 (hp.hh _ hm).1
  obtain ⟨r, e1, e2⟩ := lookup_okO (ok := false) K ht ho hte hv hu rfl (keysSh_sps l) hk hks
  refine ⟨r, e1, ?_⟩
  show VR β F w r (.bool (findK (.str s) (sps l)).isSome)
  cases hf : findK (.str s) (sps l) with
  | none => exact e2 _ (.inr ⟨hf, hz⟩)
  | some x => have := findK_sps hf; subst this; exact e2 _ (.inl hf)
theorem lookup_nil {t kt et : TypeId} {ag ok : Bool} {ks : List CK} {k : AV} {u : Value} {d : TyD} {z : AV} (K : KeyedBy P kt ag ks) (ht : P.underlying t = some (.map kt et)) (hte : tyOk P et d = true)
    (hu : VR β F w u k) (hsh : keySh ag ks k = true) (hk : keyOk k) (hz : mkAgg d.kd.agg d.zero = some z) :
    ∃ r, (Instr.lookup t (.map none) u ok).run P w = .ok (if ok then .tuple #[r, .bool false] else r) w ∧ VR β F w r z := by
  obtain ⟨c1, c2, c3⟩ := find_ok (P := P) (β := β) (F := F) (w := w) (es := #[]) (ps := []) K List.Pairwise.nil rfl (by simp) hsh rfl hk rfl (key_val hsh hu)
  obtain ⟨zv, g1, g2⟩ := zero_ok (P := P) (w := w) (β := β) (F := F) hte hz
  rcases c3 with ⟨f1, f2, f3⟩ | ⟨j, e, k', x, f1, _⟩
  · refine ⟨zv, ?_, g2⟩
    simp only [Array.toList_empty] at f2
    simp [Instr.lookup, Sem.run_bind, run_underlying ht, c1, f2, Result.andThen, g1]
  · simp [findK] at f1

theorem Post.map1 {id r : Nat} {es es' : Array MapEntry} {clock clock' : Nat} {bs' : List Nat} {ps' : List (AV × AV)} {x : AV} (hx : x.one = true ∨ True) (hp : Pre hs nx β F w) {ob0 : HObj} (hm : (id, ob0) ∈ hs) (h1 : β id = some (.map (some r))) (h2 : w.heap[r]? = some (.map es clock))
    (hpw : es'.toList.Pairwise (fun a b => a.key ≠ b.key)) (hsz : es'.size = ps'.length) (hbs : es'.toList.map (·.born) = bs')
    (he : ∀ (j : Nat) (k x : AV), ps'[j]? = some (k, x) → ∃ e, es'[j]? = some e ∧ kval k = some e.key ∧ VR β F w e.val x) :
    ∀ v, VR β F w v x → Post hs nx ⟨x, [(id, some (.map clock' bs' ps'))], [], []⟩ β F w v β F (ChangeMaps.setBlock w r (.map es' clock')) := by
  have hnF : ¬ F r := (hp.hh _ hm).2 _ r h1 rfl
  have hother : ∀ b, b ≠ r → (ChangeMaps.setBlock w r (.map es' clock')).heap[b]? = w.heap[b]? := fun b hb => ChangeMaps.heap_setBlock_other h2 _ hb
  have hF : ∀ b, F b → (ChangeMaps.setBlock w r (.map es' clock')).heap[b]? = w.heap[b]? := fun b hb => hother b (fun e => hnF (e ▸ hb))
  have hsize : (ChangeMaps.setBlock w r (.map es' clock')).heap.size = w.heap.size := by simp [ChangeMaps.setBlock]
  intro v hv
  · constructor
    · exact hv.mono (fun _ _ h => h) (fun _ h => h) hF
    · exact fun _ _ h => h
    · exact fun _ _ h => .inl h
    · exact fun _ h => h
    · exact fun b hb => by rw [hsize]; exact hp.hF b hb
    · exact fun _ h => .inl h
    · intro id' ob hob
      simp only [List.mem_singleton, Prod.mk.injEq, Option.some.injEq] at hob
      obtain ⟨rfl, rfl⟩ := hob
      refine ⟨r, es', h1, ChangeMaps.heap_setBlock_same h2 _, hbs, hpw, hsz, fun j k x hj => ?_⟩
      obtain ⟨e, g1, g2, g3⟩ := he j k x hj
      exact ⟨e, g1, g2, g3.mono (fun _ _ h => h) (fun _ h => h) hF⟩
    · intro j ob h; simp at h
    · intro j x b h; simp at h
    · intro j k x y b h; simp at h
    · intro p hp'
      simp only [List.mem_singleton] at hp'
      subst hp'
      exact ⟨_, hm⟩
    · intro id' ob h h'
      simp at h'
    · intro b hb hne
      refine hother b (fun e => ?_)
      subst e
      exact hne (id, _) (List.mem_singleton.2 rfl) _ h1 rfl
    · rfl
    · rfl
    · rfl
    · rw [hsize]; exact Nat.le_refl _
theorem undef_vr : VR β F w undef (.tup []) := .tup _ _ rfl (fun j v x hv => by simp at hv)
theorem born_modify (es : Array MapEntry) (j : Nat) (f : MapEntry → MapEntry) (hf : ∀ e, (f e).born = e.born) : (es.modify j f).toList.map (·.born) = es.toList.map (·.born) := by
  refine List.ext_getElem? (fun i => ?_)
  simp only [List.getElem?_map, Array.getElem?_toList, Array.getElem?_modify]
  split
  · rename_i e; subst e; cases es[j]? <;> simp [hf]
  · rfl
theorem mapUpdate_okO {t kt et : TypeId} {ag : Bool} {ks : List CK} {id c : Nat} {bs : List Nat} {ps : List (AV × AV)} {k x : AV} {v u y : Value} (K : KeyedBy P kt ag ks) (ht : P.underlying t = some (.map kt et)) (hp : Pre hs nx β F w) {ob0 : HObj} (hm : (id, ob0) ∈ hs) (ho : OR β F w id (.map c bs ps))
    (hv : VR β F w v (.mp id)) (hu : VR β F w u k) (hy : VR β F w y x) (hsh : keySh ag ks k = true) (hshs : keysSh ag ks ps = true) (hk : keyOk k) (hks : keysOk ps) :
    ∃ w', (Instr.mapUpdate t v u y).run P w = .ok () w' ∧ Post hs nx ⟨.tup [], [(id, some (.map (setC c k ps) (setB bs c k ps) (setK k x ps)))], [], []⟩ β F w undef β F w' := by
  obtain ⟨r, es, h1, h2, hbs, h0, h3, h4⟩ := ho
  cases hv with
  | mp _ r' hb =>
    rw [h1] at hb
    injection hb with hb
    injection hb with hb
    injection hb with hb
    subst hb
    have hkv := key_val hsh hu
    obtain ⟨c1, c2, c3⟩ := find_ok (P := P) K h0 h3 h4 hsh hshs hk hks hkv
    rcases c3 with ⟨f1, f2, f3⟩ | ⟨j, e, k', x0, f1, f2, f3, f4, f5, f6, f7, f8⟩
    · rw [show setC c k ps = c + 1 by simp [setC, f1], show setB bs c k ps = bs ++ [c] by simp [setB, f1]]
      refine ⟨ChangeMaps.setBlock w r (.map (es.push ⟨u, y, c⟩) (c + 1)), ?_, Post.map1 (.inr trivial) hp hm h1 h2 (es' := es.push ⟨u, y, c⟩) (ps' := setK k x ps) ?_ ?_ (by simp [hbs]) ?_ _ undef_vr⟩
      · simp [Instr.mapUpdate, Sem.run_bind, run_underlying ht, MapKept.run_getObj_map h2, c1, f2, MapKept.run_setObj_map _ h2, Result.andThen, ChangeMaps.setBlock]
      · simp only [Array.toList_push]
        rw [List.pairwise_append]
        refine ⟨h0, by simp, fun a ha b hb => ?_⟩
        simp at hb
        subst hb
        exact f3 a ha
      · rw [(findK_none f1).2.1]; simp [h3]
      · intro j k2 x2 hj
        rw [(findK_none f1).2.1] at hj
        rcases Nat.lt_or_ge j ps.length with hl | hl
        · rw [List.getElem?_append_left hl] at hj
          obtain ⟨e, g1, g2, g3⟩ := h4 j k2 x2 hj
          exact ⟨e, by rw [Array.getElem?_push_lt (by omega)]; rw [← g1]; exact (Array.getElem?_eq_getElem (by omega)).symm, g2, g3⟩
        · rw [List.getElem?_append_right hl] at hj
          have : j - ps.length = 0 := by
            have := (List.getElem?_eq_some_iff.1 hj).1
            simp at this; omega
          rw [this] at hj
          simp at hj
          obtain ⟨rfl, rfl⟩ := hj
          have hjj : j = es.size := by omega
          subst hjj
          exact ⟨⟨u, y, c⟩, by simp, hkv, hy⟩
    · have hjs : j < es.size := (Array.getElem?_eq_some_iff.1 f3).1
      have hget : ∀ i, (es.modify j fun e => { e with key := u, val := y })[i]? = if i = j then some { e with key := u, val := y } else es[i]? := fun i => by
        rw [Array.getElem?_modify]
        by_cases hi : j = i
        · subst hi; simp [f3]
        · rw [if_neg hi, if_neg (fun e => hi e.symm)]
      rw [show setC c k ps = c by simp [setC, f1], show setB bs c k ps = bs by simp [setB, f1]]
      refine ⟨ChangeMaps.setBlock w r (.map (es.modify j fun e => { e with key := u, val := y }) c), ?_, Post.map1 (.inr trivial) hp hm h1 h2 (es' := es.modify j fun e => { e with key := u, val := y }) (ps' := setK k x ps) ?_ ?_ (by rw [← hbs]; exact born_modify _ _ _ (fun _ => rfl)) ?_ _ undef_vr⟩
      · simp [Instr.mapUpdate, Sem.run_bind, run_underlying ht, MapKept.run_getObj_map h2, c1, f2, MapKept.run_setObj_map _ h2, Result.andThen, ChangeMaps.setBlock, f3, f4, c2]
      · rw [List.pairwise_iff_getElem] at h0 ⊢
        intro i1 i2 hi1 hi2 hlt
        have e1 : ∀ i (hi : i < (es.modify j fun e => { e with key := u, val := y }).toList.length), ((es.modify j fun e => { e with key := u, val := y }).toList[i]).key = (es.toList[i]'(by simpa using hi)).key := fun i hi => by
          have hi' : i < es.size := by simpa using hi
          have g := hget i
          rw [← Array.getElem?_toList, List.getElem?_eq_getElem hi] at g
          by_cases hij : i = j
          · subst hij
            rw [if_pos rfl] at g
            injection g with g
            rw [g]
            simp only
            rw [← Array.getElem?_toList] at f3
            obtain ⟨q1, q2⟩ := List.getElem?_eq_some_iff.1 f3
            rw [q2]; exact f4.symm
          · rw [if_neg hij, Array.getElem?_eq_getElem hi'] at g
            injection g with g
            rw [g]; simp
        rw [e1 i1 hi1, e1 i2 hi2]
        exact h0 i1 i2 (by simpa using hi1) (by simpa using hi2) hlt
      · rw [f6]; simp [h3]
      · intro i k2 x2 hi
        rw [f6] at hi
        rw [hget i]
        by_cases hij : i = j
        · subst hij
          have hl : i < ps.length := by omega
          rw [List.getElem?_set_self hl] at hi
          simp at hi
          obtain ⟨rfl, rfl⟩ := hi
          exact ⟨_, by rw [if_pos rfl], hkv, hy⟩
        · rw [List.getElem?_set_ne (fun e => hij e.symm)] at hi
          rw [if_neg hij]
          exact h4 i k2 x2 hi
theorem mapUpdate_ok {t kt et : TypeId} {ag : Bool} {ks : List CK} {id c : Nat} {bs : List Nat} {ps : List (AV × AV)} {k x : AV} {v u y : Value} (K : KeyedBy P kt ag ks) (ht : P.underlying t = some (.map kt et)) (hp : Pre hs nx β F w) (hm : (id, .map c bs ps) ∈ hs)
    (hv : VR β F w v (.mp id)) (hu : VR β F w u k) (hy : VR β F w y x) (hsh : keySh ag ks k = true) (hshs : keysSh ag ks ps = true) (hk : keyOk k) (hks : keysOk ps) :
    ∃ w', (Instr.mapUpdate t v u y).run P w = .ok () w' ∧ Post hs nx ⟨.tup [], [(id, some (.map (setC c k ps) (setB bs c k ps) (setK k x ps)))], [], []⟩ β F w undef β F w' :=
  mapUpdate_okO K ht hp hm (hp.hh _ hm).1 hv hu hy hsh hshs hk hks
theorem mapUpdate_sset {t kt et : TypeId} {id : Nat} {l : List ByteArray} {s : ByteArray} {v u y : Value} (K : KeyedBy P kt false [.str]) (ht : P.underlying t = some (.map kt et)) (hp : Pre hs nx β F w) (hm : (id, .sset l) ∈ hs)
    (hv : VR β F w v (.mp id)) (hu : VR β F w u (.str s)) (hy : VR β F w y (.bool true)) (hk : keyOk (.str s)) (hks : keysOk (sps l)) :
    ∃ w', (Instr.mapUpdate t v u y).run P w = .ok () w' ∧ Post hs nx ⟨.tup [], [(id, some (.sset (O.real.sins s l)))], [], []⟩ β F w undef β F w' := by
  obtain ⟨c, bs, ho⟩ := OR.sset_iff.1 (hp.hh _ hm).1
  obtain ⟨w', e1, e2⟩ := mapUpdate_okO K ht hp hm ho hv hu hy rfl (keysSh_sps l) hk hks
  refine ⟨w', e1, ⟨e2.vr, e2.βext, e2.βnew, e2.Fext, e2.Flt, fun b hb => ?_, fun id' ob hob => ?_, fun j ob hj => by simp at hj, fun j x b hj => by simp at hj, fun j k x y b hj => by simp at hj, fun p hp' => ?_, fun id' ob h h' => by simp at h', fun b hb hne => e2.frame b hb (fun p hp' => ?_), e2.os, e2.tape, e2.output, e2.size⟩⟩
  · rcases e2.Fnew b hb with h | h | ⟨_, h, _⟩
    · exact .inl h
    · exact .inr (.inl h)
    · simp at h
  · simp only [List.mem_singleton, Prod.mk.injEq, Option.some.injEq] at hob
    obtain ⟨rfl, rfl⟩ := hob
    have := e2.live _ _ (List.mem_singleton.2 rfl)
    rw [setK_sps] at this
    exact OR.sset_iff.2 ⟨_, _, this⟩
  · simp only [List.mem_singleton] at hp'
    subst hp'
    exact ⟨_, hm⟩
  · simp only [List.mem_singleton] at hp'
    subst hp'
    exact fun x hx => hne (id, some (.sset (O.real.sins s l))) (List.mem_singleton.2 rfl) x hx
theorem tup2 {β : Nat → Option Value} {F : Nat → Prop} {w : World} {v u : Value} {x y : AV} (h1 : VR β F w v x) (h2 : VR β F w u y) : VR β F w (.tuple #[v, u]) (.tup [x, y]) :=
  .tup #[v, u] _ rfl (fun j v z hv hz => by
    match j, hv, hz with
    | 0, hv, hz => simp at hv hz; subst hv; subst hz; exact h1
    | 1, hv, hz => simp at hv hz; subst hv; subst hz; exact h2
    | j + 2, hv, hz => simp at hz)
theorem mapEntry_none {t kt et : TypeId} {ag : Bool} {ks : List CK} {id c : Nat} {bs : List Nat} {ps : List (AV × AV)} {k : AV} {v u : Value} {d : TyD} {z : AV} (K : KeyedBy P kt ag ks) (ht : P.underlying t = some (.map kt et)) (hp : Pre hs nx β F w) (hm : (id, .map c bs ps) ∈ hs) (hte : tyOk P et d = true)
    (hv : VR β F w v (.mp id)) (hu : VR β F w u k) (hsh : keySh ag ks k = true) (hshs : keysSh ag ks ps = true) (hk : keyOk k) (hks : keysOk ps) (hf : findK k ps = none) (hz : mkAgg d.kd.agg d.zero = some z) :
    ∃ r w', (Instr.mapEntry t v u).run P w = .ok r w' ∧ Post hs nx ⟨.tup [z, .int .i64 (c : Int)], [(id, some (.map (c + 1) (bs ++ [c]) (setK k z ps)))], [], []⟩ β F w r β F w' := by
  obtain ⟨r, es, h1, h2, hbs, h0, h3, h4⟩ := (hp.hh _ hm).1
  cases hv with
  | mp _ r' hb =>
    rw [h1] at hb
    injection hb with hb
    injection hb with hb
    injection hb with hb
    subst hb
    have hkv := key_val hsh hu
    obtain ⟨c1, c2, c3⟩ := find_ok (P := P) K h0 h3 h4 hsh hshs hk hks hkv
    obtain ⟨zv, g1, g2⟩ := zero_ok (P := P) (w := w) (β := β) (F := F) hte hz
    rcases c3 with ⟨f1, f2, f3⟩ | ⟨j, e, k', x0, f1, _⟩
    · refine ⟨.tuple #[zv, goInt c], ChangeMaps.setBlock w r (.map (es.push ⟨u, zv, c⟩) (c + 1)), ?_, Post.map1 (.inr trivial) hp hm h1 h2 (es' := es.push ⟨u, zv, c⟩) (ps' := setK k z ps) ?_ ?_ (by simp [hbs]) ?_ _ (tup2 g2 (.int _ _))⟩
      · simp [Instr.mapEntry, Sem.run_bind, run_underlying ht, MapKept.run_getObj_map h2, c1, f2, MapKept.run_setObj_map _ h2, Result.andThen, ChangeMaps.setBlock, g1]
      · simp only [Array.toList_push]
        rw [List.pairwise_append]
        refine ⟨h0, by simp, fun a ha b hb => ?_⟩
        simp at hb
        subst hb
        exact f3 a ha
      · rw [(findK_none f1).2.1]; simp [h3]
      · intro j k2 x2 hj
        rw [(findK_none f1).2.1] at hj
        rcases Nat.lt_or_ge j ps.length with hl | hl
        · rw [List.getElem?_append_left hl] at hj
          obtain ⟨e, g1, g2, g3⟩ := h4 j k2 x2 hj
          exact ⟨e, by rw [Array.getElem?_push_lt (by omega)]; rw [← g1]; exact (Array.getElem?_eq_getElem (by omega)).symm, g2, g3⟩
        · rw [List.getElem?_append_right hl] at hj
          have : j - ps.length = 0 := by
            have := (List.getElem?_eq_some_iff.1 hj).1
            simp at this; omega
          rw [this] at hj
          simp at hj
          obtain ⟨rfl, rfl⟩ := hj
          have hjj : j = es.size := by omega
          subst hjj
          exact ⟨⟨u, zv, c⟩, by simp, hkv, g2⟩
    · rw [hf] at f1; cases f1
theorem mapEntry_some {t kt et : TypeId} {ag : Bool} {ks : List CK} {id c b j : Nat} {bs : List Nat} {ps : List (AV × AV)} {k x : AV} {v u : Value} (K : KeyedBy P kt ag ks) (ht : P.underlying t = some (.map kt et)) (hp : Pre hs nx β F w) (hm : (id, .map c bs ps) ∈ hs)
    (hv : VR β F w v (.mp id)) (hu : VR β F w u k) (hsh : keySh ag ks k = true) (hshs : keysSh ag ks ps = true) (hk : keyOk k) (hks : keysOk ps) (hf : findK k ps = some x) (hj : idxK k ps 0 = some j) (hbj : bs[j]? = some b) :
    ∃ r w', (Instr.mapEntry t v u).run P w = .ok r w' ∧ Post hs nx ⟨.tup [x, .int .i64 (b : Int)], [(id, some (.map c bs (setK k x ps)))], [], []⟩ β F w r β F w' := by
  obtain ⟨r, es, h1, h2, hbs, h0, h3, h4⟩ := (hp.hh _ hm).1
  cases hv with
  | mp _ r' hb =>
    rw [h1] at hb
    injection hb with hb
    injection hb with hb
    injection hb with hb
    subst hb
    have hkv := key_val hsh hu
    obtain ⟨c1, c2, c3⟩ := find_ok (P := P) K h0 h3 h4 hsh hshs hk hks hkv
    rcases c3 with ⟨f1, f2, f3⟩ | ⟨j', e, k', x0, f1, f2, f3, f4, f5, f6, f7, f8⟩
    · rw [hf] at f1; cases f1
    · rw [hj] at f8
      injection f8 with f8
      subst f8
      rw [hf] at f1
      injection f1 with f1
      subst f1
      have hborn : e.born = b := by
        rw [← hbs, List.getElem?_map, Array.getElem?_toList, f3] at hbj
        simpa using hbj
      obtain ⟨e', g1, g2, g3⟩ := h4 j k' x f5
      rw [f3] at g1
      injection g1 with g1
      subst g1
      have hget : ∀ i, (es.modify j fun e => { e with key := u })[i]? = if i = j then some { e with key := u } else es[i]? := fun i => by
        rw [Array.getElem?_modify]
        by_cases hi : j = i
        · subst hi; simp [f3]
        · rw [if_neg hi, if_neg (fun e => hi e.symm)]
      have hsame : (es.modify j fun e => { e with key := u }) = es := by
        refine Array.ext_getElem? (fun i => ?_)
        rw [hget i]
        split
        · rename_i hi; subst hi; rw [f3]; subst f4; rfl
        · rfl
      refine ⟨.tuple #[e.val, goInt e.born], ChangeMaps.setBlock w r (.map es c), ?_, ?_⟩
      · simp [Instr.mapEntry, Sem.run_bind, run_underlying ht, MapKept.run_getObj_map h2, c1, f2, MapKept.run_setObj_map _ h2, Result.andThen, ChangeMaps.setBlock, f3, f4, c2, hsame]
      · refine Post.map1 (.inr trivial) hp hm h1 h2 (es' := es) (ps' := setK k x ps) h0 (by rw [f6]; simp [h3]) hbs ?_ _ (tup2 g3 (by rw [hborn]; exact .int _ _))
        intro i k2 x2 hi
        rw [f6] at hi
        by_cases hij : i = j
        · subst hij
          have hl : i < ps.length := (List.getElem?_eq_some_iff.1 f5).1
          rw [List.getElem?_set_self hl] at hi
          simp at hi
          obtain ⟨rfl, rfl⟩ := hi
          exact ⟨e, f3, by rw [f4]; exact hkv, g3⟩
        · rw [List.getElem?_set_ne (fun e => hij e.symm)] at hi
          exact h4 i k2 x2 hi
theorem idxB_spec {b : Int} : ∀ {bs : List Nat} {n j : Nat}, idxB b bs n = some j → ∃ i, j = n + i ∧ bs.findIdx? (fun (x : Nat) => (x : Int) == b) = some i
  | [], n, j, h => by simp [idxB] at h
  | x :: r, n, j, h => by
    unfold idxB at h
    split at h
    · rename_i hd
      injection h with h
      subst h
      exact ⟨0, rfl, by simp [List.findIdx?_cons, of_decide_eq_true hd]⟩
    · rename_i hd
      obtain ⟨i, h1, h2⟩ := idxB_spec h
      have hne : ¬ (x : Int) = b := of_decide_eq_false hd
      exact ⟨i + 1, by omega, by simp [List.findIdx?_cons, hne, h2]⟩
theorem entryStore_ok {t : TypeId} {id c j : Nat} {bs : List Nat} {ps : List (AV × AV)} {k x0 x : AV} {q : IntKind} {n : Int} {v u y : Value} (hp : Pre hs nx β F w) (hm : (id, .map c bs ps) ∈ hs)
    (hv : VR β F w v (.mp id)) (hu : VR β F w u (.int q n)) (hy : VR β F w y x) (hj : idxB n bs 0 = some j) (hpj : ps[j]? = some (k, x0)) :
    ∃ w', (Instr.entryStore t v u y).run P w = .ok () w' ∧ Post hs nx ⟨.tup [], [(id, some (.map c bs (ps.set j (k, x))))], [], []⟩ β F w undef β F w' := by
  obtain ⟨r, es, h1, h2, hbs, h0, h3, h4⟩ := (hp.hh _ hm).1
  cases hu
  cases hv with
  | mp _ r' hb =>
    rw [h1] at hb
    injection hb with hb
    injection hb with hb
    injection hb with hb
    subst hb
    obtain ⟨i, e1, e2⟩ := idxB_spec hj
    have e1 : j = i := by omega
    subst e1
    have hfi : es.findIdx? (fun e => (e.born : Int) == n) = some j := by
      rw [← hbs, List.findIdx?_map] at e2
      obtain ⟨l⟩ := es
      simpa [List.findIdx?_toArray, Function.comp_def] using e2
    obtain ⟨e, g1, g2, g3⟩ := h4 j k x0 hpj
    have hget : ∀ i, (es.modify j fun e => { e with val := y })[i]? = if i = j then some { e with val := y } else es[i]? := fun i => by
      rw [Array.getElem?_modify]
      by_cases hi : j = i
      · subst hi; simp [g1]
      · rw [if_neg hi, if_neg (fun e => hi e.symm)]
    refine ⟨ChangeMaps.setBlock w r (.map (es.modify j fun e => { e with val := y }) c), ?_, Post.map1 (.inr trivial) hp hm h1 h2 (es' := es.modify j fun e => { e with val := y }) (ps' := ps.set j (k, x)) ?_ (by simp [h3]) (by rw [← hbs]; exact born_modify _ _ _ (fun _ => rfl)) ?_ _ undef_vr⟩
    · simp [Instr.entryStore, Sem.run_bind, MapKept.run_getObj_map h2, MapKept.run_setObj_map _ h2, Result.andThen, ChangeMaps.setBlock, asInt, asIntOf, hfi]
    · rw [List.pairwise_iff_getElem] at h0 ⊢
      intro i1 i2 hi1 hi2 hlt
      have e1 : ∀ i (hi : i < (es.modify j fun e => { e with val := y }).toList.length), ((es.modify j fun e => { e with val := y }).toList[i]).key = (es.toList[i]'(by simpa using hi)).key := fun i hi => by
        have hi' : i < es.size := by simpa using hi
        have g := hget i
        rw [← Array.getElem?_toList, List.getElem?_eq_getElem hi] at g
        by_cases hij : i = j
        · subst hij
          rw [if_pos rfl] at g
          injection g with g
          rw [g]
          simp only
          rw [← Array.getElem?_toList] at g1
          obtain ⟨q1, q2⟩ := List.getElem?_eq_some_iff.1 g1
          rw [q2]
        · rw [if_neg hij, Array.getElem?_eq_getElem hi'] at g
          injection g with g
          rw [g]; simp
      rw [e1 i1 hi1, e1 i2 hi2]
      exact h0 i1 i2 (by simpa using hi1) (by simpa using hi2) hlt
    · intro i k2 x2 hi
      rw [hget i]
      by_cases hij : i = j
      · subst hij
        have hl : i < ps.length := (List.getElem?_eq_some_iff.1 hpj).1
        rw [List.getElem?_set_self hl] at hi
        simp at hi
        obtain ⟨rfl, rfl⟩ := hi
        exact ⟨{ e with val := y }, by rw [if_pos rfl], g2, hy⟩
      · rw [List.getElem?_set_ne (fun e => hij e.symm)] at hi
        rw [if_neg hij]
        exact h4 i k2 x2 hi
/-- A new map. -/
theorem Post.newmap (hp : Pre hs nx β F w) : Post hs nx ⟨.mp nx, [], [], [.map 0 [] []]⟩ β F w (.map (some w.heap.size)) (βset β nx (.map (some w.heap.size))) F (w.alloc (.map #[] 0)) where
  vr := .mp nx w.heap.size (βset_self _ _ _)
  βext := βset_ext hp.hn _
  βnew id x hx := by
    unfold βset at hx
    split at hx
    · rename_i e; subst e; exact .inr ⟨Nat.le_refl _, by simp⟩
    · exact .inl hx
  Fext _ h := h
  Flt b hb := by have := hp.hF b hb; simp; omega
  Fnew _ h := .inl h
  live _ _ h := by simp at h
  news j ob hj := by
    match j, hj with
    | 0, hj =>
      simp at hj
      subst hj
      exact ⟨w.heap.size, #[], βset_self _ _ _, heap_alloc_new w _, rfl, List.Pairwise.nil, rfl, fun j k x hj => by simp at hj⟩
  newb j x b hj hx hb := by
    have : j = 0 := by simpa using hj
    subst this
    rw [Nat.add_zero, βset_self] at hx
    injection hx with hx
    subst hx
    simp [blkOf] at hb
    subst hb
    exact ⟨fun h => by have := hp.hF _ h; omega, .inl (Nat.le_refl _)⟩
  newsep j k x y b hj hk hne := by
    have : j = 0 := by simpa using hj
    have : k = 0 := by simpa using hk
    omega
  known _ h := by simp at h
  nd _ _ h := by simp at h
  frame b hb _ := alloc_keeps w _ hb
  os := rfl
  tape := rfl
  output := rfl
  size := by simp

theorem Post.newset (hp : Pre hs nx β F w) : Post hs nx ⟨.mp nx, [], [], [.sset []]⟩ β F w (.map (some w.heap.size)) (βset β nx (.map (some w.heap.size))) F (w.alloc (.map #[] 0)) := by
  have p := Post.newmap (hs := hs) hp
  refine ⟨p.vr, p.βext, p.βnew, p.Fext, p.Flt, p.Fnew, p.live, fun j ob hj => ?_, p.newb, p.newsep, p.known, p.nd, p.frame, p.os, p.tape, p.output, p.size⟩
  match j, hj with
  | 0, hj =>
    injection hj with hj
    subst hj
    exact OR.sset_iff.2 ⟨0, [], p.news 0 _ rfl⟩
  | j + 1, hj => simp at hj
theorem delete_ok {t kt et ty : TypeId} {ag : Bool} {ks : List CK} {id c : Nat} {bs : List Nat} {ps : List (AV × AV)} {k : AV} {v u : Value} {ts : Array TypeId} (K : KeyedBy P kt ag ks) (hts : ts[0]? = some t) (ht : P.underlying t = some (.map kt et)) (hp : Pre hs nx β F w) (hm : (id, .map c bs ps) ∈ hs)
    (hv : VR β F w v (.mp id)) (hu : VR β F w u k) (hsh : keySh ag ks k = true) (hshs : keysSh ag ks ps = true) (hk : keyOk k) (hks : keysOk ps) :
    ∃ w', (Builtin.delete_ ts ty #[v, u]).run P w = .ok (.tuple #[]) w' ∧ Post hs nx ⟨.tup [], [(id, some (.map c (delB k bs ps) (delK k ps)))], [], []⟩ β F w (.tuple #[]) β F w' := by
  obtain ⟨r, es, h1, h2, hbs, h0, h3, h4⟩ := (hp.hh _ hm).1
  cases hv with
  | mp _ r' hb =>
    rw [h1] at hb
    injection hb with hb
    injection hb with hb
    injection hb with hb
    subst hb
    have hkv := key_val hsh hu
    obtain ⟨c1, c2, c3⟩ := find_ok (P := P) K h0 h3 h4 hsh hshs hk hks hkv
    rcases c3 with ⟨f1, f2, f3⟩ | ⟨j, e, k', x0, f1, f2, f3, f4, f5, f6, f7, f8⟩
    · have hi : idxK k ps 0 = none := by
        cases hix : idxK k ps 0 with
        | none => rfl
        | some j =>
          exfalso
          have : ∀ (l : List (AV × AV)) (n j : Nat), idxK k l n = some j → findK k l ≠ none := by
            intro l
            induction l with
            | nil => intro n j h; simp [idxK] at h
            | cons p l ih =>
              intro n j h
              obtain ⟨a, b⟩ := p
              unfold idxK at h
              split at h
              · rename_i he; simp [findK, he]
              · rename_i he; simp only [findK, he]; exact ih _ _ h
          exact this ps 0 j hix f1
      rw [show delB k bs ps = bs by simp [delB, hi], (findK_none f1).2.2]
      refine ⟨ChangeMaps.setBlock w r (.map es c), ?_, Post.map1 (.inr trivial) hp hm h1 h2 (es' := es) (ps' := ps) h0 h3 hbs h4 _ undef_vr⟩
      simp [Builtin.delete_, hts, Sem.run_bind, run_underlying ht, MapKept.run_getObj_map h2, c1, f2, MapKept.run_setObj_map _ h2, Result.andThen, ChangeMaps.setBlock]
    · rw [show delB k bs ps = bs.eraseIdx j by simp [delB, f8], f7]
      have hl : (es.eraseIdxIfInBounds j).toList = es.toList.eraseIdx j := by simp
      have hjs : j < es.size := (Array.getElem?_eq_some_iff.1 f3).1
      refine ⟨ChangeMaps.setBlock w r (.map (es.eraseIdxIfInBounds j) c), ?_, Post.map1 (.inr trivial) hp hm h1 h2 (es' := es.eraseIdxIfInBounds j) (ps' := ps.eraseIdx j) ?_ ?_ ?_ ?_ _ undef_vr⟩
      · simp [Builtin.delete_, hts, Sem.run_bind, run_underlying ht, MapKept.run_getObj_map h2, c1, f2, MapKept.run_setObj_map _ h2, Result.andThen, ChangeMaps.setBlock]
      · rw [hl]; exact h0.sublist (List.eraseIdx_sublist _ _)
      · rw [← Array.length_toList, hl, List.length_eraseIdx, List.length_eraseIdx]; simp [h3]
      · rw [hl, ← hbs, ChangeMaps.map_eraseIdx]
      · intro i k2 x2 hi
        rw [← Array.getElem?_toList, hl]
        rw [List.getElem?_eraseIdx] at hi ⊢
        split at hi
        · rename_i hlt
          rw [if_pos hlt, Array.getElem?_toList]
          exact h4 i k2 x2 hi
        · rename_i hlt
          rw [if_neg hlt, Array.getElem?_toList]
          exact h4 (i + 1) k2 x2 hi

theorem growRefl (w : World) (row : Option Nat) : w.grownBy w row := ⟨rfl, rfl, rfl, Nat.le_refl _, fun _ _ _ => rfl⟩
/-- A slice of the call's own, its first elements alone. -/
theorem prefix_ok {t e e' : TypeId} {k : LK} {d dt : TyD} {id : Nat} {c : LS} {v : Value} {hi : Option Operand} {ρ : Operand → Value} {h : Int} (hp : Pre hs nx β F w) (hm : (id, .arr e' c) ∈ hs) (hne : c.some1 = true) (htt : tyOk P t dt = true) (hkt : dt.kd = .slice e k) (hte : tyOk P e d = true) (hsz : d.size = c.sz)
    (hv : VR β F w v (.own id)) (hh : BndIs ρ hi (c.olen O.real) h) (hb : O.real.cutb 0 h (c.olen O.real)) :
    ∃ r, (Instr.sliceAt t v none (hi.map ρ) none).run P w = .ok r w ∧ Post hs nx ⟨.own nx, [(id, none)], [], [.arr e' (c.ocut O.real 0 h)]⟩ β F w r (βset β nx r) (FZ [] β F) w := by
  have hkt' := kdIs htt
  rw [hkt] at hkt'
  simp only [KdIs] at hkt'
  obtain ⟨hO, hnF⟩ := hp.hh _ hm
  obtain ⟨u, cvs, h1, h2, hk, h4⟩ := hO
  have hb' := hb
  rw [olen_real] at hb hh
  obtain ⟨q1, q2, q3⟩ : (0 : Int) ≤ 0 ∧ 0 ≤ h ∧ h ≤ (c.len : Int) := hb
  obtain ⟨o1, o2, o3⟩ := ocut_real c 0 h hk
  have o4 := ocut_len c 0 h hk hb'
  cases hv with
  | own _ _ hb0 hs0 =>
    rw [h1] at hb0
    injection hb0 with hb0
    subst hb0
    have hlen := LS.some1_len hne
    rcases h2.2 with ⟨e1, e2⟩ | ⟨g, cap, cur, rfl, r1, r2, r3, r4, r5, r6⟩
    · omega
    · have run : (Instr.sliceAt t (.slice (some ⟨g, 0, none⟩) c.len cap) none (hi.map ρ) none).run P w = .ok (.slice (some ⟨g, 0, none⟩) h.toNat cap) w := by
        have := run_bounds (P := P) (w := w) (s := true) (n := c.len) (cap := cap) (ρ := ρ) (lo := none) (hi := hi) (l := 0) (h := h) (.inl ⟨rfl, rfl⟩) hh (by omega) q2 q3 r3
        simp only [Option.map_none] at this
        simp only [Instr.sliceAt, Sem.run_bind, run_underlying hkt', Result.andThen_ok]
        simp [Instr.slice, Sem.run_bind, run_underlying hkt', this, run_size hte, addr_add]
      refine ⟨_, run, ?_⟩
      have hle : h.toNat * c.sz ≤ c.len * c.sz := Nat.mul_le_mul_right _ (by omega)
      refine Post.arr (row := some g) (cvs := cvs.take (h.toNat * c.sz)) hp (by intro p hp'; simp at hp'; subst hp'; exact ⟨rfl, _, hm⟩) (by simp) ⟨_, _, _, rfl⟩ ?_ ?_ (growRefl _ _) ?_ ?_
      · rw [o2, o4]
        refine ⟨by rw [List.length_take, h2.1, show (h - 0).toNat = h.toNat by omega]; omega, .inr ⟨g, cap, cur, by rw [show (h - 0).toNat = h.toNat by omega], r1, r2, by omega, r4, r5, ?_⟩⟩
        rw [show (h - 0).toNat = h.toNat by omega, ← r6, List.take_take, Nat.min_eq_left hle]
      · refine ⟨by rw [List.length_take, h2.1, o2, o4, show (h - 0).toNat = h.toNat by omega]; omega, o3, fun i el j x he hx => ?_⟩
        rw [o1] at he
        simp only [Int.toNat_zero, List.drop_zero] at he
        rw [List.getElem?_take] at he
        split at he
        · rename_i hlt
          obtain ⟨u, k1, k2⟩ := h4 i el j x he hx
          refine ⟨u, ?_, k2.fz⟩
          have hj : j < c.sz := by rw [← LS.el_len hk el (List.mem_of_getElem? he)]; exact (List.getElem?_eq_some_iff.1 hx).1
          have hbound : i * c.sz + j < h.toNat * c.sz := by
            have : (i + 1) * c.sz ≤ h.toNat * c.sz := Nat.mul_le_mul_right _ (by omega)
            rw [Nat.add_mul] at this; omega
          rw [o2, List.getElem?_take, if_pos hbound]
          exact k1
        · cases he
      · intro b hb
        injection hb with hb
        subst hb
        refine ⟨fun hF => ?_, id, _, List.mem_singleton.2 rfl, h1, rfl⟩
        rcases hF with hF | ⟨i, hi', _⟩
        · exact hnF _ g h1 rfl hF
        · simp at hi'
      · intro b hb
        simp [blkOf] at hb
        subst hb
        refine ⟨fun hF => ?_, .inr rfl⟩
        rcases hF with hF | ⟨i, hi', _⟩
        · exact hnF _ g h1 rfl hF
        · simp at hi'
/-- .. from an element on. -/
theorem view_ok {t e e' : TypeId} {k : LK} {d dt : TyD} {id : Nat} {c : LS} {v : Value} {lo : Operand} {ρ : Operand → Value} {q : IntKind} {l : Int} (hO : OR β F w id (.arr e' c)) (hne : c.some1 = true) (htt : tyOk P t dt = true) (hkt : dt.kd = .slice e k) (hte : tyOk P e d = true) (hsz : d.size = c.sz)
    (hv : VR β F w v (.own id)) (hl : ρ lo = .int q l) (hb : O.real.cutb l (c.olen O.real) (c.olen O.real)) :
    ∃ r, (Instr.sliceAt t v (some (ρ lo)) none none).run P w = .ok r w ∧ VR β F w r (.vw id c.sz l.toNat) := by
  have hkt' := kdIs htt
  rw [hkt] at hkt'
  simp only [KdIs] at hkt'
  obtain ⟨u, cvs, h1, h2, hk, h4⟩ := hO
  rw [olen_real] at hb
  obtain ⟨q1, q2, q3⟩ : (0 : Int) ≤ l ∧ l ≤ (c.len : Int) ∧ (c.len : Int) ≤ (c.len : Int) := hb
  cases hv with
  | own _ _ hb0 hs0 =>
    rw [h1] at hb0
    injection hb0 with hb0
    subst hb0
    have hlen := LS.some1_len hne
    rcases h2.2 with ⟨e1, e2⟩ | ⟨g, cap, cur, rfl, r1, r2, r3, r4, r5, r6⟩
    · omega
    · have := run_bounds (P := P) (w := w) (s := true) (n := c.len) (cap := cap) (ρ := ρ) (lo := some lo) (hi := none) (l := l) (h := (c.len : Int)) (.inr ⟨lo, q, rfl, hl⟩) (.inl ⟨rfl, rfl⟩) q1 q2 q3 r3
      simp only [Option.map_none, Option.map_some] at this
      refine ⟨.slice (if cap = l.toNat then some ⟨g, 0, none⟩ else some ⟨g, l.toNat * c.sz, none⟩) (c.len - l.toNat) (cap - l.toNat), ?_, .vw id c.sz l.toNat g c.len cap h1 (by omega)⟩
      simp only [Instr.sliceAt, Sem.run_bind, run_underlying hkt', Result.andThen_ok]
      simp [Instr.slice, Sem.run_bind, run_underlying hkt', this, run_size hte, addr_add, hsz]
theorem zeros_list (z : Value) (n : Nat) : (Builtin.zeroCells #[z] n).toList = List.replicate n z := by
  refine List.ext_getElem? (fun i => ?_)
  simp only [Builtin.zeroCells, List.size_toArray, List.length_cons, List.length_nil, Nat.zero_add, Nat.mul_one, Array.toList_map, Array.toList_range, List.getElem?_map, Nat.mod_one]
  by_cases h : i < n
  · rw [List.getElem?_range h, List.getElem?_replicate, if_pos h]; rfl
  · rw [List.getElem?_eq_none (by simp; omega), List.getElem?_replicate, if_neg h]; rfl
theorem clear_ok {t e e' ty : TypeId} {k : LK} {dt d : TyD} {id lo : Nat} {ys : List (List AV)} {v : Value} {ts : Array TypeId} (hp : Pre hs nx β F w) (hm : (id, .arr e' (.r [.any] ys)) ∈ hs) (hts : ts[0]? = some t) (htt : tyOk P t dt = true) (hkt : dt.kd = .slice e k) (hte : tyOk P e d = true)
    (hz : d.zero = [.nilp]) (hag : d.kd.agg = false) (hv : VR β F w v (.vw id 1 lo)) :
    ∃ w', (Builtin.clear_ ts ty #[v]).run P w = .ok (.tuple #[]) w' ∧ Post hs nx ⟨.tup [], [(id, some (.arr e' (.r [.any] (ys.take lo ++ List.replicate (ys.length - lo) [.nilp]))))], [], []⟩ β F w (.tuple #[]) β F w' := by
  have hkt' := kdIs htt
  rw [hkt] at hkt'
  simp only [KdIs] at hkt'
  obtain ⟨hO, hnF⟩ := hp.hh _ hm
  obtain ⟨u, cvs, h1, h2, hk, h4⟩ := hO
  have hlen : (LS.r [.any] ys).len = ys.length := rfl
  have hszc : (LS.r [.any] ys).sz = 1 := rfl
  rw [hlen, hszc] at h2
  simp only [hszc, Nat.mul_one] at h4
  cases hv with
  | vw _ _ _ b n c hb hlo =>
    rw [h1] at hb
    injection hb with hb
    subst hb
    obtain ⟨g2, h2⟩ := h2
    rcases h2 with ⟨e1, e2⟩ | ⟨g, cap, cur, e0, r1, r2, r3, r4, r5, r6⟩
    · cases e1
    · injection e0 with e1 e2 e3
      injection e1 with e1
      injection e1 with e1
      subst e1; subst e2; subst e3
      simp only [Nat.mul_one] at r5 r6 g2
      -- the zero of the elements
      obtain ⟨zv, z1, z2⟩ := zero_ok (P := P) (w := w) (β := β) (F := F) (z := .nilp) hte (by rw [hz, hag]; rfl)
      have hzv : zv = .pointer none := by cases z2; rfl
      subst hzv
      have hnF' : ¬ F b := hnF _ b h1 rfl
      have mkPost : ∀ (cur' : Array Value) (w' : World), w'.heap[b]? = some (.cells cur' e' (0, 0)) → (∀ k, k ≠ b → w'.heap[k]? = w.heap[k]?) → w'.heap.size = w.heap.size → w'.os = w.os → w'.tape = w.tape → w'.output = w.output → cur'.size = cur.size →
          (∀ j, j < ys.length → cur'[j]? = if j < lo then cur[j]? else some (.pointer none)) →
          Post hs nx ⟨.tup [], [(id, some (.arr e' (.r [.any] (ys.take lo ++ List.replicate (ys.length - lo) [.nilp]))))], [], []⟩ β F w (.tuple #[]) β F w' := by
        intro cur' w' b1 b2 b3 b4 b5 b6 b7 b8
        have hkeep : ∀ k, F k → w'.heap[k]? = w.heap[k]? := fun k hk => b2 k (fun e => hnF' (e ▸ hk))
        have hl' : (ys.take lo ++ List.replicate (ys.length - lo) [AV.nilp]).length = ys.length := by simp; omega
        constructor
        · exact .tup _ _ rfl (fun j v x hv => by simp at hv)
        · exact fun _ _ h => h
        · exact fun _ _ h => .inl h
        · exact fun _ h => h
        · exact fun k hk => by rw [b3]; exact hp.hF k hk
        · exact fun _ h => .inl h
        · intro id' ob hob
          simp only [List.mem_singleton, Prod.mk.injEq, Option.some.injEq] at hob
          obtain ⟨rfl, rfl⟩ := hob
          refine ⟨_, (cur'.toList.take ys.length), h1, ?_, ⟨by simp, fun el he => ?_⟩, fun i el j x he hx => ?_⟩
          · show w'.ownsRow 0 e' 1 _ (ys.take lo ++ List.replicate (ys.length - lo) [AV.nilp]).length _
            rw [hl']
            exact ⟨by simp; omega, .inr ⟨b, c, cur', rfl, r1, b1, r3, r4, by rw [b7, r5, Nat.mul_one], by rw [Nat.mul_one]⟩⟩
          · rcases List.mem_append.1 he with he | he
            · exact hk.2 el (List.mem_of_mem_take he)
            · rw [(List.mem_replicate.1 he).2]; rfl
          · show ∃ u, (cur'.toList.take ys.length)[i * 1 + j]? = some u ∧ _
            rw [Nat.mul_one]
            have hi : i < ys.length := by rw [← hl']; exact (List.getElem?_eq_some_iff.1 he).1
            have he : (ys.take lo ++ List.replicate (ys.length - lo) [AV.nilp])[i]? = some el := he
            rw [List.getElem?_append] at he
            have hlt : (ys.take lo).length = lo := by simp; omega
            rw [hlt] at he
            split at he
            · rename_i hil
              rw [List.getElem?_take, if_pos hil] at he
              have hj : j < 1 := by
                have := hk.2 el (List.mem_of_getElem? he)
                have hh := (List.getElem?_eq_some_iff.1 hx).1
                rw [this] at hh
                simpa [shapeFrom] using hh
              have hj0 : j = 0 := by omega
              subst hj0
              obtain ⟨u, q1, q2⟩ := h4 i el 0 x he hx
              refine ⟨u, ?_, q2.mono (fun _ _ h => h) (fun _ h => h) hkeep⟩
              rw [List.getElem?_take, if_pos (by omega), Array.getElem?_toList, Nat.add_zero, b8 i hi, if_pos hil]
              rw [← r6, List.getElem?_take] at q1
              split at q1
              · simpa using q1
              · cases q1
            · rename_i hil
              have hel : el = [.nilp] := by
                have := List.mem_of_getElem? he
                exact (List.mem_replicate.1 this).2
              subst hel
              match j, hx with
              | 0, hx =>
                simp at hx
                subst hx
                refine ⟨.pointer none, ?_, .nilp⟩
                rw [List.getElem?_take, if_pos (by omega), Array.getElem?_toList, Nat.add_zero, b8 i hi, if_neg hil]
              | j + 1, hx => simp at hx
        · intro j ob h; simp at h
        · intro j x b h; simp at h
        · intro j k x y b h; simp at h
        · intro p hp'
          simp only [List.mem_singleton] at hp'
          subst hp'
          exact ⟨_, hm⟩
        · intro id' ob h h'
          simp at h'
        · intro k hk hne
          refine b2 k (fun e => ?_)
          subst e
          exact hne (id, _) (List.mem_singleton.2 rfl) _ h1 rfl
        · exact b4
        · exact b5
        · exact b6
        · rw [b3]; exact Nat.le_refl _
      rcases Nat.eq_zero_or_pos (ys.length - lo) with h0 | h0
      · refine ⟨w, ?_, mkPost cur w r2 (fun _ _ => rfl) rfl rfl rfl rfl rfl (fun j hj => by rw [if_pos (by omega)])⟩
        rw [h0]
        by_cases hc : c = lo <;> simp [Builtin.clear_, hts, Sem.run_bind, run_underlying hkt', hc]
      · have hcl : c ≠ lo := by omega
        rw [if_neg hcl]
        have hst := run_storeCells_at P b (lo * 1) e' (List.replicate (ys.length - lo) (Value.pointer none)) 0 cur w r2 (by simp; omega) (fun v hv => by rw [(List.mem_replicate.1 hv).2]; rfl)
        generalize hcur : (cur.toList.take (lo * 1 + 0) ++ List.replicate (ys.length - lo) (Value.pointer none) ++ cur.toList.drop (lo * 1 + 0 + (List.replicate (ys.length - lo) (Value.pointer none)).length)).toArray = cur' at hst
        refine ⟨w.setRow b cur', ?_, mkPost cur' _ (setRow_heap w b cur cur' e' _ r2) (fun k hk => setRow_other w b k _ hk) (by simp) rfl rfl rfl ?_ ?_⟩
        · obtain ⟨m, hm'⟩ : ∃ m, ys.length - lo = m + 1 := ⟨ys.length - lo - 1, by omega⟩
          have hzl := zeros_list (.pointer none) (ys.length - lo)
          simp only [Builtin.clear_, hts, List.getElem?_toArray, List.getElem?_cons_zero, Sem.run_bind, run_underlying hkt', Result.andThen_ok]
          rw [hm'] at hzl ⊢
          rw [hm'] at hst
          simp only [Sem.run_bind, z1, Result.andThen_ok, Value.cells, hzl, hst, Sem.run_pure]
        · rw [← hcur, List.size_toArray, seg_length _ _ _ (by simp; omega)]; simp
        · intro j hj
          rw [← hcur, List.getElem?_toArray, seg_get _ _ _ _ (by simp; omega)]
          simp only [Nat.mul_one, Nat.add_zero, List.length_replicate]
          by_cases hjl : j < lo
          · rw [if_pos hjl, if_pos hjl, Array.getElem?_toList]
          · rw [if_neg hjl, if_neg hjl, if_pos (by omega), List.getElem?_replicate, if_pos (by omega)]
end
end Go.Qv
/- make([]int, n): a row of noughts. No condition. -/
set_option linter.unusedVariables false
set_option linter.unusedSimpArgs false
namespace Go.Qv
open Go.RowKit
section
variable {P : Program} {hs : List (Nat × HObj)} {nx : Nat} {β : Nat → Option Value} {F : Nat → Prop} {w : World}
theorem isZero_ok {k : IntKind} {l : List AV} (h : isZero k l = true) : l = [.int k 0] := by
  unfold isZero at h
  split at h
  · simp only [Bool.and_eq_true, decide_eq_true_eq] at h
    rw [h.1, h.2]
  · cases h
theorem makeSlice_ok {t e : TypeId} {k k1 k2 : IntKind} {d dt : TyD} {n : Int} (hp : Pre hs nx β F w) (htt : tyOk P t dt = true) (hkt : dt.kd = .slice e (.i k)) (hte : tyOk P e d = true)
    (hd1 : d.size = 1) (hz0 : isZero k d.zero = true) (h0 : 0 ≤ n) (hb : n * (d.bytes : Int) ≤ 140737488355328) :
    ∃ w' v', (Instr.makeSlice t (.int k1 n) (.int k2 n)).run P w = .ok v' w' ∧ Post hs nx ⟨.own nx, [], [], [.arr e (.i k (List.replicate n.toNat 0))]⟩ β F w v' (βset β nx v') (FZ [] β F) w' := by
  obtain ⟨i, u, z, hi, hu, hs1, hb1, hs0, hb0, hk, hz, hzz, hzl⟩ := tyOk_parts hte
  have hkt' := kdIs htt
  rw [hkt] at hkt'
  simp only [KdIs] at hkt'
  obtain ⟨m, rfl⟩ := Int.eq_ofNat_of_zero_le h0
  have hmb : m * d.bytes ≤ 140737488355328 := by
    have : ((m * d.bytes : Nat) : Int) ≤ 140737488355328 := by rw [Int.natCast_mul]; exact hb
    omega
  have hm1 : m ≤ 140737488355328 := Nat.le_trans (Nat.le_mul_of_pos_right _ hb0) hmb
  have hzc : z.cells.toList = [.int k 0] := by
    rw [isZero_ok hz0] at hzz
    match hc : z.cells.toList, hzz with
    | [], hzz => simp [zoks] at hzz
    | _ :: _ :: _, hzz => simp [zoks] at hzz
    | [v], hzz =>
      simp only [zoks, Bool.and_true] at hzz
      have := zok_vr (β := β) (F := F) (w := w) hzz
      cases this
      rfl
  have hzs : z.cells = #[.int k 0] := by
    apply Array.ext'
    rw [hzc]
  let r : Array Value := Array.replicate m (.int k 0)
  have hr : r.toList = List.replicate m (.int k 0) := by simp [r]
  have wl : IntKind.i64.wrap (m : Int) = (m : Int) := by rw [IntKind.wrap_i64]; omega
  have n1 : ¬ (m : Int) < 0 := by omega
  have n2 : ¬ (281474976710656 < (i.bytes : Int) * (m : Int)) := by
    rw [hb1, ← Int.natCast_mul, Nat.mul_comm]; omega
  refine ⟨w.alloc (.cells r e), .slice (some ⟨w.heap.size, 0, none⟩) m m, ?_, ?_⟩
  · have fin : (newRow e r).run P w = .ok ⟨w.heap.size, 0, none⟩ (w.alloc (.cells r e)) := by simp [newRow]
    have hzv : (zeroValue e).run P w = .ok z w := by simp [zeroValue, typeInfo, hi, hz]
    have hti : (typeInfo e).run P w = .ok i w := by simp [typeInfo, hi]
    have hmap : ∀ zero : Array Value, (m = 0 → zero = #[]) → (m ≠ 0 → zero = #[.int k 0]) → (Array.range m).map (zero[· % zero.size]!) = r := by
      intro zero h1 h2
      by_cases hm : m = 0
      · subst hm; simp [r]
      · rw [h2 hm]
        apply Array.ext
        · simp [r]
        · intro j h3 h4
          simp [r, Nat.mod_one]
    simp only [Instr.makeSlice, Sem.run_bind, run_underlying hkt', Result.andThen_ok, asInt, asIntOf, hti, Sem.run_pure, wl, run_size hte]
    have n3 : ¬ (m : Int) < (m : Int) := by omega
    have n2' : ¬ ((2:Int) ^ 48 < (i.bytes : Int) * (m : Int)) := by simpa using n2
    simp only [n1, n2', n3, hd1, Nat.mul_one, Int.toNat_natCast, gt_iff_lt, decide_false, Bool.or_self, Bool.false_eq_true, if_false, or_self, Sem.run_bind, Sem.run_pure, Result.andThen_ok]
    have hask : ∀ x, (askRoom x).run P w = .ok () w := fun x => by simp [askRoom]
    simp only [hask, Result.andThen_ok, run_size hte, hd1, Nat.mul_one, Sem.run_bind]
    by_cases hm : m = 0
    · rw [if_pos hm]
      simp only [pure_bind]
      rw [hmap #[] (fun _ => rfl) (fun h => absurd hm h)]
      simp only [Sem.run_bind, fin, Result.andThen_ok, Sem.run_pure]
    · rw [if_neg hm]
      simp only [Sem.run_bind, hzv, Sem.run_pure, Result.andThen_ok]
      rw [hmap z.cells (fun h => absurd h hm) (fun _ => hzs)]
      simp only [fin, Result.andThen_ok, Sem.run_pure]
  · refine Post.arr (row := none) (cvs := r.toList) hp (by simp) (by simp) ⟨_, _, _, rfl⟩ ?_ ?_ (World.grownBy_alloc w _ _) (by simp) (fun b hb => ?_)
    · refine ⟨by rw [hr]; simp [LS.len, LS.sz], .inr ⟨w.heap.size, m, r, by simp [LS.len], Nat.zero_le _, heap_alloc_new w _, by simp [LS.len], ?_, ?_, ?_⟩⟩
      · unfold maxLen; omega
      · simp [r, LS.sz]
      · rw [List.take_of_length_le]; simp [r, LS.len, LS.sz]
    · rw [hr]
      refine ⟨by simp [LS.len, LS.sz], trivial, fun i el j x he hx => ?_⟩
      simp only [LS.elems, List.getElem?_map, Int.toNat_natCast] at he
      obtain ⟨y, hy, rfl⟩ := Option.map_eq_some_iff.1 he
      rw [List.getElem?_replicate] at hy
      split at hy
      · rename_i hlt
        injection hy with hy
        subst hy
        match j, hx with
        | 0, hx =>
          simp at hx; subst hx
          exact ⟨.int k 0, by simp [LS.sz, List.getElem?_replicate, hlt], .int _ _⟩
        | j + 1, hx => simp at hx
      · cases hy
    · simp [blkOf] at hb
      subst hb
      refine ⟨?_, .inl (Nat.le_refl _)⟩
      rintro (h' | ⟨id, hid, y, h4, h5⟩)
      · have := hp.hF _ h'; omega
      · simp at hid
/-! ### make([]V, n) -/
theorem isZV_ok {l : List AV} (h : isZV l = true) : l = zV := by
  unfold isZV at h
  split at h
  · rename_i z
    have := of_decide_eq_true h
    subst this; rfl
  · cases h
/-- n times a row of four cells. -/
def reps (z : List Value) : Nat → List Value
  | 0 => []
  | n + 1 => z ++ reps z n
theorem reps_length {z : List Value} (hz : z.length = 4) : ∀ n, (reps z n).length = n * 4
  | 0 => rfl
  | n + 1 => by simp only [reps, List.length_append, reps_length hz n, hz]; omega
theorem reps_get {z : List Value} (hz : z.length = 4) : ∀ (n j : Nat), j < n * 4 → (reps z n)[j]? = z[j % 4]?
  | 0, j, h => by omega
  | n + 1, j, h => by
    simp only [reps]
    by_cases hj : j < 4
    · rw [List.getElem?_append_left (by omega), Nat.mod_eq_of_lt hj]
    · rw [List.getElem?_append_right (by omega), hz, reps_get hz n (j - 4) (by omega)]
      rw [show j % 4 = (j - 4) % 4 by omega]
theorem makeSliceV_ok {t e : TypeId} {k1 k2 : IntKind} {d dt : TyD} {n : Int} (hp : Pre hs nx β F w) (htt : tyOk P t dt = true) (hkt : dt.kd = .slice e .v) (hte : tyOk P e d = true)
    (hd1 : d.size = 4) (hz0 : isZV d.zero = true) (h0 : 0 ≤ n) (hb : n * (d.bytes : Int) ≤ 140737488355328) :
    ∃ w' v', (Instr.makeSlice t (.int k1 n) (.int k2 n)).run P w = .ok v' w' ∧ Post hs nx ⟨.own nx, [], [], [.arr e (.r vsh (List.replicate n.toNat zV))]⟩ β F w v' (βset β nx v') (FZ [] β F) w' := by
  obtain ⟨i, u, z, hi, hu, hs1, hb1, hs0, hb0, hk, hz, hzz, hzl⟩ := tyOk_parts hte
  have hkt' := kdIs htt
  rw [hkt] at hkt'
  simp only [KdIs] at hkt'
  obtain ⟨m, rfl⟩ := Int.eq_ofNat_of_zero_le h0
  have hmb : m * d.bytes ≤ 140737488355328 := by
    have : ((m * d.bytes : Nat) : Int) ≤ 140737488355328 := by rw [Int.natCast_mul]; exact hb
    omega
  have hm1 : m ≤ 140737488355328 := Nat.le_trans (Nat.le_mul_of_pos_right _ hb0) hmb
  rw [isZV_ok hz0] at hzz
  have hzlen : z.cells.toList.length = 4 := zoks_len hzz
  have hzsz : z.cells.size = 4 := by simpa using hzlen
  let r : Array Value := (reps z.cells.toList m).toArray
  have hrl : r.toList = reps z.cells.toList m := rfl
  have wl : IntKind.i64.wrap (m : Int) = (m : Int) := by rw [IntKind.wrap_i64]; omega
  have n1 : ¬ (m : Int) < 0 := by omega
  have n2 : ¬ (281474976710656 < (i.bytes : Int) * (m : Int)) := by
    rw [hb1, ← Int.natCast_mul, Nat.mul_comm]; omega
  refine ⟨w.alloc (.cells r e), .slice (some ⟨w.heap.size, 0, none⟩) m m, ?_, ?_⟩
  · have fin : (newRow e r).run P w = .ok ⟨w.heap.size, 0, none⟩ (w.alloc (.cells r e)) := by simp [newRow]
    have hzv : (zeroValue e).run P w = .ok z w := by simp [zeroValue, typeInfo, hi, hz]
    have hti : (typeInfo e).run P w = .ok i w := by simp [typeInfo, hi]
    have hmap : ∀ zero : Array Value, (m = 0 → zero = #[]) → (m ≠ 0 → zero = z.cells) → (Array.range (m * 4)).map (zero[· % zero.size]!) = r := by
      intro zero h1 h2
      by_cases hm : m = 0
      · subst hm; simp [r, reps]
      · rw [h2 hm]
        apply Array.ext
        · simp [r, reps_length hzlen]
        · intro j h3 h4
          have hj : j < m * 4 := by simpa using h3
          have hg := reps_get hzlen m j hj
          have hlt : j % 4 < z.cells.size := by omega
          simp only [Array.getElem_map, Array.getElem_range, hzsz]
          have e1 : r[j]? = some r[j] := Array.getElem?_eq_getElem h4
          have e2 : r[j]? = (reps z.cells.toList m)[j]? := by simp [r]
          rw [e2, hg, Array.getElem?_toList, Array.getElem?_eq_getElem hlt] at e1
          injection e1 with e1
          rw [← e1]
          simp [hlt]
    simp only [Instr.makeSlice, Sem.run_bind, run_underlying hkt', Result.andThen_ok, asInt, asIntOf, hti, Sem.run_pure, wl, run_size hte]
    have n3 : ¬ (m : Int) < (m : Int) := by omega
    have n2' : ¬ ((2:Int) ^ 48 < (i.bytes : Int) * (m : Int)) := by simpa using n2
    simp only [n1, n2', n3, hd1, Int.toNat_natCast, gt_iff_lt, decide_false, Bool.or_self, Bool.false_eq_true, if_false, or_self, Sem.run_bind, Sem.run_pure, Result.andThen_ok]
    have hask : ∀ x, (askRoom x).run P w = .ok () w := fun x => by simp [askRoom]
    simp only [hask, Result.andThen_ok, run_size hte, hd1, Sem.run_bind]
    by_cases hm : m = 0
    · rw [if_pos (show m * 4 = 0 by omega)]
      simp only [pure_bind]
      rw [hmap #[] (fun _ => rfl) (fun h => absurd hm h)]
      simp only [Sem.run_bind, fin, Result.andThen_ok, Sem.run_pure]
    · rw [if_neg (show ¬ m * 4 = 0 by omega)]
      simp only [Sem.run_bind, hzv, Sem.run_pure, Result.andThen_ok]
      rw [hmap z.cells (fun h => absurd h hm) (fun _ => rfl)]
      simp only [fin, Result.andThen_ok, Sem.run_pure]
  · refine Post.arr (row := none) (cvs := r.toList) hp (by simp) (by simp) ⟨_, _, _, rfl⟩ ?_ ?_ (World.grownBy_alloc w _ _) (by simp) (fun b hb => ?_)
    · refine ⟨by rw [hrl, reps_length hzlen]; simp [LS.len, LS.sz, vsh], .inr ⟨w.heap.size, m, r, by simp [LS.len], Nat.zero_le _, heap_alloc_new w _, by simp [LS.len], ?_, ?_, ?_⟩⟩
      · unfold maxLen; omega
      · simp [r, LS.sz, vsh, reps_length hzlen]
      · rw [List.take_of_length_le]; rw [hrl, reps_length hzlen]; simp [LS.len, LS.sz, vsh]
    · rw [hrl]
      refine ⟨by rw [reps_length hzlen]; simp [LS.len, LS.sz, vsh], ⟨by simp [vsh], fun el hel => ?_⟩, fun i el j x he hx => ?_⟩
      · rw [List.eq_of_mem_replicate hel]; rfl
      · have he : (List.replicate m zV)[i]? = some el := by simpa [LS.elems] using he
        rw [List.getElem?_replicate] at he
        split at he
        · rename_i hlt
          injection he with he
          subst he
          have hj : j < 4 := (List.getElem?_eq_some_iff.1 hx).1
          have hg : (reps z.cells.toList m)[i * 4 + j]? = z.cells.toList[j]? := by
            rw [reps_get hzlen m _ (by omega), show (i * 4 + j) % 4 = j by omega]
          refine ⟨z.cells.toList[j]'(by omega), ?_, zok_vr (zoks_at hzz j _ x (List.getElem?_eq_getElem (by omega)) hx)⟩
          rw [show (LS.r vsh (List.replicate (m : Int).toNat zV)).sz = 4 from rfl, hg]
          exact List.getElem?_eq_getElem (by omega)
        · cases he
    · simp [blkOf] at hb
      subst hb
      refine ⟨?_, .inl (Nat.le_refl _)⟩
      rintro (h' | ⟨id, hid, y, h4, h5⟩)
      · have := hp.hF _ h'; omega
      · simp at hid
end
end Go.Qv
