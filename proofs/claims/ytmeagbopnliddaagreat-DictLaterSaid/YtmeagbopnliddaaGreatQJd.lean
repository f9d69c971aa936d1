/- quiverlaw10.DictLater: the law over contracts. No condition. -/
import Derived.Test.YtmeagbopnliddaaGreatQXq
import Derived.Test.YtmeagbopnliddaaGreatQEzM
import Derived.Test.YtmeagbopnliddaaGreatQXmM
set_option linter.unusedVariables false
set_option linter.unusedSimpArgs false
set_option maxRecDepth 100000
namespace Go.Qv
open Go Go.RowKit Go.Proofs
/-! ### what a key leads to -/
noncomputable def lkp : List VT → List VT → VT → Option VT
  | k :: K, v :: V, z => if veq z k then some v else lkp K V z
  | _, _, _ => none
theorem lkp_at {z : VT} : ∀ {K V : List VT} {i : Nat}, K.length = V.length → i < K.length → K.getD i default = z → (∀ j, j < i → K.getD j default ≠ z) → lkp K V z = some (V.getD i default)
  | [], _, _, _, h, _, _ => by simp at h
  | k :: K, [], _, h, _, _, _ => by simp at h
  | k :: K, v :: V, 0, _, _, h, _ => by
    have h : k = z := h
    subst h
    rw [lkp, veq_self, if_pos rfl]; rfl
  | k :: K, v :: V, i + 1, hl, hi, h, hb => by
    have h0 : k ≠ z := hb 0 (by omega)
    have hv : ¬ veq z k = true := fun hh => h0 (veq_iff.1 hh).symm
    rw [lkp, if_neg hv]
    have := lkp_at (z := z) (K := K) (V := V) (i := i) (by simpa using hl) (by simpa using hi) (by simpa using h) (fun j hj => by have := hb (j + 1) (by omega); simpa using this)
    rw [this]; rfl
theorem lkp_no {z : VT} : ∀ {K V : List VT}, (∀ j, j < K.length → K.getD j default ≠ z) → lkp K V z = none
  | [], _, _ => by unfold lkp; rfl
  | k :: K, [], _ => by unfold lkp; rfl
  | k :: K, v :: V, h => by
    have h0 : k ≠ z := h 0 (by simp)
    have hv : ¬ veq z k = true := fun hh => h0 (veq_iff.1 hh).symm
    rw [lkp, if_neg hv]
    exact lkp_no (fun j hj => by have := h (j + 1) (by simpa using hj); simpa using this)
/-- The first place of an element, or none. -/
theorem first (K : List VT) (z : VT) : (∃ i, i < K.length ∧ K.getD i default = z ∧ ∀ j, j < i → K.getD j default ≠ z) ∨ ∀ j, j < K.length → K.getD j default ≠ z := by
  induction K with
  | nil => exact .inr (fun j hj => by simp at hj)
  | cons k K ih =>
    by_cases h : k = z
    · exact .inl ⟨0, by simp, h, fun j hj => by omega⟩
    · rcases ih with ⟨i, h1, h2, h3⟩ | h1
      · refine .inl ⟨i + 1, by simpa using h1, by simpa using h2, fun j hj => ?_⟩
        cases j with
        | zero => exact h
        | succ j => have := h3 j (by omega); simpa using this
      · refine .inr (fun j hj => ?_)
        cases j with
        | zero => exact h
        | succ j => have := h1 j (by simpa using hj); simpa using this
theorem lkp_set {K V : List VT} {i : Nat} {x y : VT} (hl : K.length = V.length) (hi : i < K.length) (hx : K.getD i default = x) (hb : ∀ j, j < i → K.getD j default ≠ x) (z : VT) : lkp K (V.set i y) z = if veq z x then some y else lkp K V z := by
  have hl' : K.length = (V.set i y).length := by rw [List.length_set]; exact hl
  cases hv : veq z x with
  | true =>
    have hz := veq_iff.1 hv
    subst hz
    rw [if_pos rfl, lkp_at hl' hi hx hb, getD_setV (by omega), if_pos rfl]
  | false =>
    rw [if_neg (by decide)]
    rcases first K z with ⟨k, h1, h2, h3⟩ | h1
    · have hne : i ≠ k := fun h => by
        subst h
        rw [hx] at h2
        subst h2
        rw [veq_self] at hv; cases hv
      rw [lkp_at hl' h1 h2 h3, lkp_at hl h1 h2 h3, getD_setV (by omega), if_neg hne]
    · rw [lkp_no h1, lkp_no h1]
theorem lkp_app {K V : List VT} {x y : VT} (hl : K.length = V.length) (hn : ∀ j, j < K.length → K.getD j default ≠ x) (z : VT) : lkp (K ++ [x]) (V ++ [y]) z = if veq z x then some y else lkp K V z := by
  have hl' : (K ++ [x]).length = (V ++ [y]).length := by rw [List.length_append, List.length_append, hl]; rfl
  have hle : (K ++ [x]).length = K.length + 1 := by rw [List.length_append]; rfl
  cases hv : veq z x with
  | true =>
    have hz := veq_iff.1 hv
    subst hz
    rw [if_pos rfl, lkp_at (i := K.length) hl' (by omega) (getD_end K z) (fun j hj => by rw [getD_app hj]; exact hn j hj), hl, getD_end]
  | false =>
    rw [if_neg (by decide)]
    have hzx : x ≠ z := fun h => by subst h; rw [veq_self] at hv; cases hv
    rcases first K z with ⟨k, h1, h2, h3⟩ | h1
    · rw [lkp_at (i := k) hl' (by omega) (by rw [getD_app h1]; exact h2) (fun j hj => by rw [getD_app (by omega)]; exact h3 j hj), lkp_at hl h1 h2 h3, getD_app (by omega)]
    · rw [lkp_no h1, lkp_no (fun j hj => ?_)]
      rcases Nat.lt_or_ge j K.length with h | h
      · rw [getD_app h]; exact h1 j h
      · have : j = K.length := by omega
        subst this
        rw [getD_end]; exact hzx
/-! ### dictionaries that are put into -/
structure DI (o : VT) (LK LV : List VT) (c : Nat) : Prop where
  ex : ∃ K V, o = pairV K V ∧ Sq K LK c ∧ Sq V LV c
  len : LK.length = LV.length
theorem dict_eq {d : VT} (hg : d.Good) (hD : isD d = true) : d = pairV (keyV d) (side1 d) := by
  obtain ⟨t, n, s, l⟩ := d
  obtain ⟨q1, _⟩ := isD_yes hD
  subst q1
  have hl := (dict_plain hg).1
  cases hg with
  | mk _ _ _ _ g1 g2 g3 g4 =>
    have hn : n = [] := by
      rcases g2 with g2 | g2
      · exact absurd g2 (by decide)
      · exact g2
    have hs : s = [] := by
      rcases g3 with g3 | g3
      · exact absurd g3 (by decide)
      · exact g3
    subst hn; subst hs
    match l, hl with
    | [a, b], _ => rfl
theorem DI.of {d : VT} (h : May d) (hD : isD d = true) : DI d (eachs (keyV d)) (eachs (side1 d)) 26214800 := by
  have f := dfacts h.good hD
  have hb := h.bk
  have b0 : (keyV d).bk < d.bk := f.b0
  have b1 := f.b1
  refine ⟨⟨keyV d, side1 d, dict_eq h.good hD, Sq.of f.g0 f.p0 (by omega), Sq.of f.g1 f.p1 (by omega)⟩, ?_⟩
  have e0 := (El.self (v := keyV d) f.p0).cnt
  have e1 := (El.self (v := side1 d) f.p1).cnt
  have := f.cnt
  have : rCount (keyV d) = rCount (side1 d) := this
  omega
theorem setOk_gen {v y : VT} {i : Int} (hv : v.Good) (hp : partP v) (hb : v.bk ≤ 1073741824) (hy : y.Good) (hby : y.bk ≤ 1073741824) (hbs : bks (eachs v) + y.bk ≤ 1073741824) (h0 : 0 ≤ i) (hi : i < rCount v) : setOk v i y := by
  have h1 := cnt_part hv hp
  have h3 := bks_set (eachs v) i.toNat y
  refine ⟨by unfold tame; omega, hp, h0, hi, h1, fun h => ?_, by unfold tames; omega⟩
  obtain ⟨t, n, s, l⟩ := v
  have hp : 0 ≤ t ∧ t ≤ 5 := hp
  have ht0 : t ≠ 0 := h.1
  have hyt : y.t = -t := h.2
  have h15 : 1 ≤ t ∧ t ≤ 5 := by omega
  have ha := atom_of h15 hyt hy (by omega)
  obtain ⟨f1, _⟩ := good_flat hv (by rw [abs_vec h15]; exact h15)
  refine ⟨f1, fun e => ?_, fun e => ?_⟩
  · have e : t = 3 := e
    subst e
    obtain ⟨z, rfl⟩ := ha.1 rfl
    exact ⟨Nat.one_pos, cnt_s⟩
  · obtain ⟨z, rfl⟩ := ha.2 e
    exact ⟨Nat.one_pos, cnt_n e h15⟩
theorem cnt_pair {K V : VT} : rCount (pairV K V) = rCount K := by
  unfold pairV
  rw [cnt_mk, if_neg (by omega), if_neg (by unfold isVecT; omega), if_neg (by omega)]; exact if_pos (.inr rfl)
theorem DI.putOk {o x y : VT} {LK LV : List VT} (h : DI o LK LV 26214800) (bK : bks LK ≤ 105000000) (bV : bks LV ≤ 105000000) (hx : x.bk ≤ 26214800) (hy : y.Good) (hyb : y.bk ≤ 26214800) : Qv.putOk o x y := by
  obtain ⟨⟨K, V, rfl, hK, hV⟩, hl⟩ := h
  have k1 := hK.bk
  have v1 := hV.bk
  have kc := hK.cnt
  have vc := hV.cnt
  have ke := hK.el.cnt
  have ve := hV.el.cnt
  have b0 : bks ([] : List VT) = 0 := rfl
  have app : ∀ {v L z}, Sq v L 26214800 → bks L ≤ 105000000 → z.bk ≤ 26214800 → appOk v z := by
    intro v L z hv hb hz hp
    have e1 := hv.bk
    have e2 := hv.cnt
    have e3 := hv.el.cnt
    refine ⟨⟨by unfold tame; omega, part_ok2 hv.el.part, by omega⟩, ?_, ?_⟩
    · unfold joinOk; rw [bks_cons, bks_cons, b0]; omega
    · unfold tames; rw [hv.el.eq, bks_append, bks_cons, b0]; omega
  refine ⟨fun _ => rfl, by unfold tame; rw [pair_bk]; omega, fun _ => ⟨app hK bK hx, app hV bV hyb, fun hf => ?_⟩⟩
  rw [cnt_pair] at hf
  exact setOk_gen hV.good hV.el.part (by show V.bk ≤ _; omega) hy (by omega) (by show bks (eachs V) + y.bk ≤ _; rw [hV.el.eq]; omega) (findDI_nn _ _) (by show _ < rCount V; omega)
theorem DI.put {o x y : VT} {LK LV : List VT} (h : DI o LK LV 26214800) (hx : x.Good) (hxb : x.bk ≤ 26214800) (hy : y.Good) (hyb : y.bk ≤ 26214800) (he : putE o x y = 0) :
    (∃ i, i < LK.length ∧ LK.getD i default = x ∧ (∀ j, j < i → LK.getD j default ≠ x) ∧ DI (putV o x y) LK (LV.set i y) 26214800) ∨ ((∀ j, j < LK.length → LK.getD j default ≠ x) ∧ DI (putV o x y) (LK ++ [x]) (LV ++ [y]) 26214800) := by
  obtain ⟨⟨K, V, rfl, hK, hV⟩, hl⟩ := h
  by_cases hb : isD (pairV K V) = false ∨ x.t = 101 ∨ y.t = 101
  · rw [(put_bad hb).2] at he; cases he
  have ex : Ele x 26214800 := ⟨hx, fun h => hb (.inr (.inl h)), hxb⟩
  have ey : Ele y 26214800 := ⟨hy, fun h => hb (.inr (.inr h)), hyb⟩
  obtain ⟨q1, q2, q3, q4⟩ := find_facts (x := x) hK.el
  have hfd := fd_pair (V := V) (z := x) hK.el.part
  have ke := hK.el.cnt
  have ve := hV.el.cnt
  by_cases hf : findDI (pairV K V) x < rCount (pairV K V)
  · obtain ⟨e1, e2⟩ := put_there hb hf
    rw [e2] at he
    have hdp : ¬ 32 < rDepth (put1 (pairV K V) x y) := fun h => by rw [(bnd_deep (by omega) h).2] at he; cases he
    rw [cnt_pair, hfd] at hf
    have hs := hV.set (i := findG K x) ey (Nat.le_refl _) q1 (by omega)
    refine .inl ⟨(findG K x).toNat, by omega, q3 (by omega), fun j hj => q4 j (by omega), ⟨⟨K, setV V (findG K x) y, ?_, hK, hs⟩, by rw [List.length_set]; exact hl⟩⟩
    rw [e1, (bnd_ok (by omega) hdp).1]
    show pairV K (setV V (findDI (pairV K V) x) y) = _
    rw [hfd]
  · by_cases h3 : appendE (keyV (pairV K V)) x ≠ 0
    · rw [(put_key hb hf h3).2] at he; exact absurd he h3
    · obtain ⟨e1, e2⟩ := put_new hb hf h3
      rw [e2] at he
      have h4 : ¬ appendE (side1 (pairV K V)) y ≠ 0 := fun h => by rw [(bnd_bad h).2] at he; exact h he
      have hdp : ¬ 32 < rDepth (put2 (pairV K V) x y) := fun h => by rw [(bnd_deep h4 h).2] at he; cases he
      rw [cnt_pair, hfd] at hf
      have a1 := (hK.app ex (Nat.le_refl _) (Decidable.not_not.1 h3)).1
      have a2 := (hV.app ey (Nat.le_refl _) (Decidable.not_not.1 h4)).1
      refine .inr ⟨fun j hj => q4 j (by omega), ⟨⟨_, _, ?_, a1, a2⟩, by rw [List.length_append, List.length_append, hl]; rfl⟩⟩
      rw [e1, (bnd_ok h4 hdp).1]; rfl
theorem DI.get {o z : VT} {LK LV : List VT} {c : Nat} (h : DI o LK LV c) {v : VT} (hv : lkp LK LV z = some v) : getV o [z] = v := by
  obtain ⟨⟨K, V, rfl, hK, hV⟩, hl⟩ := h
  rcases first LK z with ⟨i, h1, h2, h3⟩ | h1
  · have hf := find_is hK.el (k := i) (by omega) (fun _ => h2) h3
    rw [lkp_at hl h1 h2 h3] at hv
    injection hv with hv
    rw [get_pair hK.el hV.el hl (by omega), hf, Int.toNat_natCast]; exact hv
  · rw [lkp_no h1] at hv; cases hv
/-! ### two joined -/
structure Jn (o : VT) (A B C D : List VT) (k : Nat) : Prop where
  ex : ∃ LK LV, DI o LK LV 26214800 ∧ bks LK ≤ 52429600 + bks (C.take k) ∧ bks LV ≤ 52429600 + bks (D.take k) ∧
    (∀ z i, i < k → C.getD i default = z → (∀ j, i < j → j < k → C.getD j default ≠ z) → lkp LK LV z = some (D.getD i default)) ∧ ∀ z, (∀ i, i < k → C.getD i default ≠ z) → lkp LK LV z = lkp A B z
theorem jn_steps {a b : VT} (ha : May a) (hb : May b) (hA : isD a = true) (hB : isD b = true) : ∀ k, k ≤ (rCount (keyV b)).toNat → (∀ j, j < k → jnErr (keyV b) b a j = 0) → Jn (jnSt (keyV b) b a k) (eachs (keyV a)) (eachs (side1 a)) (eachs (keyV b)) (eachs (side1 b)) k
  | 0, _, _ => by
    have f := dfacts ha.good hA
    have hbk := ha.bk
    have b0 : (keyV a).bk < a.bk := f.b0
    have b1 := f.b1
    have h1 := eachs_bk (v := keyV a) f.p0
    have h2 := eachs_bk (v := side1 a) f.p1
    exact ⟨⟨eachs (keyV a), eachs (side1 a), DI.of ha hA, by omega, by omega, fun z i hi => by omega, fun z _ => rfl⟩⟩
  | k + 1, hk, he => by
    obtain ⟨⟨LK, LV, h1, h2, h3, h4, h5⟩⟩ := jn_steps ha hb hA hB k (by omega) (fun j hj => he j (by omega))
    have f := dfacts hb.good hB
    have hbk := hb.bk
    have b0 : (keyV b).bk < b.bk := f.b0
    have b1 := f.b1
    have ek := El.self (v := keyV b) f.p0
    have es := El.self (v := side1 b) f.p1
    have hcc : rCount (keyV b) = rCount (side1 b) := f.cnt
    have hkl : k < (eachs (keyV b)).length := by rw [eachs_len]; omega
    have hsl : k < (eachs (side1 b)).length := by rw [eachs_len]; omega
    have ke := ek.at_ k hkl
    have se := es.at_ k hsl
    obtain ⟨gx, bx⟩ := eachs_good (v := keyV b) f.g0 f.p0 (by omega) _ (getD_mem (eachs (keyV b)) default hkl)
    obtain ⟨gy, by_⟩ := eachs_good (v := side1 b) f.g1 f.p1 (by omega) _ (getD_mem (eachs (side1 b)) default hsl)
    have he0 := he k (by omega)
    unfold jnErr at he0
    rw [ke, se] at he0
    have hst : jnSt (keyV b) b a (k + 1) = putV (jnSt (keyV b) b a k) ((eachs (keyV b)).getD k default) ((eachs (side1 b)).getD k default) := by rw [jnSt, ke, se]
    rw [hst]
    have t1 := take_at (eachs (keyV b)) default hkl
    have t2 := take_at (eachs (side1 b)) default hsl
    have z0 : bks ([] : List VT) = 0 := rfl
    have fin : ∀ (LK' LV' : List VT), DI (putV (jnSt (keyV b) b a k) ((eachs (keyV b)).getD k default) ((eachs (side1 b)).getD k default)) LK' LV' 26214800 → bks LK' ≤ bks LK + ((eachs (keyV b)).getD k default).bk → bks LV' ≤ bks LV + ((eachs (side1 b)).getD k default).bk →
        (∀ z, lkp LK' LV' z = if veq z ((eachs (keyV b)).getD k default) then some ((eachs (side1 b)).getD k default) else lkp LK LV z) → Jn (putV (jnSt (keyV b) b a k) ((eachs (keyV b)).getD k default) ((eachs (side1 b)).getD k default)) (eachs (keyV a)) (eachs (side1 a)) (eachs (keyV b)) (eachs (side1 b)) (k + 1) := by
      intro LK' LV' g1 g2 g3 g4
      refine ⟨⟨LK', LV', g1, by rw [t1, bks_append, bks_cons, z0]; omega, by rw [t2, bks_append, bks_cons, z0]; omega, fun z i hi hz hj => ?_, fun z hz => ?_⟩⟩
      · rw [g4]
        cases hv : veq z ((eachs (keyV b)).getD k default) with
        | true =>
          rw [if_pos rfl]
          have hzk := veq_iff.1 hv
          have : i = k := Classical.byContradiction fun hne => hj k (by omega) (by omega) hzk.symm
          rw [this]
        | false =>
          rw [if_neg (by decide)]
          have hne : i ≠ k := fun h => by subst h; rw [hz, veq_self] at hv; cases hv
          exact h4 z i (by omega) hz (fun j h1 h2 => hj j h1 (by omega))
      · rw [g4, if_neg (fun hv => hz k (by omega) (veq_iff.1 hv).symm)]
        exact h5 z (fun i hi => hz i (by omega))
    rcases h1.put gx bx gy by_ he0 with ⟨i, p1, p2, p3, p4⟩ | ⟨p1, p2⟩
    · exact fin LK (LV.set i _) p4 (by omega) (bks_set _ _ _) (fun z => lkp_set h1.len p1 p2 p3 z)
    · exact fin _ _ p2 (by rw [bks_append, bks_cons, z0]; omega) (by rw [bks_append, bks_cons, z0]; omega) (fun z => lkp_app h1.len p1 z)
theorem Jn.bounds {o : VT} {A B C D : List VT} {k : Nat} (hC : bks C ≤ 52429600) (hD : bks D ≤ 52429600) (h : Jn o A B C D k) : ∃ LK LV, DI o LK LV 26214800 ∧ bks LK ≤ 105000000 ∧ bks LV ≤ 105000000 ∧
    (∀ z i, i < k → C.getD i default = z → (∀ j, i < j → j < k → C.getD j default ≠ z) → lkp LK LV z = some (D.getD i default)) ∧ ∀ z, (∀ i, i < k → C.getD i default ≠ z) → lkp LK LV z = lkp A B z := by
  obtain ⟨⟨LK, LV, h1, h2, h3, h4, h5⟩⟩ := h
  have e1 := bks_take C k
  have e2 := bks_take D k
  exact ⟨LK, LV, h1, by omega, by omega, h4, h5⟩
theorem may_jnOk {a b : VT} (ha : May a) (hb : May b) : jn2Ok [a, b] := by
  refine ⟨rfl, may_dOk ha.good, ha.tame, may_dOk hb.good, fun hA hB => ?_⟩
  show jnOk (keyV b) b a
  have hA : isD a = true := hA
  have hB : isD b = true := hB
  have f := dfacts hb.good hB
  have hbk := hb.bk
  have b0 : (keyV b).bk < b.bk := f.b0
  have b1 := f.b1
  have c1 := eachs_bk (v := keyV b) f.p0
  have c2 := eachs_bk (v := side1 b) f.p1
  have hcc : rCount (keyV b) = rCount (side1 b) := f.cnt
  refine ⟨by unfold tame; omega, f.p0, f.l2, by unfold tame; omega, f.p1, fun k hk he => ?_⟩
  obtain ⟨LK, LV, h1, h2, h3, _⟩ := (jn_steps ha hb hA hB k (by omega) he).bounds (by omega) (by omega)
  have hkl : k < (eachs (keyV b)).length := by rw [eachs_len]; omega
  have hsl : k < (eachs (side1 b)).length := by rw [eachs_len]; omega
  rw [(El.self (v := keyV b) f.p0).at_ k hkl, (El.self (v := side1 b) f.p1).at_ k hsl]
  obtain ⟨gx, bx⟩ := eachs_good (v := keyV b) f.g0 f.p0 (by omega) _ (getD_mem (eachs (keyV b)) default hkl)
  obtain ⟨gy, by_⟩ := eachs_good (v := side1 b) f.g1 f.p1 (by omega) _ (getD_mem (eachs (side1 b)) default hsl)
  exact h1.putOk h2 h3 bx gy by_
theorem jn_facts {a b : VT} (ha : May a) (hb : May b) (he : jn2E [a, b] = 0) : isD a = true ∧ isD b = true ∧ ∃ LK LV, DI (jn2V [a, b]) LK LV 26214800 ∧ bks LK ≤ 105000000 ∧ bks LV ≤ 105000000 ∧
    (∀ z i, i < (eachs (keyV b)).length → (eachs (keyV b)).getD i default = z → (∀ j, i < j → j < (eachs (keyV b)).length → (eachs (keyV b)).getD j default ≠ z) → lkp LK LV z = some ((eachs (side1 b)).getD i default)) ∧
    ∀ z, (∀ i, i < (eachs (keyV b)).length → (eachs (keyV b)).getD i default ≠ z) → lkp LK LV z = lkp (eachs (keyV a)) (eachs (side1 a)) z := by
  have hA : isD a = true := by
    cases h : isD a with
    | true => rfl
    | false => rw [show jn2E [a, b] = 31 from if_neg (by show ¬ isD a = true; rw [h]; decide)] at he; cases he
  have e1 : jn2E [a, b] = jnxE a b := if_pos hA
  have e2 : jn2V [a, b] = jnxV a b := if_pos hA
  rw [e1] at he
  have hB : isD b = true := by
    cases h : isD b with
    | true => rfl
    | false => rw [show jnxE a b = 31 from if_neg (by rw [h]; decide)] at he; cases he
  have e3 : jnxE a b = if jnB (keyV b) b a then jnE (keyV b) b a else 0 := if_pos hB
  have e4 : jnxV a b = if jnB (keyV b) b a then zeroV else jnV (keyV b) b a := if_pos hB
  rw [e3] at he
  obtain ⟨g1, g2, g3⟩ := jnN_spec (keyV b) b a
  have hj : ¬ jnB (keyV b) b a = true := fun h => by
    rw [if_pos h] at he
    exact g2 (by unfold jnB at h; exact of_decide_eq_true h) he
  have hN : jnN (keyV b) b a = (rCount (keyV b)).toNat := by
    have : ¬ jnN (keyV b) b a < (rCount (keyV b)).toNat := fun h => hj (by unfold jnB; exact decide_eq_true h)
    omega
  have f := dfacts hb.good hB
  have hbk := hb.bk
  have b0 : (keyV b).bk < b.bk := f.b0
  have b1 := f.b1
  have c1 := eachs_bk (v := keyV b) f.p0
  have c2 := eachs_bk (v := side1 b) f.p1
  have := (jn_steps ha hb hA hB _ (Nat.le_refl _) (fun j hj => g3 j (by omega))).bounds (by omega) (by omega)
  rw [e2, e4, if_neg hj]
  rw [eachs_len]
  exact ⟨hA, hB, this⟩
theorem loop7 (a x b got : VT) (ha : May a) (hb : May b) (hA : isD a = true) (hB : isD b = true) (LK LV : List VT) (hD : DI got LK LV 26214800)
    (q1 : ∀ z i, i < (eachs (keyV b)).length → (eachs (keyV b)).getD i default = z → (∀ j, i < j → j < (eachs (keyV b)).length → (eachs (keyV b)).getD j default ≠ z) → lkp LK LV z = some ((eachs (side1 b)).getD i default))
    (q2 : ∀ z, (∀ i, i < (eachs (keyV b)).length → (eachs (keyV b)).getD i default ≠ z) → lkp LK LV z = lkp (eachs (keyV a)) (eachs (side1 a)) z)
    (i : Nat) (hi : i ≤ (eachs (keyV b)).length) (hlast : ∀ j, i ≤ j → j < (eachs (keyV b)).length → (eachs (keyV b)).getD j default ≠ x) :
    Rh w7S IsTrue (12, [.int 0, .int ((i : Int) - 1), .int a.t, .is a.n, .ss a.s, .vs a.l, .int x.t, .is x.n, .ss x.s, .vs x.l, .int (keyV b).t, .is (keyV b).n, .ss (keyV b).s, .vs (keyV b).l, .int (side1 b).t, .is (side1 b).n, .ss (side1 b).s, .vs (side1 b).l, .int (getV got [x]).t, .is (getV got [x]).n, .ss (getV got [x]).s, .vs (getV got [x]).l]) := by
  refine Rh.go (w7_12 0 _ a.t a.n a.s a.l x.t x.n x.s x.l (keyV b).t (keyV b).n (keyV b).s (keyV b).l (side1 b).t (side1 b).n (side1 b).s (side1 b).l (getV got [x]).t (getV got [x]).n (getV got [x]).s (getV got [x]).l _) ?_
  simp only [SQ, RhQ, eq_self, implies_true, forall_const, VT.eta, if_true, if_false, not_true, or_self, or_false, false_or, false_implies, ne_eq, not_false_eq_true, and_self]
  have f := dfacts hb.good hB
  have hbk := hb.bk
  have b0 : (keyV b).bk < b.bk := f.b0
  have b1 := f.b1
  have ek := El.self (v := keyV b) f.p0
  have es := El.self (v := side1 b) f.p1
  have hcc : rCount (keyV b) = rCount (side1 b) := f.cnt
  have tk : tame (keyV b) := by unfold tame; omega
  have ts : tame (side1 b) := by unfold tame; omega
  have hcp := cnt_part (v := keyV b) f.g0 f.p0
  have ekc := ek.cnt
  have esc := es.cnt
  refine ⟨fun h => ?_, fun h => ?_⟩
  · obtain ⟨k, rfl⟩ : ∃ k, i = k + 1 := ⟨i - 1, by omega⟩
    have e : ((k + 1 : Nat) : Int) - 1 = (k : Int) := by omega
    have hkl : k < (eachs (keyV b)).length := by omega
    rw [e, ek.at_ k hkl, es.at_ k (by omega)]
    refine ⟨tk, part_ok2 f.p0, fun hv => ⟨ts, part_ok2 f.p1, ?_⟩, fun hv => ?_⟩
    · have hx := veq_iff.1 hv
      rw [hD.get (q1 x k hkl hx.symm (fun j h1 h2 => hlast j (by omega) h2)), veq_self]
      exact IsTrue.of (by simp)
    · have hne : (eachs (keyV b)).getD k default ≠ x := fun h => by rw [h, veq_self] at hv; cases hv
      rw [w64 (a := (k : Int) - 1) (by omega) (by omega)]
      exact loop7 a x b got ha hb hA hB LK LV hD q1 q2 k (by omega) (fun j h1 h2 => by
        rcases Nat.eq_or_lt_of_le h1 with h3 | h3
        · subst h3; exact hne
        · exact hlast j (by omega) h2)
  · have hi0 : i = 0 := by omega
    subst hi0
    refine ⟨may_dOk ha.good, ha.tame, may_dOk ha.good, ha.tame, fun _ => IsTrue.of rfl, fun hk => ⟨may_getOk ha (by simp), ?_⟩⟩
    have fa := dfacts ha.good hA
    have eka := El.self (v := keyV a) fa.p0
    have hda := DI.of ha hA
    rw [(side_yes 0 hA).1, fd_key hA] at hk
    have hk : ¬ rCount (keyV a) ≤ findG (keyV a) x := hk
    obtain ⟨r1, r2, r3, r4⟩ := find_facts (x := x) eka
    have hl := eka.cnt
    have hv := lkp_at (z := x) (i := (findG (keyV a) x).toNat) hda.len (by omega) (r3 (by omega)) (fun j hj => r4 j (by omega))
    have hv2 := hv
    rw [← q2 x (fun j hj => hlast j (Nat.zero_le _) hj)] at hv2
    rw [hD.get hv2, hda.get hv, veq_self]
    exact IsTrue.of (by simp)
theorem laterL (t n s l t1 n1 s1 l1 t2 n2 s2 l2) (f0 : (VT.mk t n s l).Fine) (f1 : (VT.mk t1 n1 s1 l1).Fine) (f2 : (VT.mk t2 n2 s2 l2).Fine) :
    Rh w7S IsTrue (9999, [.int t, .is n, .ss s, .vs l, .int t1, .is n1, .ss s1, .vs l1, .int t2, .is n2, .ss s2, .vs l2]) := by
  refine Rh.go (w7_9999 t n s l t1 n1 s1 l1 t2 n2 s2 l2 _) ?_
  simp only [SQ, RhQ, eq_self, implies_true, forall_const, VT.eta, if_true, if_false, not_true, or_self, or_false, false_or, false_implies, ne_eq, not_false_eq_true, and_self]
  have h3 : fines [VT.mk t n s l, .mk t1 n1 s1 l1, .mk t2 n2 s2 l2] := fun y hy => by
    simp only [List.mem_cons, List.not_mem_nil, or_false] at hy
    rcases hy with rfl | rfl | rfl
    · exact f0
    · exact f1
    · exact f2
  refine ⟨h3, fun _ => IsTrue.of rfl, fun hb => ?_⟩
  obtain ⟨m, _⟩ := mayB_of h3 hb
  have m0 := m _ (List.mem_cons_self)
  have m1 := m _ (List.mem_cons_of_mem _ List.mem_cons_self)
  have m2 := m _ (List.mem_cons_of_mem _ (List.mem_cons_of_mem _ List.mem_cons_self))
  refine ⟨⟨m0.tame, m1.tame, may_jnOk m0 m1⟩, fun _ => IsTrue.of rfl, fun he => ?_⟩
  obtain ⟨hA, hB, LK, LV, hD, b1, b2, q1, q2⟩ := jn_facts m0 m1 he
  have dO := may_dOk m1.good
  have hE1 : findDE (.mk t1 n1 s1 l1) = 0 := (side_yes 0 hB).2
  have sk : sideV (.mk t1 n1 s1 l1) 0 = keyV (.mk t1 n1 s1 l1) := (side_yes 0 hB).1
  have ss : sideV (.mk t1 n1 s1 l1) 1 = side1 (.mk t1 n1 s1 l1) := (side_yes 1 hB).1
  obtain ⟨⟨K, V, eo, hK, hV⟩, hl⟩ := id hD
  have hE : findDE (jn2V [.mk t n s l, .mk t1 n1 s1 l1]) = 0 := by rw [eo]; exact (side_yes 0 (isD_pair hK.el.part)).2
  have k1 := hK.bk
  have v1 := hV.bk
  refine ⟨dO, m1.tame, dO, m1.tame, fun h => absurd hE1 h, fun _ => ⟨?_, ?_⟩⟩
  · rw [eo]
    exact getOk_pair hK.el.part hV.el.part (by have := hV.cnt; have := hV.el.cnt; omega) (by rw [pair_bk]; omega)
  · have f := dfacts m1.good hB
    have ekc := (El.self (v := keyV (.mk t1 n1 s1 l1)) f.p0).cnt
    have hcp := cnt_part (v := keyV (.mk t1 n1 s1 l1)) f.g0 f.p0
    rw [hE, sk, ss, w64 (a := rCount (keyV (.mk t1 n1 s1 l1)) - 1) (by omega) (by omega), ekc]
    exact loop7 (.mk t n s l) (.mk t2 n2 s2 l2) (.mk t1 n1 s1 l1) _ m0 m1 hA hB LK LV hD q1 q2 _ (Nat.le_refl _) (fun j h1 h2 => by omega)
theorem laterOrc : OrcOk Tryz.prog (inl O.real Go.Qv.tbF Go.Qv.fns (pureOrc (PS.also 9 spMay (PS.also 12 sp12f (PS.also 34 spJn2 (PS.also 17 spKeysD (PS.also 22 spValuesD (PS.also 14 spGetD (PS.also 18 sp18f (PS.also 28 sp28 (PS.also 15 sp15f (PS.also 16 spFindD (PS.also 10 spLive PS.none)))))))))))) (fun f => Nat.beq f 9 || Nat.beq f 12 || Nat.beq f 34 || Nat.beq f 17 || Nat.beq f 22 || Nat.beq f 14 || Nat.beq f 18 || Nat.beq f 28 || Nat.beq f 15 || Nat.beq f 16 || Nat.beq f 10) (fun _ => false) 300 14) (fun _ => True) :=
  inl_ok mixed tbF_ok fnsOk (pureOrc_ok (PureOk.also okMay (PureOk.also ok12 (PureOk.also okJn2 (PureOk.also ok17 (PureOk.also ok22 (PureOk.also ok14 (PureOk.also ok18 (PureOk.also ok28 (PureOk.also ok15 (PureOk.also ok16 (PureOk.also okLive (PureOk.none _))))))))))))) 14
end Go.Qv
