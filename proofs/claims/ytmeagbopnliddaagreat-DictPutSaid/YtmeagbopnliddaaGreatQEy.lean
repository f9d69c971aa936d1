/- quiverlaw10.DictPut: the law over contracts. No condition. -/
import Derived.Test.YtmeagbopnliddaaGreatQXm
import Derived.Test.YtmeagbopnliddaaGreatQXkM
import Derived.Test.YtmeagbopnliddaaGreatQDl
set_option linter.unusedVariables false
set_option linter.unusedSimpArgs false
set_option maxRecDepth 100000
namespace Go.Qv
open Go Go.RowKit Go.Proofs
theorem eachs_tames {v : VT} (hp : partP v) (hb : v.bk ≤ 26214800) : bks (eachs v) ≤ 52429600 := by have := eachs_bk hp; omega
theorem may_appOk {v x : VT} (hv : v.Good) (hb : v.bk ≤ 26214800) (hbx : x.bk ≤ 26214800) : appOk v x := by
  intro hp
  have hp := partB_iff.1 hp
  have h1 := cnt_part hv hp
  have h2 := eachs_tames hp hb
  have h0 : bks ([] : List VT) = 0 := rfl
  refine ⟨⟨by unfold tame; omega, part_ok2 hp, by omega⟩, ?_, ?_⟩
  · unfold joinOk; rw [bks_cons, bks_cons, h0]; omega
  · unfold tames; rw [bks_append, bks_cons, h0]; omega
theorem may_setOk {v y : VT} {i : Int} (hv : v.Good) (hp : partP v) (hb : v.bk ≤ 26214800) (hy : y.Good) (hby : y.bk ≤ 26214800) (h0 : 0 ≤ i) (hi : i < rCount v) : setOk v i y := by
  have h1 := cnt_part hv hp
  have h2 := eachs_tames hp hb
  have h3 := bks_set (eachs v) i.toNat y
  refine ⟨by unfold tame; omega, hp, h0, hi, h1, fun h => ?_, by unfold tames; omega⟩
  obtain ⟨t, n, s, l⟩ := v
  have hp : 0 ≤ t ∧ t ≤ 5 := hp
  have ht0 : t ≠ 0 := h.1
  have hyt : y.t = -t := h.2
  have h15 : 1 ≤ t ∧ t ≤ 5 := by omega
  have ha := atom_of h15 hyt hy (by omega)
  obtain ⟨f1, _⟩ := good_flat hv (by rw [abs_vec h15]; exact h15)
  refine ⟨f1, fun e => ?_, fun e => ?_⟩
  · have e : t = 3 := e
    subst e
    obtain ⟨z, rfl⟩ := ha.1 rfl
    exact ⟨Nat.one_pos, cnt_s⟩
  · obtain ⟨z, rfl⟩ := ha.2 e
    exact ⟨Nat.one_pos, cnt_n e h15⟩
theorem cnt_dict {d : VT} (hd : isD d = true) (hl : d.l.length = 2) : rCount d = rCount (keyV d) := by
  obtain ⟨t, n, s, l⟩ := d
  obtain ⟨q1, q2⟩ := isD_yes hd
  subst q1
  have hl : l.length = 2 := hl
  match l, hl with
  | [a, b], _ => rw [cnt_mk, if_neg (by omega), if_neg (by unfold isVecT; omega), if_neg (by omega)]; exact if_pos (.inr rfl)
theorem may_putOk {d x y : VT} (hd : May d) (hx : May x) (hy : May y) : putOk d x y := by
  refine ⟨may_dOk hd.good, hd.tame, fun h => ?_⟩
  have f := dfacts hd.good h
  have hb := hd.bk
  have b0 : (keyV d).bk < d.bk := f.b0
  have b1 := f.b1
  refine ⟨may_appOk f.g0 (by omega) hx.bk, may_appOk f.g1 (by omega) hy.bk, fun hf => ?_⟩
  rw [cnt_dict h f.l2] at hf
  exact may_setOk f.g1 f.p1 (by omega) hy.good hy.bk (findDI_nn d x) (by have := f.cnt; unfold keyV at hf; omega)
theorem isD_pair {K V : VT} (h : partP K) : isD (pairV K V) = true := by
  unfold pairV; rw [isD_mk, Bool.and_eq_true]; exact ⟨decide_eq_true rfl, partB_iff.2 h⟩
theorem fd_pair {K V z : VT} (h : partP K) : findDI (pairV K V) z = findG K z := by
  rw [fd_yes (isD_pair h)]
  exact (find_yes (v := K) (x := z) (partB_iff.2 h)).1
theorem get_pair {K V z : VT} {LK LV : List VT} (hK : El K LK) (hV : El V LV) (hl : LK.length = LV.length) (hf : findG K z < LK.length) : getV (pairV K V) [z] = LV.getD (findG K z).toNat default := by
  obtain ⟨f1, _⟩ := find_facts (x := z) hK
  rw [get_one (isD_pair hK.part) rfl]
  have e : [z].getD 0 default = z := rfl
  rw [e, fd_pair hK.part]
  show eltV V (findG K z) = _
  have e2 : findG K z = ((findG K z).toNat : Int) := by omega
  unfold eltV
  rw [if_pos (by rw [hV.cnt]; omega)]
  conv => lhs; rw [e2]
  exact hV.at_ _ (by omega)
theorem getOk_pair {K V z : VT} (hK : partP K) (hV : partP V) (hc : rCount V ≤ 65536) (hb : (pairV K V).bk ≤ 700000000) : getOk (pairV K V) [z] := by
  refine ⟨fun _ => rfl, by unfold tame; omega, by simp, fun _ => ⟨hV, hc, ?_⟩⟩
  have h1 := eltV_bk hV (k := findDI (pairV K V) z) (findDI_nn _ _)
  rw [pair_bk] at hb
  show bks [eltV V (findDI (pairV K V) z)] ≤ 1073741824
  rw [bks_cons]
  have : bks ([] : List VT) = 0 := rfl
  omega
/-- What is put into a dictionary. -/
theorem put_facts {d x y : VT} (hd : May d) (hx : May x) (hy : May y) (he : putE d x y = 0) : isD d = true ∧ ∃ K V LK LV, putV d x y = pairV K V ∧ El K LK ∧ El V LV ∧ LK.length = LV.length ∧ rCount V ≤ 65536 ∧ (pairV K V).bk ≤ 700000000 ∧
    ((findDI d x < rCount (keyV d) ∧ K = keyV d ∧ LK = eachs (keyV d) ∧ LV = (eachs (side1 d)).set (findDI d x).toNat y) ∨ (¬ findDI d x < rCount (keyV d) ∧ LK = eachs (keyV d) ++ [x] ∧ LV = eachs (side1 d) ++ [y])) := by
  by_cases hb : isD d = false ∨ x.t = 101 ∨ y.t = 101
  · rw [(put_bad hb).2] at he; cases he
  have hD : isD d = true := isD_neg (fun h => hb (.inl h))
  refine ⟨hD, ?_⟩
  have f := dfacts hd.good hD
  have hbd := hd.bk
  have b0 : (keyV d).bk < d.bk := f.b0
  have b1 := f.b1
  have hc := f.cnt
  have hc : rCount (keyV d) = rCount (side1 d) := hc
  have hcd := cnt_dict hD f.l2
  have ek := El.self (v := keyV d) f.p0
  have es := El.self (v := side1 d) f.p1
  have hlen : (eachs (keyV d)).length = (eachs (side1 d)).length := by have := ek.cnt; have := es.cnt; omega
  by_cases hf : findDI d x < rCount d
  · obtain ⟨e1, e2⟩ := put_there hb hf
    rw [e2] at he
    have hdp : ¬ 32 < rDepth (put1 d x y) := fun h => by rw [(bnd_deep (by omega) h).2] at he; cases he
    have h0 := findDI_nn d x
    obtain ⟨s1, s2⟩ := set_El f.g1 f.p1 hy.good (by omega) hy.bk h0 (by omega)
    have hv : rCount (setV (side1 d) (findDI d x) y) ≤ 65536 := by have := s1.cnt; have := es.cnt; have := cnt_part f.g1 f.p1; rw [List.length_set] at *; omega
    refine ⟨keyV d, setV (side1 d) (findDI d x) y, _, _, by rw [e1, (bnd_ok (by omega) hdp).1]; rfl, ek, s1, by rw [List.length_set]; exact hlen, hv, by rw [pair_bk]; omega, .inl ⟨by omega, rfl, rfl, rfl⟩⟩
  · by_cases h3 : appendE (keyV d) x ≠ 0
    · rw [(put_key hb hf h3).2] at he; exact absurd he h3
    · obtain ⟨e1, e2⟩ := put_new hb hf h3
      rw [e2] at he
      have h4 : ¬ appendE (side1 d) y ≠ 0 := fun h => by rw [(bnd_bad h).2] at he; exact h he
      have hdp : ¬ 32 < rDepth (put2 d x y) := fun h => by rw [(bnd_deep h4 h).2] at he; cases he
      obtain ⟨a1, a2, a3⟩ := app_El (v := keyV d) f.g0 f.p0 hx.good (by omega) hx.bk (Decidable.not_not.1 h3)
      obtain ⟨c1, c2, c3⟩ := app_El (v := side1 d) f.g1 f.p1 hy.good (by omega) hy.bk (Decidable.not_not.1 h4)
      have hv : rCount (appendV (side1 d) y) ≤ 65536 := by have := c1.cnt; have := es.cnt; rw [List.length_append, List.length_singleton] at *; omega
      have a3 : (appendV (keyV d) x).bk ≤ 300000000 := a3
      refine ⟨appendV (keyV d) x, appendV (side1 d) y, _, _, by rw [e1, (bnd_ok h4 hdp).1]; rfl, a1, c1, by rw [List.length_append, List.length_append, hlen]; rfl, hv, by rw [pair_bk]; omega, .inr ⟨by omega, rfl, rfl⟩⟩
theorem getD_app {L : List VT} {x : VT} {j : Nat} (h : j < L.length) : (L ++ [x]).getD j default = L.getD j default := by
  rw [List.getD_eq_getElem?_getD, List.getD_eq_getElem?_getD, List.getElem?_append_left h]
theorem getD_end (L : List VT) (x : VT) : (L ++ [x]).getD L.length default = x := by
  rw [List.getD_eq_getElem?_getD, List.getElem?_append_right (Nat.le_refl _), Nat.sub_self]; rfl
theorem getD_setV {L : List VT} {i k : Nat} {x : VT} (hk : k < L.length) : (L.set i x).getD k default = if i = k then x else L.getD k default := by
  rw [List.getD_eq_getElem?_getD, List.getElem?_eq_getElem (by simpa using hk), List.getD_eq_getElem?_getD, List.getElem?_eq_getElem hk, Option.getD_some, Option.getD_some, List.getElem_set]
theorem fd_key {d z : VT} (h : isD d = true) : findDI d z = findG (keyV d) z := by
  obtain ⟨t, n, s, l⟩ := d
  obtain ⟨q1, q2⟩ := isD_yes h
  rw [fd_yes h]
  exact (find_yes (v := l.getD 0 default) (x := z) q2).1
theorem put_same {d x y : VT} (hd : May d) (hx : May x) (hy : May y) (he : putE d x y = 0) : getV (putV d x y) [x] = y := by
  obtain ⟨hD, K, V, LK, LV, e, hK, hV, hl, hc, hb, h⟩ := put_facts hd hx hy he
  have f := dfacts hd.good hD
  have ek := El.self (v := keyV d) f.p0
  have es := El.self (v := side1 d) f.p1
  rw [e]
  rcases h with ⟨h1, rfl, rfl, rfl⟩ | ⟨h1, rfl, rfl⟩
  · rw [fd_key hD] at h1
    have h0 := (find_facts (x := x) ek).1
    rw [ek.cnt] at h1
    rw [fd_key hD] at hl hV
    rw [get_pair hK hV hl h1, getD_setV (by rw [List.length_set] at hl; omega), if_pos rfl]
  · rw [fd_key hD] at h1
    obtain ⟨q1, q2, q3, q4⟩ := find_facts (x := x) ek
    rw [ek.cnt] at h1
    have hf : findG K x = (eachs (keyV d)).length := by
      refine find_is hK (by rw [List.length_append]; omega) (fun _ => getD_end _ _) (fun j hj => ?_)
      rw [getD_app hj]
      exact q4 j (by omega)
    have hl' : (eachs (keyV d)).length = (eachs (side1 d)).length := by rw [List.length_append, List.length_append] at hl; simp at hl; omega
    rw [get_pair hK hV hl (by rw [hf, List.length_append]; simp; omega), hf, Int.toNat_natCast, hl', getD_end]
theorem put_other {d x y z : VT} (hd : May d) (hx : May x) (hy : May y) (he : putE d x y = 0) (hne : x ≠ z) (hz : findDI d z < rCount (keyV d)) : getV (putV d x y) [z] = getV d [z] := by
  obtain ⟨hD, K, V, LK, LV, e, hK, hV, hl, hc, hb, h⟩ := put_facts hd hx hy he
  have f := dfacts hd.good hD
  have ek := El.self (v := keyV d) f.p0
  have es := El.self (v := side1 d) f.p1
  have hcc : rCount (keyV d) = rCount (side1 d) := f.cnt
  have hk0 := fd_key (z := z) hD
  rw [hk0] at hz
  obtain ⟨q1, q2, q3, q4⟩ := find_facts (x := z) ek
  have hzl : findG (keyV d) z < (eachs (keyV d)).length := by have := ek.cnt; omega
  have hlen : (eachs (keyV d)).length = (eachs (side1 d)).length := by have := ek.cnt; have := es.cnt; omega
  have hd2 : getV d [z] = (eachs (side1 d)).getD (findG (keyV d) z).toNat default := by
    rw [get_one hD rfl]
    have e : [z].getD 0 default = z := rfl
    rw [e, hk0]
    have e2 : findG (keyV d) z = ((findG (keyV d) z).toNat : Int) := by omega
    unfold eltV
    rw [if_pos (by omega)]
    conv => lhs; rw [e2]
    exact es.at_ _ (by omega)
  rw [e, hd2]
  rcases h with ⟨h1, rfl, rfl, rfl⟩ | ⟨h1, rfl, rfl⟩
  · rw [get_pair hK hV hl hzl, getD_setV (by omega), if_neg]
    intro hh
    rw [fd_key hD] at hh h1
    obtain ⟨r1, r2, r3, r4⟩ := find_facts (x := x) ek
    have e3 := q3 hzl
    have e4 := r3 (by have := ek.cnt; omega)
    rw [hh, e3] at e4
    exact hne e4.symm
  · have hf : findG K z = ((findG (keyV d) z).toNat : Int) := by
      refine find_is hK (by rw [List.length_append]; omega) (fun _ => ?_) (fun j hj => ?_)
      · rw [getD_app (by omega)]; exact q3 hzl
      · rw [getD_app (by omega)]; exact q4 j (by omega)
    rw [get_pair hK hV hl (by rw [hf, List.length_append]; omega), hf, Int.toNat_natCast, getD_app (by omega)]
theorem putsL (t n s l t1 n1 s1 l1 t2 n2 s2 l2 t3 n3 s3 l3) (f0 : (VT.mk t n s l).Fine) (f1 : (VT.mk t1 n1 s1 l1).Fine) (f2 : (VT.mk t2 n2 s2 l2).Fine) (f3 : (VT.mk t3 n3 s3 l3).Fine) :
    Rh w3S IsTrue (9999, [.int t, .is n, .ss s, .vs l, .int t1, .is n1, .ss s1, .vs l1, .int t2, .is n2, .ss s2, .vs l2, .int t3, .is n3, .ss s3, .vs l3]) := by
  refine Rh.go (w3_9999 t n s l t1 n1 s1 l1 t2 n2 s2 l2 t3 n3 s3 l3 _) ?_
  simp only [SQ, RhQ, eq_self, implies_true, forall_const, VT.eta, if_true, if_false, not_true, or_self, or_false, false_or, false_implies, ne_eq, not_false_eq_true, and_self]
  have h4 : fines [VT.mk t n s l, .mk t1 n1 s1 l1, .mk t2 n2 s2 l2, .mk t3 n3 s3 l3] := fun y hy => by
    simp only [List.mem_cons, List.not_mem_nil, or_false] at hy
    rcases hy with rfl | rfl | rfl | rfl
    · exact f0
    · exact f1
    · exact f2
    · exact f3
  refine ⟨h4, fun _ => IsTrue.of rfl, fun hb => ?_⟩
  obtain ⟨m, _⟩ := mayB_of h4 hb
  have m0 := m _ (List.mem_cons_self)
  have m1 := m _ (List.mem_cons_of_mem _ List.mem_cons_self)
  have m2 := m _ (List.mem_cons_of_mem _ (List.mem_cons_of_mem _ List.mem_cons_self))
  have m3 := m _ (List.mem_cons_of_mem _ (List.mem_cons_of_mem _ (List.mem_cons_of_mem _ List.mem_cons_self)))
  refine ⟨⟨m0.tame, m1.tame, m2.tame, may_putOk m0 m1 m2⟩, fun _ => IsTrue.of rfl, fun he => ?_⟩
  have hs := put_same m0 m1 m2 he
  obtain ⟨hD, K, V, LK, LV, e, hK, hV, hl, hc, hbk, _⟩ := put_facts m0 m1 m2 he
  have hE : findDE (putV (.mk t n s l) (.mk t1 n1 s1 l1) (.mk t2 n2 s2 l2)) = 0 := by rw [e]; exact (side_yes 0 (isD_pair hK.part)).2
  refine ⟨by rw [e]; exact getOk_pair hK.part hV.part hc hbk, fun hh => ?_, fun _ => ⟨may_dOk m0.good, m0.tame, may_dOk m0.good, m0.tame, fun _ => IsTrue.of rfl, fun hh => ?_⟩⟩
  · exfalso
    rcases hh with hh | hh
    · exact hh hE
    · rw [hs, veq_self] at hh; cases hh
  · obtain ⟨⟨⟨hne, h0⟩, _⟩, hk⟩ := hh
    have hsd : sideV (.mk t n s l) 0 = keyV (.mk t n s l) := (side_yes 0 hD).1
    rw [hsd] at hk
    have hne' : VT.mk t1 n1 s1 l1 ≠ .mk t3 n3 s3 l3 := fun h => by rw [h, veq_self] at hne; cases hne
    refine ⟨by rw [e]; exact getOk_pair hK.part hV.part hc hbk, may_getOk m0 (by simp), ?_⟩
    rw [put_other m0 m1 m2 he hne' (by omega), veq_self]; exact IsTrue.of rfl
theorem putsOrc : OrcOk Tryz.prog (inl O.real Go.Qv.tbF Go.Qv.fns (pureOrc (PS.also 9 spMay (PS.also 12 sp12f (PS.also 11 spPut (PS.also 14 spGetD (PS.also 15 sp15f (PS.also 16 spFindD (PS.also 17 spKeysD (PS.also 18 sp18f (PS.also 10 spLive PS.none)))))))))) (fun f => Nat.beq f 9 || Nat.beq f 12 || Nat.beq f 11 || Nat.beq f 14 || Nat.beq f 15 || Nat.beq f 16 || Nat.beq f 17 || Nat.beq f 18 || Nat.beq f 10) (fun _ => false) 300 14) (fun _ => True) :=
  inl_ok mixed tbF_ok fnsOk (pureOrc_ok (PureOk.also okMay (PureOk.also ok12 (PureOk.also okPut (PureOk.also ok14 (PureOk.also ok15 (PureOk.also ok16 (PureOk.also ok17 (PureOk.also ok18 (PureOk.also okLive (PureOk.none _))))))))))) 14
end Go.Qv
