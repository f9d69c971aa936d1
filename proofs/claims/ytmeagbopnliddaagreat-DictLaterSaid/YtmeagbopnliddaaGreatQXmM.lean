/- Walks of dictionaries. (Printed.) -/
import Derived.Test.YtmeagbopnliddaaGreatQXkM
import Derived.Test.YtmeagbopnliddaaGreatQDl
set_option linter.unusedVariables false
set_option maxRecDepth 100000
namespace Go.Qv
open Go Go.RowKit
end Go.Qv
/- quiverlaw10.DictPut: the law over contracts. No condition. -/
set_option linter.unusedVariables false
set_option linter.unusedSimpArgs false
set_option maxRecDepth 100000
namespace Go.Qv
open Go Go.RowKit Go.Proofs
theorem isD_pair {K V : VT} (h : partP K) : isD (pairV K V) = true := by
  unfold pairV; rw [isD_mk, Bool.and_eq_true]; exact ⟨decide_eq_true rfl, partB_iff.2 h⟩
theorem fd_pair {K V z : VT} (h : partP K) : findDI (pairV K V) z = findG K z := by
  rw [fd_yes (isD_pair h)]
  exact (find_yes (v := K) (x := z) (partB_iff.2 h)).1
theorem get_pair {K V z : VT} {LK LV : List VT} (hK : El K LK) (hV : El V LV) (hl : LK.length = LV.length) (hf : findG K z < LK.length) : getV (pairV K V) [z] = LV.getD (findG K z).toNat default := by
  obtain ⟨f1, _⟩ := find_facts (x := z) hK
  rw [get_one (isD_pair hK.part) rfl]
  have e : [z].getD 0 default = z := rfl
  rw [e, fd_pair hK.part]
  show eltV V (findG K z) = _
  have e2 : findG K z = ((findG K z).toNat : Int) := by omega
  unfold eltV
  rw [if_pos (by rw [hV.cnt]; omega)]
  conv => lhs; rw [e2]
  exact hV.at_ _ (by omega)
theorem getOk_pair {K V z : VT} (hK : partP K) (hV : partP V) (hc : rCount V ≤ 65536) (hb : (pairV K V).bk ≤ 700000000) : getOk (pairV K V) [z] := by
  refine ⟨fun _ => rfl, by unfold tame; omega, by simp, fun _ => ⟨hV, hc, ?_⟩⟩
  have h1 := eltV_bk hV (k := findDI (pairV K V) z) (findDI_nn _ _)
  rw [pair_bk] at hb
  show bks [eltV V (findDI (pairV K V) z)] ≤ 1073741824
  rw [bks_cons]
  have : bks ([] : List VT) = 0 := rfl
  omega
theorem getD_app {L : List VT} {x : VT} {j : Nat} (h : j < L.length) : (L ++ [x]).getD j default = L.getD j default := by
  rw [List.getD_eq_getElem?_getD, List.getD_eq_getElem?_getD, List.getElem?_append_left h]
theorem getD_end (L : List VT) (x : VT) : (L ++ [x]).getD L.length default = x := by
  rw [List.getD_eq_getElem?_getD, List.getElem?_append_right (Nat.le_refl _), Nat.sub_self]; rfl
theorem getD_setV {L : List VT} {i k : Nat} {x : VT} (hk : k < L.length) : (L.set i x).getD k default = if i = k then x else L.getD k default := by
  rw [List.getD_eq_getElem?_getD, List.getElem?_eq_getElem (by simpa using hk), List.getD_eq_getElem?_getD, List.getElem?_eq_getElem hk, Option.getD_some, Option.getD_some, List.getElem_set]
theorem fd_key {d z : VT} (h : isD d = true) : findDI d z = findG (keyV d) z := by
  obtain ⟨t, n, s, l⟩ := d
  obtain ⟨q1, q2⟩ := isD_yes h
  rw [fd_yes h]
  exact (find_yes (v := l.getD 0 default) (x := z) q2).1
end Go.Qv
