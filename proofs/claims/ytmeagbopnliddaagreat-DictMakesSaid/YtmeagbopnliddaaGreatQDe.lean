/- Dictionaries: what keys lead to. Definitions, plain facts. No condition. -/
import Derived.Test.YtmeagbopnliddaaGreatQDc
import Derived.Test.YtmeagbopnliddaaGreatQCi
set_option linter.unusedVariables false
set_option linter.unusedSimpArgs false
set_option maxRecDepth 100000
namespace Go.Qv
open Go Go.RowKit Go.Proofs
def mayV (v : VT) : Bool := !(decide ((400 : Int) < v.n.length)) && !(decide ((400 : Int) < v.s.length)) && !(decide ((400 : Int) < v.l.length)) && decide (0 ≤ leftI v 400 0) && decide (checkV v = 0)
def mayB (l : List VT) : Bool := l.all mayV && decide ((l.length : Int) ≤ 30)
def noneV (v : VT) : VT := if 1 ≤ v.t ∧ v.t ≤ 5 then nullV v.t else .mk 0 [] [] []
def likeB (v : VT) (l : List VT) : Bool := l.all fun x => decide (x.t = -v.t)
def likeV (v : VT) (l : List VT) : VT := if (1 ≤ v.t ∧ v.t ≤ 5) ∧ likeB v l = true then .mk v.t (l.flatMap VT.n) (l.flatMap VT.s) [] else ofV l
def eltV (v : VT) (k : Int) : VT := if k < rCount v then atV v k else noneV v
def side1 (d : VT) : VT := d.l.getD 1 default
noncomputable def getL (d : VT) (x : List VT) : List VT := x.map fun k => eltV (side1 d) (findDI d k)
noncomputable def getV (d : VT) (x : List VT) : VT := if isD d then (if x.length = 1 then eltV (side1 d) (findDI d (x.getD 0 default)) else likeV (side1 d) (getL d x)) else .mk 0 [] [] []
def getOk (d : VT) (x : List VT) : Prop := dOk d ∧ tame d ∧ x.length ≤ 536870912 ∧ (isD d = true → partP (side1 d) ∧ rCount (side1 d) ≤ 65536 ∧ tames (getL d x))
def onVL (f : VT → List VT → T AV) : List AV → T AV
  | [x, y] => (match asV [] x, cVs [] y with | some a, some b => f a b | _, _ => .stuck "onVL")
  | _ => .stuck "onVL"
def onL3 (f : VT → Int → Int → T AV) : List AV → T AV
  | [x, .int .i64 n, .int .i64 m] => (match asV [] x with | some a => f a n m | none => .stuck "onL3")
  | _ => .stuck "onL3"
noncomputable def spLeft (n : Nat) := onL3 fun a k d => when_ (smaller a n) (.leaf (.int .i64 (leftI a k d)))
noncomputable def spLeftF := onL3 fun a k d => .leaf (.int .i64 (leftI a k d))
noncomputable def spMay := onVs fun l => when_ (fines l) (.leaf (.bool (mayB l)))
noncomputable def spClones := onVs fun l => when_ (tames l) (.leaf (.sl (.v l)))
noncomputable def spNone := onV fun v => .leaf (vcl (noneV v))
noncomputable def spLike := onVL fun v l => when_ (tames l) (.leaf (vcl (likeV v l)))
noncomputable def spGetD := onVL fun d x => when_ (getOk d x) (.leaf (.tup [vcl (getV d x), .int .i64 (findDE d)]))

theorem onVL_inv {f : VT → List VT → T AV} {xs : List AV} {Q : AV → Prop} (h : (onVL f xs).sat Q) : ∃ x y a b, xs = [x, y] ∧ asV [] x = some a ∧ cVs [] y = some b ∧ (f a b).sat Q := by
  unfold onVL at h
  split at h
  · split at h
    · rename_i x y _ _ a b h1 h2; exact ⟨x, y, a, b, rfl, h1, h2, h⟩
    · exact h.elim
  · exact h.elim
theorem onL3_inv {f : VT → Int → Int → T AV} {xs : List AV} {Q : AV → Prop} (h : (onL3 f xs).sat Q) : ∃ x n m a, xs = [x, .int .i64 n, .int .i64 m] ∧ asV [] x = some a ∧ (f a n m).sat Q := by
  unfold onL3 at h
  split at h
  · split at h
    · rename_i x n m _ a h1; exact ⟨x, n, m, a, rfl, h1, h⟩
    · exact h.elim
  · exact h.elim
theorem onL3_mk {f : VT → Int → Int → T AV} {x : AV} {n m : Int} {a : VT} {Q : AV → Prop} (h1 : asV [] x = some a) (h : (f a n m).sat Q) : (onL3 f [x, .int .i64 n, .int .i64 m]).sat Q := by
  unfold onL3; simp only [h1]; exact h
/-! ### plain facts -/
theorem flatAt {v : VT} (h : partP v) {k : Int} (h0 : 0 ≤ k) (h1 : k < rCount v) : atV v k = at1V v k ∧ at1V v k = at0 v k.toNat ∧ atE v k = 0 ∧ at1E v k = 0 := by
  obtain ⟨t, n, s, l⟩ := v
  have h : 0 ≤ t ∧ t ≤ 5 := h
  have hn : ¬ (k < 0 ∨ rCount (.mk t n s l) ≤ k) := by omega
  unfold atV at1V atE at1E
  rw [if_neg hn, if_neg hn, if_neg (show ¬ (VT.mk t n s l).t = 98 by show ¬ t = 98; omega), if_neg (show ¬ (VT.mk t n s l).t = 99 by show ¬ t = 99; omega), if_neg hn, if_neg (fun hh => by have : t = 99 := hh.1; omega), if_neg hn]
  exact ⟨rfl, rfl, rfl, rfl⟩
theorem flatNo {v : VT} {k : Int} (h1 : rCount v ≤ k) : at1V v k = .mk 0 [] [] [] ∧ at1E v k = 33 ∧ atE v k = 33 := by
  have hn : k < 0 ∨ rCount v ≤ k := .inr h1
  unfold at1V at1E atE
  rw [if_pos hn, if_pos hn, if_pos hn]; exact ⟨rfl, rfl, rfl⟩
theorem abs_vec {t : Int} (h : 1 ≤ t ∧ t ≤ 5) : rAbs t = t := by unfold rAbs; rw [if_neg (by omega)]
theorem atomV_t {t n : Int} (h : 1 ≤ t ∧ t ≤ 5) (h3 : t ≠ 3) : atomV t n = .mk (-t) [n] [] [] := by
  unfold atomV; rw [abs_vec h, if_neg (by omega)]
theorem nullV_t {t : Int} (h : 1 ≤ t ∧ t ≤ 5) : (nullV t).t = -t := by
  unfold nullV; rw [abs_vec h]
  by_cases h1 : t = 1
  · rw [if_pos h1, atomV_t h (by omega)]; rfl
  · rw [if_neg h1]
    by_cases h3 : t = 3
    · rw [if_pos h3, h3]; rfl
    · rw [if_neg h3, atomV_t h h3]; rfl
theorem at0_t {v : VT} (h : 1 ≤ v.t ∧ v.t ≤ 5) (i : Nat) : (at0 v i).t = -v.t := by
  obtain ⟨t, n, s, l⟩ := v
  have h : 1 ≤ t ∧ t ≤ 5 := h
  unfold at0
  by_cases h3 : t = 3
  · rw [if_pos (show (VT.mk t n s l).t = 3 from h3)]; show (-3 : Int) = -t; omega
  · rw [if_neg (show ¬ (VT.mk t n s l).t = 3 from h3)]
    have hv : isVecT (VT.mk t n s l).t := by show isVecT t; unfold isVecT; exact h
    rw [if_pos hv]
    show (atomV t _).t = -t
    rw [atomV_t h h3]; rfl
theorem eltV_t {v : VT} (h : 1 ≤ v.t ∧ v.t ≤ 5) {k : Int} (h0 : 0 ≤ k) : (eltV v k).t = -v.t := by
  unfold eltV
  split
  · rename_i hk
    obtain ⟨e1, e2, _⟩ := flatAt (v := v) ⟨by omega, h.2⟩ h0 hk
    rw [e1, e2, at0_t h]
  · unfold noneV; rw [if_pos h, nullV_t h]
theorem elt_at1 {v : VT} (h : v.t = 0) {k : Int} (h0 : 0 ≤ k) : eltV v k = at1V v k := by
  unfold eltV
  split
  · rename_i hk; exact (flatAt (v := v) ⟨by omega, by omega⟩ h0 hk).1
  · rename_i hk; rw [(flatNo (v := v) (by omega)).1]; unfold noneV; rw [if_neg (by omega)]
theorem elt_pk {v : VT} (h : 1 ≤ v.t ∧ v.t ≤ 5) {k : Int} (h0 : 0 ≤ k) : (eltV v k).n = pkN v k ∧ (eltV v k).s = pkS v k := by
  unfold eltV pkN pkS
  by_cases hk : k < rCount v
  · obtain ⟨e1, e2, e3, e4⟩ := flatAt (v := v) ⟨by omega, h.2⟩ h0 hk
    rw [if_pos hk, e4, if_pos rfl, if_pos rfl, e1]; exact ⟨rfl, rfl⟩
  · obtain ⟨e1, e2, e3⟩ := flatNo (v := v) (k := k) (by omega)
    rw [if_neg hk, e2, if_neg (by decide), if_neg (by decide)]
    unfold noneV; rw [if_pos h]; exact ⟨rfl, rfl⟩
/-- What stands at places is a list like it of what stands there. -/
theorem pick_like {v : VT} (hp : partP v) {a : List Int} (ha : ∀ k ∈ a, 0 ≤ k) : pickV v a = likeV v (a.map (eltV v)) := by
  have hp : 0 ≤ v.t ∧ v.t ≤ 5 := hp
  unfold pickV likeV
  by_cases h0 : v.t = 0
  · rw [if_pos h0, if_neg (fun hh => by omega)]
    congr 1
    exact List.map_congr_left fun k hk => (elt_at1 h0 (ha k hk)).symm
  · have hv : 1 ≤ v.t ∧ v.t ≤ 5 := by omega
    have hl : likeB v (a.map (eltV v)) = true := by
      unfold likeB
      rw [List.all_eq_true]
      intro x hx
      obtain ⟨k, hk, rfl⟩ := List.mem_map.1 hx
      exact decide_eq_true (eltV_t hv (ha k hk))
    rw [if_neg h0, if_pos ⟨hv, hl⟩, List.flatMap_map, List.flatMap_map]
    have e1 : a.flatMap (pkN v) = a.flatMap fun k => (eltV v k).n := by rw [List.flatMap_def, List.flatMap_def]; exact congrArg _ (List.map_congr_left fun k hk => (elt_pk hv (ha k hk)).1.symm)
    have e2 : a.flatMap (pkS v) = a.flatMap fun k => (eltV v k).s := by rw [List.flatMap_def, List.flatMap_def]; exact congrArg _ (List.map_congr_left fun k hk => (elt_pk hv (ha k hk)).2.symm)
    rw [e1, e2]
theorem findDI_nn (d x : VT) : 0 ≤ findDI d x := by
  unfold findDI
  split
  · unfold findI
    split
    · exact (findG_spec _ _).1
    · omega
  · omega
theorem getL_pick {d : VT} (hp : partP (side1 d)) (x : List VT) : pickV (side1 d) (x.map (findDI d)) = likeV (side1 d) (getL d x) := by
  rw [pick_like hp (fun k hk => by obtain ⟨y, _, rfl⟩ := List.mem_map.1 hk; exact findDI_nn d y), List.map_map]; rfl
theorem get_no {d : VT} {x : List VT} (h : isD d = false) : getV d x = .mk 0 [] [] [] := by unfold getV; rw [h]; rfl
theorem get_one {d : VT} {x : List VT} (h : isD d = true) (h1 : x.length = 1) : getV d x = eltV (side1 d) (findDI d (x.getD 0 default)) := by unfold getV; rw [h, if_pos rfl, if_pos h1]
theorem get_many {d : VT} {x : List VT} (h : isD d = true) (h1 : x.length ≠ 1) : getV d x = likeV (side1 d) (getL d x) := by unfold getV; rw [h, if_pos rfl, if_neg h1]
theorem getL_pickOk {d : VT} {x : List VT} (hp : partP (side1 d)) (hx : x.length ≤ 536870912) (ht : tames (getL d x)) : pickOk (side1 d) (x.map (findDI d)) := by
  intro _
  refine ⟨by rw [List.length_map]; exact hx, fun h0 => ?_⟩
  have : (x.map (findDI d)).map (at1V (side1 d)) = getL d x := by
    unfold getL
    rw [List.map_map]
    exact List.map_congr_left fun y _ => (elt_at1 h0 (findDI_nn d y)).symm
  rw [this]; exact ht
end Go.Qv
