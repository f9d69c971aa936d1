/- Dictionaries: what keys lead to. Definitions, plain facts. No condition. -/
import Derived.Test.YtmeagbopnliddaaGreatQDc
import Derived.Test.YtmeagbopnliddaaGreatQCi
set_option linter.unusedVariables false
set_option linter.unusedSimpArgs false
set_option maxRecDepth 100000
namespace Go.Qv
open Go Go.RowKit Go.Proofs
def mayV (v : VT) : Bool := !(decide ((400 : Int) < v.n.length)) && !(decide ((400 : Int) < v.s.length)) && !(decide ((400 : Int) < v.l.length)) && decide (0 ≤ leftI v 400 0) && decide (checkV v = 0)
def mayB (l : List VT) : Bool := l.all mayV && decide ((l.length : Int) ≤ 30)
def noneV (v : VT) : VT := if 1 ≤ v.t ∧ v.t ≤ 5 then nullV v.t else .mk 0 [] [] []
def likeB (v : VT) (l : List VT) : Bool := l.all fun x => decide (x.t = -v.t)
def likeV (v : VT) (l : List VT) : VT := if (1 ≤ v.t ∧ v.t ≤ 5) ∧ likeB v l = true then .mk v.t (l.flatMap VT.n) (l.flatMap VT.s) [] else ofV l
def eltV (v : VT) (k : Int) : VT := if k < rCount v then atV v k else noneV v
def side1 (d : VT) : VT := d.l.getD 1 default
noncomputable def getL (d : VT) (x : List VT) : List VT := x.map fun k => eltV (side1 d) (findDI d k)
noncomputable def getV (d : VT) (x : List VT) : VT := if isD d then (if x.length = 1 then eltV (side1 d) (findDI d (x.getD 0 default)) else likeV (side1 d) (getL d x)) else .mk 0 [] [] []
def getOk (d : VT) (x : List VT) : Prop := dOk d ∧ tame d ∧ x.length ≤ 536870912 ∧ (isD d = true → partP (side1 d) ∧ rCount (side1 d) ≤ 65536 ∧ tames (getL d x))
def onVL (f : VT → List VT → T AV) : List AV → T AV
  | [x, y] => (match asV [] x, cVs [] y with | some a, some b => f a b | _, _ => .stuck "onVL")
  | _ => .stuck "onVL"
def onL3 (f : VT → Int → Int → T AV) : List AV → T AV
  | [x, .int .i64 n, .int .i64 m] => (match asV [] x with | some a => f a n m | none => .stuck "onL3")
  | _ => .stuck "onL3"
noncomputable def spLeft (n : Nat) := onL3 fun a k d => when_ (smaller a n) (.leaf (.int .i64 (leftI a k d)))
noncomputable def spLeftF := onL3 fun a k d => .leaf (.int .i64 (leftI a k d))
noncomputable def spMay := onVs fun l => when_ (fines l) (.leaf (.bool (mayB l)))
noncomputable def spGetD := onVL fun d x => when_ (getOk d x) (.leaf (.tup [vcl (getV d x), .int .i64 (findDE d)]))

theorem onVL_inv {f : VT → List VT → T AV} {xs : List AV} {Q : AV → Prop} (h : (onVL f xs).sat Q) : ∃ x y a b, xs = [x, y] ∧ asV [] x = some a ∧ cVs [] y = some b ∧ (f a b).sat Q := by
  unfold onVL at h
  split at h
  · split at h
    · rename_i x y _ _ a b h1 h2; exact ⟨x, y, a, b, rfl, h1, h2, h⟩
    · exact h.elim
  · exact h.elim
theorem onL3_inv {f : VT → Int → Int → T AV} {xs : List AV} {Q : AV → Prop} (h : (onL3 f xs).sat Q) : ∃ x n m a, xs = [x, .int .i64 n, .int .i64 m] ∧ asV [] x = some a ∧ (f a n m).sat Q := by
  unfold onL3 at h
  split at h
  · split at h
    · rename_i x n m _ a h1; exact ⟨x, n, m, a, rfl, h1, h⟩
    · exact h.elim
  · exact h.elim
theorem onL3_mk {f : VT → Int → Int → T AV} {x : AV} {n m : Int} {a : VT} {Q : AV → Prop} (h1 : asV [] x = some a) (h : (f a n m).sat Q) : (onL3 f [x, .int .i64 n, .int .i64 m]).sat Q := by
  unfold onL3; simp only [h1]; exact h
/-! ### plain facts -/
theorem flatAt {v : VT} (h : partP v) {k : Int} (h0 : 0 ≤ k) (h1 : k < rCount v) : atV v k = at1V v k ∧ at1V v k = at0 v k.toNat ∧ atE v k = 0 ∧ at1E v k = 0 := by
  obtain ⟨t, n, s, l⟩ := v
  have h : 0 ≤ t ∧ t ≤ 5 := h
  have hn : ¬ (k < 0 ∨ rCount (.mk t n s l) ≤ k) := by omega
  unfold atV at1V atE at1E
  rw [if_neg hn, if_neg hn, if_neg (show ¬ (VT.mk t n s l).t = 98 by show ¬ t = 98; omega), if_neg (show ¬ (VT.mk t n s l).t = 99 by show ¬ t = 99; omega), if_neg hn, if_neg (fun hh => by have : t = 99 := hh.1; omega), if_neg hn]
  exact ⟨rfl, rfl, rfl, rfl⟩
theorem flatNo {v : VT} {k : Int} (h1 : rCount v ≤ k) : at1V v k = .mk 0 [] [] [] ∧ at1E v k = 33 ∧ atE v k = 33 := by
  have hn : k < 0 ∨ rCount v ≤ k := .inr h1
  unfold at1V at1E atE
  rw [if_pos hn, if_pos hn, if_pos hn]; exact ⟨rfl, rfl, rfl⟩
theorem abs_vec {t : Int} (h : 1 ≤ t ∧ t ≤ 5) : rAbs t = t := by unfold rAbs; rw [if_neg (by omega)]
theorem atomV_t {t n : Int} (h : 1 ≤ t ∧ t ≤ 5) (h3 : t ≠ 3) : atomV t n = .mk (-t) [n] [] [] := by
  unfold atomV; rw [abs_vec h, if_neg (by omega)]
theorem nullV_t {t : Int} (h : 1 ≤ t ∧ t ≤ 5) : (nullV t).t = -t := by
  unfold nullV; rw [abs_vec h]
  by_cases h1 : t = 1
  · rw [if_pos h1, atomV_t h (by omega)]; rfl
  · rw [if_neg h1]
    by_cases h3 : t = 3
    · rw [if_pos h3, h3]; rfl
    · rw [if_neg h3, atomV_t h h3]; rfl
theorem at0_t {v : VT} (h : 1 ≤ v.t ∧ v.t ≤ 5) (i : Nat) : (at0 v i).t = -v.t := by
  obtain ⟨t, n, s, l⟩ := v
  have h : 1 ≤ t ∧ t ≤ 5 := h
  unfold at0
  by_cases h3 : t = 3
  · rw [if_pos (show (VT.mk t n s l).t = 3 from h3)]; show (-3 : Int) = -t; omega
  · rw [if_neg (show ¬ (VT.mk t n s l).t = 3 from h3)]
    have hv : isVecT (VT.mk t n s l).t := by show isVecT t; unfold isVecT; exact h
    rw [if_pos hv]
    show (atomV t _).t = -t
    rw [atomV_t h h3]; rfl
theorem eltV_t {v : VT} (h : 1 ≤ v.t ∧ v.t ≤ 5) {k : Int} (h0 : 0 ≤ k) : (eltV v k).t = -v.t := by
  unfold eltV
  split
  · rename_i hk
    obtain ⟨e1, e2, _⟩ := flatAt (v := v) ⟨by omega, h.2⟩ h0 hk
    rw [e1, e2, at0_t h]
  · unfold noneV; rw [if_pos h, nullV_t h]
theorem elt_at1 {v : VT} (h : v.t = 0) {k : Int} (h0 : 0 ≤ k) : eltV v k = at1V v k := by
  unfold eltV
  split
  · rename_i hk; exact (flatAt (v := v) ⟨by omega, by omega⟩ h0 hk).1
  · rename_i hk; rw [(flatNo (v := v) (by omega)).1]; unfold noneV; rw [if_neg (by omega)]
theorem elt_pk {v : VT} (h : 1 ≤ v.t ∧ v.t ≤ 5) {k : Int} (h0 : 0 ≤ k) : (eltV v k).n = pkN v k ∧ (eltV v k).s = pkS v k := by
  unfold eltV pkN pkS
  by_cases hk : k < rCount v
  · obtain ⟨e1, e2, e3, e4⟩ := flatAt (v := v) ⟨by omega, h.2⟩ h0 hk
    rw [if_pos hk, e4, if_pos rfl, if_pos rfl, e1]; exact ⟨rfl, rfl⟩
  · obtain ⟨e1, e2, e3⟩ := flatNo (v := v) (k := k) (by omega)
    rw [if_neg hk, e2, if_neg (by decide), if_neg (by decide)]
    unfold noneV; rw [if_pos h]; exact ⟨rfl, rfl⟩
/-- What stands at places is a list like it of what stands there. -/
theorem pick_like {v : VT} (hp : partP v) {a : List Int} (ha : ∀ k ∈ a, 0 ≤ k) : pickV v a = likeV v (a.map (eltV v)) := by
  have hp : 0 ≤ v.t ∧ v.t ≤ 5 := hp
  unfold pickV likeV
  by_cases h0 : v.t = 0
  · rw [if_pos h0, if_neg (fun hh => by omega)]
    congr 1
    exact List.map_congr_left fun k hk => (elt_at1 h0 (ha k hk)).symm
  · have hv : 1 ≤ v.t ∧ v.t ≤ 5 := by omega
    have hl : likeB v (a.map (eltV v)) = true := by
      unfold likeB
      rw [List.all_eq_true]
      intro x hx
      obtain ⟨k, hk, rfl⟩ := List.mem_map.1 hx
      exact decide_eq_true (eltV_t hv (ha k hk))
    rw [if_neg h0, if_pos ⟨hv, hl⟩, List.flatMap_map, List.flatMap_map]
    have e1 : a.flatMap (pkN v) = a.flatMap fun k => (eltV v k).n := by rw [List.flatMap_def, List.flatMap_def]; exact congrArg _ (List.map_congr_left fun k hk => (elt_pk hv (ha k hk)).1.symm)
    have e2 : a.flatMap (pkS v) = a.flatMap fun k => (eltV v k).s := by rw [List.flatMap_def, List.flatMap_def]; exact congrArg _ (List.map_congr_left fun k hk => (elt_pk hv (ha k hk)).2.symm)
    rw [e1, e2]
theorem findDI_nn (d x : VT) : 0 ≤ findDI d x := by
  unfold findDI
  split
  · unfold findI
    split
    · exact (findG_spec _ _).1
    · omega
  · omega
theorem getL_pick {d : VT} (hp : partP (side1 d)) (x : List VT) : pickV (side1 d) (x.map (findDI d)) = likeV (side1 d) (getL d x) := by
  rw [pick_like hp (fun k hk => by obtain ⟨y, _, rfl⟩ := List.mem_map.1 hk; exact findDI_nn d y), List.map_map]; rfl
theorem get_no {d : VT} {x : List VT} (h : isD d = false) : getV d x = .mk 0 [] [] [] := by unfold getV; rw [h]; rfl
theorem get_one {d : VT} {x : List VT} (h : isD d = true) (h1 : x.length = 1) : getV d x = eltV (side1 d) (findDI d (x.getD 0 default)) := by unfold getV; rw [h, if_pos rfl, if_pos h1]
theorem get_many {d : VT} {x : List VT} (h : isD d = true) (h1 : x.length ≠ 1) : getV d x = likeV (side1 d) (getL d x) := by unfold getV; rw [h, if_pos rfl, if_neg h1]
theorem getL_pickOk {d : VT} {x : List VT} (hp : partP (side1 d)) (hx : x.length ≤ 536870912) (ht : tames (getL d x)) : pickOk (side1 d) (x.map (findDI d)) := by
  intro _
  refine ⟨by rw [List.length_map]; exact hx, fun h0 => ?_⟩
  have : (x.map (findDI d)).map (at1V (side1 d)) = getL d x := by
    unfold getL
    rw [List.map_map]
    exact List.map_congr_left fun y _ => (elt_at1 h0 (findDI_nn d y)).symm
  rw [this]; exact ht
end Go.Qv
/- Walks of dictionaries. (Printed.) -/
set_option linter.unusedVariables false
set_option maxRecDepth 100000
namespace Go.Qv
open Go Go.RowKit
noncomputable def w82C : List Cut := [(⟨9999, ⟨[(0, (.agg [(.int .i64), (.sl (.i .i64)), (.sl .s), (.sl .v)])), (1, (.one (.int IntKind.i64))), (2, (.one (.int IntKind.i64)))], [], 0, 41⟩, [It.code (bodyOf Go.Proofs.Tryz.f82)], []⟩ : Cut),
  (⟨5, ⟨[(1, (.one (.int IntKind.i64))), (2, (.one (.int IntKind.i64))), (3, (.one (.ptr 0 0))), (6, (.one (.fix (.int IntKind.i64 (0 : Int))))), (7, (.one (.int IntKind.i64)))], [(0, (.cells [(.int IntKind.i64), (.sl (.i IntKind.i64)), (.sl .s), (.sl .v)]))], 64, 41⟩, (codeAt Go.Proofs.Tryz.f82 5), []⟩ : Cut)]
theorem w82C_ok : cutsOk w82C = true := by kernel_rfl
noncomputable def w82S (n : Nat) : Nat × List Lf → T Gt := stepX O.real Go.Qv.tb (inl O.real Go.Qv.tb Go.Qv.fns (pureOrc (PS.also 82 (spLeft n) PS.none)) (fun f => Nat.beq f 82) (fun _ => false) 300 14) Go.Proofs.Tryz.f82.results ([]) 0 w82C
theorem w82_9999 (n : Nat) (t0 : Int) (t0_1 : List Int) (t0_2 : List ByteArray) (t0_3 : List VT) (t1 : Int) (t2 : Int) (Q : Gt → Prop) : T.ob noB Q (.B (.S .E) (.S (.S .E))) (w82S n (9999, [Lf.int t0, Lf.is t0_1, Lf.ss t0_2, Lf.vs t0_3, Lf.int t1, Lf.int t2])) =
  (((O.real.lt (100 : Int) t2) = true → Q (.inr ⟨(AV.int IntKind.i64 (Int.negSucc 0)), [], [], []⟩)) ∧ ((O.real.lt (100 : Int) t2) = false → ((codeAt Go.Proofs.Tryz.f82 5 = codeAt Go.Proofs.Tryz.f82 5) ∧ Q (.inl (5, [(Lf.int (O.real.sub IntKind.i64 (O.real.sub IntKind.i64 (O.real.sub IntKind.i64 t1 (1 : Int)) (O.real.ilen t0_1)) (O.real.blen t0_2))), (Lf.int t2), (Lf.int (0 : Int)), (Lf.int t0), (Lf.is t0_1), (Lf.ss t0_2), (Lf.vs t0_3)]))))) := by kernel_rfl
theorem w82_5 (n : Nat) (t1 : Int) (t2 : Int) (t7 : Int) (h0 : Int) (h0_1 : List Int) (h0_2 : List ByteArray) (h0_3 : List VT) (Q : Gt → Prop) : T.ob noB Q (.D 1 (.S (.D 1 (.S (.B (.S (.S (.S .E))) (.S .E)))))) (w82S n (5, [Lf.int t1, Lf.int t2, Lf.int t7, Lf.int h0, Lf.is h0_1, Lf.ss h0_2, Lf.vs h0_3])) =
  ((((O.real.lt t7 (O.real.vlen h0_3)) = Bool.true) → True) ∧ ((((O.real.lt t7 (O.real.vlen h0_3)) = Bool.true) → True) ∧ (((O.real.and (O.real.lt t7 (O.real.vlen h0_3)) (O.real.le (0 : Int) t1)) = true → (((O.real.inb t7 (O.real.vlen h0_3))).p ∧ ((smaller (etaO (O.real.vget h0_3 t7)) n) ∧ Q (.inl (5, [(Lf.int (leftI (etaO (O.real.vget h0_3 t7)) t1 (O.real.add IntKind.i64 t2 (1 : Int)))), (Lf.int t2), (Lf.int (O.real.add IntKind.i64 t7 (1 : Int))), (Lf.int h0), (Lf.is h0_1), (Lf.ss h0_2), (Lf.vs h0_3)]))))) ∧ ((O.real.and (O.real.lt t7 (O.real.vlen h0_3)) (O.real.le (0 : Int) t1)) = false → Q (.inr ⟨(AV.int IntKind.i64 t1), [], [], []⟩))))) := by kernel_rfl

noncomputable def w9C : List Cut := [(⟨9999, ⟨[(0, (.one (.sl .v)))], [], 0, 44⟩, [It.code (bodyOf Go.Proofs.Tryz.f9)], []⟩ : Cut),
  (⟨2, ⟨[(0, (.one (.sl .v))), (2, (.one (.fix (.bool false)))), (3, (.one (.int IntKind.i64)))], [], 64, 44⟩, (codeAt Go.Proofs.Tryz.f9 2), []⟩ : Cut)]
theorem w9C_ok : cutsOk w9C = true := by kernel_rfl
noncomputable def w9S  : Nat × List Lf → T Gt := stepX O.real Go.Qv.tb (inl O.real Go.Qv.tb Go.Qv.fns (pureOrc (PS.also 82 spLeftF (PS.also 83 sp83f (PS.also 84 sp84f PS.none)))) (fun f => Nat.beq f 82 || Nat.beq f 83 || Nat.beq f 84) (fun _ => false) 300 14) Go.Proofs.Tryz.f9.results ([]) 0 w9C
theorem w9_9999  (t0 : List VT) (Q : Gt → Prop) : T.ob noB Q (.S (.S .E)) (w9S  (9999, [Lf.vs t0])) =
  ((codeAt Go.Proofs.Tryz.f9 2 = codeAt Go.Proofs.Tryz.f9 2) ∧ Q (.inl (2, [(Lf.vs t0), (Lf.int (0 : Int))]))) := by kernel_rfl
theorem w9_2  (t0 : List VT) (t3 : Int) (Q : Gt → Prop) : T.ob noB Q (.B (.S (.D 1 (.S (.D 1 (.S (.D 1 (.S (.D 1 (.S (.D 1 (.S (.D 1 (.S (.D 1 (.S (.D 1 (.S (.D 1 (.S (.D 1 (.S (.D 1 (.S (.D 1 (.S (.D 1 (.S (.D 1 (.S (.B (.S .E) (.S .E))))))))))))))))))))))))))))))) (.S .E)) (w9S  (2, [Lf.vs t0, Lf.int t3])) =
  (((O.real.lt t3 (O.real.vlen t0)) = true → (((O.real.inb t3 (O.real.vlen t0))).p ∧ ((((O.real.lt (400 : Int) (O.real.ilen (O.real.vn (O.real.vget t0 t3)))) = Bool.false) → True) ∧ ((((O.real.lt (400 : Int) (O.real.ilen (O.real.vn (O.real.vget t0 t3)))) = Bool.false) → True) ∧ ((((O.real.lt (400 : Int) (O.real.ilen (O.real.vn (O.real.vget t0 t3)))) = Bool.false) → True) ∧ ((((O.real.lt (400 : Int) (O.real.ilen (O.real.vn (O.real.vget t0 t3)))) = Bool.false) → True) ∧ ((((O.real.or (O.real.lt (400 : Int) (O.real.ilen (O.real.vn (O.real.vget t0 t3)))) (O.real.lt (400 : Int) (O.real.blen (O.real.vs (O.real.vget t0 t3))))) = Bool.false) → True) ∧ ((((O.real.or (O.real.lt (400 : Int) (O.real.ilen (O.real.vn (O.real.vget t0 t3)))) (O.real.lt (400 : Int) (O.real.blen (O.real.vs (O.real.vget t0 t3))))) = Bool.false) → True) ∧ ((((O.real.or (O.real.lt (400 : Int) (O.real.ilen (O.real.vn (O.real.vget t0 t3)))) (O.real.lt (400 : Int) (O.real.blen (O.real.vs (O.real.vget t0 t3))))) = Bool.false) → True) ∧ ((((O.real.or (O.real.lt (400 : Int) (O.real.ilen (O.real.vn (O.real.vget t0 t3)))) (O.real.lt (400 : Int) (O.real.blen (O.real.vs (O.real.vget t0 t3))))) = Bool.false) → True) ∧ ((((O.real.or (O.real.or (O.real.lt (400 : Int) (O.real.ilen (O.real.vn (O.real.vget t0 t3)))) (O.real.lt (400 : Int) (O.real.blen (O.real.vs (O.real.vget t0 t3))))) (O.real.lt (400 : Int) (O.real.vlen (O.real.vl (O.real.vget t0 t3))))) = Bool.false) → True) ∧ ((((O.real.or (O.real.or (O.real.lt (400 : Int) (O.real.ilen (O.real.vn (O.real.vget t0 t3)))) (O.real.lt (400 : Int) (O.real.blen (O.real.vs (O.real.vget t0 t3))))) (O.real.lt (400 : Int) (O.real.vlen (O.real.vl (O.real.vget t0 t3))))) = Bool.false) → True) ∧ ((((O.real.or (O.real.or (O.real.lt (400 : Int) (O.real.ilen (O.real.vn (O.real.vget t0 t3)))) (O.real.lt (400 : Int) (O.real.blen (O.real.vs (O.real.vget t0 t3))))) (O.real.lt (400 : Int) (O.real.vlen (O.real.vl (O.real.vget t0 t3))))) = Bool.false) → True) ∧ ((((O.real.or (O.real.or (O.real.or (O.real.lt (400 : Int) (O.real.ilen (O.real.vn (O.real.vget t0 t3)))) (O.real.lt (400 : Int) (O.real.blen (O.real.vs (O.real.vget t0 t3))))) (O.real.lt (400 : Int) (O.real.vlen (O.real.vl (O.real.vget t0 t3))))) (O.real.not (O.real.le (0 : Int) (leftI (etaO (O.real.vget t0 t3)) (400 : Int) (0 : Int))))) = Bool.false) → True) ∧ ((((O.real.or (O.real.or (O.real.or (O.real.lt (400 : Int) (O.real.ilen (O.real.vn (O.real.vget t0 t3)))) (O.real.lt (400 : Int) (O.real.blen (O.real.vs (O.real.vget t0 t3))))) (O.real.lt (400 : Int) (O.real.vlen (O.real.vl (O.real.vget t0 t3))))) (O.real.not (O.real.le (0 : Int) (leftI (etaO (O.real.vget t0 t3)) (400 : Int) (0 : Int))))) = Bool.false) → ((VT.Fine (etaO (O.real.vget t0 t3))) ∧ ((Bool.true = Bool.true) ∧ ((((O.real.eq (rParts (etaO (O.real.vget t0 t3)) (1048576 : Int)) (0 : Int)) = Bool.true) → True) ∧ ((Bool.true = Bool.true) ∧ ((((O.real.eq (rParts (etaO (O.real.vget t0 t3)) (1048576 : Int)) (0 : Int)) = Bool.true) → True) ∧ ((Bool.true = Bool.true) ∧ ((((O.real.eq (rParts (etaO (O.real.vget t0 t3)) (1048576 : Int)) (0 : Int)) = Bool.true) → True) ∧ ((((O.real.and (O.real.eq (rParts (etaO (O.real.vget t0 t3)) (1048576 : Int)) (0 : Int)) (O.real.lt (32 : Int) (rDepth (etaO (O.real.vget t0 t3))))) = Bool.true) → True) ∧ ((((O.real.and (O.real.eq (rParts (etaO (O.real.vget t0 t3)) (1048576 : Int)) (0 : Int)) (O.real.lt (32 : Int) (rDepth (etaO (O.real.vget t0 t3))))) = Bool.false) → True) ∧ True)))))))))) ∧ ((((O.real.or (O.real.or (O.real.or (O.real.lt (400 : Int) (O.real.ilen (O.real.vn (O.real.vget t0 t3)))) (O.real.lt (400 : Int) (O.real.blen (O.real.vs (O.real.vget t0 t3))))) (O.real.lt (400 : Int) (O.real.vlen (O.real.vl (O.real.vget t0 t3))))) (O.real.not (O.real.le (0 : Int) (leftI (etaO (O.real.vget t0 t3)) (400 : Int) (0 : Int))))) = Bool.false) → True) ∧ (((O.real.or (O.real.or (O.real.or (O.real.or (O.real.lt (400 : Int) (O.real.ilen (O.real.vn (O.real.vget t0 t3)))) (O.real.lt (400 : Int) (O.real.blen (O.real.vs (O.real.vget t0 t3))))) (O.real.lt (400 : Int) (O.real.vlen (O.real.vl (O.real.vget t0 t3))))) (O.real.not (O.real.le (0 : Int) (leftI (etaO (O.real.vget t0 t3)) (400 : Int) (0 : Int))))) (O.real.not (O.real.eq (O.real.isel (O.real.and (O.real.eq (rParts (etaO (O.real.vget t0 t3)) (1048576 : Int)) (0 : Int)) (O.real.lt (32 : Int) (rDepth (etaO (O.real.vget t0 t3))))) (6 : Int) (rParts (etaO (O.real.vget t0 t3)) (1048576 : Int))) (0 : Int)))) = true → Q (.inr ⟨(AV.bool Bool.false), [], [], []⟩)) ∧ ((O.real.or (O.real.or (O.real.or (O.real.or (O.real.lt (400 : Int) (O.real.ilen (O.real.vn (O.real.vget t0 t3)))) (O.real.lt (400 : Int) (O.real.blen (O.real.vs (O.real.vget t0 t3))))) (O.real.lt (400 : Int) (O.real.vlen (O.real.vl (O.real.vget t0 t3))))) (O.real.not (O.real.le (0 : Int) (leftI (etaO (O.real.vget t0 t3)) (400 : Int) (0 : Int))))) (O.real.not (O.real.eq (O.real.isel (O.real.and (O.real.eq (rParts (etaO (O.real.vget t0 t3)) (1048576 : Int)) (0 : Int)) (O.real.lt (32 : Int) (rDepth (etaO (O.real.vget t0 t3))))) (6 : Int) (rParts (etaO (O.real.vget t0 t3)) (1048576 : Int))) (0 : Int)))) = false → Q (.inl (2, [(Lf.vs t0), (Lf.int (O.real.add IntKind.i64 t3 (1 : Int)))])))))))))))))))))))) ∧ ((O.real.lt t3 (O.real.vlen t0)) = false → Q (.inr ⟨(AV.bool (O.real.le (O.real.vlen t0) (30 : Int))), [], [], []⟩))) := by kernel_rfl

noncomputable def w14C : List Cut := [(⟨9999, ⟨[(0, (.agg [(.int .i64), (.sl (.i .i64)), (.sl .s), (.sl .v)])), (1, (.one (.sl .v)))], [], 0, 72⟩, [It.code (bodyOf Go.Proofs.Tryz.f14)], []⟩ : Cut),
  (⟨5, ⟨[(1, (.one (.sl .v))), (2, (.one (.ptr 0 0))), (4, (.one (.ptr 64 0))), (5, (.one (.fix (.int IntKind.i64 (0 : Int))))), (6, (.one (.own 1153))), (17, (.one (.sl .v))), (18, (.one (.int IntKind.i64))), (19, (.one (.int IntKind.i64)))], [(0, (.cells [(.int IntKind.i64), (.sl (.i IntKind.i64)), (.sl .s), (.sl .v)])), (64, (.cells [(.fix (.int IntKind.i64 (0 : Int))), (.fix .nils), (.fix .nils), (.fix .nils)])), (1153, (.arr 2 (.i IntKind.i64)))], 1216, 72⟩, (codeAt Go.Proofs.Tryz.f14 5), []⟩ : Cut)]
theorem w14C_ok : cutsOk w14C = true := by kernel_rfl
noncomputable def w14S  : Nat × List Lf → T Gt := stepX O.real Go.Qv.tb (inl O.real Go.Qv.tb Go.Qv.fns (pureOrc (PS.also 46 spIsD (PS.also 16 spFindD (PS.also 53 sp53 (PS.also 54 sp54 (PS.also 56 sp56 PS.none)))))) (fun f => Nat.beq f 46 || Nat.beq f 16 || Nat.beq f 53 || Nat.beq f 54 || Nat.beq f 56) (fun _ => false) 300 14) Go.Proofs.Tryz.f14.results ([]) 0 w14C
theorem w14_9999  (t0 : Int) (t0_1 : List Int) (t0_2 : List ByteArray) (t0_3 : List VT) (t1 : List VT) (Q : Gt → Prop) : T.ob noB Q (.S (.B (.S .E) (.S (.S .E)))) (w14S  (9999, [Lf.int t0, Lf.is t0_1, Lf.ss t0_2, Lf.vs t0_3, Lf.vs t1])) =
  ((dOk (VT.mk t0 t0_1 t0_2 t0_3)) ∧ (((O.real.not (isD (VT.mk t0 t0_1 t0_2 t0_3))) = true → Q (.inr ⟨(AV.tup [(AV.agg [(AV.int IntKind.i64 (0 : Int)), AV.nils, AV.nils, AV.nils]), (AV.int IntKind.i64 (31 : Int))]), [], [], []⟩)) ∧ ((O.real.not (isD (VT.mk t0 t0_1 t0_2 t0_3))) = false → ((codeAt Go.Proofs.Tryz.f14 5 = codeAt Go.Proofs.Tryz.f14 5) ∧ Q (.inl (5, [(Lf.vs t1), (Lf.vs t1), (Lf.int (O.real.vlen t1)), (Lf.int (0 : Int)), (Lf.int t0), (Lf.is t0_1), (Lf.ss t0_2), (Lf.vs t0_3), (Lf.is [])])))))) := by kernel_rfl
theorem w14_5  (t1 : List VT) (t17 : List VT) (t18 : Int) (t19 : Int) (h0 : Int) (h0_1 : List Int) (h0_2 : List ByteArray) (h0_3 : List VT) (h1153 : List Int) (Q : Gt → Prop) : T.ob noB Q (.B (.S (.S (.S (.S (.S .E))))) (.B (.S (.S (.S (.S (.S .E))))) (.S (.B (.S .E) (.S (.B (.D 11 (.S .E)) (.S (.S .E)))))))) (w14S  (5, [Lf.vs t1, Lf.vs t17, Lf.int t18, Lf.int t19, Lf.int h0, Lf.is h0_1, Lf.ss h0_2, Lf.vs h0_3, Lf.is h1153])) =
  (((O.real.lt t19 t18) = true → (((O.real.inb t19 (O.real.vlen t17))).p ∧ ((dOk (VT.mk h0 h0_1 h0_2 h0_3)) ∧ ((tame (VT.mk h0 h0_1 h0_2 h0_3)) ∧ (((O.real.fit (O.real.ilen h1153) (O.real.ilen [(findDI (VT.mk h0 h0_1 h0_2 h0_3) (etaO (O.real.vget t17 t19)))]) 8)).p ∧ Q (.inl (5, [(Lf.vs t1), (Lf.vs t17), (Lf.int t18), (Lf.int (O.real.add IntKind.i64 t19 (1 : Int))), (Lf.int h0), (Lf.is h0_1), (Lf.ss h0_2), (Lf.vs h0_3), (Lf.is (O.real.iapp h1153 [(findDI (VT.mk h0 h0_1 h0_2 h0_3) (etaO (O.real.vget t17 t19)))]))]))))))) ∧ ((O.real.lt t19 t18) = false → (((O.real.not (O.real.eq (O.real.vlen t1) (1 : Int))) = true → (((O.real.inb (1 : Int) (O.real.vlen h0_3))).p ∧ ((tame (etaO (O.real.vget h0_3 (1 : Int)))) ∧ ((cntOk (etaO (O.real.vget h0_3 (1 : Int)))) ∧ ((pickOk (etaO (O.real.vget h0_3 (1 : Int))) h1153) ∧ Q (.inr ⟨(AV.tup [(AV.agg [(AV.int IntKind.i64 (VT.t (opV (etaO (O.real.vget h0_3 (1 : Int))) h1153))), (AV.sl (LS.i IntKind.i64 (VT.n (opV (etaO (O.real.vget h0_3 (1 : Int))) h1153)))), (AV.sl (LS.s (VT.s (opV (etaO (O.real.vget h0_3 (1 : Int))) h1153)))), (AV.sl (LS.v (VT.l (opV (etaO (O.real.vget h0_3 (1 : Int))) h1153))))]), (AV.int IntKind.i64 (opE (etaO (O.real.vget h0_3 (1 : Int)))))]), [], [], []⟩)))))) ∧ ((O.real.not (O.real.eq (O.real.vlen t1) (1 : Int))) = false → ((((Bool.true = Bool.true) ∧ True) ∧ (((Bool.true = Bool.true) ∧ True) ∧ (((Bool.true = Bool.true) ∧ (((O.real.inb (1 : Int) (O.real.vlen h0_3))).p ∧ True)) ∧ (((Bool.true = Bool.true) ∧ True) ∧ (((Bool.true = Bool.true) ∧ True) ∧ (((Bool.true = Bool.true) ∧ (((O.real.inb (0 : Int) (O.real.ilen h1153))).p ∧ True)) ∧ (((Bool.true = Bool.true) ∧ (((O.real.inb (0 : Int) (O.real.ilen h1153))).p ∧ True)) ∧ (((Bool.true = Bool.true) ∧ ((tame (etaO (O.real.vget h0_3 (1 : Int)))) ∧ ((ok2 (etaO (O.real.vget h0_3 (1 : Int)))) ∧ True))) ∧ (((Bool.true = Bool.true) ∧ True) ∧ (((Bool.true = Bool.true) ∧ True) ∧ (((Bool.true = Bool.true) ∧ True) ∧ (((Bool.true = Bool.true) ∧ True) ∧ (((Bool.true = Bool.true) ∧ True) ∧ (((Bool.true = Bool.true) ∧ True) ∧ True)))))))))))))) ∧ (((O.real.eq (atE (etaO (O.real.vget h0_3 (1 : Int))) (O.real.iget h1153 (0 : Int))) (0 : Int)) = true → Q (.inr ⟨(AV.tup [(AV.agg [(AV.int IntKind.i64 (VT.t (atV (etaO (O.real.vget h0_3 (1 : Int))) (O.real.iget h1153 (0 : Int))))), (AV.sl (LS.i IntKind.i64 (VT.n (atV (etaO (O.real.vget h0_3 (1 : Int))) (O.real.iget h1153 (0 : Int)))))), (AV.sl (LS.s (VT.s (atV (etaO (O.real.vget h0_3 (1 : Int))) (O.real.iget h1153 (0 : Int)))))), (AV.sl (LS.v (VT.l (atV (etaO (O.real.vget h0_3 (1 : Int))) (O.real.iget h1153 (0 : Int))))))]), (AV.int IntKind.i64 (0 : Int))]), [], [], []⟩)) ∧ ((O.real.eq (atE (etaO (O.real.vget h0_3 (1 : Int))) (O.real.iget h1153 (0 : Int))) (0 : Int)) = false → (((O.real.inb (1 : Int) (O.real.vlen h0_3))).p ∧ (((O.real.eq (O.real.vt (O.real.vget h0_3 (1 : Int))) (0 : Int)) = true → Q (.inr ⟨(AV.tup [(AV.agg [(AV.int IntKind.i64 (0 : Int)), AV.nils, AV.nils, AV.nils]), (AV.int IntKind.i64 (0 : Int))]), [], [], []⟩)) ∧ ((O.real.eq (O.real.vt (O.real.vget h0_3 (1 : Int))) (0 : Int)) = false → (((O.real.inb (1 : Int) (O.real.vlen h0_3))).p ∧ Q (.inr ⟨(AV.tup [(AV.agg [(AV.int IntKind.i64 (VT.t (nullV (O.real.vt (O.real.vget h0_3 (1 : Int)))))), (AV.sl (LS.i IntKind.i64 (VT.n (nullV (O.real.vt (O.real.vget h0_3 (1 : Int))))))), (AV.sl (LS.s (VT.s (nullV (O.real.vt (O.real.vget h0_3 (1 : Int))))))), (AV.sl (LS.v (VT.l (nullV (O.real.vt (O.real.vget h0_3 (1 : Int)))))))]), (AV.int IntKind.i64 (0 : Int))]), [], [], []⟩)))))))))))) := by kernel_rfl
end Go.Qv
/- Dictionaries: what keys lead to: contracts. No condition. -/
set_option linter.unusedVariables false
set_option linter.unusedSimpArgs false
set_option maxRecDepth 100000
namespace Go.Qv
open Go Go.RowKit Go.Proofs
/-! ### what is left of a number behind a value's parts -/
theorem loop82 (m : Nat) (t n s l) (hm : smaller (.mk t n s l) (m + 1)) (hl : l.length ≤ maxLen) (d k : Int) (i : Nat) (h1 : i ≤ l.length) : Rh (w82S m) (Ret (.int .i64 (leftL (l.drop i) k d))) (5, [.int k, .int d, .int i, .int t, .is n, .ss s, .vs l]) := by
  refine Rh.go (w82_5 m k d i t n s l _) ?_
  simp only [SQ, RhQ, eq_self, implies_true, forall_const, VT.eta, if_true, if_false]
  refine ⟨fun h => ⟨⟨by omega, by omega⟩, hm.mem (getD_mem l default (by omega)), ?_⟩, fun h => Ret.int ?_⟩
  · rw [inc hl (by omega), drop_at l default (show i < l.length by omega), leftL, if_pos h.2]
    exact loop82 m t n s l hm hl _ _ (i + 1) (by omega)
  · rcases Nat.lt_or_ge i l.length with hi | hi
    · rw [drop_at l default hi, leftL, if_neg (by omega)]
    · rw [List.drop_of_length_le hi]; rfl
termination_by l.length - i
theorem okLeftN : ∀ n, Pure1 Tryz.prog 82 (spLeft n) := pure_ind (fun xs F w cs R ha h => by
    obtain ⟨x, k, d, a, rfl, h1, h⟩ := onL3_inv h
    exact (none0 (when_inv h).1).elim) (fun m ih xs F w cs R ha h => by
    obtain ⟨x, k, d, a, rfl, h1, h⟩ := onL3_inv h
    obtain ⟨hm, h2⟩ := when_inv h
    have ha := ha.conv3 (fun v => as_V h1) (fun v h => h) (fun v h => h)
    obtain ⟨v, hv⟩ := ha.at 0 rfl
    obtain ⟨t, n, s, l⟩ := a
    refine contract (fn := Tryz.f82) (walked (PureOk.also ih (PureOk.none _)) 14) (by kernel_rfl) w82C_ok (by rfl) (by rfl) (by rfl) (by rfl) (by rfl) ha (ρ := [.int t, .is n, .ss s, .vs l, .int k, .int d]) (Rh.go (w82_9999 m t n s l k d _) ?_) h2
    simp only [SQ, RhQ, eq_self, implies_true, forall_const, VT.eta, if_true, if_false]
    rw [leftI]
    refine ⟨fun h => Ret.int (by rw [if_pos h]), fun h => ?_⟩
    rw [if_neg h]
    exact loop82 m t n s l hm hv.vlen.l _ _ 0 (by omega))
theorem okLeft : Pure1 Tryz.prog 82 spLeftF := pure_all okLeftN fun xs Q h => by
  obtain ⟨x, k, d, a, rfl, h1, h⟩ := onL3_inv h
  exact ⟨a.sz + 1, onL3_mk h1 (when_mk (Nat.lt_succ_self _) h)⟩
/-! ### may it be asked of? -/
theorem loop9 (l : List VT) (hl : l.length ≤ maxLen) (hf : fines l) (i : Nat) (h1 : i ≤ l.length) : Rh w9S (Ret (.bool ((l.drop i).all mayV && decide ((l.length : Int) ≤ 30)))) (2, [.vs l, .int i]) := by
  refine Rh.go (w9_2 l i _) ?_
  simp only [SQ, RhQ, eq_self, implies_true, forall_const, VT.eta, if_true, if_false]
  refine ⟨fun h => ?_, fun h => by rw [List.drop_of_length_le (by omega)]; exact Ret.bool (by rw [List.all_nil, Bool.true_and])⟩
  have hi : (0 : Int) ≤ i ∧ (i : Int) < l.length := ⟨by omega, h⟩
  have hfx := hf _ (getD_mem l default (i := i) (by omega))
  rw [drop_at l default (show i < l.length by omega), List.all_cons]
  refine ⟨hi, fun _ => hfx, fun h2 => Ret.bool ?_, fun h2 => ?_⟩
  · have e1 : mayV (l.getD i default) = false := by
      rw [Bool.eq_false_iff]
      intro hh
      unfold mayV checkV at hh
      simp only [Bool.and_eq_true, Bool.not_eq_true', decide_eq_true_eq, decide_eq_false_iff_not] at hh
      obtain ⟨⟨⟨⟨a, b⟩, c⟩, d⟩, e⟩ := hh
      rcases h2 with (((h2 | h2) | h2) | h2) | h2
      · exact a h2
      · exact b h2
      · exact c h2
      · exact h2 d
      · exact h2 e
    rw [e1, Bool.false_and, Bool.false_and]
  · have e1 : mayV (l.getD i default) = true := by
      unfold mayV checkV
      simp only [Bool.and_eq_true, Bool.not_eq_true', decide_eq_true_eq, decide_eq_false_iff_not]
      exact ⟨⟨⟨⟨h2.1.1.1.1, h2.1.1.1.2⟩, h2.1.1.2⟩, h2.1.2⟩, h2.2⟩
    rw [e1, Bool.true_and, inc hl (by omega)]
    exact loop9 l hl hf (i + 1) (by omega)
termination_by l.length - i
theorem okMay : Pure1 Tryz.prog 9 spMay := by
  intro xs F w cs R ha h
  obtain ⟨x, a, rfl, h1, h⟩ := onVs_inv h
  obtain ⟨hf, h2⟩ := when_inv h
  have ha := ha.conv1 (fun v => as_Vs h1)
  obtain ⟨v, hv⟩ := ha.at 0 rfl
  refine contract (fn := Tryz.f9) (walked (PureOk.also okLeft (PureOk.also ok83 (PureOk.also ok84 (PureOk.none _)))) 14) (by kernel_rfl) w9C_ok (by rfl) (by rfl) (by rfl) (by rfl) (by rfl) ha (ρ := [.vs a]) (Rh.go (w9_9999 a _) ?_) h2
  simp only [SQ, RhQ, eq_self, implies_true, forall_const, VT.eta, if_true, if_false]
  exact loop9 a hv.len hf 0 (by omega)
/-! ### copies -/
/-! ### what stands for none; a list like another one -/
/-! ### Get -/
theorem get_ret {d : VT} {x : List VT} {v : VT} {E : Eff} (h : isD d = true) (h1 : getV d x = v) (h2 : resE E = some (.tup [vcl v, .int .i64 0])) : Ret (.tup [vcl (getV d x), .int .i64 (findDE d)]) E :=
  Ret.ve h1 (side_yes 0 h).2 h2
theorem loop14 (t n s l) (x : List VT) (hd : isD (.mk t n s l) = true) (ho : getOk (.mk t n s l) x) (i : Nat) (hi : i ≤ x.length) :
    Rh w14S (Ret (.tup [vcl (getV (.mk t n s l) x), .int .i64 (findDE (.mk t n s l))])) (5, [.vs x, .vs x, .int x.length, .int i, .int t, .is n, .ss s, .vs l, .is ((x.take i).map (findDI (.mk t n s l)))]) := by
  refine Rh.go (w14_5 x x x.length i t n s l _ _) ?_
  have ho0 := ho
  obtain ⟨o1, o2, o3, o4⟩ := ho
  obtain ⟨p1, p2, p3⟩ := o4 hd
  obtain ⟨q1, q2⟩ := isD_yes hd
  have hl : l.length = 2 := o1 q1
  have hlen : ((x.take i).map (findDI (.mk t n s l))).length = i := by rw [List.length_map, List.length_take]; omega
  have e1 : side1 (.mk t n s l) = l.getD 1 default := rfl
  have hm1 := getD_mem l default (i := 1) (by omega)
  simp only [SQ, RhQ, eq_self, implies_true, forall_const, VT.eta, if_true, if_false, hlen, List.length_cons, List.length_nil]
  refine ⟨fun h => ?_, fun h => ?_⟩
  · have hi' : i < x.length := by omega
    have e := loop14 t n s l x hd ho0 (i + 1) (by omega)
    rw [take_at x default hi', List.map_append] at e
    rw [inc (n := x.length) (mlen (by omega)) hi']
    exact ⟨⟨by omega, h⟩, o1, o2, by omega, e⟩
  · have hii : i = x.length := by omega
    subst hii
    rw [List.take_length] at hlen ⊢
    refine ⟨fun h1 => ?_, fun h1 => ?_⟩
    · refine ⟨⟨by omega, by omega⟩, o2.mem hm1, fun _ => p2, getL_pickOk p1 o3 p3, ?_⟩
      obtain ⟨r1, r2⟩ := op_yes (v := l.getD 1 default) (a := x.map (findDI (.mk t n s l))) p1
      refine get_ret hd (v := opV (l.getD 1 default) (x.map (findDI (.mk t n s l)))) ?_ (by rw [r2]; rfl)
      rw [get_many hd (by omega), r1, ← e1, getL_pick p1]
    · have h1' : x.length = 1 := by omega
      obtain ⟨y, rfl⟩ : ∃ y, x = [y] := by
        match x, h1' with
        | [y], _ => exact ⟨y, rfl⟩
      have hv := get_one (x := [y]) hd rfl
      have hk0 := findDI_nn (.mk t n s l) y
      have e2 : ([y].map (findDI (.mk t n s l))).getD 0 0 = findDI (.mk t n s l) y := rfl
      have e3 : [y].getD 0 default = y := rfl
      rw [e3, e1] at hv
      rw [e2]
      have hy1 : ([y] : List VT).length = 1 := rfl
      refine ⟨⟨⟨by omega, by omega⟩, ⟨by omega, by omega⟩, ⟨by omega, by omega⟩, o2.mem hm1, part_ok2 p1⟩, fun h2 => ?_, fun h2 => ?_⟩
      · have hk : findDI (.mk t n s l) y < rCount (l.getD 1 default) := by
          refine Classical.byContradiction fun hn => ?_
          rw [(flatNo (v := l.getD 1 default) (by omega)).2.2] at h2
          exact absurd h2 (by decide)
        exact get_ret hd (v := atV (l.getD 1 default) (findDI (.mk t n s l) y)) (by rw [hv]; exact if_pos hk) rfl
      · have hk : ¬ findDI (.mk t n s l) y < rCount (l.getD 1 default) := fun hk => h2 (flatAt p1 hk0 hk).2.2.1
        have hn : getV (.mk t n s l) [y] = noneV (l.getD 1 default) := by rw [hv]; exact if_neg hk
        have hp1 : 0 ≤ (l.getD 1 default).t ∧ (l.getD 1 default).t ≤ 5 := p1
        refine ⟨⟨by omega, by omega⟩, fun h3 => ?_, fun h3 => ⟨⟨by omega, by omega⟩, ?_⟩⟩
        · exact get_ret hd (v := .mk 0 [] [] []) (by rw [hn]; exact if_neg (by omega)) rfl
        · exact get_ret hd (v := nullV (l.getD 1 default).t) (by rw [hn]; exact if_pos (by omega)) rfl
termination_by x.length - i
theorem ok14 : Pure1 Tryz.prog 14 spGetD := by
  intro xs F w cs R ha h
  obtain ⟨x, y, a, b, rfl, h1, h2, h⟩ := onVL_inv h
  obtain ⟨ho, h⟩ := when_inv h
  have ha := ha.conv2 (fun v => as_V h1) (fun v => as_Vs h2)
  obtain ⟨t, n, s, l⟩ := a
  refine contract (fn := Tryz.f14) (walked (PureOk.also ok46 (PureOk.also ok16 (PureOk.also ok53 (PureOk.also ok54 (PureOk.also ok56 (PureOk.none _)))))) 14) (by kernel_rfl) w14C_ok (by rfl) (by rfl) (by rfl) (by rfl) (by rfl) ha (ρ := [.int t, .is n, .ss s, .vs l, .vs b]) (Rh.go (w14_9999 t n s l b _) ?_) h
  simp only [SQ, RhQ, eq_self, implies_true, forall_const, VT.eta, if_true, if_false]
  refine ⟨ho.1, fun hp => ?_, fun hp => ?_⟩
  · exact Ret.ve (get_no hp) (side_no 0 hp).2 rfl
  · exact loop14 t n s l b hp ho 0 (Nat.zero_le _)
end Go.Qv
/- Dictionaries: what may be asked of is a value of small bulk; what follows. No condition. -/
set_option linter.unusedVariables false
set_option linter.unusedSimpArgs false
set_option maxRecDepth 100000
namespace Go.Qv
open Go Go.RowKit Go.Proofs
structure May (v : VT) : Prop where
  good : v.Good
  bk : v.bk ≤ 26214800
  parts : rParts v 1048576 = 0
  deep : rDepth v ≤ 32
  n400 : v.n.length ≤ 400
  s400 : v.s.length ≤ 400
  l400 : v.l.length ≤ 400
theorem may_of {v : VT} (hf : v.Fine) (h : mayV v = true) : May v := by
  unfold mayV at h
  simp only [Bool.and_eq_true, Bool.not_eq_true', decide_eq_true_eq, decide_eq_false_iff_not] at h
  obtain ⟨⟨⟨⟨h1, h2⟩, h3⟩, h4⟩, h5⟩ := h
  have hp : rParts v 1048576 = 0 ∧ rDepth v ≤ 32 := by
    unfold checkV at h5
    split at h5
    · omega
    · rename_i hh
      refine ⟨h5, ?_⟩
      have : ¬ 32 < rDepth v := fun hd => hh ⟨h5, hd⟩
      omega
  obtain ⟨b1, b2, b3⟩ := left_bd v.sz v 400 0 1048576 (Nat.le_refl _) hf.len (by omega) (by omega) (by omega) (by omega) (Nat.le_refl _) hp.1 h4
  exact ⟨parts_good 1048576 v (by omega) (Nat.le_refl _) hp.1, by omega, hp.1, hp.2, by omega, by omega, by omega⟩
theorem May.tame {v : VT} (h : May v) : Qv.tame v := by have := h.bk; unfold Qv.tame; omega
theorem mayB_of {l : List VT} (hf : fines l) (h : mayB l = true) : (∀ x ∈ l, May x) ∧ l.length ≤ 30 := by
  unfold mayB at h
  rw [Bool.and_eq_true, List.all_eq_true, decide_eq_true_eq] at h
  exact ⟨fun x hx => may_of (hf x hx) (h.1 x hx), by omega⟩
theorem bks_le {c : Nat} : ∀ {l : List VT}, (∀ x ∈ l, x.bk ≤ c) → bks l ≤ c * l.length
  | [], _ => by simp [bks]
  | x :: l, h => by
    have h1 := bks_le (l := l) (fun y hy => h y (List.mem_cons_of_mem _ hy))
    have h2 := h x List.mem_cons_self
    rw [bks_cons, List.length_cons, Nat.mul_succ]; omega
theorem dict_plain {n s l} (hg : (VT.mk 99 n s l).Good) : l.length = 2 ∧ ((isColT (l.getD 0 default).t ∧ isColT (l.getD 1 default).t) ∨ ((l.getD 0 default).t = 98 ∧ (l.getD 1 default).t = 98)) := by
  cases hg with
  | mk _ _ _ _ g1 g2 g3 g4 g5 g6 g7 g8 g9 =>
    rw [rPlain_mk] at g5
    rw [if_neg (by unfold isAtomT; omega), if_neg (by unfold rAbs; omega), if_neg (by omega), if_neg (by omega), if_neg (by omega), if_pos rfl] at g5
    exact of_decide_eq_true g5
theorem part_col {t : Int} : isColT t ↔ 0 ≤ t ∧ t ≤ 5 := by unfold isColT isVecT; omega
/-- A dictionary whose keys are a sequence. -/
structure DFacts (d : VT) : Prop where
  l2 : d.l.length = 2
  p0 : partP (d.l.getD 0 default)
  p1 : partP (side1 d)
  g0 : (d.l.getD 0 default).Good
  g1 : (side1 d).Good
  b0 : (d.l.getD 0 default).bk < d.bk
  b1 : (side1 d).bk < d.bk
  cnt : rCount (d.l.getD 0 default) = rCount (side1 d)
theorem cnt_part {v : VT} (hg : v.Good) (hp : partP v) : rCount v ≤ 65536 := by
  cases hg with
  | mk t n s l g1 g2 g3 g4 g5 g6 g7 g8 g9 =>
    have hp : 0 ≤ t ∧ t ≤ 5 := hp
    have g6 : (if t = 3 then decide ((65536 : Int) < s.length) else if 1 ≤ t ∧ t ≤ 5 then decide ((65536 : Int) < n.length) else if t = 98 then decide ((64 : Int) < s.length) || decide ((64 : Int) < l.length) else decide (t = 0) && decide ((65536 : Int) < l.length)) = false := g6
    by_cases h3 : t = 3
    · subst h3; rw [if_pos rfl] at g6; have := of_decide_eq_false g6; rw [cnt_s]; omega
    · rw [if_neg h3] at g6
      by_cases h0 : t = 0
      · subst h0
        rw [if_neg (by omega), if_neg (by omega)] at g6
        rw [cnt_l]
        have : ¬ (65536 : Int) < l.length := by
          intro hh
          rw [decide_eq_true hh, Bool.and_true] at g6
          exact absurd g6 (by decide)
        omega
      · rw [if_pos (by omega)] at g6; have := of_decide_eq_false g6; rw [cnt_n h3 ⟨by omega, hp.2⟩]; omega
theorem may_dOk {d : VT} (h : d.Good) : dOk d := by
  intro ht
  obtain ⟨t, n, s, l⟩ := d
  have ht : t = 99 := ht
  subst ht
  exact (dict_plain h).1
theorem dfacts {d : VT} (hg : d.Good) (hd : isD d = true) : DFacts d := by
  obtain ⟨t, n, s, l⟩ := d
  obtain ⟨q1, q2⟩ := isD_yes hd
  subst q1
  obtain ⟨h1, h2⟩ := dict_plain hg
  have hp0 := partB_iff.1 q2
  have hp0' : 0 ≤ (l.getD 0 default).t ∧ (l.getD 0 default).t ≤ 5 := hp0
  have hp1 : partP (l.getD 1 default) := by
    rcases h2 with h2 | h2
    · exact part_col.1 h2.2
    · omega
  have m0 := getD_mem l default (i := 0) (by omega)
  have m1 := getD_mem l default (i := 1) (by omega)
  cases hg with
  | mk _ _ _ _ g1 g2 g3 g4 g5 g6 g7 g8 g9 =>
    have hb : ∀ x ∈ l, x.bk < (VT.mk 99 n s l).bk := fun x hx => by rw [VT.bk_eq]; have := bk_mem hx; omega
    refine ⟨h1, hp0, hp1, g9 _ m0, g9 _ m1, hb _ m0, hb _ m1, ?_⟩
    rcases g8 with g8 | g8
    · omega
    · exact (g8 _ m1).symm
theorem eltV_bk {v : VT} (hp : partP v) {k : Int} (h0 : 0 ≤ k) : (eltV v k).bk ≤ v.bk + 1 := by
  unfold eltV
  split
  · rename_i hk; rw [(flatAt hp h0 hk).1]; have := at1V_bk v k; omega
  · have hb := bk_pos v
    have e0 : (VT.mk (-3) [] [⟨#[]⟩] []).bk = 2 := rfl
    have e1 : ∀ t n, (atomV t n).bk ≤ 2 := by
      intro t n
      unfold atomV
      split <;> simp [VT.bk_eq, strs, bks]
    have e2 : (VT.mk 0 [] [] []).bk = 1 := rfl
    unfold noneV nullV
    split
    · split
      · have := e1 v.t 0; omega
      · split
        · rw [e0]; omega
        · have := e1 v.t (-9223372036854775808); omega
    · rw [e2]; omega
theorem may_getOk {d : VT} {x : List VT} (h : May d) (hl : x.length ≤ 30) : getOk d x := by
  refine ⟨may_dOk h.good, h.tame, by omega, fun hd => ?_⟩
  have f := dfacts h.good hd
  refine ⟨f.p1, cnt_part f.g1 f.p1, ?_⟩
  have hb := h.bk
  have hb1 := f.b1
  have := bks_le (c := 26214801) (l := getL d x) (fun y hy => by
    obtain ⟨k, _, rfl⟩ := List.mem_map.1 hy
    have := eltV_bk f.p1 (findDI_nn d k)
    omega)
  have hlen : (getL d x).length = x.length := by unfold getL; rw [List.length_map]
  unfold tames
  have : 26214801 * (getL d x).length ≤ 26214801 * 30 := Nat.mul_le_mul_left _ (by omega)
  omega
theorem pair_bk (k v : VT) : (pairV k v).bk = k.bk + v.bk + 1 := by unfold pairV; simp [VT.bk_eq, strs, bks]
end Go.Qv
