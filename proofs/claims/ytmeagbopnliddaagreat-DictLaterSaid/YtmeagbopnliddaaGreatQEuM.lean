/- Dictionaries: what is put: definitions. No condition. -/
import Derived.Test.YtmeagbopnliddaaGreatQErM
set_option linter.unusedVariables false
set_option linter.unusedSimpArgs false
set_option maxRecDepth 100000
namespace Go.Qv
open Go Go.RowKit Go.Proofs
def clnI (l : List Int) : Prop := 0 < l.length ∧ l.length ≤ 1073741824
def clnS (l : List ByteArray) : Prop := 0 < l.length ∧ l.length ≤ 1073741824
def symB (t : Int) : Bool := decide (t = 3)
def clnOk (v : VT) : Prop := tame v ∧ v.l = [] ∧ (v.t = 3 → 0 < v.s.length) ∧ (v.t ≠ 3 → 0 < v.n.length)
def zeroV : VT := .mk 0 [] [] []
def setV (v : VT) (i : Int) (x : VT) : VT :=
  if v.t ≠ 0 ∧ x.t = -v.t then (if v.t = 3 then .mk v.t v.n (v.s.set i.toNat (x.s.getD 0 ⟨#[]⟩)) v.l else .mk v.t (v.n.set i.toNat (x.n.getD 0 0)) v.s v.l)
  else ofV ((eachs v).set i.toNat x)
def setOk (v : VT) (i : Int) (x : VT) : Prop := tame v ∧ partP v ∧ 0 ≤ i ∧ i < rCount v ∧ rCount v ≤ 65536 ∧
  (v.t ≠ 0 ∧ x.t = -v.t → v.l = [] ∧ (v.t = 3 → 0 < x.s.length ∧ rCount v = v.s.length) ∧ (v.t ≠ 3 → 0 < x.n.length ∧ rCount v = v.n.length)) ∧ tames ((eachs v).set i.toNat x)
def moreV (v x : VT) : VT := ofV (eachs v ++ [x])
def boundV (v : VT) (e : Int) : VT := if e ≠ 0 then zeroV else if 32 < rDepth v then zeroV else v
def boundE (v : VT) (e : Int) : Int := if e ≠ 0 then e else if 32 < rDepth v then 6 else 0
def appendV (v x : VT) : VT := if partB v = false ∨ x.t = 101 then zeroV else if 65536 ≤ rCount v then zeroV else if v.t ≠ 0 ∧ x.t = -v.t then joinV [v, x] else boundV (moreV v x) 0
def appendE (v x : VT) : Int := if partB v = false ∨ x.t = 101 then 31 else if 65536 ≤ rCount v then 6 else if v.t ≠ 0 ∧ x.t = -v.t then joinE [v, x] else boundE (moreV v x) 0
def elsOk (v : VT) : Prop := tame v ∧ ok2 v ∧ rCount v ≤ 1073741823
def appOk (v x : VT) : Prop := partB v = true → elsOk v ∧ joinOk [v, x] ∧ tames (eachs v ++ [x])
def keyV (d : VT) : VT := d.l.getD 0 default
/-- Where the key is there already; else. -/
noncomputable def put1 (d x y : VT) : VT := pairV (keyV d) (setV (side1 d) (findDI d x) y)
def put2 (d x y : VT) : VT := pairV (appendV (keyV d) x) (appendV (side1 d) y)
noncomputable def putV (d x y : VT) : VT := if isD d = false ∨ x.t = 101 ∨ y.t = 101 then zeroV
  else if findDI d x < rCount d then boundV (put1 d x y) 0
  else if appendE (keyV d) x ≠ 0 then zeroV else boundV (put2 d x y) (appendE (side1 d) y)
noncomputable def putE (d x y : VT) : Int := if isD d = false ∨ x.t = 101 ∨ y.t = 101 then 31
  else if findDI d x < rCount d then boundE (put1 d x y) 0
  else if appendE (keyV d) x ≠ 0 then appendE (keyV d) x else boundE (put2 d x y) (appendE (side1 d) y)
def putOk (d x y : VT) : Prop := dOk d ∧ tame d ∧ (isD d = true → appOk (keyV d) x ∧ appOk (side1 d) y ∧ (findDI d x < rCount d → setOk (side1 d) (findDI d x) y))
noncomputable def tmEl : TS := ⟨[(2, .one (.ptr 128 0))], [(128, .cells [.own 192]), (192, .arr 26 .v)], 256, 16⟩
noncomputable def spLpE : AV → List Lf → T (List Lf × Jp)
  | .fn 107 [.rp [.int .i64 t, .sl (.i .i64 n), .sl (.s s), .sl (.v l)]], [.vs h] =>
    when_ (tame (.mk t n s l)) (when_ (ok2 (.mk t n s l)) (when_ (fitJ h (.mk t n s l)) (.leaf ([.vs (appV h (eachs (.mk t n s l)))], .go))))
  | _, _ => .stuck "loop's arguments"
noncomputable def lpEl : LP := lpOf 64 Go.Proofs.Tryz.f90 2 tmEl spLpE noLp
noncomputable def seEls : List AV → List (Nat × HObj) → T Eff
  | [.agg [.int .i64 t, .sl (.i .i64 n), .sl (.s s), .sl (.v l)]], [] => whenE (elsOk (.mk t n s l)) (.leaf ⟨.own 64, [], [], [.arr 26 (.v (eachs (.mk t n s l)))]⟩)
  | _, _ => .stuck "elements"
noncomputable def spBound := onVn fun v e => .leaf (.tup [vcl (boundV v e), .int .i64 (boundE v e)])
noncomputable def seCI : List AV → List (Nat × HObj) → T Eff
  | [.sl (.i .i64 l)], [] => whenE (clnI l) (.leaf ⟨.own 64, [], [], [.arr 2 (.i .i64 l)]⟩)
  | _, _ => .stuck "clone"
noncomputable def seCS : List AV → List (Nat × HObj) → T Eff
  | [.sl (.s l)], [] => whenE (clnS l) (.leaf ⟨.own 64, [], [], [.arr 9 (.s l)]⟩)
  | _, _ => .stuck "clone"
noncomputable def seCl : List AV → List (Nat × HObj) → T Eff
  | [.agg [.int .i64 t, .sl (.i .i64 n), .sl (.s s), .sl (.v l)]], [] => whenE (clnOk (.mk t n s l)) (.ite (symB t)
      (.leaf ⟨.agg [.int .i64 t, .sl (.i .i64 n), .own 64, .sl (.v l)], [], [], [.arr 9 (.s s)]⟩)
      (.leaf ⟨.agg [.int .i64 t, .own 64, .sl (.s s), .sl (.v l)], [], [], [.arr 2 (.i .i64 n)]⟩))
  | _, _ => .stuck "clone"
def onVnV (f : VT → Int → VT → T AV) : List AV → T AV
  | [x, .int .i64 n, y] => (match asV [] x, asV [] y with | some a, some b => f a n b | _, _ => .stuck "onVnV")
  | _ => .stuck "onVnV"
def onV3V (f : VT → VT → VT → T AV) : List AV → T AV
  | [x, y, z] => (match asV [] x, asV [] y, asV [] z with | some a, some b, some c => f a b c | _, _, _ => .stuck "onV3V")
  | _ => .stuck "onV3V"
noncomputable def spSet := onVnV fun v i x => when_ (setOk v i x) (.leaf (vcl (setV v i x)))
noncomputable def spApp := onVV fun v x => when_ (appOk v x) (.leaf (.tup [vcl (appendV v x), .int .i64 (appendE v x)]))
noncomputable def spPut := onV3V fun d x y => when_ (putOk d x y) (.leaf (.tup [vcl (putV d x y), .int .i64 (putE d x y)]))

theorem onVnV_inv {f : VT → Int → VT → T AV} {xs : List AV} {Q : AV → Prop} (h : (onVnV f xs).sat Q) : ∃ x n y a b, xs = [x, .int .i64 n, y] ∧ asV [] x = some a ∧ asV [] y = some b ∧ (f a n b).sat Q := by
  unfold onVnV at h
  split at h
  · split at h
    · rename_i x n y _ _ a b h1 h2; exact ⟨x, n, y, a, b, rfl, h1, h2, h⟩
    · exact h.elim
  · exact h.elim
theorem onV3V_inv {f : VT → VT → VT → T AV} {xs : List AV} {Q : AV → Prop} (h : (onV3V f xs).sat Q) : ∃ x y z a b c, xs = [x, y, z] ∧ asV [] x = some a ∧ asV [] y = some b ∧ asV [] z = some c ∧ (f a b c).sat Q := by
  unfold onV3V at h
  split at h
  · split at h
    · rename_i x y z _ _ _ a b c h1 h2 h3; exact ⟨x, y, z, a, b, c, rfl, h1, h2, h3, h⟩
    · exact h.elim
  · exact h.elim
/-- Slices that have elements are not nil. -/
def tbG : Tb := fun t => match tb t with | some d => some { d with cl := false, fz := true } | none => none
theorem tbG_some {t : TypeId} {d : TyD} (h : tbG t = some d) : ∃ d0, tb t = some d0 ∧ d = { d0 with cl := false, fz := true } := by
  unfold tbG at h
  split at h
  · rename_i d0 hd; injection h with h; exact ⟨d0, hd, h.symm⟩
  · cases h
theorem tbG_ok : TbOk Tryz.prog tbG := by
  refine ⟨fun t d h => ?_, fun t d kt et ag ks h hk => ?_, fun t d h hk => ?_, fun t d h p hp => ?_⟩
  all_goals obtain ⟨d0, h0, rfl⟩ := tbG_some h
  · exact tbOk.1 t d0 h0
  · exact tbOk.2.1 t d0 kt et ag ks h0 hk
  · exact tbOk.2.2.1 t d0 h0 hk
  · exact tbOk.2.2.2 t d0 h0 p hp
end Go.Qv
/- Walks of dictionaries. (Printed.) -/
set_option linter.unusedVariables false
set_option maxRecDepth 100000
namespace Go.Qv
open Go Go.RowKit
noncomputable def w48C : List Cut := [(⟨9999, ⟨[(0, (.agg [(.int .i64), (.sl (.i .i64)), (.sl .s), (.sl .v)])), (1, (.one (.int IntKind.i64)))], [], 0, 17⟩, [It.code (bodyOf Go.Proofs.Tryz.f48)], []⟩ : Cut)]
theorem w48C_ok : cutsOk w48C = true := by kernel_rfl
noncomputable def w48S  : Nat × List Lf → T Gt := stepX O.real Go.Qv.tb (inl O.real Go.Qv.tb Go.Qv.fns (pureOrc (PS.also 86 sp86f PS.none)) (fun f => Nat.beq f 86) (fun _ => false) 300 14) Go.Proofs.Tryz.f48.results ([]) 0 w48C
theorem w48_9999  (t0 : Int) (t0_1 : List Int) (t0_2 : List ByteArray) (t0_3 : List VT) (t1 : Int) (Q : Gt → Prop) : T.ob noB Q (.B (.S .E) (.B (.S .E) (.S .E))) (w48S  (9999, [Lf.int t0, Lf.is t0_1, Lf.ss t0_2, Lf.vs t0_3, Lf.int t1])) =
  (((O.real.not (O.real.eq t1 (0 : Int))) = true → Q (.inr ⟨(AV.tup [(AV.agg [(AV.int IntKind.i64 (0 : Int)), AV.nils, AV.nils, AV.nils]), (AV.int IntKind.i64 t1)]), [], [], []⟩)) ∧ ((O.real.not (O.real.eq t1 (0 : Int))) = false → (((O.real.lt (32 : Int) (rDepth (VT.mk t0 t0_1 t0_2 t0_3))) = true → Q (.inr ⟨(AV.tup [(AV.agg [(AV.int IntKind.i64 (0 : Int)), AV.nils, AV.nils, AV.nils]), (AV.int IntKind.i64 (6 : Int))]), [], [], []⟩)) ∧ ((O.real.lt (32 : Int) (rDepth (VT.mk t0 t0_1 t0_2 t0_3))) = false → Q (.inr ⟨(AV.tup [(AV.agg [(AV.int IntKind.i64 t0), (AV.sl (LS.i IntKind.i64 t0_1)), (AV.sl (LS.s t0_2)), (AV.sl (LS.v t0_3))]), (AV.int IntKind.i64 (0 : Int))]), [], [], []⟩))))) := by kernel_rfl

noncomputable def w90C : List Cut := [(⟨9999, ⟨[(0, (.agg [(.int .i64), (.sl (.i .i64)), (.sl .s), (.sl .v)]))], [], 64, 16⟩, [It.code (bodyOf Go.Proofs.Tryz.f90)], []⟩ : Cut)]
theorem w90C_ok : cutsOk w90C = true := by kernel_rfl
noncomputable def w90S  : Nat × List Lf → T Gt := stepL (lpEl) O.real Go.Qv.tb (inl O.real Go.Qv.tb Go.Qv.fns (pureOrc (PS.also 67 sp67 PS.none)) (fun f => Nat.beq f 67) (fun _ => false) 300 14) Go.Proofs.Tryz.f90.results ([]) 64 w90C
theorem w90_9999  (t0 : Int) (t0_1 : List Int) (t0_2 : List ByteArray) (t0_3 : List VT) (Q : Gt → Prop) : T.ob noB Q (.S (.S (.S (.S (.S (.S .E)))))) (w90S  (9999, [Lf.int t0, Lf.is t0_1, Lf.ss t0_2, Lf.vs t0_3])) =
  ((tame (VT.mk t0 t0_1 t0_2 t0_3)) ∧ ((rfAt Go.Proofs.Tryz.f90 2 = rfAt Go.Proofs.Tryz.f90 2) ∧ ((tame (VT.mk t0 t0_1 t0_2 t0_3)) ∧ ((ok2 (VT.mk t0 t0_1 t0_2 t0_3)) ∧ ((fitJ [] (VT.mk t0 t0_1 t0_2 t0_3)) ∧ Q (.inr ⟨(AV.own 64), [], [], [(HObj.arr 26 (LS.v (appV [] (eachs (VT.mk t0 t0_1 t0_2 t0_3)))))]⟩)))))) := by kernel_rfl

noncomputable def w87eC : List Cut := [(⟨9999, ⟨[(0, (.one (.sl (.i IntKind.i64))))], [], 64, 8⟩, [It.code (bodyOf Go.Proofs.Tryz.f87)], []⟩ : Cut)]
theorem w87eC_ok : cutsOk w87eC = true := by kernel_rfl
noncomputable def w87eS  : Nat × List Lf → T Gt := stepX O.real Go.Qv.tbG (inl O.real Go.Qv.tbG Go.Qv.fns (pureOrc PS.none) (fun f => false) (fun _ => false) 300 14) Go.Proofs.Tryz.f87.results ([]) 64 w87eC
theorem w87e_9999  (t0 : List Int) (Q : Gt → Prop) : T.ob noB Q (.S (.D 1 (.S (.S .E)))) (w87eS  (9999, [Lf.is t0])) =
  (((O.real.lt (0 : Int) (O.real.ilen t0)) = Bool.true) ∧ (((O.real.fit (0 : Int) (O.real.ilen t0) 8)).p ∧ Q (.inr ⟨(AV.own 64), [], [], [(HObj.arr 2 (LS.i IntKind.i64 (O.real.iapp [] t0)))]⟩))) := by kernel_rfl

noncomputable def w88eC : List Cut := [(⟨9999, ⟨[(0, (.one (.sl .s)))], [], 64, 8⟩, [It.code (bodyOf Go.Proofs.Tryz.f88)], []⟩ : Cut)]
theorem w88eC_ok : cutsOk w88eC = true := by kernel_rfl
noncomputable def w88eS  : Nat × List Lf → T Gt := stepX O.real Go.Qv.tbG (inl O.real Go.Qv.tbG Go.Qv.fns (pureOrc PS.none) (fun f => false) (fun _ => false) 300 14) Go.Proofs.Tryz.f88.results ([]) 64 w88eC
theorem w88e_9999  (t0 : List ByteArray) (Q : Gt → Prop) : T.ob noB Q (.S (.D 1 (.S (.S .E)))) (w88eS  (9999, [Lf.ss t0])) =
  (((O.real.lt (0 : Int) (O.real.blen t0)) = Bool.true) ∧ (((O.real.fit (0 : Int) (O.real.blen t0) 16)).p ∧ Q (.inr ⟨(AV.own 64), [], [], [(HObj.arr 9 (LS.s (O.real.bapp [] t0)))]⟩))) := by kernel_rfl

noncomputable def w50eiC : List Cut := [(⟨9999, ⟨[(0, (.agg [(.int .i64), (.sl (.i .i64)), (.sl .s), (.sl .v)]))], [], 64, 34⟩, [It.code (bodyOf Go.Proofs.Tryz.f50)], []⟩ : Cut),
  (⟨3, ⟨[(1, (.one (.ptr 64 0))), (2, (.one (.ptr 128 0))), (18, (.one (.int IntKind.i64))), (19, (.one (.fix (.int IntKind.i64 (0 : Int)))))], [(64, (.cells [(.int IntKind.i64), (.own 320), (.sl .s), (.sl .v)])), (128, (.cells [(.fix (.int IntKind.i64 (0 : Int))), (.fix .nils), (.fix .nils), (.fix .nils)])), (320, (.arr 2 (.i IntKind.i64)))], 384, 34⟩, (codeAt Go.Proofs.Tryz.f50 3), []⟩ : Cut)]
theorem w50eiC_ok : cutsOk w50eiC = true := by kernel_rfl
noncomputable def w50eiS  : Nat × List Lf → T Gt := stepX O.real Go.Qv.tb (inl O.real Go.Qv.tb Go.Qv.fns (effOrc (fun f => Nat.beq f 87) (ES.also 87 seCI ES.none) (PS.also 50 spNo (PS.also 88 sp88 (PS.also 89 sp89 PS.none)))) (fun f => Nat.beq f 87 || Nat.beq f 50 || Nat.beq f 88 || Nat.beq f 89) (fun _ => false) 300 14) Go.Proofs.Tryz.f50.results ([]) 64 w50eiC
theorem w50ei_9999  (t0 : Int) (t0_1 : List Int) (t0_2 : List ByteArray) (t0_3 : List VT) (Q : Gt → Prop) : T.ob noB Q (.S (.S (.S .E))) (w50eiS  (9999, [Lf.int t0, Lf.is t0_1, Lf.ss t0_2, Lf.vs t0_3])) =
  ((((Bool.true = Bool.true) ∧ True) ∧ (((Bool.true = Bool.true) ∧ True) ∧ (((Bool.true = Bool.true) ∧ ((clnI t0_1) ∧ True)) ∧ (((Bool.true = Bool.true) ∧ True) ∧ (((Bool.true = Bool.true) ∧ True) ∧ (((Bool.true = Bool.true) ∧ ((Nat.le (List.length t0_2) 1073741824) ∧ True)) ∧ (((Bool.true = Bool.true) ∧ True) ∧ (((Bool.true = Bool.true) ∧ True) ∧ (((Bool.true = Bool.true) ∧ ((Nat.le (List.length t0_3) 1073741824) ∧ True)) ∧ (((Bool.true = Bool.true) ∧ True) ∧ (((Bool.true = Bool.true) ∧ True) ∧ (((Bool.true = Bool.true) ∧ True) ∧ (((Bool.true = Bool.true) ∧ True) ∧ (((Bool.true = Bool.true) ∧ True) ∧ (((Bool.true = Bool.true) ∧ True) ∧ True))))))))))))))) ∧ ((codeAt Go.Proofs.Tryz.f50 3 = codeAt Go.Proofs.Tryz.f50 3) ∧ Q (.inl (3, [(Lf.int (O.real.vlen t0_3)), (Lf.int t0), (Lf.ss t0_2), (Lf.vs t0_3), (Lf.is t0_1)])))) := by kernel_rfl
theorem w50ei_3  (t18 : Int) (h64 : Int) (h64_1 : List ByteArray) (h64_2 : List VT) (h320 : List Int) (Q : Gt → Prop) : T.ob noB Q (.B .E (.S .E)) (w50eiS  (3, [Lf.int t18, Lf.int h64, Lf.ss h64_1, Lf.vs h64_2, Lf.is h320])) =
  (((O.real.lt (0 : Int) t18) = true → (Bool.false = Bool.true)) ∧ ((O.real.lt (0 : Int) t18) = false → Q (.inr ⟨(AV.agg [(AV.int IntKind.i64 h64), (AV.own 64), (AV.sl (LS.s h64_1)), (AV.sl (LS.v h64_2))]), [], [], [(HObj.arr 2 (LS.i IntKind.i64 h320))]⟩))) := by kernel_rfl

noncomputable def w50esC : List Cut := [(⟨9999, ⟨[(0, (.agg [(.int .i64), (.sl (.i .i64)), (.sl .s), (.sl .v)]))], [], 64, 34⟩, [It.code (bodyOf Go.Proofs.Tryz.f50)], []⟩ : Cut),
  (⟨3, ⟨[(1, (.one (.ptr 64 0))), (2, (.one (.ptr 128 0))), (18, (.one (.int IntKind.i64))), (19, (.one (.fix (.int IntKind.i64 (0 : Int)))))], [(64, (.cells [(.int IntKind.i64), (.sl (.i IntKind.i64)), (.own 512), (.sl .v)])), (128, (.cells [(.fix (.int IntKind.i64 (0 : Int))), (.fix .nils), (.fix .nils), (.fix .nils)])), (512, (.arr 9 .s))], 576, 34⟩, (codeAt Go.Proofs.Tryz.f50 3), []⟩ : Cut)]
theorem w50esC_ok : cutsOk w50esC = true := by kernel_rfl
noncomputable def w50esS  : Nat × List Lf → T Gt := stepX O.real Go.Qv.tb (inl O.real Go.Qv.tb Go.Qv.fns (effOrc (fun f => Nat.beq f 88) (ES.also 88 seCS ES.none) (PS.also 50 spNo (PS.also 87 sp87 (PS.also 89 sp89 PS.none)))) (fun f => Nat.beq f 88 || Nat.beq f 50 || Nat.beq f 87 || Nat.beq f 89) (fun _ => false) 300 14) Go.Proofs.Tryz.f50.results ([]) 64 w50esC
theorem w50es_9999  (t0 : Int) (t0_1 : List Int) (t0_2 : List ByteArray) (t0_3 : List VT) (Q : Gt → Prop) : T.ob noB Q (.S (.S (.S .E))) (w50esS  (9999, [Lf.int t0, Lf.is t0_1, Lf.ss t0_2, Lf.vs t0_3])) =
  ((((Bool.true = Bool.true) ∧ True) ∧ (((Bool.true = Bool.true) ∧ True) ∧ (((Bool.true = Bool.true) ∧ ((Nat.le (List.length t0_1) 1073741824) ∧ True)) ∧ (((Bool.true = Bool.true) ∧ True) ∧ (((Bool.true = Bool.true) ∧ True) ∧ (((Bool.true = Bool.true) ∧ ((clnS t0_2) ∧ True)) ∧ (((Bool.true = Bool.true) ∧ True) ∧ (((Bool.true = Bool.true) ∧ True) ∧ (((Bool.true = Bool.true) ∧ ((Nat.le (List.length t0_3) 1073741824) ∧ True)) ∧ (((Bool.true = Bool.true) ∧ True) ∧ (((Bool.true = Bool.true) ∧ True) ∧ (((Bool.true = Bool.true) ∧ True) ∧ (((Bool.true = Bool.true) ∧ True) ∧ (((Bool.true = Bool.true) ∧ True) ∧ (((Bool.true = Bool.true) ∧ True) ∧ True))))))))))))))) ∧ ((codeAt Go.Proofs.Tryz.f50 3 = codeAt Go.Proofs.Tryz.f50 3) ∧ Q (.inl (3, [(Lf.int (O.real.vlen t0_3)), (Lf.int t0), (Lf.is t0_1), (Lf.vs t0_3), (Lf.ss t0_2)])))) := by kernel_rfl
theorem w50es_3  (t18 : Int) (h64 : Int) (h64_1 : List Int) (h64_2 : List VT) (h512 : List ByteArray) (Q : Gt → Prop) : T.ob noB Q (.B .E (.S .E)) (w50esS  (3, [Lf.int t18, Lf.int h64, Lf.is h64_1, Lf.vs h64_2, Lf.ss h512])) =
  (((O.real.lt (0 : Int) t18) = true → (Bool.false = Bool.true)) ∧ ((O.real.lt (0 : Int) t18) = false → Q (.inr ⟨(AV.agg [(AV.int IntKind.i64 h64), (AV.sl (LS.i IntKind.i64 h64_1)), (AV.own 64), (AV.sl (LS.v h64_2))]), [], [], [(HObj.arr 9 (LS.s h512))]⟩))) := by kernel_rfl

theorem wER (h : List VT) (k : Int) (xt : Int) (xn : List Int) (xs : List ByteArray) (xl : List VT) (Q : List Lf × Jp → Prop) : T.ob noB Q (.S (.S .E)) (roundT O.real Go.Qv.tb (inl O.real Go.Qv.tb Go.Qv.fns noOrc noKnown (fun _ => false) 300 14) (rfA (rfAt Go.Proofs.Tryz.f90 2)) (rfB (rfAt Go.Proofs.Tryz.f90 2)) 64 tmEl [(8, .agg [.int .i64 xt, .sl (.i .i64 xn), .sl (.s xs), .sl (.v xl)]), (7, .int .i64 k)] (tmEl.inst [.vs h])) =
  ((((Bool.true = Bool.true) ∧ True) ∧ (((Bool.true = Bool.true) ∧ True) ∧ (((Bool.true = Bool.true) ∧ True) ∧ (((Bool.true = Bool.true) ∧ True) ∧ (((Bool.true = Bool.true) ∧ (((O.real.fit (O.real.vlen h) (1 : Int) 80)).p ∧ True)) ∧ (((Bool.true = Bool.true) ∧ (((O.real.inb (O.real.vlen h) (O.real.vlen (O.real.vapp h [(VT.mk (0 : Int) [] [] [])])))).p ∧ True)) ∧ (((Bool.true = Bool.true) ∧ (((O.real.inb (O.real.vlen h) (O.real.vlen (O.real.vapp h [(VT.mk (0 : Int) [] [] [])])))).p ∧ True)) ∧ (((Bool.true = Bool.true) ∧ True) ∧ True)))))))) ∧ Q ([(Lf.vs (O.real.vset (O.real.vapp h [(VT.mk (0 : Int) [] [] [])]) (O.real.vlen h) (VT.mk xt xn xs xl)))], Jp.go)) := by kernel_rfl
end Go.Qv
/- Dictionaries: copies and elements that are written to: contracts. No condition. -/
set_option linter.unusedVariables false
set_option linter.unusedSimpArgs false
set_option maxRecDepth 100000
namespace Go.Qv
open Go Go.RowKit Go.Proofs
section
variable {P : Program} {hs : List (Nat × HObj)} {β : Nat → Option Value} {F : Nat → Prop} {w : World}
theorem flow_effL {lp : LP} (hlp : LpOk none P 64 lp) {tb : Tb} {orc : Orc} {fns : FuncId → Option Func} (hm : P.follows .mixedOrders = true) (htb : TbOk P tb) (horc : OrcOk P orc (fun _ => True)) (hfn : FnsOk P fns) {f : FuncId} {fn : Func} (hf : fns f = some fn)
    {cuts : List Cut} (hok : cutsOk cuts = true) {e0 : Nat} {c0 : Cut} (hc0 : findCut e0 cuts = some c0) (hpre : c0.pre = [.code (bodyOf fn)]) {xs ys : List AV} {hs' : List (Nat × HObj)} {ρ : List Lf}
    (hys : renL (renF (sig0 64) 5) xs = some ys) (hhs : renHs (sig0 64) hs = some hs')
    (hin : c0.tm.inst ρ = ⟨zipArgs 0 ys, [], hs', 64, fn.ntmps⟩) (hnt : Nat.ble xs.length fn.ntmps = true)
    {cs : Array Value} {R : Value → World → Prop} (hp : Pre hs 64 β F w) (hlen : cs.size = xs.length) (hvr : ∀ (j : Nat) (v : Value) (x : AV), cs[j]? = some v → xs[j]? = some x → VR β F w v x)
    {K : Eff → Prop} (hr : Rh (stepL lp O.real tb orc fn.results hs 64 cuts) K (e0, ρ)) (hK : ∀ E, K E → ∀ v' β' F' w', Post hs 64 E β F w v' β' F' w' → R v' w') : Goes P f cs w R := by
  obtain ⟨n, hfs⟩ := hr
  have hlt : ∀ p ∈ hs, p.1 < 64 := fun p hp' => by
    obtain ⟨q1, q2⟩ := renHs_ok hhs
    obtain ⟨j, hj⟩ := q2 p hp'
    exact (sig0_ok hj).1
  refine walk_goes (md := true) hfn hf hp hlen hvr hys hhs hnt ?_
  obtain ⟨c, h1, h2⟩ := flow_cutL (fn := fn) (R := R) hlp hm htb horc hp hlt hok n _ (FS.imp' (fun E h => hK E h) hfs)
  rw [hc0] at h1
  injection h1 with h1
  subst h1
  intro β2 F2 a2 w2 h3
  rw [← hin] at h3
  have h4 := (h2 β2 F2 a2 w2 h3).post
  rw [hpre] at h4
  have e : PostI none P (HofC none P (Qx P fn R) cuts) (Qx P fn R) [.code (bodyOf fn)] = PostI none P (fun _ _ _ => False) (Qx P fn R) [.code (bodyOf fn)] := PostI_marks (by simp [marksOf])
  rw [e] at h4
  exact h4
end
/-! ### bound -/
theorem bnd_bad {v : VT} {e : Int} (h : e ≠ 0) : boundV v e = zeroV ∧ boundE v e = e := by unfold boundV boundE; rw [if_pos h, if_pos h]; exact ⟨rfl, rfl⟩
theorem bnd_deep {v : VT} {e : Int} (h : ¬ e ≠ 0) (h2 : 32 < rDepth v) : boundV v e = zeroV ∧ boundE v e = 6 := by unfold boundV boundE; rw [if_neg h, if_neg h, if_pos h2, if_pos h2]; exact ⟨rfl, rfl⟩
theorem bnd_ok {v : VT} {e : Int} (h : ¬ e ≠ 0) (h2 : ¬ 32 < rDepth v) : boundV v e = v ∧ boundE v e = 0 := by unfold boundV boundE; rw [if_neg h, if_neg h, if_neg h2, if_neg h2]; exact ⟨rfl, rfl⟩
theorem okBound : Pure1 Tryz.prog 48 spBound := by
  intro xs F w cs R ha h
  obtain ⟨x, e, a, rfl, h1, h⟩ := onVn_inv h
  have ha := ha.conv2 (fun v => as_V h1) (fun v h => h)
  obtain ⟨t, n, s, l⟩ := a
  refine contract (fn := Tryz.f48) (walked (PureOk.also ok86 (PureOk.none _)) 14) (by kernel_rfl) w48C_ok (by rfl) (by rfl) (by rfl) (by rfl) (by rfl) ha (ρ := [.int t, .is n, .ss s, .vs l, .int e]) (Rh.go (w48_9999 t n s l e _) ?_) h
  simp only [SQ, RhQ, eq_self, implies_true, forall_const, VT.eta, if_true, if_false]
  refine ⟨fun h => Ret.ve (bnd_bad h).1 (bnd_bad h).2 rfl, fun h => ⟨fun h2 => ?_, fun h2 => ?_⟩⟩
  · have h : ¬ e ≠ 0 := by omega
    exact Ret.ve (bnd_deep h h2).1 (bnd_deep h h2).2 rfl
  · have h : ¬ e ≠ 0 := by omega
    exact Ret.ve (bnd_ok h (by omega)).1 (bnd_ok h (by omega)).2 rfl
/-! ### elements -/
theorem roundEl (h : List VT) (hl : h.length ≤ 1073741823) (k : Int) (t n s l) {Q : List Lf × Jp → Prop} (hQ : Q ([.vs (h ++ [.mk t n s l])], .go)) : Sat (roundT O.real Go.Qv.tb (inl O.real Go.Qv.tb Go.Qv.fns noOrc noKnown (fun _ => false) 300 14) (rfA (rfAt Tryz.f90 2)) (rfB (rfAt Tryz.f90 2)) 64 tmEl [(8, .agg [.int .i64 t, .sl (.i .i64 n), .sl (.s s), .sl (.v l)]), (7, .int .i64 k)] (tmEl.inst [.vs h])) Q := by
  refine ⟨?_⟩
  have e := wER h k t n s l Q
  generalize roundT O.real Go.Qv.tb (inl O.real Go.Qv.tb Go.Qv.fns noOrc noKnown (fun _ => false) 300 14) (rfA (rfAt Tryz.f90 2)) (rfB (rfAt Tryz.f90 2)) 64 tmEl [(8, .agg [.int .i64 t, .sl (.i .i64 n), .sl (.s s), .sl (.v l)]), (7, .int .i64 k)] (tmEl.inst [.vs h]) = X at e ⊢
  refine ob_of noB_ok _ _ e ?_
  simp only [SQ, RhQ, eq_self, implies_true, forall_const, VT.eta, if_true, if_false, List.length_append, List.length_cons, List.length_nil, set_new]
  repeat' apply And.intro
  all_goals first | exact hQ | omega
theorem lpEl_ok : LpOk none Tryz.prog 64 lpEl := lpOf_ok noLp_ok (fun c hC hB hn hmd y ρ K hs Q hQ β F a w hrs hy => by
  unfold spLpE at hs
  split at hs
  · rename_i t n s l hh
    obtain ⟨ht, h2, hf, hK⟩ := hs
    have ht : tame (.mk t n s l) := ht
    have h2 : ok2 (.mk t n s l) := h2
    have hf : fitJ hh (.mk t n s l) := hf
    unfold fitJ at hf
    have h0 := rCount_nn (.mk t n s l)
    obtain ⟨c0, hc0⟩ : ∃ c0, c0 = rCount (.mk t n s l) := ⟨_, rfl⟩
    have e : rfAt Tryz.f90 2 = .rangeFunc (.tmp 6) #[7, 8] (rfA (rfAt Tryz.f90 2)) (rfB (rfAt Tryz.f90 2)) := by kernel_rfl
    have e2 : rfF (rfAt Tryz.f90 2) = .tmp 6 := by kernel_rfl
    rw [e2] at hy
    rw [e]
    refine each_ok mixed tbOk (walked0 (kn := noKnown) (md := fun _ => false) 14) fnsOk hC hB hmd (by decide) (tm := tmEl) (ρs := fun k => [.vs (hh ++ (eachs (.mk t n s l)).take k)]) (N := (rCount (.mk t n s l)).toNat) (els := elsV (.mk t n s l)) (fun k => rfl) (fng := Tryz.f107) (by kernel_rfl) (each107 ht h2 (by omega)) (fun k => by rfl) (fun k => by rfl) (fun k => by rfl) (by decide) (X := fun _ _ => False) (M := (rCount (.mk t n s l)).toNat) (fun k x0 x1 hk hM hx => ?_) (fun _ β F a w h => hQ _ _ hK β F a w ?_) (fun r j h => h.elim) (by simpa using hrs) hy
    · rw [hn]
      injection hx with hx0 hx
      injection hx with hx1 hx
      subst hx0; subst hx1
      have hlt : ((eachs (.mk t n s l)).take k).length = k := by rw [List.length_take, eachs_len]; omega
      refine roundEl (hh ++ (eachs (.mk t n s l)).take k) (by rw [List.length_append, hlt]; omega) k (VT.t (atV (.mk t n s l) k)) (VT.n (atV (.mk t n s l) k)) (VT.s (atV (.mk t n s l) k)) (VT.l (atV (.mk t n s l) k)) (.inl ⟨hk, rfl, ?_⟩)
      rw [VT.eta, List.append_assoc, ← eachs_take hk]
    · rw [show appV hh (eachs (.mk t n s l)) = hh ++ (eachs (.mk t n s l)).take (rCount (.mk t n s l)).toNat by rw [List.take_of_length_le (by rw [eachs_len]; exact Nat.le_refl _)]; rfl]
      exact h
  · exact hs.elim)
theorem oke90 : Eff1 Tryz.prog 90 seEls := by
  intro xs hs β F w cs R hp hl hv h
  unfold seEls at h
  split at h
  · rename_i t n s l
    obtain ⟨hn, h⟩ := whenE_inv h
    obtain ⟨h1, h2, h3⟩ : elsOk (.mk t n s l) := hn
    refine flow_effL lpEl_ok (fn := Tryz.f90) (ρ := [.int t, .is n, .ss s, .vs l]) mixed tbOk (walked (PureOk.also ok67 (PureOk.none _)) 14) fnsOk (by kernel_rfl) w90C_ok (e0 := 9999) (by rfl) (by rfl) (ys := [.agg [.int .i64 t, .sl (.i .i64 n), .sl (.s s), .sl (.v l)]]) (hs' := []) (by rfl) (by rfl) (by rfl) (by rfl) hp hl hv (K := fun E => E = ⟨.own 64, [], [], [.arr 26 (.v (eachs (.mk t n s l)))]⟩) (Rh.go (w90_9999 t n s l _) ?_) (fun E hE => by subst hE; exact h)
    refine ⟨h1, rfl, h1, h2, ?_, rfl⟩
    show ((0 : Nat) : Int) + rCount (.mk t n s l) ≤ 1073741824
    omega
  · exact h.elim
/-! ### copies that are written to -/
theorem oke87 : Eff1 Tryz.prog 87 seCI := by
  intro xs hs β F w cs R hp hl hv h
  unfold seCI at h
  split at h
  · rename_i l
    obtain ⟨hn, h⟩ := whenE_inv h
    obtain ⟨h1, h2⟩ : clnI l := hn
    refine flow_eff (fn := Tryz.f87) (ρ := [.is l]) mixed tbG_ok (inl_ok mixed tbG_ok fnsOk (pureOrc_ok (PureOk.none _)) 14) fnsOk (by kernel_rfl) w87eC_ok (e0 := 9999) (by rfl) (by rfl) (ys := [.sl (.i .i64 l)]) (hs' := []) (by rfl) (by rfl) (by rfl) (by rfl) hp hl hv (K := fun E => E = ⟨.own 64, [], [], [.arr 2 (.i .i64 l)]⟩) (Rh.go (w87e_9999 l _) ?_) (fun E hE => by subst hE; exact h)
    simp only [SQ, RhQ, eq_self, implies_true, forall_const, VT.eta, if_true, if_false, List.nil_append]
    exact ⟨by omega, by omega⟩
  · exact h.elim
theorem oke88 : Eff1 Tryz.prog 88 seCS := by
  intro xs hs β F w cs R hp hl hv h
  unfold seCS at h
  split at h
  · rename_i l
    obtain ⟨hn, h⟩ := whenE_inv h
    obtain ⟨h1, h2⟩ : clnS l := hn
    refine flow_eff (fn := Tryz.f88) (ρ := [.ss l]) mixed tbG_ok (inl_ok mixed tbG_ok fnsOk (pureOrc_ok (PureOk.none _)) 14) fnsOk (by kernel_rfl) w88eC_ok (e0 := 9999) (by rfl) (by rfl) (ys := [.sl (.s l)]) (hs' := []) (by rfl) (by rfl) (by rfl) (by rfl) hp hl hv (K := fun E => E = ⟨.own 64, [], [], [.arr 9 (.s l)]⟩) (Rh.go (w88e_9999 l _) ?_) (fun E hE => by subst hE; exact h)
    simp only [SQ, RhQ, eq_self, implies_true, forall_const, VT.eta, if_true, if_false, List.nil_append]
    exact ⟨by omega, by omega⟩
  · exact h.elim
theorem okNo {f : FuncId} : Pure1 Tryz.prog f spNo := fun _ _ _ _ _ _ h => h.elim
theorem oke50 : Eff1 Tryz.prog 50 seCl := by
  intro xs hs β F w cs R hp hl hv h
  unfold seCl at h
  split at h
  · rename_i t n s l
    obtain ⟨hn, h⟩ := whenE_inv h
    obtain ⟨h1, h2, h3, h4⟩ : clnOk (.mk t n s l) := hn
    have h2 : l = [] := h2
    subst h2
    have hnl := h1.n
    have hsl := h1.s
    by_cases ht : t = 3
    · have h := h.1 (decide_eq_true ht)
      refine flow_eff (fn := Tryz.f50) (ρ := [.int t, .is n, .ss s, .vs []]) mixed tbOk (inl_ok mixed tbOk fnsOk (effOrc_ok (EffOk.also oke88 (EffOk.none _)) (PureOk.also okNo (PureOk.also ok87 (PureOk.also ok89 (PureOk.none _))))) 14) fnsOk (by kernel_rfl) w50esC_ok (e0 := 9999) (by rfl) (by rfl) (ys := [.agg [.int .i64 t, .sl (.i .i64 n), .sl (.s s), .sl (.v [])]]) (hs' := []) (by rfl) (by rfl) (by rfl) (by rfl) hp hl hv (K := fun E => E = ⟨.agg [.int .i64 t, .sl (.i .i64 n), .own 64, .sl (.v [])], [], [], [.arr 9 (.s s)]⟩) (Rh.go (w50es_9999 t n s [] _) ?_) (fun E hE => by subst hE; exact h)
      simp only [SQ, RhQ, eq_self, implies_true, forall_const, VT.eta, if_true, if_false, List.length_nil]
      have hc : clnS s := ⟨h3 ht, hsl⟩
      have e : Rh w50esS (fun E => E = ⟨.agg [.int .i64 t, .sl (.i .i64 n), .own 64, .sl (.v [])], [], [], [.arr 9 (.s s)]⟩) (3, [.int ((0 : Nat) : Int), .int t, .is n, .vs [], .ss s]) := by
        refine Rh.go (w50es_3 _ t n [] s _) ?_
        simp only [SQ, RhQ, eq_self, implies_true, forall_const, VT.eta, if_true, if_false]
        exact fun h => absurd h (by omega)
      repeat' apply And.intro
      all_goals first | exact e | exact hc.1 | exact hc.2 | exact hnl | exact Nat.zero_le _
    · have h := h.2 (decide_eq_false ht)
      refine flow_eff (fn := Tryz.f50) (ρ := [.int t, .is n, .ss s, .vs []]) mixed tbOk (inl_ok mixed tbOk fnsOk (effOrc_ok (EffOk.also oke87 (EffOk.none _)) (PureOk.also okNo (PureOk.also ok88 (PureOk.also ok89 (PureOk.none _))))) 14) fnsOk (by kernel_rfl) w50eiC_ok (e0 := 9999) (by rfl) (by rfl) (ys := [.agg [.int .i64 t, .sl (.i .i64 n), .sl (.s s), .sl (.v [])]]) (hs' := []) (by rfl) (by rfl) (by rfl) (by rfl) hp hl hv (K := fun E => E = ⟨.agg [.int .i64 t, .own 64, .sl (.s s), .sl (.v [])], [], [], [.arr 2 (.i .i64 n)]⟩) (Rh.go (w50ei_9999 t n s [] _) ?_) (fun E hE => by subst hE; exact h)
      simp only [SQ, RhQ, eq_self, implies_true, forall_const, VT.eta, if_true, if_false, List.length_nil]
      have hc : clnI n := ⟨h4 ht, hnl⟩
      have e : Rh w50eiS (fun E => E = ⟨.agg [.int .i64 t, .own 64, .sl (.s s), .sl (.v [])], [], [], [.arr 2 (.i .i64 n)]⟩) (3, [.int ((0 : Nat) : Int), .int t, .ss s, .vs [], .is n]) := by
        refine Rh.go (w50ei_3 _ t s [] n _) ?_
        simp only [SQ, RhQ, eq_self, implies_true, forall_const, VT.eta, if_true, if_false]
        exact fun h => absurd h (by omega)
      repeat' apply And.intro
      all_goals first | exact e | exact hc.1 | exact hc.2 | exact hsl | exact Nat.zero_le _
  · exact h.elim
end Go.Qv
