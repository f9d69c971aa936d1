/- Walks of operations on one value, 6. (Printed.) -/
import Derived.Test.YteaeogofidakiaaGreatQYw5M
set_option linter.unusedVariables false
set_option maxRecDepth 100000
namespace Go.Qv
open Go Go.RowKit
noncomputable def w99eC : List Cut := [(⟨9999, ⟨[(0, (.one (.sl (.i IntKind.i64))))], [], 64, 8⟩, [It.code (bodyOf Go.Proofs.Tryz.f99)], []⟩ : Cut)]
theorem w99eC_ok : cutsOk w99eC = true := by kernel_rfl
noncomputable def w99eS  : Nat × List Lf → T Gt := stepX O.real Go.Qv.tbN (inl O.real Go.Qv.tbN Go.Qv.fns (pureOrc PS.none) (fun f => false) (fun _ => false) 300 14) Go.Proofs.Tryz.f99.results ([]) 64 w99eC
theorem w99e_9999  (t0 : List Int) (Q : Gt → Prop) : T.ob noB Q (.B (.D 1 (.S .E)) (.D 1 (.S (.S .E)))) (w99eS  (9999, [Lf.is t0])) =
  ((((O.real.eq (O.real.ilen t0) (0 : Int)) = Bool.true) → Q (.inr ⟨AV.nils, [], [], []⟩)) ∧ (True → (((O.real.fit (0 : Int) (O.real.ilen t0) 8)).p ∧ Q (.inr ⟨(AV.own 64), [], [], [(HObj.arr 2 (LS.i IntKind.i64 (O.real.iapp [] t0)))]⟩)))) := by kernel_rfl

noncomputable def w100eC : List Cut := [(⟨9999, ⟨[(0, (.one (.sl .s)))], [], 64, 8⟩, [It.code (bodyOf Go.Proofs.Tryz.f100)], []⟩ : Cut)]
theorem w100eC_ok : cutsOk w100eC = true := by kernel_rfl
noncomputable def w100eS  : Nat × List Lf → T Gt := stepX O.real Go.Qv.tbN (inl O.real Go.Qv.tbN Go.Qv.fns (pureOrc PS.none) (fun f => false) (fun _ => false) 300 14) Go.Proofs.Tryz.f100.results ([]) 64 w100eC
theorem w100e_9999  (t0 : List ByteArray) (Q : Gt → Prop) : T.ob noB Q (.B (.D 1 (.S .E)) (.D 1 (.S (.S .E)))) (w100eS  (9999, [Lf.ss t0])) =
  ((((O.real.eq (O.real.blen t0) (0 : Int)) = Bool.true) → Q (.inr ⟨AV.nils, [], [], []⟩)) ∧ (True → (((O.real.fit (0 : Int) (O.real.blen t0) 16)).p ∧ Q (.inr ⟨(AV.own 64), [], [], [(HObj.arr 9 (LS.s (O.real.bapp [] t0)))]⟩)))) := by kernel_rfl

noncomputable def w8eC : List Cut := [(⟨9999, ⟨[(0, (.agg [(.int .i64), (.sl (.i .i64)), (.sl .s), (.sl .v)]))], [], 64, 35⟩, [It.code (bodyOf Go.Proofs.Tryz.f8)], []⟩ : Cut),
  (⟨3, ⟨[(1, (.one (.ptr 64 0))), (2, (.one (.ptr 128 0))), (3, (.one (.ptr 896 0))), (4, (.one (.fix (.int IntKind.i64 (0 : Int)))))], [(64, (.cells [(.int IntKind.i64), (.sl (.i IntKind.i64)), (.sl .s), (.sl .v)])), (128, (.cells [(.fix (.int IntKind.i64 (0 : Int))), (.fix .nils), (.fix .nils), (.fix .nils)])), (896, (.cells [(.int IntKind.i64), (.own 512), (.own 768), (.fix .nils)])), (512, (.arr 2 (.i IntKind.i64))), (768, (.arr 9 .s))], 960, 35⟩, (codeAt Go.Proofs.Tryz.f8 3), []⟩ : Cut)]
theorem w8eC_ok : cutsOk w8eC = true := by kernel_rfl
noncomputable def w8eS  : Nat × List Lf → T Gt := stepX O.real Go.Qv.tb (inl O.real Go.Qv.tb Go.Qv.fns (pureOrc (PS.also 8 spNo PS.none)) (fun f => Nat.beq f 8) (fun _ => false) 300 14) Go.Proofs.Tryz.f8.results ([]) 64 w8eC
theorem w8e_9999  (t0 : Int) (t0_1 : List Int) (t0_2 : List ByteArray) (t0_3 : List VT) (Q : Gt → Prop) : T.ob noB Q (.S (.S (.S .E))) (w8eS  (9999, [Lf.int t0, Lf.is t0_1, Lf.ss t0_2, Lf.vs t0_3])) =
  ((((Bool.true = Bool.true) ∧ True) ∧ (((Bool.true = Bool.true) ∧ True) ∧ (((Bool.true = Bool.true) ∧ True) ∧ (((Bool.true = Bool.true) ∧ True) ∧ (((Bool.true = Bool.true) ∧ True) ∧ (((Bool.true = Bool.true) ∧ (((O.real.fit (0 : Int) (O.real.ilen t0_1) 8)).p ∧ True)) ∧ (((Bool.true = Bool.true) ∧ True) ∧ (((Bool.true = Bool.true) ∧ True) ∧ (((Bool.true = Bool.true) ∧ True) ∧ (((Bool.true = Bool.true) ∧ (((O.real.fit (0 : Int) (O.real.blen t0_2) 16)).p ∧ True)) ∧ (((Bool.true = Bool.true) ∧ True) ∧ (((Bool.true = Bool.true) ∧ True) ∧ (((Bool.true = Bool.true) ∧ True) ∧ True))))))))))))) ∧ ((codeAt Go.Proofs.Tryz.f8 3 = codeAt Go.Proofs.Tryz.f8 3) ∧ Q (.inl (3, [(Lf.int t0), (Lf.is t0_1), (Lf.ss t0_2), (Lf.vs t0_3), (Lf.int t0), (Lf.is (O.real.iapp [] t0_1)), (Lf.ss (O.real.bapp [] t0_2))])))) := by kernel_rfl
theorem w8e_3  (h64 : Int) (h64_1 : List Int) (h64_2 : List ByteArray) (h64_3 : List VT) (h896 : Int) (h512 : List Int) (h768 : List ByteArray) (Q : Gt → Prop) : T.ob noB Q (.B .E (.S .E)) (w8eS  (3, [Lf.int h64, Lf.is h64_1, Lf.ss h64_2, Lf.vs h64_3, Lf.int h896, Lf.is h512, Lf.ss h768])) =
  (((O.real.lt (0 : Int) (O.real.vlen h64_3)) = true → (Bool.false = Bool.true)) ∧ ((O.real.lt (0 : Int) (O.real.vlen h64_3)) = false → Q (.inr ⟨(AV.agg [(AV.int IntKind.i64 h896), (AV.own 64), (AV.own 65), AV.nils]), [], [], [(HObj.arr 2 (LS.i IntKind.i64 h512)), (HObj.arr 9 (LS.s h768))]⟩))) := by kernel_rfl

end Go.Qv
/- Copies of flat values, for one who writes into them. No condition. -/
set_option linter.unusedVariables false
set_option linter.unusedSimpArgs false
set_option maxRecDepth 100000
namespace Go.Qv
open Go Go.RowKit Go.Proofs
def nullB (v : VT) (i : Int) : Bool := if absT v.t = 3 then decide (v.s.getD i.toNat ⟨#[]⟩ = ⟨#[]⟩) else if absT v.t = 1 then false else decide (v.n.getD i.toNat 0 = -9223372036854775808)
def nlOk (v : VT) (i : Int) : Prop := flT v.t ∧ 0 ≤ i ∧ i < rCount v ∧ v.n.length ≤ 1073741824 ∧ v.s.length ≤ 1073741824 ∧ (absT v.t = 3 → i < v.s.length) ∧ (absT v.t ≠ 3 → i < v.n.length)
def neI (l : List Int) : Prop := l.length ≠ 0 ∧ l.length ≤ 1073741824
def neS (l : List ByteArray) : Prop := l.length ≠ 0 ∧ l.length ≤ 1073741824
def cpOk (v : VT) : Prop := tame v ∧ v.l = []
def cpOkA (v : VT) : Prop := tame v ∧ v.l = [] ∧ v.n.length ≠ 0
def cpOkB (v : VT) : Prop := tame v ∧ v.l = [] ∧ v.s.length ≠ 0
noncomputable def se8x : List AV → List (Nat × HObj) → T Eff
  | [x], [] => (match asV [] x with | some v => whenE (cpOk v) (.leaf ⟨.agg [.int .i64 v.t, .own 64, .own 65, .nils], [], [], [.arr 2 (.i .i64 v.n), .arr 9 (.s v.s)]⟩) | none => .stuck "se8x")
  | _, _ => .stuck "se8x"
noncomputable def se99x : List AV → List (Nat × HObj) → T Eff
  | [x], [] => (match cInts [] .i64 x with | some l => whenE (neI l) (.leaf ⟨.own 64, [], [], [.arr 2 (.i .i64 l)]⟩) | none => .stuck "se99x")
  | _, _ => .stuck "se99x"
noncomputable def se100x : List AV → List (Nat × HObj) → T Eff
  | [x], [] => (match cStrs [] x with | some l => whenE (neS l) (.leaf ⟨.own 64, [], [], [.arr 9 (.s l)]⟩) | none => .stuck "se100x")
  | _, _ => .stuck "se100x"
noncomputable def spIsNull := onVn fun v i => when_ (nlOk v i) (.leaf (.bool (nullB v i)))
theorem vr1 {β : Nat → Option Value} {F : Nat → Prop} {w : World} {cs : Array Value} {x y : AV} (h : ∀ v, VR β F w v x → VR β F w v y) (hv : ∀ (j : Nat) (v : Value) (z : AV), cs[j]? = some v → [x][j]? = some z → VR β F w v z) : ∀ (j : Nat) (v : Value) (z : AV), cs[j]? = some v → [y][j]? = some z → VR β F w v z := by
  intro j v z hj hz
  match j, hz with
  | 0, hz =>
    injection hz with hz
    subst hz
    exact h v (hv 0 v _ hj rfl)
theorem FZ0 {β : Nat → Option Value} {F : Nat → Prop} : FZ [] β F = F := by funext b; simp [FZ]
theorem as_IE {β : Nat → Option Value} {F : Nat → Prop} {w : World} {v : Value} {x : AV} {a : List Int} {k : IntKind} (h : cInts [] k x = some a) (hv : VR β F w v x) : VR β F w v (.sl (.i k a)) := by
  have h2 := cInts_ok (hs := []) (ids := []) (β := β) (F := F) (w := w) (fun _ h => by simp at h) h hv (own_no1 (cInts_known h))
  rwa [FZ0] at h2
theorem as_SE {β : Nat → Option Value} {F : Nat → Prop} {w : World} {v : Value} {x : AV} {a : List ByteArray} (h : cStrs [] x = some a) (hv : VR β F w v x) : VR β F w v (.sl (.s a)) := by
  have h2 := cStrs_ok (hs := []) (ids := []) (β := β) (F := F) (w := w) (fun _ h => by simp at h) h hv (own_no1 (cStrs_known h))
  rwa [FZ0] at h2
theorem oke99 : Eff1 Tryz.prog 99 se99x := by
  intro xs hs β F w cs R hp hl hv h
  unfold se99x at h
  split at h
  · rename_i x
    split at h
    · rename_i l h1
      obtain ⟨⟨h0, h2⟩, h⟩ := whenE_inv h
      refine flow_eff (fn := Tryz.f99) (ρ := [.is l]) mixed tbN_ok (walkedN (PureOk.none _) 14) fnsOk (by kernel_rfl) w99eC_ok (e0 := 9999) (by rfl) (by rfl) (xs := [.sl (.i .i64 l)]) (ys := [.sl (.i .i64 l)]) (hs' := []) (by rfl) (by rfl) (by rfl) (by rfl) hp hl (vr1 (fun v => as_IE h1) hv) (K := fun E => E = ⟨.own 64, [], [], [.arr 2 (.i .i64 l)]⟩) (Rh.go (w99e_9999 l _) ?_) (fun E hE => by subst hE; exact h)
      simp only [o_add, o_sub, o_mul, o_neg, o_conv, o_lt, o_le, o_eq, o_not, o_and, o_or, o_sel, o_isel, o_ssel, o_beq, o_seq, o_slt, o_slen, o_sat, o_scut, o_sadd, o_ilen, o_blen, o_vlen, o_rlen, o_iget, o_bget, o_vget, o_rget, o_iset, o_bset, o_vset, o_iapp, o_bapp, o_vapp, o_rapp, o_icut, o_bcut, o_vcut, o_irep, o_vt, o_vn, o_vs, o_vl, o_imax, o_imin, o_inb, o_sfit, o_cutb, o_fit, o_mkfit, RhQ, decT, decF, true_and, and_true, eq_self, implies_true, forall_const, Bool.not_eq_true', Bool.not_eq_false', Bool.not_true, Bool.not_false, Bool.and_eq_true, Bool.or_eq_true, Bool.and_eq_false_iff, Bool.or_eq_false_iff, Bool.true_and, Bool.and_true, Bool.false_and, Bool.and_false, Bool.or_false, Bool.false_or, Bool.true_or, Bool.or_true, Int.toNat_natCast, VT.eta, not_true, not_false_iff, false_implies, if_true, if_false, Int.toNat_zero, Int.toNat_one, ns0, ns4, List.nil_append]
      exact ⟨fun hh => by omega, by omega⟩
    · exact h.elim
  · exact h.elim
theorem oke100 : Eff1 Tryz.prog 100 se100x := by
  intro xs hs β F w cs R hp hl hv h
  unfold se100x at h
  split at h
  · rename_i x
    split at h
    · rename_i l h1
      obtain ⟨⟨h0, h2⟩, h⟩ := whenE_inv h
      refine flow_eff (fn := Tryz.f100) (ρ := [.ss l]) mixed tbN_ok (walkedN (PureOk.none _) 14) fnsOk (by kernel_rfl) w100eC_ok (e0 := 9999) (by rfl) (by rfl) (xs := [.sl (.s l)]) (ys := [.sl (.s l)]) (hs' := []) (by rfl) (by rfl) (by rfl) (by rfl) hp hl (vr1 (fun v => as_SE h1) hv) (K := fun E => E = ⟨.own 64, [], [], [.arr 9 (.s l)]⟩) (Rh.go (w100e_9999 l _) ?_) (fun E hE => by subst hE; exact h)
      simp only [o_add, o_sub, o_mul, o_neg, o_conv, o_lt, o_le, o_eq, o_not, o_and, o_or, o_sel, o_isel, o_ssel, o_beq, o_seq, o_slt, o_slen, o_sat, o_scut, o_sadd, o_ilen, o_blen, o_vlen, o_rlen, o_iget, o_bget, o_vget, o_rget, o_iset, o_bset, o_vset, o_iapp, o_bapp, o_vapp, o_rapp, o_icut, o_bcut, o_vcut, o_irep, o_vt, o_vn, o_vs, o_vl, o_imax, o_imin, o_inb, o_sfit, o_cutb, o_fit, o_mkfit, RhQ, decT, decF, true_and, and_true, eq_self, implies_true, forall_const, Bool.not_eq_true', Bool.not_eq_false', Bool.not_true, Bool.not_false, Bool.and_eq_true, Bool.or_eq_true, Bool.and_eq_false_iff, Bool.or_eq_false_iff, Bool.true_and, Bool.and_true, Bool.false_and, Bool.and_false, Bool.or_false, Bool.false_or, Bool.true_or, Bool.or_true, Int.toNat_natCast, VT.eta, not_true, not_false_iff, false_implies, if_true, if_false, Int.toNat_zero, Int.toNat_one, ns0, ns4, List.nil_append]
      exact ⟨fun hh => by omega, by omega⟩
    · exact h.elim
  · exact h.elim
theorem oke8 : Eff1 Tryz.prog 8 se8x := by
  intro xs hs β F w cs R hp hl hv h
  unfold se8x at h
  split at h
  · rename_i x
    split at h
    · rename_i a h1
      obtain ⟨⟨ht, h2⟩, h⟩ := whenE_inv h
      obtain ⟨t, n, s, l⟩ := a
      have h2 : l = [] := h2
      subst h2
      have hn := ht.n
      have hs := ht.s
      refine flow_eff (fn := Tryz.f8) (ρ := [.int t, .is n, .ss s, .vs []]) mixed tbOk (walked (PureOk.also (f0 := 8) (s := spNo) (fun xs F w cs R ha h => h.elim) (PureOk.none _)) 14) fnsOk (by kernel_rfl) w8eC_ok (e0 := 9999) (by rfl) (by rfl) (xs := [.agg (VT.cells (.mk t n s []))]) (ys := [.agg (VT.cells (.mk t n s []))]) (hs' := []) (by rfl) (by rfl) (by rfl) (by rfl) hp hl (vr1 (fun v => as_VE h1) hv) (K := fun E => E = ⟨.agg [.int .i64 t, .own 64, .own 65, .nils], [], [], [.arr 2 (.i .i64 n), .arr 9 (.s s)]⟩) (Rh.go (w8e_9999 t n s [] _) ?_) (fun E hE => by subst hE; exact h)
      have e : Rh w8eS (fun E => E = ⟨.agg [.int .i64 t, .own 64, .own 65, .nils], [], [], [.arr 2 (.i .i64 n), .arr 9 (.s s)]⟩) (3, [.int t, .is n, .ss s, .vs [], .int t, .is n, .ss s]) := by
        refine Rh.go (w8e_3 t n s [] t n s _) ?_
        simp only [o_add, o_sub, o_mul, o_neg, o_conv, o_lt, o_le, o_eq, o_not, o_and, o_or, o_sel, o_isel, o_ssel, o_beq, o_seq, o_slt, o_slen, o_sat, o_scut, o_sadd, o_ilen, o_blen, o_vlen, o_rlen, o_iget, o_bget, o_vget, o_rget, o_iset, o_bset, o_vset, o_iapp, o_bapp, o_vapp, o_rapp, o_icut, o_bcut, o_vcut, o_irep, o_vt, o_vn, o_vs, o_vl, o_imax, o_imin, o_inb, o_sfit, o_cutb, o_fit, o_mkfit, RhQ, decT, decF, true_and, and_true, eq_self, implies_true, forall_const, Bool.not_eq_true', Bool.not_eq_false', Bool.not_true, Bool.not_false, Bool.and_eq_true, Bool.or_eq_true, Bool.and_eq_false_iff, Bool.or_eq_false_iff, Bool.true_and, Bool.and_true, Bool.false_and, Bool.and_false, Bool.or_false, Bool.false_or, Bool.true_or, Bool.or_true, Int.toNat_natCast, VT.eta, not_true, not_false_iff, false_implies, if_true, if_false, Int.toNat_zero, Int.toNat_one, ns0, ns4, List.length_nil]
        exact fun hh => absurd hh (by decide)
      simp only [o_add, o_sub, o_mul, o_neg, o_conv, o_lt, o_le, o_eq, o_not, o_and, o_or, o_sel, o_isel, o_ssel, o_beq, o_seq, o_slt, o_slen, o_sat, o_scut, o_sadd, o_ilen, o_blen, o_vlen, o_rlen, o_iget, o_bget, o_vget, o_rget, o_iset, o_bset, o_vset, o_iapp, o_bapp, o_vapp, o_rapp, o_icut, o_bcut, o_vcut, o_irep, o_vt, o_vn, o_vs, o_vl, o_imax, o_imin, o_inb, o_sfit, o_cutb, o_fit, o_mkfit, RhQ, decT, decF, true_and, and_true, eq_self, implies_true, forall_const, Bool.not_eq_true', Bool.not_eq_false', Bool.not_true, Bool.not_false, Bool.and_eq_true, Bool.or_eq_true, Bool.and_eq_false_iff, Bool.or_eq_false_iff, Bool.true_and, Bool.and_true, Bool.false_and, Bool.and_false, Bool.or_false, Bool.false_or, Bool.true_or, Bool.or_true, Int.toNat_natCast, VT.eta, not_true, not_false_iff, false_implies, if_true, if_false, Int.toNat_zero, Int.toNat_one, ns0, ns4, List.nil_append]
      repeat' apply And.intro
      all_goals first | exact e | omega
    · exact h.elim
  · exact h.elim
end Go.Qv
