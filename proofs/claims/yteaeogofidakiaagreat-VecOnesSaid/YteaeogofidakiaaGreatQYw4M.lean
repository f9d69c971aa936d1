/- Walks of operations on one value, 4. (Printed.) -/
import Derived.Test.YteaeogofidakiaaGreatQYdM
set_option linter.unusedVariables false
set_option maxRecDepth 100000
namespace Go.Qv
open Go Go.RowKit
noncomputable def w48nC : List Cut := [(⟨9999, ⟨[(0, (.agg [(.int .i64), (.sl (.i .i64)), (.sl .s), (.sl .v)])), (1, (.one (.int IntKind.i64))), (2, (.one (.fix (.fn 49 []))))], [], 0, 32⟩, [It.code (bodyOf Go.Proofs.Tryz.f48)], []⟩ : Cut),
  (⟨3, ⟨[(2, (.one (.fix (.fn 49 [])))), (3, (.one (.ptr 0 0))), (6, (.one (.ptr 64 0))), (7, (.one (.ptr 256 0))), (13, (.one (.sl (.i IntKind.i64)))), (14, (.one (.int IntKind.i64))), (15, (.one (.int IntKind.i64)))], [(0, (.cells [(.int IntKind.i64), (.sl (.i IntKind.i64)), (.sl .s), (.sl .v)])), (64, (.cells [(.fix (.int IntKind.i64 (0 : Int))), (.fix .nils), (.fix .nils), (.fix .nils)])), (256, (.cells [(.int IntKind.i64), (.own 961), (.fix .nils), (.fix .nils)])), (961, (.arr 2 (.i IntKind.i64)))], 1024, 32⟩, (codeAt Go.Proofs.Tryz.f48 3), []⟩ : Cut)]
theorem w48nC_ok : cutsOk w48nC = true := by kernel_rfl
noncomputable def w48nS  : Nat × List Lf → T Gt := stepX O.real Go.Qv.tb (inl O.real Go.Qv.tb Go.Qv.fns (pureOrc (PS.also 75 sp75x PS.none)) (fun f => Nat.beq f 75) (fun _ => false) 300 14) Go.Proofs.Tryz.f48.results ([]) 0 w48nC
theorem w48n_9999  (t0 : Int) (t0_1 : List Int) (t0_2 : List ByteArray) (t0_3 : List VT) (t1 : Int) (Q : Gt → Prop) : T.ob noB Q (.S (.S .E)) (w48nS  (9999, [Lf.int t0, Lf.is t0_1, Lf.ss t0_2, Lf.vs t0_3, Lf.int t1])) =
  ((codeAt Go.Proofs.Tryz.f48 3 = codeAt Go.Proofs.Tryz.f48 3) ∧ Q (.inl (3, [(Lf.is t0_1), (Lf.int (O.real.ilen t0_1)), (Lf.int (0 : Int)), (Lf.int t0), (Lf.is t0_1), (Lf.ss t0_2), (Lf.vs t0_3), (Lf.int t1), (Lf.is [])]))) := by kernel_rfl
theorem w48n_3  (t13 : List Int) (t14 : Int) (t15 : Int) (h0 : Int) (h0_1 : List Int) (h0_2 : List ByteArray) (h0_3 : List VT) (h256 : Int) (h961 : List Int) (Q : Gt → Prop) : T.ob noB Q (.B (.S (.S (.S .E))) (.S (.S .E))) (w48nS  (3, [Lf.is t13, Lf.int t14, Lf.int t15, Lf.int h0, Lf.is h0_1, Lf.ss h0_2, Lf.vs h0_3, Lf.int h256, Lf.is h961])) =
  (((O.real.lt t15 t14) = true → (((O.real.inb t15 (O.real.ilen t13))).p ∧ ((((Bool.true = Bool.true) ∧ True) ∧ (((Bool.true = Bool.true) ∧ True) ∧ (((Bool.true = Bool.true) ∧ True) ∧ (((Bool.true = Bool.true) ∧ True) ∧ (((Bool.true = Bool.true) ∧ True) ∧ (((Bool.true = Bool.true) ∧ True) ∧ (((Bool.true = Bool.true) ∧ (((O.real.fit (O.real.ilen h961) (O.real.ilen [(O.real.neg IntKind.i64 (O.real.iget t13 t15))]) 8)).p ∧ True)) ∧ (((Bool.true = Bool.true) ∧ True) ∧ (((Bool.true = Bool.true) ∧ True) ∧ True))))))))) ∧ Q (.inl (3, [(Lf.is t13), (Lf.int t14), (Lf.int (O.real.add IntKind.i64 t15 (1 : Int))), (Lf.int h0), (Lf.is h0_1), (Lf.ss h0_2), (Lf.vs h0_3), (Lf.int h256), (Lf.is (O.real.iapp h961 [(O.real.neg IntKind.i64 (O.real.iget t13 t15))]))]))))) ∧ ((O.real.lt t15 t14) = false → ((((Bool.true = Bool.true) ∧ True) ∧ (((Bool.true = Bool.true) ∧ True) ∧ (((Bool.true = Bool.true) ∧ ((Bool.true = Bool.true) ∧ ((((O.real.lt h0 (0 : Int)) = Bool.true) → True) ∧ ((Bool.true = Bool.true) ∧ ((((O.real.lt h0 (0 : Int)) = Bool.true) → True) ∧ ((Bool.true = Bool.true) ∧ ((((O.real.lt h0 (0 : Int)) = Bool.true) → True) ∧ True))))))) ∧ (((Bool.true = Bool.true) ∧ True) ∧ (((Bool.true = Bool.true) ∧ True) ∧ True))))) ∧ Q (.inr ⟨(AV.agg [(AV.int IntKind.i64 (likeT h256 (O.real.and (O.real.lt h0 (0 : Int)) (O.real.le (Int.negSucc 4) h0)))), (AV.sl (LS.i IntKind.i64 h961)), (AV.sl (LS.s [])), (AV.sl (LS.v []))]), [], [], []⟩)))) := by kernel_rfl

noncomputable def w48zC : List Cut := [(⟨9999, ⟨[(0, (.agg [(.int .i64), (.sl (.i .i64)), (.sl .s), (.sl .v)])), (1, (.one (.int IntKind.i64))), (2, (.one (.fix (.fn 55 []))))], [], 0, 32⟩, [It.code (bodyOf Go.Proofs.Tryz.f48)], []⟩ : Cut),
  (⟨3, ⟨[(2, (.one (.fix (.fn 55 [])))), (3, (.one (.ptr 0 0))), (6, (.one (.ptr 64 0))), (7, (.one (.ptr 256 0))), (13, (.one (.sl (.i IntKind.i64)))), (14, (.one (.int IntKind.i64))), (15, (.one (.int IntKind.i64)))], [(0, (.cells [(.int IntKind.i64), (.sl (.i IntKind.i64)), (.sl .s), (.sl .v)])), (64, (.cells [(.fix (.int IntKind.i64 (0 : Int))), (.fix .nils), (.fix .nils), (.fix .nils)])), (256, (.cells [(.int IntKind.i64), (.own 961), (.fix .nils), (.fix .nils)])), (961, (.arr 2 (.i IntKind.i64)))], 1024, 32⟩, (codeAt Go.Proofs.Tryz.f48 3), []⟩ : Cut)]
theorem w48zC_ok : cutsOk w48zC = true := by kernel_rfl
noncomputable def w48zS  : Nat × List Lf → T Gt := stepX O.real Go.Qv.tb (inl O.real Go.Qv.tb Go.Qv.fns (pureOrc (PS.also 75 sp75x PS.none)) (fun f => Nat.beq f 75) (fun _ => false) 300 14) Go.Proofs.Tryz.f48.results ([]) 0 w48zC
theorem w48z_9999  (t0 : Int) (t0_1 : List Int) (t0_2 : List ByteArray) (t0_3 : List VT) (t1 : Int) (Q : Gt → Prop) : T.ob noB Q (.S (.S .E)) (w48zS  (9999, [Lf.int t0, Lf.is t0_1, Lf.ss t0_2, Lf.vs t0_3, Lf.int t1])) =
  ((codeAt Go.Proofs.Tryz.f48 3 = codeAt Go.Proofs.Tryz.f48 3) ∧ Q (.inl (3, [(Lf.is t0_1), (Lf.int (O.real.ilen t0_1)), (Lf.int (0 : Int)), (Lf.int t0), (Lf.is t0_1), (Lf.ss t0_2), (Lf.vs t0_3), (Lf.int t1), (Lf.is [])]))) := by kernel_rfl
theorem w48z_3  (t13 : List Int) (t14 : Int) (t15 : Int) (h0 : Int) (h0_1 : List Int) (h0_2 : List ByteArray) (h0_3 : List VT) (h256 : Int) (h961 : List Int) (Q : Gt → Prop) : T.ob noB Q (.B (.S (.S (.S .E))) (.S (.S .E))) (w48zS  (3, [Lf.is t13, Lf.int t14, Lf.int t15, Lf.int h0, Lf.is h0_1, Lf.ss h0_2, Lf.vs h0_3, Lf.int h256, Lf.is h961])) =
  (((O.real.lt t15 t14) = true → (((O.real.inb t15 (O.real.ilen t13))).p ∧ ((((Bool.true = Bool.true) ∧ True) ∧ (((Bool.true = Bool.true) ∧ True) ∧ (((Bool.true = Bool.true) ∧ True) ∧ (((Bool.true = Bool.true) ∧ True) ∧ (((Bool.true = Bool.true) ∧ ((((O.real.eq (O.real.iget t13 t15) (0 : Int)) = Bool.true) → True) ∧ ((((O.real.eq (O.real.iget t13 t15) (0 : Int)) = Bool.false) → True) ∧ True))) ∧ (((Bool.true = Bool.true) ∧ True) ∧ (((Bool.true = Bool.true) ∧ (((O.real.fit (O.real.ilen h961) (O.real.ilen [(O.real.isel (O.real.eq (O.real.iget t13 t15) (0 : Int)) (1 : Int) (0 : Int))]) 8)).p ∧ True)) ∧ (((Bool.true = Bool.true) ∧ True) ∧ (((Bool.true = Bool.true) ∧ True) ∧ True))))))))) ∧ Q (.inl (3, [(Lf.is t13), (Lf.int t14), (Lf.int (O.real.add IntKind.i64 t15 (1 : Int))), (Lf.int h0), (Lf.is h0_1), (Lf.ss h0_2), (Lf.vs h0_3), (Lf.int h256), (Lf.is (O.real.iapp h961 [(O.real.isel (O.real.eq (O.real.iget t13 t15) (0 : Int)) (1 : Int) (0 : Int))]))]))))) ∧ ((O.real.lt t15 t14) = false → ((((Bool.true = Bool.true) ∧ True) ∧ (((Bool.true = Bool.true) ∧ True) ∧ (((Bool.true = Bool.true) ∧ ((Bool.true = Bool.true) ∧ ((((O.real.lt h0 (0 : Int)) = Bool.true) → True) ∧ ((Bool.true = Bool.true) ∧ ((((O.real.lt h0 (0 : Int)) = Bool.true) → True) ∧ ((Bool.true = Bool.true) ∧ ((((O.real.lt h0 (0 : Int)) = Bool.true) → True) ∧ True))))))) ∧ (((Bool.true = Bool.true) ∧ True) ∧ (((Bool.true = Bool.true) ∧ True) ∧ True))))) ∧ Q (.inr ⟨(AV.agg [(AV.int IntKind.i64 (likeT h256 (O.real.and (O.real.lt h0 (0 : Int)) (O.real.le (Int.negSucc 4) h0)))), (AV.sl (LS.i IntKind.i64 h961)), (AV.sl (LS.s [])), (AV.sl (LS.v []))]), [], [], []⟩)))) := by kernel_rfl

noncomputable def w48cC : List Cut := [(⟨9999, ⟨[(0, (.agg [(.int .i64), (.sl (.i .i64)), (.sl .s), (.sl .v)])), (1, (.one (.int IntKind.i64))), (2, (.fn 61 [(.ptr 0 0), (.ptr 1 0), (.ptr 2 0)]))], [(0, (.cells [(.int .i64)])), (1, (.cells [(.int .i64)])), (2, (.cells [.bool]))], 64, 32⟩, [It.code (bodyOf Go.Proofs.Tryz.f48)], []⟩ : Cut),
  (⟨3, ⟨[(2, (.fn 61 [(.ptr 0 0), (.ptr 1 0), (.ptr 2 0)])), (3, (.one (.ptr 64 0))), (6, (.one (.ptr 128 0))), (7, (.one (.ptr 320 0))), (13, (.one (.sl (.i IntKind.i64)))), (14, (.one (.int IntKind.i64))), (15, (.one (.int IntKind.i64)))], [(0, (.cells [(.int IntKind.i64)])), (1, (.cells [(.int IntKind.i64)])), (2, (.cells [.bool])), (64, (.cells [(.int IntKind.i64), (.sl (.i IntKind.i64)), (.sl .s), (.sl .v)])), (128, (.cells [(.fix (.int IntKind.i64 (0 : Int))), (.fix .nils), (.fix .nils), (.fix .nils)])), (320, (.cells [(.int IntKind.i64), (.own 1025), (.fix .nils), (.fix .nils)])), (1025, (.arr 2 (.i IntKind.i64)))], 1088, 32⟩, (codeAt Go.Proofs.Tryz.f48 3), []⟩ : Cut)]
theorem w48cC_ok : cutsOk w48cC = true := by kernel_rfl
noncomputable def w48cS (p0 p1 : Int) (p2 : Bool) : Nat × List Lf → T Gt := stepX O.real Go.Qv.tb (inl O.real Go.Qv.tb Go.Qv.fns (effOrc (fun f => Nat.beq f 61) (ES.also 61 se61x ES.none) (PS.also 75 sp75x PS.none)) (fun f => Nat.beq f 61 || Nat.beq f 75) (fun _ => false) 300 14) Go.Proofs.Tryz.f48.results ([(0, HObj.cells [AV.int IntKind.i64 p0]), (1, HObj.cells [AV.int IntKind.i64 p1]), (2, HObj.cells [AV.bool p2])]) 64 w48cC
theorem w48c_9999 (p0 p1 : Int) (p2 : Bool) (t0 : Int) (t0_1 : List Int) (t0_2 : List ByteArray) (t0_3 : List VT) (t1 : Int) (h0 : Int) (h1 : Int) (h2 : Bool) (Q : Gt → Prop) : T.ob noB Q (.S (.S .E)) (w48cS p0 p1 p2 (9999, [Lf.int t0, Lf.is t0_1, Lf.ss t0_2, Lf.vs t0_3, Lf.int t1, Lf.int h0, Lf.int h1, Lf.bool h2])) =
  ((codeAt Go.Proofs.Tryz.f48 3 = codeAt Go.Proofs.Tryz.f48 3) ∧ Q (.inl (3, [(Lf.is t0_1), (Lf.int (O.real.ilen t0_1)), (Lf.int (0 : Int)), (Lf.int h0), (Lf.int h1), (Lf.bool h2), (Lf.int t0), (Lf.is t0_1), (Lf.ss t0_2), (Lf.vs t0_3), (Lf.int t1), (Lf.is [])]))) := by kernel_rfl
theorem w48c_3 (p0 p1 : Int) (p2 : Bool) (t13 : List Int) (t14 : Int) (t15 : Int) (h0 : Int) (h1 : Int) (h2 : Bool) (h64 : Int) (h64_1 : List Int) (h64_2 : List ByteArray) (h64_3 : List VT) (h320 : Int) (h1025 : List Int) (Q : Gt → Prop) : T.ob noB Q (.B (.S (.S (.S .E))) (.S (.S .E))) (w48cS p0 p1 p2 (3, [Lf.is t13, Lf.int t14, Lf.int t15, Lf.int h0, Lf.int h1, Lf.bool h2, Lf.int h64, Lf.is h64_1, Lf.ss h64_2, Lf.vs h64_3, Lf.int h320, Lf.is h1025])) =
  (((O.real.lt t15 t14) = true → (((O.real.inb t15 (O.real.ilen t13))).p ∧ ((((Bool.true = Bool.true) ∧ True) ∧ (((Bool.true = Bool.true) ∧ True) ∧ (((Bool.true = Bool.true) ∧ True) ∧ (((Bool.true = Bool.true) ∧ True) ∧ (((Bool.true = Bool.true) ∧ ((isI (O.real.iget t13 t15)) ∧ True)) ∧ (((Bool.true = Bool.true) ∧ True) ∧ (((Bool.true = Bool.true) ∧ (((O.real.fit (O.real.ilen h1025) (O.real.ilen [(casI h0 h1 (O.real.iget t13 t15))]) 8)).p ∧ True)) ∧ (((Bool.true = Bool.true) ∧ True) ∧ (((Bool.true = Bool.true) ∧ True) ∧ True))))))))) ∧ Q (.inl (3, [(Lf.is t13), (Lf.int t14), (Lf.int (O.real.add IntKind.i64 t15 (1 : Int))), (Lf.int h0), (Lf.int h1), (Lf.bool (Bool.rec Bool.false (casO h0 h1 (O.real.iget t13 t15)) h2)), (Lf.int h64), (Lf.is h64_1), (Lf.ss h64_2), (Lf.vs h64_3), (Lf.int h320), (Lf.is (O.real.iapp h1025 [(casI h0 h1 (O.real.iget t13 t15))]))]))))) ∧ ((O.real.lt t15 t14) = false → ((((Bool.true = Bool.true) ∧ True) ∧ (((Bool.true = Bool.true) ∧ True) ∧ (((Bool.true = Bool.true) ∧ ((Bool.true = Bool.true) ∧ ((((O.real.lt h64 (0 : Int)) = Bool.true) → True) ∧ ((Bool.true = Bool.true) ∧ ((((O.real.lt h64 (0 : Int)) = Bool.true) → True) ∧ ((Bool.true = Bool.true) ∧ ((((O.real.lt h64 (0 : Int)) = Bool.true) → True) ∧ True))))))) ∧ (((Bool.true = Bool.true) ∧ True) ∧ (((Bool.true = Bool.true) ∧ True) ∧ True))))) ∧ Q (.inr ⟨(AV.agg [(AV.int IntKind.i64 (likeT h320 (O.real.and (O.real.lt h64 (0 : Int)) (O.real.le (Int.negSucc 4) h64)))), (AV.sl (LS.i IntKind.i64 h1025)), (AV.sl (LS.s [])), (AV.sl (LS.v []))]), [(0, (Option.some (HObj.cells [(AV.int IntKind.i64 h0)]))), (1, (Option.some (HObj.cells [(AV.int IntKind.i64 h1)]))), (2, (Option.some (HObj.cells [(AV.bool h2)])))], [], []⟩)))) := by kernel_rfl
end Go.Qv
/- Operations on one value: what is told of each number. No condition. -/
set_option linter.unusedVariables false
set_option linter.unusedSimpArgs false
set_option maxRecDepth 100000
namespace Go.Qv
open Go Go.RowKit Go.Proofs
noncomputable def sp48x : List AV → T AV
  | [x, .int .i64 t, .fn g []] => (match asV [] x, Nat.beq g 49, Nat.beq g 55 with | some a, true, _ => when_ (tame a) (.leaf (vcl (eachV a t (negI a.n)))) | some a, _, true => when_ (tame a) (.leaf (vcl (eachV a t (notI a.n)))) | _, _, _ => .stuck "sp48x")
  | _ => .stuck "sp48x"
noncomputable def se48x : List AV → List (Nat × HObj) → T Eff
  | [x, .int .i64 t, .fn g [.ptr 0 0, .ptr 1 0, .ptr 2 0]], [(0, .cells [.int .i64 t1]), (1, .cells [.int .i64 f1]), (2, .cells [.bool b])] => (match asV [] x, Nat.beq g 61 with
    | some a, true => whenE (casOk a t1 f1) (.leaf ⟨vcl (eachV a t (casN t1 f1 a.n)), [(0, some (.cells [.int .i64 t1])), (1, some (.cells [.int .i64 f1])), (2, some (.cells [.bool (casB t1 f1 a.n b)]))], [], []⟩)
    | _, _ => .stuck "se48x")
  | _, _ => .stuck "se48x"
theorem e61_run {t f n : Int} {b : Bool} (hn : isI n) : Rh (w61cS t f b) (fun E => E = ⟨.int .i64 (casI t f n), [(0, some (.cells [.int .i64 t])), (1, some (.cells [.int .i64 f])), (2, some (.cells [.bool (b && casO t f n)]))], [], []⟩) (9999, [.int n, .int t, .int f, .bool b]) := by
  refine Rh.go (w61c_9999 t f b n t f b _) ?_
  simp only [o_add, o_sub, o_mul, o_neg, o_conv, o_lt, o_le, o_eq, o_not, o_and, o_or, o_sel, o_isel, o_ssel, o_beq, o_seq, o_slt, o_slen, o_sat, o_scut, o_sadd, o_ilen, o_blen, o_vlen, o_rlen, o_iget, o_bget, o_vget, o_rget, o_iset, o_bset, o_vset, o_iapp, o_bapp, o_vapp, o_rapp, o_icut, o_bcut, o_vcut, o_irep, o_vt, o_vn, o_vs, o_vl, o_imax, o_imin, o_inb, o_sfit, o_cutb, o_fit, o_mkfit, RhQ, decT, decF, true_and, and_true, eq_self, implies_true, forall_const, Bool.not_eq_true', Bool.not_eq_false', Bool.not_true, Bool.not_false, Bool.and_eq_true, Bool.or_eq_true, Bool.and_eq_false_iff, Bool.or_eq_false_iff, Bool.true_and, Bool.and_true, Bool.false_and, Bool.and_false, Bool.or_false, Bool.false_or, Bool.true_or, Bool.or_true, Int.toNat_natCast, VT.eta, not_true, not_false_iff, false_implies, if_true, if_false, Int.toNat_zero, Int.toNat_one, ns0, ns4, null63]
  refine ⟨fun ht => ?_, fun ht => ⟨fun h2 => ?_, fun h2 => ⟨fun h5 => ⟨?_, ?_⟩, fun h5 => ⟨fun h6 => ⟨?_, ?_⟩, fun h6 => ?_⟩⟩⟩⟩
  · subst ht
    rw [casI_1, casO_1, Bool.and_true]
  · obtain ⟨c1, c2⟩ := casI_s ht h2
    rw [c1, c2, Bool.and_true]
  · subst h5; exact up_ok hn
  · subst h5
    obtain ⟨c1, c2⟩ := casI_up (f := f) (x := n) (by omega)
    rw [c1, c2]
  · subst h6; exact dn_ok hn
  · subst h6
    obtain ⟨c1, c2⟩ := casI_dn (t := t) (x := n) ht h5 (by omega)
    rw [c1, c2]
  · obtain ⟨c1, c2⟩ := casI_e (t := t) (f := f) (x := n) ht h5 (by omega) h6
    rw [c1, c2, Bool.and_true]
theorem walkedE {k : FuncId → Bool} {se : ES} {sp : PS} (h1 : EffOk Tryz.prog se) (h2 : PureOk Tryz.prog sp) {kn md : FuncId → Bool} (n : Nat) : OrcOk Tryz.prog (inl O.real tb fns (effOrc k se sp) kn md 300 n) (fun _ => True) := inl_ok mixed tbOk fnsOk (effOrc_ok h1 h2) n
theorem oke61 : Eff1 Tryz.prog 61 se61x := by
  intro xs hs β F w cs R hp hl hv h
  unfold se61x at h
  split at h
  · rename_i n t f b
    obtain ⟨hn, h⟩ := whenE_inv h
    exact flow_eff (fn := Tryz.f61) (ρ := [.int n, .int t, .int f, .bool b]) mixed tbOk (walked (PureOk.also ok62x (PureOk.none _)) 14) fnsOk (by kernel_rfl) w61cC_ok (e0 := 9999) (by rfl) (by rfl) (ys := [.int .i64 n, .ptr 0 0, .ptr 1 0, .ptr 2 0]) (hs' := [(0, .cells [.int .i64 t]), (1, .cells [.int .i64 f]), (2, .cells [.bool b])]) (by rfl) (by rfl) (by rfl) (by rfl) hp hl hv (e61_run hn) (fun E hE => by subst hE; exact h)
  · exact h.elim
theorem loop48n (t n s l) (T : Int) (hn : n.length ≤ 1073741824) (i : Nat) (h1 : i ≤ n.length) : Rh w48nS (Ret (vcl (eachV (.mk t n s l) T (negI n)))) (3, [.is n, .int n.length, .int i, .int t, .is n, .ss s, .vs l, .int T, .is (negI (n.take i))]) := by
  refine Rh.go (w48n_3 n n.length i t n s l T _ _) ?_
  simp only [o_add, o_sub, o_mul, o_neg, o_conv, o_lt, o_le, o_eq, o_not, o_and, o_or, o_sel, o_isel, o_ssel, o_beq, o_seq, o_slt, o_slen, o_sat, o_scut, o_sadd, o_ilen, o_blen, o_vlen, o_rlen, o_iget, o_bget, o_vget, o_rget, o_iset, o_bset, o_vset, o_iapp, o_bapp, o_vapp, o_rapp, o_icut, o_bcut, o_vcut, o_irep, o_vt, o_vn, o_vs, o_vl, o_imax, o_imin, o_inb, o_sfit, o_cutb, o_fit, o_mkfit, RhQ, decT, decF, true_and, and_true, eq_self, implies_true, forall_const, Bool.not_eq_true', Bool.not_eq_false', Bool.not_true, Bool.not_false, Bool.and_eq_true, Bool.or_eq_true, Bool.and_eq_false_iff, Bool.or_eq_false_iff, Bool.true_and, Bool.and_true, Bool.false_and, Bool.and_false, Bool.or_false, Bool.false_or, Bool.true_or, Bool.or_true, Int.toNat_natCast, VT.eta, not_true, not_false_iff, false_implies, if_true, if_false, Int.toNat_zero, Int.toNat_one, ns0, ns4, negI_len, List.length_take, List.length_cons, List.length_nil]
  refine ⟨fun h => ?_, fun h => ?_⟩
  · have e := loop48n t n s l T hn (i + 1) (by omega)
    rw [negI_take n (by omega)] at e
    rw [inc (mlen hn) (by omega)]
    repeat' apply And.intro
    all_goals first | exact e | omega
  · rw [List.take_of_length_le (by omega)]; exact rfl
termination_by n.length - i
theorem loop48z (t n s l) (T : Int) (hn : n.length ≤ 1073741824) (i : Nat) (h1 : i ≤ n.length) : Rh w48zS (Ret (vcl (eachV (.mk t n s l) T (notI n)))) (3, [.is n, .int n.length, .int i, .int t, .is n, .ss s, .vs l, .int T, .is (notI (n.take i))]) := by
  refine Rh.go (w48z_3 n n.length i t n s l T _ _) ?_
  simp only [o_add, o_sub, o_mul, o_neg, o_conv, o_lt, o_le, o_eq, o_not, o_and, o_or, o_sel, o_isel, o_ssel, o_beq, o_seq, o_slt, o_slen, o_sat, o_scut, o_sadd, o_ilen, o_blen, o_vlen, o_rlen, o_iget, o_bget, o_vget, o_rget, o_iset, o_bset, o_vset, o_iapp, o_bapp, o_vapp, o_rapp, o_icut, o_bcut, o_vcut, o_irep, o_vt, o_vn, o_vs, o_vl, o_imax, o_imin, o_inb, o_sfit, o_cutb, o_fit, o_mkfit, RhQ, decT, decF, true_and, and_true, eq_self, implies_true, forall_const, Bool.not_eq_true', Bool.not_eq_false', Bool.not_true, Bool.not_false, Bool.and_eq_true, Bool.or_eq_true, Bool.and_eq_false_iff, Bool.or_eq_false_iff, Bool.true_and, Bool.and_true, Bool.false_and, Bool.and_false, Bool.or_false, Bool.false_or, Bool.true_or, Bool.or_true, Int.toNat_natCast, VT.eta, not_true, not_false_iff, false_implies, if_true, if_false, Int.toNat_zero, Int.toNat_one, ns0, ns4, notI_len, List.length_take, List.length_cons, List.length_nil]
  refine ⟨fun h => ?_, fun h => ?_⟩
  · have e := loop48z t n s l T hn (i + 1) (by omega)
    rw [notI_take n (by omega)] at e
    rw [inc (mlen hn) (by omega)]
    repeat' apply And.intro
    all_goals first | exact e | omega
  · rw [List.take_of_length_le (by omega)]; exact rfl
termination_by n.length - i
theorem okL : PureOk Tryz.prog (PS.also 75 sp75x PS.none) := PureOk.also ok75x (PureOk.none _)
theorem ok48x : Pure1 Tryz.prog 48 sp48x := by
  intro xs F w cs R ha h
  unfold sp48x at h
  split at h
  · rename_i x t g
    split at h
    · rename_i a h1 h2
      have := Nat.eq_of_beq_eq_true h2; subst this
      obtain ⟨ht, h⟩ := when_inv h
      have ha := ha.conv3 (fun v => as_V h1) (fun v h => h) (fun v h => h)
      obtain ⟨t0, n, s, l⟩ := a
      refine contract (fn := Tryz.f48) (walked okL 14) (by kernel_rfl) w48nC_ok (by rfl) (by rfl) (by rfl) (by rfl) (by rfl) ha (ρ := [.int t0, .is n, .ss s, .vs l, .int t]) (Rh.go (w48n_9999 t0 n s l t _) ?_) h
      simp only [o_add, o_sub, o_mul, o_neg, o_conv, o_lt, o_le, o_eq, o_not, o_and, o_or, o_sel, o_isel, o_ssel, o_beq, o_seq, o_slt, o_slen, o_sat, o_scut, o_sadd, o_ilen, o_blen, o_vlen, o_rlen, o_iget, o_bget, o_vget, o_rget, o_iset, o_bset, o_vset, o_iapp, o_bapp, o_vapp, o_rapp, o_icut, o_bcut, o_vcut, o_irep, o_vt, o_vn, o_vs, o_vl, o_imax, o_imin, o_inb, o_sfit, o_cutb, o_fit, o_mkfit, RhQ, decT, decF, true_and, and_true, eq_self, implies_true, forall_const, Bool.not_eq_true', Bool.not_eq_false', Bool.not_true, Bool.not_false, Bool.and_eq_true, Bool.or_eq_true, Bool.and_eq_false_iff, Bool.or_eq_false_iff, Bool.true_and, Bool.and_true, Bool.false_and, Bool.and_false, Bool.or_false, Bool.false_or, Bool.true_or, Bool.or_true, Int.toNat_natCast, VT.eta, not_true, not_false_iff, false_implies, if_true, if_false, Int.toNat_zero, Int.toNat_one, ns0, ns4]
      exact loop48n t0 n s l t ht.n 0 (by omega)
    · rename_i a h1 h3 h2
      have := Nat.eq_of_beq_eq_true h3; subst this
      obtain ⟨ht, h⟩ := when_inv h
      have ha := ha.conv3 (fun v => as_V h1) (fun v h => h) (fun v h => h)
      obtain ⟨t0, n, s, l⟩ := a
      refine contract (fn := Tryz.f48) (walked okL 14) (by kernel_rfl) w48zC_ok (by rfl) (by rfl) (by rfl) (by rfl) (by rfl) ha (ρ := [.int t0, .is n, .ss s, .vs l, .int t]) (Rh.go (w48z_9999 t0 n s l t _) ?_) h
      simp only [o_add, o_sub, o_mul, o_neg, o_conv, o_lt, o_le, o_eq, o_not, o_and, o_or, o_sel, o_isel, o_ssel, o_beq, o_seq, o_slt, o_slen, o_sat, o_scut, o_sadd, o_ilen, o_blen, o_vlen, o_rlen, o_iget, o_bget, o_vget, o_rget, o_iset, o_bset, o_vset, o_iapp, o_bapp, o_vapp, o_rapp, o_icut, o_bcut, o_vcut, o_irep, o_vt, o_vn, o_vs, o_vl, o_imax, o_imin, o_inb, o_sfit, o_cutb, o_fit, o_mkfit, RhQ, decT, decF, true_and, and_true, eq_self, implies_true, forall_const, Bool.not_eq_true', Bool.not_eq_false', Bool.not_true, Bool.not_false, Bool.and_eq_true, Bool.or_eq_true, Bool.and_eq_false_iff, Bool.or_eq_false_iff, Bool.true_and, Bool.and_true, Bool.false_and, Bool.and_false, Bool.or_false, Bool.false_or, Bool.true_or, Bool.or_true, Int.toNat_natCast, VT.eta, not_true, not_false_iff, false_implies, if_true, if_false, Int.toNat_zero, Int.toNat_one, ns0, ns4]
      exact loop48z t0 n s l t ht.n 0 (by omega)
    · exact h.elim
  · exact h.elim
theorem casB_take (t f : Int) (n : List Int) (b : Bool) {i : Nat} (h : i < n.length) : casB t f (n.take (i + 1)) b = (casB t f (n.take i) b && casO t f (n.getD i 0)) := by
  unfold casB
  rw [take_at n 0 h, List.all_append, ← Bool.and_assoc]
  simp
theorem loop48c (t f : Int) (b : Bool) (t0 n s l) (T : Int) (hn : n.length ≤ 1073741824) (hi : ∀ x ∈ n, isI x) (i : Nat) (h1 : i ≤ n.length) :
    Rh (w48cS t f b) (fun E => E = ⟨vcl (eachV (.mk t0 n s l) T (casN t f n)), [(0, some (.cells [.int .i64 t])), (1, some (.cells [.int .i64 f])), (2, some (.cells [.bool (casB t f n b)]))], [], []⟩)
      (3, [.is n, .int n.length, .int i, .int t, .int f, .bool (casB t f (n.take i) b), .int t0, .is n, .ss s, .vs l, .int T, .is (casN t f (n.take i))]) := by
  refine Rh.go (w48c_3 t f b n n.length i t f _ t0 n s l T _ _) ?_
  simp only [o_add, o_sub, o_mul, o_neg, o_conv, o_lt, o_le, o_eq, o_not, o_and, o_or, o_sel, o_isel, o_ssel, o_beq, o_seq, o_slt, o_slen, o_sat, o_scut, o_sadd, o_ilen, o_blen, o_vlen, o_rlen, o_iget, o_bget, o_vget, o_rget, o_iset, o_bset, o_vset, o_iapp, o_bapp, o_vapp, o_rapp, o_icut, o_bcut, o_vcut, o_irep, o_vt, o_vn, o_vs, o_vl, o_imax, o_imin, o_inb, o_sfit, o_cutb, o_fit, o_mkfit, RhQ, decT, decF, true_and, and_true, eq_self, implies_true, forall_const, Bool.not_eq_true', Bool.not_eq_false', Bool.not_true, Bool.not_false, Bool.and_eq_true, Bool.or_eq_true, Bool.and_eq_false_iff, Bool.or_eq_false_iff, Bool.true_and, Bool.and_true, Bool.false_and, Bool.and_false, Bool.or_false, Bool.false_or, Bool.true_or, Bool.or_true, Int.toNat_natCast, VT.eta, not_true, not_false_iff, false_implies, if_true, if_false, Int.toNat_zero, Int.toNat_one, ns0, ns4, casN_len, List.length_take, List.length_cons, List.length_nil]
  refine ⟨fun h => ?_, fun h => ?_⟩
  · have hx := hi _ (getD_mem n 0 (i := i) (by omega))
    have e := loop48c t f b t0 n s l T hn hi (i + 1) (by omega)
    rw [casN_take t f n (by omega), casB_take t f n b (by omega)] at e
    rw [inc (mlen hn) (by omega)]
    repeat' apply And.intro
    all_goals first | omega | exact hx | exact hx.1 | exact hx.2 | (cases hB : casB t f (n.take i) b <;> rw [hB] at e <;> exact e)
  · rw [List.take_of_length_le (by omega)]; exact rfl
termination_by n.length - i
theorem as_VE {β : Nat → Option Value} {F : Nat → Prop} {w : World} {v : Value} {x : AV} {a : VT} (h : asV [] x = some a) (hv : VR β F w v x) : VR β F w v (.agg a.cells) := by
  have h2 := asV_ok (hs := []) (ids := []) (β := β) (F := F) (w := w) (fun _ h => by simp at h) h hv (own_no (asV_known h))
  have e : FZ [] β F = F := by funext b; simp [FZ]
  rwa [e] at h2
theorem oke48 : Eff1 Tryz.prog 48 se48x := by
  intro xs hs β F w cs R hp hl hv h
  unfold se48x at h
  split at h
  · rename_i x t g t1 f1 b
    split at h
    · rename_i a h1 h2
      have := Nat.eq_of_beq_eq_true h2; subst this
      obtain ⟨⟨ht, hi⟩, h⟩ := whenE_inv h
      obtain ⟨t0, n, s, l⟩ := a
      have hv' : ∀ (j : Nat) (v : Value) (y : AV), cs[j]? = some v → [.agg (VT.cells (.mk t0 n s l)), .int .i64 t, .fn 61 [.ptr 0 0, .ptr 1 0, .ptr 2 0]][j]? = some y → VR β F w v y := by
        intro j v y hj hy
        match j, hy with
        | 0, hy =>
          injection hy with hy
          subst hy
          exact as_VE h1 (hv 0 v _ hj rfl)
        | 1, hy => exact hv 1 v y hj hy
        | 2, hy => exact hv 2 v y hj hy
      refine flow_eff (fn := Tryz.f48) (ρ := [.int t0, .is n, .ss s, .vs l, .int t, .int t1, .int f1, .bool b]) mixed tbOk (walkedE (EffOk.also oke61 (EffOk.none _)) okL 14) fnsOk (by kernel_rfl) w48cC_ok (e0 := 9999) (by rfl) (by rfl) (xs := [.agg (VT.cells (.mk t0 n s l)), .int .i64 t, .fn 61 [.ptr 0 0, .ptr 1 0, .ptr 2 0]]) (ys := [.agg (VT.cells (.mk t0 n s l)), .int .i64 t, .fn 61 [.ptr 0 0, .ptr 1 0, .ptr 2 0]]) (hs' := [(0, .cells [.int .i64 t1]), (1, .cells [.int .i64 f1]), (2, .cells [.bool b])]) (by rfl) (by rfl) (by rfl) (by rfl) hp hl hv' (K := fun E => E = ⟨vcl (eachV (.mk t0 n s l) t (casN t1 f1 n)), [(0, some (.cells [.int .i64 t1])), (1, some (.cells [.int .i64 f1])), (2, some (.cells [.bool (casB t1 f1 n b)]))], [], []⟩) (Rh.go (w48c_9999 t1 f1 b t0 n s l t t1 f1 b _) ?_) (fun E hE => by subst hE; exact h)
      simp only [o_add, o_sub, o_mul, o_neg, o_conv, o_lt, o_le, o_eq, o_not, o_and, o_or, o_sel, o_isel, o_ssel, o_beq, o_seq, o_slt, o_slen, o_sat, o_scut, o_sadd, o_ilen, o_blen, o_vlen, o_rlen, o_iget, o_bget, o_vget, o_rget, o_iset, o_bset, o_vset, o_iapp, o_bapp, o_vapp, o_rapp, o_icut, o_bcut, o_vcut, o_irep, o_vt, o_vn, o_vs, o_vl, o_imax, o_imin, o_inb, o_sfit, o_cutb, o_fit, o_mkfit, RhQ, decT, decF, true_and, and_true, eq_self, implies_true, forall_const, Bool.not_eq_true', Bool.not_eq_false', Bool.not_true, Bool.not_false, Bool.and_eq_true, Bool.or_eq_true, Bool.and_eq_false_iff, Bool.or_eq_false_iff, Bool.true_and, Bool.and_true, Bool.false_and, Bool.and_false, Bool.or_false, Bool.false_or, Bool.true_or, Bool.or_true, Int.toNat_natCast, VT.eta, not_true, not_false_iff, false_implies, if_true, if_false, Int.toNat_zero, Int.toNat_one, ns0, ns4]
      have e := loop48c t1 f1 b t0 n s l t ht.n hi 0 (by omega)
      have eb : casB t1 f1 (n.take 0) b = b := by unfold casB; simp
      rw [eb] at e
      exact e
    · exact h.elim
  · exact h.elim
end Go.Qv
