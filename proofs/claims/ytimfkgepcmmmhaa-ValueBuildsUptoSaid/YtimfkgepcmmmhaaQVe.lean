/- quiverlaw03.ValueBuilds: the law. No condition. -/
import Derived.Test.YtimfkgepcmmmhaaQWp
import Derived.Test.YtimfkgepcmmmhaaQWq
set_option linter.unusedVariables false
set_option linter.unusedSimpArgs false
set_option maxRecDepth 100000
namespace Go.Qv
open Go Go.RowKit Go.Proofs
theorem roundB (t n s l) (h : List VT) (hl : h.length ≤ 1073741824) (k : Int) (xt xn xs xl) (hg : (VT.mk xt xn xs xl).Good) (hd : deepOk (.mk xt xn xs xl)) {Q : List Lf × Jp → Prop} (hQ : Q ([.int t, .is n, .ss s, .vs l, .vs (h ++ [.mk xt xn xs xl])], .go)) : Sat (roundT O.real Go.Qv.tb (inl O.real Go.Qv.tb Go.Qv.fns (pureOrc (PS.also 59 sp59 PS.none)) (fun f => Nat.beq f 59) (fun _ => false) 300 14) (rfA (rfAt Try.f10 8)) (rfB (rfAt Try.f10 8)) 0 tmB [(23, .agg [.int .i64 xt, .sl (.i .i64 xn), .sl (.s xs), .sl (.v xl)]), (22, .int .i64 k)] (tmB.inst [.int t, .is n, .ss s, .vs l, .vs h])) Q := by
  refine ⟨?_⟩
  have e := wBR t n s l h k xt xn xs xl Q
  generalize roundT O.real Go.Qv.tb (inl O.real Go.Qv.tb Go.Qv.fns (pureOrc (PS.also 59 sp59 PS.none)) (fun f => Nat.beq f 59) (fun _ => false) 300 14) (rfA (rfAt Try.f10 8)) (rfB (rfAt Try.f10 8)) 0 tmB [(23, .agg [.int .i64 xt, .sl (.i .i64 xn), .sl (.s xs), .sl (.v xl)]), (22, .int .i64 k)] (tmB.inst [.int t, .is n, .ss s, .vs l, .vs h]) = X at e ⊢
  refine ob_of noB_ok _ _ e ?_
  simp only [o_add, o_sub, o_mul, o_neg, o_conv, o_lt, o_le, o_eq, o_not, o_and, o_or, o_sel, o_isel, o_ssel, o_beq, o_seq, o_slt, o_slen, o_sat, o_scut, o_sadd, o_ilen, o_blen, o_vlen, o_rlen, o_iget, o_bget, o_vget, o_rget, o_iset, o_bset, o_vset, o_iapp, o_bapp, o_vapp, o_rapp, o_icut, o_bcut, o_vcut, o_irep, o_vt, o_vn, o_vs, o_vl, o_imax, o_imin, o_inb, o_sfit, o_cutb, o_fit, o_mkfit, RhQ, decT, decF, true_and, and_true, eq_self, implies_true, forall_const, Bool.not_eq_true', Bool.not_eq_false', Bool.not_true, Bool.not_false, Bool.and_eq_true, Bool.or_eq_true, Bool.and_eq_false_iff, Bool.or_eq_false_iff, Bool.true_and, Bool.and_true, Bool.false_and, Bool.and_false, Bool.or_false, Bool.false_or, Bool.true_or, Bool.or_true, Int.toNat_natCast, VT.eta, not_true, not_false_iff, false_implies, if_true, if_false, Int.toNat_zero, Int.toNat_one, ns0, ns4, List.length_append, List.length_cons, List.length_nil, set_new]
  refine ⟨hg, hd, ?_⟩
  repeat' apply And.intro
  all_goals first | exact hQ | omega
theorem at_deep {v : VT} (hg : v.Good) (hb : v.bk ≤ 1048576) (hd : rDepth v ≤ 32) {i : Int} (h0 : 0 ≤ i) (hi : i < rCount v) : (atV v i).Good ∧ deepOk (atV v i) := by
  obtain ⟨h1, h2⟩ := at_good hg hb h0 hi
  have h3 := dpt_sz v
  have h4 := sz_bk v
  rw [rDepth_eq v (by omega)] at hd
  refine ⟨h1, ?_⟩
  unfold deepOk
  rw [rDepth_eq _ (by omega)]
  omega
theorem lpB_ok : LpOk none Try.prog 0 lpB := lpOf_ok noLp_ok (fun c hC hB hn hmd y ρ K hs Q hQ β F a w hrs hy => by
  unfold spLpB at hs
  split at hs
  · rename_i t n s l t' n' s' l' hh
    obtain ⟨⟨hg, hb, hd, hf⟩, hK⟩ := hs
    have ht : tame (.mk t n s l) := by unfold tame; omega
    have h2 : ok2 (.mk t n s l) := ok2_of hg
    have h0 := rCount_nn (.mk t n s l)
    have hca := cnt_all (.mk t n s l)
    have e : rfAt Try.f10 8 = .rangeFunc (.tmp 21) #[22, 23] (rfA (rfAt Try.f10 8)) (rfB (rfAt Try.f10 8)) := by kernel_rfl
    have e2 : rfF (rfAt Try.f10 8) = .tmp 21 := by kernel_rfl
    rw [e2] at hy
    rw [e]
    refine each_ok mixed tbOk (walked (kn := fun f => Nat.beq f 59) (md := fun _ => false) (PureOk.also ok59 (PureOk.none _)) 14) fnsOk hC hB hmd (by decide) (tm := tmB) (ρs := fun k => [.int t', .is n', .ss s', .vs l', .vs (hh ++ (eachs (.mk t n s l)).take k)]) (N := (rCount (.mk t n s l)).toNat) (els := elsV (.mk t n s l)) (fun k => rfl) (fng := Try.f131) (by kernel_rfl) (each131 ht h2 (by omega)) (fun k => by rfl) (fun k => by rfl) (fun k => by rfl) (by decide) (X := fun _ _ => False) (M := (rCount (.mk t n s l)).toNat) (fun k x0 x1 hk hM hx => ?_) (fun _ β F a w h => hQ _ _ hK β F a w ?_) (fun r j h => h.elim) (by simpa using hrs) hy
    · rw [hn]
      injection hx with hx0 hx
      injection hx with hx1 hx
      subst hx0; subst hx1
      have hlt : ((eachs (.mk t n s l)).take k).length = k := by rw [List.length_take, eachs_len]; omega
      obtain ⟨q1, q2⟩ := at_deep hg hb hd (i := (k : Int)) (by omega) (by omega)
      refine roundB t' n' s' l' (hh ++ (eachs (.mk t n s l)).take k) (by rw [List.length_append, hlt]; omega) k (VT.t (atV (.mk t n s l) k)) (VT.n (atV (.mk t n s l) k)) (VT.s (atV (.mk t n s l) k)) (VT.l (atV (.mk t n s l) k)) (by rw [VT.eta]; exact q1) (by rw [VT.eta]; exact q2) (.inl ⟨hk, rfl, ?_⟩)
      rw [VT.eta, List.append_assoc, ← eachs_take hk]
    · rw [show appV hh (eachs (.mk t n s l)) = hh ++ (eachs (.mk t n s l)).take (rCount (.mk t n s l)).toNat by rw [List.take_of_length_le (by rw [eachs_len]; exact Nat.le_refl _)]; rfl]
      exact h
  · exact hs.elim)
theorem bks_map_const {α : Type} (f : α → VT) (c : Nat) : ∀ l : List α, (∀ x ∈ l, (f x).bk ≤ c) → bks (l.map f) ≤ c * l.length
  | [], _ => by simp [bks]
  | x :: l, h => by
    have h1 := bks_map_const f c l (fun y hy => h y (List.mem_cons_of_mem _ hy))
    have h2 := h x List.mem_cons_self
    rw [List.map_cons, bks_cons, List.length_cons, Nat.mul_succ]; omega
theorem bks_syms : ∀ s : List ByteArray, bks (s.map fun x => VT.mk (-3) [] [x] []) ≤ 2 * strs s
  | [] => by simp [bks]
  | x :: s => by
    have := bks_syms s
    rw [List.map_cons, bks_cons, VT.bk_eq]
    simp only [List.length_nil, strs, bks]
    omega
theorem atomV_bk (t n : Int) : (atomV t n).bk ≤ 2 := by
  unfold atomV
  split <;> · rw [VT.bk_eq]; simp [strs, bks]
theorem eachs_bk {v : VT} (h : 0 ≤ v.t ∧ v.t ≤ 5) : bks (eachs v) ≤ 2 * v.bk := by
  obtain ⟨t, n, s, l⟩ := v
  have ht : 0 ≤ t ∧ t ≤ 5 := h
  have e : eachs (.mk t n s l) = (List.range (rCount (.mk t n s l)).toNat).map fun (k : Nat) => at0 (.mk t n s l) k := by
    unfold eachs
    refine List.map_congr_left fun k hk => ?_
    have hk := List.mem_range.1 hk
    rw [at_0 (by omega) (by show t ≠ 98; omega) (by show t ≠ 99; omega), Int.toNat_natCast]
  rw [e]
  by_cases h3 : t = 3
  · have hc : (rCount (.mk t n s l)).toNat = s.length := by rw [cnt_mk _ _ _ _, if_pos h3, Int.toNat_natCast]
    rw [hc]
    have : (List.range s.length).map (fun (k : Nat) => at0 (.mk t n s l) k) = s.map fun x => VT.mk (-3) [] [x] [] := by
      conv => rhs; rw [← map_range s ⟨#[]⟩]
      rw [List.map_map]
      refine List.map_congr_left fun k _ => ?_
      simp only [at0_mk, if_pos h3, Function.comp]
    rw [this, VT.bk_eq]
    have := bks_syms s
    omega
  · by_cases h0 : t = 0
    · have hc : (rCount (.mk t n s l)).toNat = l.length := by rw [cnt_mk _ _ _ _, if_neg h3, if_neg (by unfold isVecT; omega), if_pos h0, Int.toNat_natCast]
      rw [hc]
      have : (List.range l.length).map (fun (k : Nat) => at0 (.mk t n s l) k) = l := by
        conv => rhs; rw [← map_range l default]
        refine List.map_congr_left fun k _ => ?_
        simp only [at0_mk, if_neg h3, if_neg (show ¬ isVecT t by unfold isVecT; omega), if_pos h0]
      rw [this, VT.bk_eq]
      omega
    · have hv : isVecT t := by unfold isVecT; omega
      have hc : (rCount (.mk t n s l)).toNat = n.length := by rw [cnt_mk _ _ _ _, if_neg h3, if_pos hv, Int.toNat_natCast]
      rw [hc]
      have := bks_map_const (fun (k : Nat) => at0 (.mk t n s l) k) 2 (List.range n.length) (fun k _ => by
        rw [at0_mk, if_neg h3, if_pos hv]; exact atomV_bk _ _)
      rw [List.length_range] at this
      rw [VT.bk_eq]
      omega
theorem buildsL (t n s l) (hf : (VT.mk t n s l).Fine) (hb : (VT.mk t n s l).bk ≤ 1048576) : Rh w10S IsTrue (9999, [.int t, .is n, .ss s, .vs l]) := by
  refine Rh.go (w10_9999 t n s l _) ?_
  simp only [o_add, o_sub, o_mul, o_neg, o_conv, o_lt, o_le, o_eq, o_not, o_and, o_or, o_sel, o_isel, o_ssel, o_beq, o_seq, o_slt, o_slen, o_sat, o_scut, o_sadd, o_ilen, o_blen, o_vlen, o_rlen, o_iget, o_bget, o_vget, o_rget, o_iset, o_bset, o_vset, o_iapp, o_bapp, o_vapp, o_rapp, o_icut, o_bcut, o_vcut, o_irep, o_vt, o_vn, o_vs, o_vl, o_imax, o_imin, o_inb, o_sfit, o_cutb, o_fit, o_mkfit, RhQ, decT, decF, true_and, and_true, eq_self, implies_true, forall_const, Bool.not_eq_true', Bool.not_eq_false', Bool.not_true, Bool.not_false, Bool.and_eq_true, Bool.or_eq_true, Bool.and_eq_false_iff, Bool.or_eq_false_iff, Bool.true_and, Bool.and_true, Bool.false_and, Bool.and_false, Bool.or_false, Bool.false_or, Bool.true_or, Bool.or_true, Int.toNat_natCast, VT.eta, not_true, not_false_iff, false_implies, if_true, if_false, Int.toNat_zero, Int.toNat_one, ns0, ns4]
  simp only [show ∀ x : List VT, appV [] x = x from fun _ => rfl]
  refine ⟨fun _ => hf, fun _ => IsTrue.of rfl, fun hg => ?_⟩
  have hp : rParts (.mk t n s l) 1048576 = 0 ∧ rDepth (.mk t n s l) ≤ 32 := by
    have h := hg.2
    split at h
    · omega
    · exact ⟨h, by omega⟩
  have hgood := parts_good 1048576 (.mk t n s l) (Nat.le_trans (sz_bk _) hb) (Nat.le_refl _) (by exact hp.1)
  have ht : tame (.mk t n s l) := by unfold tame; omega
  refine ⟨ht, ⟨hgood, hb, hp.2, by simp⟩, fun h => ?_, fun _ => IsTrue.of rfl⟩
  have h' : t = 0 ∨ (0 < t ∧ t ≤ 5 ∧ 0 < (eachs (.mk t n s l)).length) := by omega
  have hk := eachs_bk (v := .mk t n s l) (show 0 ≤ t ∧ t ≤ 5 by omega)
  rw [of_eachs hgood hb h']
  exact ⟨by unfold tames; omega, fun _ => ⟨hgood, hp.2⟩, IsTrue.of (veq_self _)⟩
/-- A law over loops that are known. -/
theorem flow_lawL {lp : LP} (hlp : LpOk none Try.prog 0 lp) {orc : Orc} (horc : OrcOk Try.prog orc (fun _ => True)) {f : FuncId} {fn : Func} (hf : fns f = some fn)
    {cuts : List Cut} (hok : cutsOk cuts = true) {c0 : Cut} (hc0 : findCut 9999 cuts = some c0) (hpre : c0.pre = [.code (bodyOf fn)]) {xs : List AV} {ρ : List Lf} (hys : renL (renF (sig0 0) 5) xs = some xs)
    (hin : c0.tm.inst ρ = ⟨zipArgs 0 xs, [], [], 0, fn.ntmps⟩) (hnt : Nat.ble xs.length fn.ntmps = true)
    {cs : Array Value} {F : Nat → Prop} {w : World} (ha : Args F w cs xs) (hr : Rh (stepL lp O.real tb orc fn.results [] 0 cuts) IsTrue (9999, ρ)) :
    Calls Try.prog f cs w fun e w' => e = .returned (.bool true) ∧ Below w.heap.size w w' := by
  obtain ⟨n, hn⟩ := hr
  exact law_calls fnsOk hf (flow_pureL hlp mixed tbOk horc fnsOk hf hok hc0 hpre hys hin hnt ha (K := fun y => y = .bool true) (n := n) hn (fun y hy v' F' w' p => by
    subst hy
    have := p.vr
    cases this
    exact ⟨rfl, p.below⟩))
theorem buildsOrc : OrcOk Try.prog (inl O.real Go.Qv.tb Go.Qv.fns (pureOrc (PS.also 45 sp45 (PS.also 105 sp105f (PS.also 78 sp78f (PS.also 57 sp57 (PS.also 54 sp54 (PS.also 50 sp50f (PS.also 59 sp59 (PS.also 47 spLive PS.none))))))))) (fun f => Nat.beq f 45 || Nat.beq f 105 || Nat.beq f 78 || Nat.beq f 57 || Nat.beq f 54 || Nat.beq f 50 || Nat.beq f 59 || Nat.beq f 47) (fun _ => false) 300 14) (fun _ => True) :=
  walked (PureOk.also ok45 (PureOk.also ok105 (PureOk.also ok78 (PureOk.also ok57 (PureOk.also ok54 (PureOk.also ok50 (PureOk.also ok59 (PureOk.also ok47 (PureOk.none _))))))))) 14
end Go.Qv
