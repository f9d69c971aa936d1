/- vec.Do on any two values: what it answers. No condition. -/
import Derived.Test.YteaeogofidakiaaQXfM
set_option linter.unusedVariables false
set_option linter.unusedSimpArgs false
set_option maxRecDepth 100000
namespace Go.Qv
open Go Go.RowKit Go.Proofs
noncomputable def el (o : Int) (a b : VT) (i : Nat) : Int × Bool :=
  if baF a = 3 then (tolF o (strC (a.s.getD (atI a i).toNat ⟨#[]⟩) (b.s.getD (atI b i).toNat ⟨#[]⟩)), true)
  else (onN o (a.n.getD (atI a i).toNat 0) (plF (baF a)) (b.n.getD (atI b i).toNat 0) (plF (baF b)), onB o (a.n.getD (atI a i).toNat 0) (plF (baF a)) (b.n.getD (atI b i).toNat 0) (plF (baF b)))
def doN (a b : VT) : Int := if isAt a then rCount b else rCount a
noncomputable def doX (o : Int) (a b : VT) : Int := if o < 0 ∨ 9 < o then 2 else if flB a = false ∨ flB b = false then 31 else if resT o (baF a) (baF b) = 0 then 31 else if isAt a = false ∧ isAt b = false ∧ rCount b ≠ rCount a then 32 else 0
noncomputable def allE (o : Int) (a b : VT) : Bool := (List.range (doN a b).toNat).all fun i => (el o a b i).2
noncomputable def doE (o : Int) (a b : VT) : Int := if doX o a b ≠ 0 then doX o a b else if allE o a b then 0 else 70
noncomputable def doV (o : Int) (a b : VT) : VT := if doX o a b = 0 ∧ allE o a b = true then .mk (likeT (resT o (baF a) (baF b)) (isAt a && isAt b)) ((List.range (doN a b).toNat).map fun i => (el o a b i).1) [] [] else .mk 0 [] [] []
/-- What is asked of a flat value. -/
def good (v : VT) : Prop := flB v = true → (isAt v = true → (baF v = 3 → v.s.length = 1) ∧ (baF v ≠ 3 → v.n.length = 1)) ∧ (∀ x ∈ v.n, isI x) ∧ rCount v ≤ 65536
def doOk (a b : VT) : Prop := good a ∧ good b
noncomputable def sp18x : List AV → T AV
  | [.int .i64 o, x, y] => (match asV [] x, asV [] y with | some a, some b => when_ (doOk a b) (.leaf (.tup [vcl (doV o a b), .int .i64 (doE o a b)])) | _, _ => .stuck "sp18x")
  | _ => .stuck "sp18x"
theorem asV_two {o : Int} {x y : AV} {Q : AV → Prop} (h : (sp18x [.int .i64 o, x, y]).sat Q) : ∃ a b, asV [] x = some a ∧ asV [] y = some b ∧ doOk a b ∧ Q (.tup [vcl (doV o a b), .int .i64 (doE o a b)]) := by
  change T.sat (match asV [] x, asV [] y with | some a, some b => when_ (doOk a b) (.leaf (.tup [vcl (doV o a b), .int .i64 (doE o a b)])) | _, _ => .stuck "sp18x") Q at h
  split at h
  · rename_i a b h1 h2
    obtain ⟨hd, h⟩ := when_inv h
    exact ⟨a, b, h1, h2, hd, h⟩
  · exact h.elim
section
variable {o : Int} {a b : VT}
theorem do_bad {e : Int} (h : doX o a b = e) (he : e ≠ 0) : doV o a b = .mk 0 [] [] [] ∧ doE o a b = e := by
  subst h
  unfold doV doE
  rw [if_neg (fun h => he h.1), if_pos he]
  exact ⟨rfl, rfl⟩
theorem do_over (h : doX o a b = 0) {i : Nat} (hi : (i : Int) < doN a b) (hf : (el o a b i).2 = false) : doV o a b = .mk 0 [] [] [] ∧ doE o a b = 70 := by
  have ha : allE o a b = false := by
    unfold allE
    rw [Bool.eq_false_iff]
    intro h
    rw [List.all_eq_true] at h
    have := h i (by rw [List.mem_range]; omega)
    rw [hf] at this; cases this
  unfold doV doE
  rw [if_neg (fun h => by rw [ha] at h; cases h.2), if_neg (fun hh => hh h), ha]
  exact ⟨rfl, rfl⟩
theorem do_good (h : doX o a b = 0) (hf : ∀ i : Nat, (i : Int) < doN a b → (el o a b i).2 = true) : doV o a b = .mk (likeT (resT o (baF a) (baF b)) (isAt a && isAt b)) ((List.range (doN a b).toNat).map fun i => (el o a b i).1) [] [] ∧ doE o a b = 0 := by
  have ha : allE o a b = true := by
    unfold allE
    rw [List.all_eq_true]
    intro i hi
    rw [List.mem_range] at hi
    exact hf i (by omega)
  unfold doV doE
  rw [if_pos ⟨h, ha⟩, if_neg (fun hh => hh h), ha]
  exact ⟨rfl, rfl⟩
end
theorem flB_i {t n s l} (h : flB (.mk t n s l) = true) : (1 ≤ baF (.mk t n s l) ∧ baF (.mk t n s l) ≤ 5) ∧ (0 < t ∨ isAt (.mk t n s l) = true) := by
  unfold flB at h
  simp only [Bool.and_eq_true, Bool.or_eq_true, decide_eq_true_eq] at h
  exact h
theorem isAt_i {t n s l} : isAt (.mk t n s l) = true ↔ t < 0 ∧ -5 ≤ t := by
  show (decide (t < 0) && decide (-5 ≤ t)) = true ↔ _
  simp
theorem baF_vec {t n s l} (h : isAt (.mk t n s l) = false) (hf : flB (.mk t n s l) = true) : baF (.mk t n s l) = t ∧ 1 ≤ t ∧ t ≤ 5 := by
  obtain ⟨h1, h2⟩ := flB_i hf
  rw [h] at h2
  have ht : 0 < t := by rcases h2 with h2 | h2; exact h2; cases h2
  have e : baF (.mk t n s l) = t := by unfold baF; rw [if_neg (show ¬ (VT.mk t n s l).t < 0 by show ¬ t < 0; omega)]; rfl
  rw [e] at h1
  exact ⟨e, h1⟩
/-- Where an element is looked for, there is one. -/
theorem at_in {t n s l} (hg : good (.mk t n s l)) (hf : flB (.mk t n s l) = true) {i : Nat} (hi : isAt (.mk t n s l) = false → (i : Int) < rCount (.mk t n s l)) :
    0 ≤ atI (.mk t n s l) i ∧ (baF (.mk t n s l) = 3 → atI (.mk t n s l) i < s.length) ∧ (baF (.mk t n s l) ≠ 3 → atI (.mk t n s l) i < n.length) := by
  obtain ⟨g1, g2, g3⟩ := hg hf
  cases ha : isAt (.mk t n s l) with
  | true =>
    have e : atI (.mk t n s l) i = 0 := by unfold atI; rw [ha]; rfl
    rw [e]
    have g1 : (baF (.mk t n s l) = 3 → s.length = 1) ∧ (baF (.mk t n s l) ≠ 3 → n.length = 1) := g1 ha
    exact ⟨by omega, fun h => by have := g1.1 h; omega, fun h => by have := g1.2 h; omega⟩
  | false =>
    have e : atI (.mk t n s l) i = i := by unfold atI; rw [ha]; rfl
    rw [e]
    obtain ⟨b1, b2⟩ := baF_vec ha hf
    have hi := hi ha
    rw [b1]
    refine ⟨by omega, fun h => ?_, fun h => ?_⟩
    · subst h; rw [cnt_s] at hi; exact hi
    · rw [cnt_n h b2] at hi; exact hi
theorem getD_in {n : List Int} (h : ∀ x ∈ n, isI x) (k : Nat) : isI (n.getD k 0) := by
  rcases Nat.lt_or_ge k n.length with hk | hk
  · exact h _ (getD_mem n 0 hk)
  · rw [List.getD_eq_getElem?_getD, List.getElem?_eq_none hk]; unfold isI; simp
attribute [local irreducible] isI opOk
theorem loop18 (o : Int) (ho : opOk o) (t n s l t' n' s' l') (ga : good (.mk t n s l)) (gb : good (.mk t' n' s' l')) (fa : flB (.mk t n s l) = true) (fb : flB (.mk t' n' s' l') = true) (hx : doX o (.mk t n s l) (.mk t' n' s' l') = 0)
    (hs : baF (.mk t n s l) = 3 ↔ baF (.mk t' n' s' l') = 3) (ca : isAt (.mk t n s l) = false → doN (.mk t n s l) (.mk t' n' s' l') = rCount (.mk t n s l)) (cb : isAt (.mk t' n' s' l') = false → doN (.mk t n s l) (.mk t' n' s' l') = rCount (.mk t' n' s' l')) (hN : 0 ≤ doN (.mk t n s l) (.mk t' n' s' l') ∧ doN (.mk t n s l) (.mk t' n' s' l') ≤ 65536)
    (i : Nat) (hi : (i : Int) ≤ doN (.mk t n s l) (.mk t' n' s' l')) (hp : ∀ j : Nat, j < i → (el o (.mk t n s l) (.mk t' n' s' l') j).2 = true) :
    Rh w18xS (Ret (.tup [vcl (doV o (.mk t n s l) (.mk t' n' s' l')), .int .i64 (doE o (.mk t n s l) (.mk t' n' s' l'))])) (15, [.int o, .int (doN (.mk t n s l) (.mk t' n' s' l')), .int i, .int t, .is n, .ss s, .vs l, .int t', .is n', .ss s', .vs l', .int (resT o (baF (.mk t n s l)) (baF (.mk t' n' s' l'))), .is ((List.range i).map fun i => (el o (.mk t n s l) (.mk t' n' s' l') i).1)]) := by
  refine Rh.go (w18x_15 o _ i t n s l t' n' s' l' _ _ _) ?_
  have key : (i : Int) < doN (.mk t n s l) (.mk t' n' s' l') → (el o (.mk t n s l) (.mk t' n' s' l') i).2 = true → Rh w18xS (Ret (.tup [vcl (doV o (.mk t n s l) (.mk t' n' s' l')), .int .i64 (doE o (.mk t n s l) (.mk t' n' s' l'))])) (15, [.int o, .int (doN (.mk t n s l) (.mk t' n' s' l')), .int (i + 1 : Nat), .int t, .is n, .ss s, .vs l, .int t', .is n', .ss s', .vs l', .int (resT o (baF (.mk t n s l)) (baF (.mk t' n' s' l'))), .is ((List.range i).map (fun i => (el o (.mk t n s l) (.mk t' n' s' l') i).1) ++ [(el o (.mk t n s l) (.mk t' n' s' l') i).1])]) := fun h he => by
    have e := loop18 o ho t n s l t' n' s' l' ga gb fa fb hx hs ca cb hN (i + 1) (by omega) (fun j hj => by
      rcases Nat.lt_or_ge j i with h1 | h1
      · exact hp j h1
      · have : j = i := by omega
        subst this; exact he)
    rw [List.range_succ, List.map_append] at e
    exact e
  have iA := fun h => at_in (i := i) ga fa (fun hh => by rw [← ca hh]; exact h)
  have iB := fun h => at_in (i := i) gb fb (fun hh => by rw [← cb hh]; exact h)
  have nA := (ga fa).2.1
  have nB := (gb fb).2.1
  have nA : ∀ x ∈ n, isI x := nA
  have nB : ∀ x ∈ n', isI x := nB
  simp only [o_add, o_sub, o_mul, o_neg, o_conv, o_lt, o_le, o_eq, o_not, o_and, o_or, o_sel, o_isel, o_ssel, o_beq, o_seq, o_slt, o_slen, o_sat, o_scut, o_sadd, o_ilen, o_blen, o_vlen, o_rlen, o_iget, o_bget, o_vget, o_rget, o_iset, o_bset, o_vset, o_iapp, o_bapp, o_vapp, o_rapp, o_icut, o_bcut, o_vcut, o_irep, o_vt, o_vn, o_vs, o_vl, o_imax, o_imin, o_inb, o_sfit, o_cutb, o_fit, o_mkfit, RhQ, decT, decF, true_and, and_true, eq_self, implies_true, forall_const, Bool.not_eq_true', Bool.not_eq_false', Bool.not_true, Bool.not_false, Bool.and_eq_true, Bool.or_eq_true, Bool.and_eq_false_iff, Bool.or_eq_false_iff, Bool.true_and, Bool.and_true, Bool.false_and, Bool.and_false, Bool.or_false, Bool.false_or, Bool.true_or, Bool.or_true, Int.toNat_natCast, VT.eta, not_true, not_false_iff, false_implies, if_true, if_false, Int.toNat_zero, Int.toNat_one, ns0, ns4, List.length_map, List.length_range, List.length_cons, List.length_nil]
  refine ⟨fun h => ⟨fun h3 => ?_, fun h3 => ?_⟩, fun h => ?_⟩
  · have e := key h (by unfold el; rw [if_pos h3])
    have ee : (el o (.mk t n s l) (.mk t' n' s' l') i).1 = tolF o (strC (s.getD (atI (.mk t n s l) i).toNat ⟨#[]⟩) (s'.getD (atI (.mk t' n' s' l') i).toNat ⟨#[]⟩)) := by unfold el; rw [if_pos h3]; rfl
    rw [ee] at e
    obtain ⟨a1, a2, _⟩ := iA h
    obtain ⟨b1, b2, _⟩ := iB h
    rw [w64 (by omega) (by omega)]
    exact ⟨⟨⟨a1, a2 h3⟩, ⟨b1, b2 (hs.1 h3)⟩, by omega⟩, e⟩
  · have ee : el o (.mk t n s l) (.mk t' n' s' l') i = (onN o (n.getD (atI (.mk t n s l) i).toNat 0) (plF (baF (.mk t n s l))) (n'.getD (atI (.mk t' n' s' l') i).toNat 0) (plF (baF (.mk t' n' s' l'))), onB o (n.getD (atI (.mk t n s l) i).toNat 0) (plF (baF (.mk t n s l))) (n'.getD (atI (.mk t' n' s' l') i).toNat 0) (plF (baF (.mk t' n' s' l')))) := by unfold el; rw [if_neg h3]; rfl
    obtain ⟨a1, _, a2⟩ := iA h
    obtain ⟨b1, _, b2⟩ := iB h
    have h3' : baF (.mk t' n' s' l') ≠ 3 := fun hh => h3 (hs.2 hh)
    rw [w64 (by omega) (by omega)]
    refine ⟨⟨⟨a1, a2 h3⟩, ⟨b1, b2 h3'⟩, ho, getD_in nA _, getD_in nB _⟩, fun hb => ?_, fun hb => ?_⟩
    · obtain ⟨d1, d2⟩ := do_over hx h (by rw [ee]; exact hb)
      exact Ret.ve d1 d2 rfl
    · have e := key h (by rw [ee]; exact hb)
      rw [ee] at e
      exact ⟨by omega, e⟩
  · obtain ⟨d1, d2⟩ := do_good hx (fun j hj => hp j (by omega))
    have ei : (doN (.mk t n s l) (.mk t' n' s' l')).toNat = i := by omega
    rw [ei] at d1
    exact Ret.ve d1 d2 rfl
termination_by (doN (.mk t n s l) (.mk t' n' s' l') - i).toNat
theorem okD : PureOk Try.prog (PS.also 49 sp49x (PS.also 44 sp44x (PS.also 87 sp87x (PS.also 29 sp29f (PS.also 31 sp31x (PS.also 30 sp30x (PS.also 45 sp45x (PS.also 47 sp47x (PS.also 50 sp50x (PS.also 46 sp46x (PS.also 51 sp51x PS.none))))))))))) :=
  PureOk.also ok49x (PureOk.also ok44x (PureOk.also ok87x (PureOk.also ok29 (PureOk.also ok31x (PureOk.also ok30x (PureOk.also ok45x (PureOk.also ok47x (PureOk.also ok50x (PureOk.also ok46x (PureOk.also ok51x (PureOk.none _)))))))))))
theorem opOk_mk {o : Int} (h : 0 ≤ o ∧ o ≤ 9) : opOk o := by unfold opOk; exact h
theorem ok18x : Pure1 Try.prog 18 sp18x := by
  intro xs F w cs R ha h
  have hxs : ∃ o x y, xs = [.int .i64 o, x, y] := by
    unfold sp18x at h
    split at h
    · exact ⟨_, _, _, rfl⟩
    · exact h.elim
  obtain ⟨o, x, y, rfl⟩ := hxs
  obtain ⟨a, b, h1, h2, ⟨ga, gb⟩, h⟩ := asV_two h
  have ha := ha.conv3 (fun v h => h) (fun v => as_V h1) (fun v => as_V h2)
  obtain ⟨t, n, s, l⟩ := a
  obtain ⟨t', n', s', l'⟩ := b
  refine contract (fn := Try.f18) (walked okD 14) (by kernel_rfl) w18xC_ok (by rfl) (by rfl) (by rfl) (by rfl) (by rfl) ha (ρ := [.int o, .int t, .is n, .ss s, .vs l, .int t', .is n', .ss s', .vs l']) (Rh.go (w18x_9999 o t n s l t' n' s' l' _) ?_) h
  simp only [o_add, o_sub, o_mul, o_neg, o_conv, o_lt, o_le, o_eq, o_not, o_and, o_or, o_sel, o_isel, o_ssel, o_beq, o_seq, o_slt, o_slen, o_sat, o_scut, o_sadd, o_ilen, o_blen, o_vlen, o_rlen, o_iget, o_bget, o_vget, o_rget, o_iset, o_bset, o_vset, o_iapp, o_bapp, o_vapp, o_rapp, o_icut, o_bcut, o_vcut, o_irep, o_vt, o_vn, o_vs, o_vl, o_imax, o_imin, o_inb, o_sfit, o_cutb, o_fit, o_mkfit, RhQ, decT, decF, true_and, and_true, eq_self, implies_true, forall_const, Bool.not_eq_true', Bool.not_eq_false', Bool.not_true, Bool.not_false, Bool.and_eq_true, Bool.or_eq_true, Bool.and_eq_false_iff, Bool.or_eq_false_iff, Bool.true_and, Bool.and_true, Bool.false_and, Bool.and_false, Bool.or_false, Bool.false_or, Bool.true_or, Bool.or_true, Int.toNat_natCast, VT.eta, not_true, not_false_iff, false_implies, if_true, if_false, Int.toNat_zero, Int.toNat_one, ns0, ns4]
  have bad : ∀ e : Int, doX o (.mk t n s l) (.mk t' n' s' l') = e → e ≠ 0 → ∀ E, resE E = some (.tup [vcl (.mk 0 [] [] []), .int .i64 e]) → Ret (.tup [vcl (doV o (.mk t n s l) (.mk t' n' s' l')), .int .i64 (doE o (.mk t n s l) (.mk t' n' s' l'))]) E := fun e h he E hE => Ret.ve (do_bad h he).1 (do_bad h he).2 hE
  refine ⟨fun h => bad 2 (by unfold doX; rw [if_pos h]) (by decide) _ rfl, fun h1 => ?_⟩
  refine ⟨fun h => bad 31 (by unfold doX; rw [if_neg (by omega), if_pos h]) (by decide) _ rfl, fun h2 => ?_⟩
  obtain ⟨fa, fb⟩ := h2
  have n2 : ¬ (flB (.mk t n s l) = false ∨ flB (.mk t' n' s' l') = false) := by rw [fa, fb]; simp
  refine ⟨fun h => bad 31 (by unfold doX; rw [if_neg (by omega), if_neg n2, if_pos h]) (by decide) _ rfl, fun h3 => ?_⟩
  have hs : baF (.mk t n s l) = 3 ↔ baF (.mk t' n' s' l') = 3 := by
    constructor
    · intro h; apply Classical.byContradiction; intro h'; exact h3 (res_zero (.inl ⟨h, h'⟩))
    · intro h; apply Classical.byContradiction; intro h'; exact h3 (res_zero (.inr ⟨h', h⟩))
  have x0 : ¬ (isAt (.mk t n s l) = false ∧ isAt (.mk t' n' s' l') = false ∧ rCount (.mk t' n' s' l') ≠ rCount (.mk t n s l)) → doX o (.mk t n s l) (.mk t' n' s' l') = 0 := fun h => by unfold doX; rw [if_neg (by omega), if_neg n2, if_neg h3, if_neg h]
  have r1 := rCount_nn (.mk t n s l)
  have r2 := rCount_nn (.mk t' n' s' l')
  have q1 := (ga fa).2.2
  have q2 := (gb fb).2.2
  have ho := opOk_mk (o := o) (by omega)
  refine ⟨fun hA => ?_, fun hA => ⟨fun h => bad 32 (by unfold doX; rw [if_neg (by omega), if_neg n2, if_neg h3, if_pos ⟨hA, h.1, h.2⟩]) (by decide) _ rfl, fun h => ?_⟩⟩
  · have eN : doN (.mk t n s l) (.mk t' n' s' l') = rCount (.mk t' n' s' l') := by unfold doN; rw [if_pos hA]
    have e := loop18 o ho t n s l t' n' s' l' ga gb fa fb (x0 (by rw [hA]; simp)) hs (fun h => by rw [hA] at h; cases h) (fun _ => eN) (by omega) 0 (by omega) (fun j hj => by omega)
    rw [eN] at e
    exact e
  · have eN : doN (.mk t n s l) (.mk t' n' s' l') = rCount (.mk t n s l) := by unfold doN; rw [hA]; rfl
    have e := loop18 o ho t n s l t' n' s' l' ga gb fa fb (x0 (by rintro ⟨_, h5, h6⟩; rcases h with h | h; rw [h] at h5; cases h5; exact h6 h)) hs (fun _ => eN) (fun h5 => by
      rcases h with h | h
      · rw [h] at h5; cases h5
      · rw [eN, h]) (by omega) 0 (by omega) (fun j hj => by omega)
    rw [eN] at e
    exact e
end Go.Qv
/- Walks of operations, 7. (Printed.) -/
set_option linter.unusedVariables false
set_option maxRecDepth 100000
namespace Go.Qv
open Go Go.RowKit
noncomputable def w4xC : List Cut := [(⟨9999, ⟨[(0, (.one (.int IntKind.i64))), (1, (.agg [(.int .i64), (.sl (.i .i64)), (.sl .s), (.sl .v)])), (2, (.agg [(.int .i64), (.sl (.i .i64)), (.sl .s), (.sl .v)]))], [], 0, 115⟩, [It.code (bodyOf Go.Proofs.Try.f4)], []⟩ : Cut),
  (⟨10, ⟨[(0, (.one (.int IntKind.i64))), (4, (.one (.ptr 0 0))), (5, (.one (.ptr 64 0))), (6, (.one (.fix (.bool false)))), (7, (.one (.int IntKind.i64))), (10, (.one (.ptr 2432 0))), (11, (.one (.int IntKind.i64))), (14, (.one (.int IntKind.i64)))], [(0, (.cells [(.int IntKind.i64), (.sl (.i IntKind.i64)), (.sl .s), (.sl .v)])), (64, (.cells [(.int IntKind.i64), (.sl (.i IntKind.i64)), (.sl .s), (.sl .v)])), (2432, (.cells [(.int IntKind.i64), (.sl (.i IntKind.i64)), (.sl .s), (.sl .v)]))], 2496, 115⟩, (codeAt Go.Proofs.Try.f4 10), []⟩ : Cut)]
theorem w4xC_ok : cutsOk w4xC = true := by kernel_rfl
noncomputable def w4xS  : Nat × List Lf → T Gt := stepX O.real Go.Qv.tb (inl O.real Go.Qv.tb Go.Qv.fns (pureOrc (PS.also 8 spLive (PS.also 7 sp7 (PS.also 15 sp15f (PS.also 16 sp16 (PS.also 18 sp18x (PS.also 11 sp11f (PS.also 19 sp19p PS.none)))))))) (fun f => Nat.beq f 8 || Nat.beq f 7 || Nat.beq f 15 || Nat.beq f 16 || Nat.beq f 18 || Nat.beq f 11 || Nat.beq f 19) (fun _ => false) 300 14) Go.Proofs.Try.f4.results ([]) 0 w4xC
theorem w4x_9999  (t0 : Int) (t1 : Int) (t1_1 : List Int) (t1_2 : List ByteArray) (t1_3 : List VT) (t2 : Int) (t2_1 : List Int) (t2_2 : List ByteArray) (t2_3 : List VT) (Q : Gt → Prop) : T.ob noB Q (.S (.D 1 (.S (.D 1 (.S (.D 1 (.S (.D 1 (.S (.D 1 (.S (.D 1 (.S (.B (.S .E) (.S (.S (.S (.S (.S (.D 1 (.S (.D 1 (.S (.D 1 (.S (.D 1 (.S (.D 1 (.S (.D 1 (.S (.D 1 (.S (.D 1 (.S (.D 1 (.S (.B (.S .E) (.S (.S .E)))))))))))))))))))))))))))))))))))))))) (w4xS  (9999, [Lf.int t0, Lf.int t1, Lf.is t1_1, Lf.ss t1_2, Lf.vs t1_3, Lf.int t2, Lf.is t2_1, Lf.ss t2_2, Lf.vs t2_3])) =
  ((fines [(VT.mk t1 t1_1 t1_2 t1_3), (VT.mk t2 t2_1 t2_2 t2_3)]) ∧ ((((O.real.not (rightB [(VT.mk t1 t1_1 t1_2 t1_3), (VT.mk t2 t2_1 t2_2 t2_3)])) = Bool.false) → True) ∧ ((((O.real.not (rightB [(VT.mk t1 t1_1 t1_2 t1_3), (VT.mk t2 t2_1 t2_2 t2_3)])) = Bool.false) → ((Bool.true = Bool.true) ∧ ((((O.real.lt t1 (0 : Int)) = Bool.true) → True) ∧ ((Bool.true = Bool.true) ∧ ((((O.real.lt t1 (0 : Int)) = Bool.true) → True) ∧ ((Bool.true = Bool.true) ∧ ((((O.real.lt t1 (0 : Int)) = Bool.true) → True) ∧ True))))))) ∧ ((((O.real.not (rightB [(VT.mk t1 t1_1 t1_2 t1_3), (VT.mk t2 t2_1 t2_2 t2_3)])) = Bool.false) → True) ∧ ((((O.real.or (O.real.not (rightB [(VT.mk t1 t1_1 t1_2 t1_3), (VT.mk t2 t2_1 t2_2 t2_3)])) (O.real.not (O.real.and (O.real.lt t1 (0 : Int)) (O.real.le (Int.negSucc 4) t1)))) = Bool.false) → True) ∧ ((((O.real.or (O.real.not (rightB [(VT.mk t1 t1_1 t1_2 t1_3), (VT.mk t2 t2_1 t2_2 t2_3)])) (O.real.not (O.real.and (O.real.lt t1 (0 : Int)) (O.real.le (Int.negSucc 4) t1)))) = Bool.false) → ((Bool.true = Bool.true) ∧ ((((O.real.le (1 : Int) t2) = Bool.true) → True) ∧ ((Bool.true = Bool.true) ∧ ((((O.real.le (1 : Int) t2) = Bool.true) → True) ∧ ((Bool.true = Bool.true) ∧ ((((O.real.le (1 : Int) t2) = Bool.true) → True) ∧ True))))))) ∧ ((((O.real.or (O.real.not (rightB [(VT.mk t1 t1_1 t1_2 t1_3), (VT.mk t2 t2_1 t2_2 t2_3)])) (O.real.not (O.real.and (O.real.lt t1 (0 : Int)) (O.real.le (Int.negSucc 4) t1)))) = Bool.false) → True) ∧ (((O.real.or (O.real.or (O.real.not (rightB [(VT.mk t1 t1_1 t1_2 t1_3), (VT.mk t2 t2_1 t2_2 t2_3)])) (O.real.not (O.real.and (O.real.lt t1 (0 : Int)) (O.real.le (Int.negSucc 4) t1)))) (O.real.not (O.real.and (O.real.le (1 : Int) t2) (O.real.le t2 (5 : Int))))) = true → Q (.inr ⟨(AV.bool Bool.true), [], [], []⟩)) ∧ ((O.real.or (O.real.or (O.real.not (rightB [(VT.mk t1 t1_1 t1_2 t1_3), (VT.mk t2 t2_1 t2_2 t2_3)])) (O.real.not (O.real.and (O.real.lt t1 (0 : Int)) (O.real.le (Int.negSucc 4) t1)))) (O.real.not (O.real.and (O.real.le (1 : Int) t2) (O.real.le t2 (5 : Int))))) = false → ((tame (VT.mk (O.real.neg IntKind.i64 t1) t1_1 t1_2 [])) ∧ ((cntOk (VT.mk (O.real.neg IntKind.i64 t1) t1_1 t1_2 [])) ∧ ((takeOk (rCount (VT.mk t2 t2_1 t2_2 t2_3)) (VT.mk (O.real.neg IntKind.i64 t1) t1_1 t1_2 [])) ∧ ((doOk (VT.mk t1 t1_1 t1_2 t1_3) (VT.mk t2 t2_1 t2_2 t2_3)) ∧ ((doOk (VT.mk (VT.t (takeV (rCount (VT.mk t2 t2_1 t2_2 t2_3)) (VT.mk (O.real.neg IntKind.i64 t1) t1_1 t1_2 []))) (VT.n (takeV (rCount (VT.mk t2 t2_1 t2_2 t2_3)) (VT.mk (O.real.neg IntKind.i64 t1) t1_1 t1_2 []))) (VT.s (takeV (rCount (VT.mk t2 t2_1 t2_2 t2_3)) (VT.mk (O.real.neg IntKind.i64 t1) t1_1 t1_2 []))) (VT.l (takeV (rCount (VT.mk t2 t2_1 t2_2 t2_3)) (VT.mk (O.real.neg IntKind.i64 t1) t1_1 t1_2 [])))) (VT.mk t2 t2_1 t2_2 t2_3)) ∧ ((((O.real.not (O.real.eq (takeE (rCount (VT.mk t2 t2_1 t2_2 t2_3)) (VT.mk (O.real.neg IntKind.i64 t1) t1_1 t1_2 [])) (0 : Int))) = Bool.false) → True) ∧ ((((O.real.not (O.real.eq (takeE (rCount (VT.mk t2 t2_1 t2_2 t2_3)) (VT.mk (O.real.neg IntKind.i64 t1) t1_1 t1_2 [])) (0 : Int))) = Bool.false) → True) ∧ ((((O.real.not (O.real.eq (takeE (rCount (VT.mk t2 t2_1 t2_2 t2_3)) (VT.mk (O.real.neg IntKind.i64 t1) t1_1 t1_2 [])) (0 : Int))) = Bool.false) → True) ∧ ((((O.real.not (O.real.eq (takeE (rCount (VT.mk t2 t2_1 t2_2 t2_3)) (VT.mk (O.real.neg IntKind.i64 t1) t1_1 t1_2 [])) (0 : Int))) = Bool.false) → True) ∧ ((((O.real.not (O.real.eq (takeE (rCount (VT.mk t2 t2_1 t2_2 t2_3)) (VT.mk (O.real.neg IntKind.i64 t1) t1_1 t1_2 [])) (0 : Int))) = Bool.false) → True) ∧ ((((O.real.or (O.real.not (O.real.eq (takeE (rCount (VT.mk t2 t2_1 t2_2 t2_3)) (VT.mk (O.real.neg IntKind.i64 t1) t1_1 t1_2 [])) (0 : Int))) (O.real.not (O.real.eq (doE t0 (VT.mk t1 t1_1 t1_2 t1_3) (VT.mk t2 t2_1 t2_2 t2_3)) (doE t0 (VT.mk (VT.t (takeV (rCount (VT.mk t2 t2_1 t2_2 t2_3)) (VT.mk (O.real.neg IntKind.i64 t1) t1_1 t1_2 []))) (VT.n (takeV (rCount (VT.mk t2 t2_1 t2_2 t2_3)) (VT.mk (O.real.neg IntKind.i64 t1) t1_1 t1_2 []))) (VT.s (takeV (rCount (VT.mk t2 t2_1 t2_2 t2_3)) (VT.mk (O.real.neg IntKind.i64 t1) t1_1 t1_2 []))) (VT.l (takeV (rCount (VT.mk t2 t2_1 t2_2 t2_3)) (VT.mk (O.real.neg IntKind.i64 t1) t1_1 t1_2 [])))) (VT.mk t2 t2_1 t2_2 t2_3))))) = Bool.false) → True) ∧ ((((O.real.or (O.real.not (O.real.eq (takeE (rCount (VT.mk t2 t2_1 t2_2 t2_3)) (VT.mk (O.real.neg IntKind.i64 t1) t1_1 t1_2 [])) (0 : Int))) (O.real.not (O.real.eq (doE t0 (VT.mk t1 t1_1 t1_2 t1_3) (VT.mk t2 t2_1 t2_2 t2_3)) (doE t0 (VT.mk (VT.t (takeV (rCount (VT.mk t2 t2_1 t2_2 t2_3)) (VT.mk (O.real.neg IntKind.i64 t1) t1_1 t1_2 []))) (VT.n (takeV (rCount (VT.mk t2 t2_1 t2_2 t2_3)) (VT.mk (O.real.neg IntKind.i64 t1) t1_1 t1_2 []))) (VT.s (takeV (rCount (VT.mk t2 t2_1 t2_2 t2_3)) (VT.mk (O.real.neg IntKind.i64 t1) t1_1 t1_2 []))) (VT.l (takeV (rCount (VT.mk t2 t2_1 t2_2 t2_3)) (VT.mk (O.real.neg IntKind.i64 t1) t1_1 t1_2 [])))) (VT.mk t2 t2_1 t2_2 t2_3))))) = Bool.false) → True) ∧ ((((O.real.or (O.real.not (O.real.eq (takeE (rCount (VT.mk t2 t2_1 t2_2 t2_3)) (VT.mk (O.real.neg IntKind.i64 t1) t1_1 t1_2 [])) (0 : Int))) (O.real.not (O.real.eq (doE t0 (VT.mk t1 t1_1 t1_2 t1_3) (VT.mk t2 t2_1 t2_2 t2_3)) (doE t0 (VT.mk (VT.t (takeV (rCount (VT.mk t2 t2_1 t2_2 t2_3)) (VT.mk (O.real.neg IntKind.i64 t1) t1_1 t1_2 []))) (VT.n (takeV (rCount (VT.mk t2 t2_1 t2_2 t2_3)) (VT.mk (O.real.neg IntKind.i64 t1) t1_1 t1_2 []))) (VT.s (takeV (rCount (VT.mk t2 t2_1 t2_2 t2_3)) (VT.mk (O.real.neg IntKind.i64 t1) t1_1 t1_2 []))) (VT.l (takeV (rCount (VT.mk t2 t2_1 t2_2 t2_3)) (VT.mk (O.real.neg IntKind.i64 t1) t1_1 t1_2 [])))) (VT.mk t2 t2_1 t2_2 t2_3))))) = Bool.false) → True) ∧ ((((O.real.or (O.real.not (O.real.eq (takeE (rCount (VT.mk t2 t2_1 t2_2 t2_3)) (VT.mk (O.real.neg IntKind.i64 t1) t1_1 t1_2 [])) (0 : Int))) (O.real.not (O.real.eq (doE t0 (VT.mk t1 t1_1 t1_2 t1_3) (VT.mk t2 t2_1 t2_2 t2_3)) (doE t0 (VT.mk (VT.t (takeV (rCount (VT.mk t2 t2_1 t2_2 t2_3)) (VT.mk (O.real.neg IntKind.i64 t1) t1_1 t1_2 []))) (VT.n (takeV (rCount (VT.mk t2 t2_1 t2_2 t2_3)) (VT.mk (O.real.neg IntKind.i64 t1) t1_1 t1_2 []))) (VT.s (takeV (rCount (VT.mk t2 t2_1 t2_2 t2_3)) (VT.mk (O.real.neg IntKind.i64 t1) t1_1 t1_2 []))) (VT.l (takeV (rCount (VT.mk t2 t2_1 t2_2 t2_3)) (VT.mk (O.real.neg IntKind.i64 t1) t1_1 t1_2 [])))) (VT.mk t2 t2_1 t2_2 t2_3))))) = Bool.false) → True) ∧ (((O.real.or (O.real.or (O.real.not (O.real.eq (takeE (rCount (VT.mk t2 t2_1 t2_2 t2_3)) (VT.mk (O.real.neg IntKind.i64 t1) t1_1 t1_2 [])) (0 : Int))) (O.real.not (O.real.eq (doE t0 (VT.mk t1 t1_1 t1_2 t1_3) (VT.mk t2 t2_1 t2_2 t2_3)) (doE t0 (VT.mk (VT.t (takeV (rCount (VT.mk t2 t2_1 t2_2 t2_3)) (VT.mk (O.real.neg IntKind.i64 t1) t1_1 t1_2 []))) (VT.n (takeV (rCount (VT.mk t2 t2_1 t2_2 t2_3)) (VT.mk (O.real.neg IntKind.i64 t1) t1_1 t1_2 []))) (VT.s (takeV (rCount (VT.mk t2 t2_1 t2_2 t2_3)) (VT.mk (O.real.neg IntKind.i64 t1) t1_1 t1_2 []))) (VT.l (takeV (rCount (VT.mk t2 t2_1 t2_2 t2_3)) (VT.mk (O.real.neg IntKind.i64 t1) t1_1 t1_2 [])))) (VT.mk t2 t2_1 t2_2 t2_3))))) (O.real.not (veq (VT.mk (VT.t (doV t0 (VT.mk t1 t1_1 t1_2 t1_3) (VT.mk t2 t2_1 t2_2 t2_3))) (VT.n (doV t0 (VT.mk t1 t1_1 t1_2 t1_3) (VT.mk t2 t2_1 t2_2 t2_3))) (VT.s (doV t0 (VT.mk t1 t1_1 t1_2 t1_3) (VT.mk t2 t2_1 t2_2 t2_3))) (VT.l (doV t0 (VT.mk t1 t1_1 t1_2 t1_3) (VT.mk t2 t2_1 t2_2 t2_3)))) (VT.mk (VT.t (doV t0 (VT.mk (VT.t (takeV (rCount (VT.mk t2 t2_1 t2_2 t2_3)) (VT.mk (O.real.neg IntKind.i64 t1) t1_1 t1_2 []))) (VT.n (takeV (rCount (VT.mk t2 t2_1 t2_2 t2_3)) (VT.mk (O.real.neg IntKind.i64 t1) t1_1 t1_2 []))) (VT.s (takeV (rCount (VT.mk t2 t2_1 t2_2 t2_3)) (VT.mk (O.real.neg IntKind.i64 t1) t1_1 t1_2 []))) (VT.l (takeV (rCount (VT.mk t2 t2_1 t2_2 t2_3)) (VT.mk (O.real.neg IntKind.i64 t1) t1_1 t1_2 [])))) (VT.mk t2 t2_1 t2_2 t2_3))) (VT.n (doV t0 (VT.mk (VT.t (takeV (rCount (VT.mk t2 t2_1 t2_2 t2_3)) (VT.mk (O.real.neg IntKind.i64 t1) t1_1 t1_2 []))) (VT.n (takeV (rCount (VT.mk t2 t2_1 t2_2 t2_3)) (VT.mk (O.real.neg IntKind.i64 t1) t1_1 t1_2 []))) (VT.s (takeV (rCount (VT.mk t2 t2_1 t2_2 t2_3)) (VT.mk (O.real.neg IntKind.i64 t1) t1_1 t1_2 []))) (VT.l (takeV (rCount (VT.mk t2 t2_1 t2_2 t2_3)) (VT.mk (O.real.neg IntKind.i64 t1) t1_1 t1_2 [])))) (VT.mk t2 t2_1 t2_2 t2_3))) (VT.s (doV t0 (VT.mk (VT.t (takeV (rCount (VT.mk t2 t2_1 t2_2 t2_3)) (VT.mk (O.real.neg IntKind.i64 t1) t1_1 t1_2 []))) (VT.n (takeV (rCount (VT.mk t2 t2_1 t2_2 t2_3)) (VT.mk (O.real.neg IntKind.i64 t1) t1_1 t1_2 []))) (VT.s (takeV (rCount (VT.mk t2 t2_1 t2_2 t2_3)) (VT.mk (O.real.neg IntKind.i64 t1) t1_1 t1_2 []))) (VT.l (takeV (rCount (VT.mk t2 t2_1 t2_2 t2_3)) (VT.mk (O.real.neg IntKind.i64 t1) t1_1 t1_2 [])))) (VT.mk t2 t2_1 t2_2 t2_3))) (VT.l (doV t0 (VT.mk (VT.t (takeV (rCount (VT.mk t2 t2_1 t2_2 t2_3)) (VT.mk (O.real.neg IntKind.i64 t1) t1_1 t1_2 []))) (VT.n (takeV (rCount (VT.mk t2 t2_1 t2_2 t2_3)) (VT.mk (O.real.neg IntKind.i64 t1) t1_1 t1_2 []))) (VT.s (takeV (rCount (VT.mk t2 t2_1 t2_2 t2_3)) (VT.mk (O.real.neg IntKind.i64 t1) t1_1 t1_2 []))) (VT.l (takeV (rCount (VT.mk t2 t2_1 t2_2 t2_3)) (VT.mk (O.real.neg IntKind.i64 t1) t1_1 t1_2 [])))) (VT.mk t2 t2_1 t2_2 t2_3))))))) = true → Q (.inr ⟨(AV.bool Bool.false), [], [], []⟩)) ∧ ((O.real.or (O.real.or (O.real.not (O.real.eq (takeE (rCount (VT.mk t2 t2_1 t2_2 t2_3)) (VT.mk (O.real.neg IntKind.i64 t1) t1_1 t1_2 [])) (0 : Int))) (O.real.not (O.real.eq (doE t0 (VT.mk t1 t1_1 t1_2 t1_3) (VT.mk t2 t2_1 t2_2 t2_3)) (doE t0 (VT.mk (VT.t (takeV (rCount (VT.mk t2 t2_1 t2_2 t2_3)) (VT.mk (O.real.neg IntKind.i64 t1) t1_1 t1_2 []))) (VT.n (takeV (rCount (VT.mk t2 t2_1 t2_2 t2_3)) (VT.mk (O.real.neg IntKind.i64 t1) t1_1 t1_2 []))) (VT.s (takeV (rCount (VT.mk t2 t2_1 t2_2 t2_3)) (VT.mk (O.real.neg IntKind.i64 t1) t1_1 t1_2 []))) (VT.l (takeV (rCount (VT.mk t2 t2_1 t2_2 t2_3)) (VT.mk (O.real.neg IntKind.i64 t1) t1_1 t1_2 [])))) (VT.mk t2 t2_1 t2_2 t2_3))))) (O.real.not (veq (VT.mk (VT.t (doV t0 (VT.mk t1 t1_1 t1_2 t1_3) (VT.mk t2 t2_1 t2_2 t2_3))) (VT.n (doV t0 (VT.mk t1 t1_1 t1_2 t1_3) (VT.mk t2 t2_1 t2_2 t2_3))) (VT.s (doV t0 (VT.mk t1 t1_1 t1_2 t1_3) (VT.mk t2 t2_1 t2_2 t2_3))) (VT.l (doV t0 (VT.mk t1 t1_1 t1_2 t1_3) (VT.mk t2 t2_1 t2_2 t2_3)))) (VT.mk (VT.t (doV t0 (VT.mk (VT.t (takeV (rCount (VT.mk t2 t2_1 t2_2 t2_3)) (VT.mk (O.real.neg IntKind.i64 t1) t1_1 t1_2 []))) (VT.n (takeV (rCount (VT.mk t2 t2_1 t2_2 t2_3)) (VT.mk (O.real.neg IntKind.i64 t1) t1_1 t1_2 []))) (VT.s (takeV (rCount (VT.mk t2 t2_1 t2_2 t2_3)) (VT.mk (O.real.neg IntKind.i64 t1) t1_1 t1_2 []))) (VT.l (takeV (rCount (VT.mk t2 t2_1 t2_2 t2_3)) (VT.mk (O.real.neg IntKind.i64 t1) t1_1 t1_2 [])))) (VT.mk t2 t2_1 t2_2 t2_3))) (VT.n (doV t0 (VT.mk (VT.t (takeV (rCount (VT.mk t2 t2_1 t2_2 t2_3)) (VT.mk (O.real.neg IntKind.i64 t1) t1_1 t1_2 []))) (VT.n (takeV (rCount (VT.mk t2 t2_1 t2_2 t2_3)) (VT.mk (O.real.neg IntKind.i64 t1) t1_1 t1_2 []))) (VT.s (takeV (rCount (VT.mk t2 t2_1 t2_2 t2_3)) (VT.mk (O.real.neg IntKind.i64 t1) t1_1 t1_2 []))) (VT.l (takeV (rCount (VT.mk t2 t2_1 t2_2 t2_3)) (VT.mk (O.real.neg IntKind.i64 t1) t1_1 t1_2 [])))) (VT.mk t2 t2_1 t2_2 t2_3))) (VT.s (doV t0 (VT.mk (VT.t (takeV (rCount (VT.mk t2 t2_1 t2_2 t2_3)) (VT.mk (O.real.neg IntKind.i64 t1) t1_1 t1_2 []))) (VT.n (takeV (rCount (VT.mk t2 t2_1 t2_2 t2_3)) (VT.mk (O.real.neg IntKind.i64 t1) t1_1 t1_2 []))) (VT.s (takeV (rCount (VT.mk t2 t2_1 t2_2 t2_3)) (VT.mk (O.real.neg IntKind.i64 t1) t1_1 t1_2 []))) (VT.l (takeV (rCount (VT.mk t2 t2_1 t2_2 t2_3)) (VT.mk (O.real.neg IntKind.i64 t1) t1_1 t1_2 [])))) (VT.mk t2 t2_1 t2_2 t2_3))) (VT.l (doV t0 (VT.mk (VT.t (takeV (rCount (VT.mk t2 t2_1 t2_2 t2_3)) (VT.mk (O.real.neg IntKind.i64 t1) t1_1 t1_2 []))) (VT.n (takeV (rCount (VT.mk t2 t2_1 t2_2 t2_3)) (VT.mk (O.real.neg IntKind.i64 t1) t1_1 t1_2 []))) (VT.s (takeV (rCount (VT.mk t2 t2_1 t2_2 t2_3)) (VT.mk (O.real.neg IntKind.i64 t1) t1_1 t1_2 []))) (VT.l (takeV (rCount (VT.mk t2 t2_1 t2_2 t2_3)) (VT.mk (O.real.neg IntKind.i64 t1) t1_1 t1_2 [])))) (VT.mk t2 t2_1 t2_2 t2_3))))))) = false → ((codeAt Go.Proofs.Try.f4 10 = codeAt Go.Proofs.Try.f4 10) ∧ Q (.inl (10, [(Lf.int t0), (Lf.int (rCount (VT.mk t2 t2_1 t2_2 t2_3))), (Lf.int (doE t0 (VT.mk t1 t1_1 t1_2 t1_3) (VT.mk t2 t2_1 t2_2 t2_3))), (Lf.int (0 : Int)), (Lf.int t1), (Lf.is t1_1), (Lf.ss t1_2), (Lf.vs t1_3), (Lf.int t2), (Lf.is t2_1), (Lf.ss t2_2), (Lf.vs t2_3), (Lf.int (VT.t (doV t0 (VT.mk t1 t1_1 t1_2 t1_3) (VT.mk t2 t2_1 t2_2 t2_3)))), (Lf.is (VT.n (doV t0 (VT.mk t1 t1_1 t1_2 t1_3) (VT.mk t2 t2_1 t2_2 t2_3)))), (Lf.ss (VT.s (doV t0 (VT.mk t1 t1_1 t1_2 t1_3) (VT.mk t2 t2_1 t2_2 t2_3)))), (Lf.vs (VT.l (doV t0 (VT.mk t1 t1_1 t1_2 t1_3) (VT.mk t2 t2_1 t2_2 t2_3))))])))))))))))))))))))))))))))) := by kernel_rfl
theorem w4x_10  (t0 : Int) (t7 : Int) (t11 : Int) (t14 : Int) (h0 : Int) (h0_1 : List Int) (h0_2 : List ByteArray) (h0_3 : List VT) (h64 : Int) (h64_1 : List Int) (h64_2 : List ByteArray) (h64_3 : List VT) (h2432 : Int) (h2432_1 : List Int) (h2432_2 : List ByteArray) (h2432_3 : List VT) (Q : Gt → Prop) : T.ob noB Q (.D 1 (.S (.D 1 (.S (.D 1 (.S (.B (.S (.S (.S (.S (.S (.D 1 (.S (.D 1 (.S (.D 1 (.S (.D 1 (.S (.B (.S .E) (.S .E))))))))))))))) (.S .E)))))))) (w4xS  (10, [Lf.int t0, Lf.int t7, Lf.int t11, Lf.int t14, Lf.int h0, Lf.is h0_1, Lf.ss h0_2, Lf.vs h0_3, Lf.int h64, Lf.is h64_1, Lf.ss h64_2, Lf.vs h64_3, Lf.int h2432, Lf.is h2432_1, Lf.ss h2432_2, Lf.vs h2432_3])) =
  ((((O.real.lt t14 t7) = Bool.true) → True) ∧ ((((O.real.lt t14 t7) = Bool.true) → True) ∧ ((((O.real.lt t14 t7) = Bool.true) → True) ∧ (((O.real.and (O.real.lt t14 t7) (O.real.eq t11 (0 : Int))) = true → ((tame (VT.mk h64 h64_1 h64_2 h64_3)) ∧ ((flat9 (VT.mk h64 h64_1 h64_2 h64_3)) ∧ ((doOk (VT.mk h0 h0_1 h0_2 h0_3) (VT.mk (VT.t (at1V (VT.mk h64 h64_1 h64_2 h64_3) t14)) (VT.n (at1V (VT.mk h64 h64_1 h64_2 h64_3) t14)) (VT.s (at1V (VT.mk h64 h64_1 h64_2 h64_3) t14)) (VT.l (at1V (VT.mk h64 h64_1 h64_2 h64_3) t14)))) ∧ ((tame (VT.mk h2432 h2432_1 h2432_2 h2432_3)) ∧ ((flat9 (VT.mk h2432 h2432_1 h2432_2 h2432_3)) ∧ ((((O.real.not (O.real.eq (doE t0 (VT.mk h0 h0_1 h0_2 h0_3) (VT.mk (VT.t (at1V (VT.mk h64 h64_1 h64_2 h64_3) t14)) (VT.n (at1V (VT.mk h64 h64_1 h64_2 h64_3) t14)) (VT.s (at1V (VT.mk h64 h64_1 h64_2 h64_3) t14)) (VT.l (at1V (VT.mk h64 h64_1 h64_2 h64_3) t14)))) (0 : Int))) = Bool.false) → True) ∧ ((((O.real.not (O.real.eq (doE t0 (VT.mk h0 h0_1 h0_2 h0_3) (VT.mk (VT.t (at1V (VT.mk h64 h64_1 h64_2 h64_3) t14)) (VT.n (at1V (VT.mk h64 h64_1 h64_2 h64_3) t14)) (VT.s (at1V (VT.mk h64 h64_1 h64_2 h64_3) t14)) (VT.l (at1V (VT.mk h64 h64_1 h64_2 h64_3) t14)))) (0 : Int))) = Bool.false) → True) ∧ ((((O.real.not (O.real.eq (doE t0 (VT.mk h0 h0_1 h0_2 h0_3) (VT.mk (VT.t (at1V (VT.mk h64 h64_1 h64_2 h64_3) t14)) (VT.n (at1V (VT.mk h64 h64_1 h64_2 h64_3) t14)) (VT.s (at1V (VT.mk h64 h64_1 h64_2 h64_3) t14)) (VT.l (at1V (VT.mk h64 h64_1 h64_2 h64_3) t14)))) (0 : Int))) = Bool.false) → True) ∧ ((((O.real.not (O.real.eq (doE t0 (VT.mk h0 h0_1 h0_2 h0_3) (VT.mk (VT.t (at1V (VT.mk h64 h64_1 h64_2 h64_3) t14)) (VT.n (at1V (VT.mk h64 h64_1 h64_2 h64_3) t14)) (VT.s (at1V (VT.mk h64 h64_1 h64_2 h64_3) t14)) (VT.l (at1V (VT.mk h64 h64_1 h64_2 h64_3) t14)))) (0 : Int))) = Bool.false) → True) ∧ (((O.real.or (O.real.not (O.real.eq (doE t0 (VT.mk h0 h0_1 h0_2 h0_3) (VT.mk (VT.t (at1V (VT.mk h64 h64_1 h64_2 h64_3) t14)) (VT.n (at1V (VT.mk h64 h64_1 h64_2 h64_3) t14)) (VT.s (at1V (VT.mk h64 h64_1 h64_2 h64_3) t14)) (VT.l (at1V (VT.mk h64 h64_1 h64_2 h64_3) t14)))) (0 : Int))) (O.real.not (veq (VT.mk (VT.t (doV t0 (VT.mk h0 h0_1 h0_2 h0_3) (VT.mk (VT.t (at1V (VT.mk h64 h64_1 h64_2 h64_3) t14)) (VT.n (at1V (VT.mk h64 h64_1 h64_2 h64_3) t14)) (VT.s (at1V (VT.mk h64 h64_1 h64_2 h64_3) t14)) (VT.l (at1V (VT.mk h64 h64_1 h64_2 h64_3) t14))))) (VT.n (doV t0 (VT.mk h0 h0_1 h0_2 h0_3) (VT.mk (VT.t (at1V (VT.mk h64 h64_1 h64_2 h64_3) t14)) (VT.n (at1V (VT.mk h64 h64_1 h64_2 h64_3) t14)) (VT.s (at1V (VT.mk h64 h64_1 h64_2 h64_3) t14)) (VT.l (at1V (VT.mk h64 h64_1 h64_2 h64_3) t14))))) (VT.s (doV t0 (VT.mk h0 h0_1 h0_2 h0_3) (VT.mk (VT.t (at1V (VT.mk h64 h64_1 h64_2 h64_3) t14)) (VT.n (at1V (VT.mk h64 h64_1 h64_2 h64_3) t14)) (VT.s (at1V (VT.mk h64 h64_1 h64_2 h64_3) t14)) (VT.l (at1V (VT.mk h64 h64_1 h64_2 h64_3) t14))))) (VT.l (doV t0 (VT.mk h0 h0_1 h0_2 h0_3) (VT.mk (VT.t (at1V (VT.mk h64 h64_1 h64_2 h64_3) t14)) (VT.n (at1V (VT.mk h64 h64_1 h64_2 h64_3) t14)) (VT.s (at1V (VT.mk h64 h64_1 h64_2 h64_3) t14)) (VT.l (at1V (VT.mk h64 h64_1 h64_2 h64_3) t14)))))) (VT.mk (VT.t (at1V (VT.mk h2432 h2432_1 h2432_2 h2432_3) t14)) (VT.n (at1V (VT.mk h2432 h2432_1 h2432_2 h2432_3) t14)) (VT.s (at1V (VT.mk h2432 h2432_1 h2432_2 h2432_3) t14)) (VT.l (at1V (VT.mk h2432 h2432_1 h2432_2 h2432_3) t14)))))) = true → Q (.inr ⟨(AV.bool Bool.false), [], [], []⟩)) ∧ ((O.real.or (O.real.not (O.real.eq (doE t0 (VT.mk h0 h0_1 h0_2 h0_3) (VT.mk (VT.t (at1V (VT.mk h64 h64_1 h64_2 h64_3) t14)) (VT.n (at1V (VT.mk h64 h64_1 h64_2 h64_3) t14)) (VT.s (at1V (VT.mk h64 h64_1 h64_2 h64_3) t14)) (VT.l (at1V (VT.mk h64 h64_1 h64_2 h64_3) t14)))) (0 : Int))) (O.real.not (veq (VT.mk (VT.t (doV t0 (VT.mk h0 h0_1 h0_2 h0_3) (VT.mk (VT.t (at1V (VT.mk h64 h64_1 h64_2 h64_3) t14)) (VT.n (at1V (VT.mk h64 h64_1 h64_2 h64_3) t14)) (VT.s (at1V (VT.mk h64 h64_1 h64_2 h64_3) t14)) (VT.l (at1V (VT.mk h64 h64_1 h64_2 h64_3) t14))))) (VT.n (doV t0 (VT.mk h0 h0_1 h0_2 h0_3) (VT.mk (VT.t (at1V (VT.mk h64 h64_1 h64_2 h64_3) t14)) (VT.n (at1V (VT.mk h64 h64_1 h64_2 h64_3) t14)) (VT.s (at1V (VT.mk h64 h64_1 h64_2 h64_3) t14)) (VT.l (at1V (VT.mk h64 h64_1 h64_2 h64_3) t14))))) (VT.s (doV t0 (VT.mk h0 h0_1 h0_2 h0_3) (VT.mk (VT.t (at1V (VT.mk h64 h64_1 h64_2 h64_3) t14)) (VT.n (at1V (VT.mk h64 h64_1 h64_2 h64_3) t14)) (VT.s (at1V (VT.mk h64 h64_1 h64_2 h64_3) t14)) (VT.l (at1V (VT.mk h64 h64_1 h64_2 h64_3) t14))))) (VT.l (doV t0 (VT.mk h0 h0_1 h0_2 h0_3) (VT.mk (VT.t (at1V (VT.mk h64 h64_1 h64_2 h64_3) t14)) (VT.n (at1V (VT.mk h64 h64_1 h64_2 h64_3) t14)) (VT.s (at1V (VT.mk h64 h64_1 h64_2 h64_3) t14)) (VT.l (at1V (VT.mk h64 h64_1 h64_2 h64_3) t14)))))) (VT.mk (VT.t (at1V (VT.mk h2432 h2432_1 h2432_2 h2432_3) t14)) (VT.n (at1V (VT.mk h2432 h2432_1 h2432_2 h2432_3) t14)) (VT.s (at1V (VT.mk h2432 h2432_1 h2432_2 h2432_3) t14)) (VT.l (at1V (VT.mk h2432 h2432_1 h2432_2 h2432_3) t14)))))) = false → Q (.inl (10, [(Lf.int t0), (Lf.int t7), (Lf.int t11), (Lf.int (O.real.add IntKind.i64 t14 (1 : Int))), (Lf.int h0), (Lf.is h0_1), (Lf.ss h0_2), (Lf.vs h0_3), (Lf.int h64), (Lf.is h64_1), (Lf.ss h64_2), (Lf.vs h64_3), (Lf.int h2432), (Lf.is h2432_1), (Lf.ss h2432_2), (Lf.vs h2432_3)])))))))))))))) ∧ ((O.real.and (O.real.lt t14 t7) (O.real.eq t11 (0 : Int))) = false → Q (.inr ⟨(AV.bool Bool.true), [], [], []⟩)))))) := by kernel_rfl
end Go.Qv
