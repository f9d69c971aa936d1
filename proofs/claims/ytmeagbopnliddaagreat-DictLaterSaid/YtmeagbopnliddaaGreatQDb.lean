/- Dictionaries: contracts of what asks of them. No condition. -/
import Derived.Test.YtmeagbopnliddaaGreatQWm
import Derived.Test.YtmeagbopnliddaaGreatQWn
import Derived.Test.YtmeagbopnliddaaGreatQPe
set_option linter.unusedVariables false
set_option linter.unusedSimpArgs false
set_option maxRecDepth 100000
namespace Go.Qv
open Go Go.RowKit Go.Proofs
theorem partB_mk {t n s l} : partB (.mk t n s l) = decide (0 ≤ t ∧ t ≤ 5) := rfl
theorem partB_iff {a : VT} : partB a = true ↔ partP a := by unfold partB partP; simp
theorem part_ok2 {v : VT} (h : partP v) : ok2 v := by
  unfold partP at h; unfold ok2; exact ⟨fun e => by omega, fun e => by omega⟩
theorem veq_self (v : VT) : veq v v = true := veq_iff.2 rfl
theorem ok98 : Pure1 Tryz.prog 98 spPart := by
  intro xs F w cs R ha h
  obtain ⟨x, a, rfl, h1, h⟩ := onV_inv h
  have ha := ha.conv1 (fun v => as_V h1)
  obtain ⟨t, n, s, l⟩ := a
  refine contract (fn := Tryz.f98) (walked (PureOk.none _) 14) (by kernel_rfl) w98C_ok (by rfl) (by rfl) (by rfl) (by rfl) (by rfl) ha (ρ := [.int t, .is n, .ss s, .vs l]) (Rh.go (w98_9999 t n s l _) ?_) h
  simp only [SQ, RhQ, eq_self, implies_true, forall_const, VT.eta, if_true, if_false]
  exact Ret.bool (by rw [Bool.eq_iff_iff, partB_mk]; simp only [Bool.and_eq_true, decide_eq_true_eq])
theorem ok59 : Pure1 Tryz.prog 59 spPart := by
  intro xs F w cs R ha h
  obtain ⟨x, a, rfl, h1, h⟩ := onV_inv h
  have ha := ha.conv1 (fun v => as_V h1)
  obtain ⟨t, n, s, l⟩ := a
  refine contract (fn := Tryz.f59) (walked (PureOk.none _) 14) (by kernel_rfl) w59C_ok (by rfl) (by rfl) (by rfl) (by rfl) (by rfl) ha (ρ := [.int t, .is n, .ss s, .vs l]) (Rh.go (w59_9999 t n s l _) ?_) h
  simp only [SQ, RhQ, eq_self, implies_true, forall_const, VT.eta, if_true, if_false]
  exact Ret.bool (by rw [Bool.eq_iff_iff, partB_mk]; simp only [Bool.and_eq_true, decide_eq_true_eq])
theorem isD_mk {t n s l} : isD (.mk t n s l) = (decide (t = 99) && partB (l.getD 0 default)) := rfl
theorem ok46 : Pure1 Tryz.prog 46 spIsD := by
  intro xs F w cs R ha h
  obtain ⟨x, a, rfl, h1, h⟩ := onV_inv h
  obtain ⟨ho, h⟩ := when_inv h
  have ha := ha.conv1 (fun v => as_V h1)
  obtain ⟨t, n, s, l⟩ := a
  have ho : t = 99 → l.length = 2 := ho
  refine contract (fn := Tryz.f46) (walked (PureOk.also ok59 (PureOk.none _)) 14) (by kernel_rfl) w46C_ok (by rfl) (by rfl) (by rfl) (by rfl) (by rfl) ha (ρ := [.int t, .is n, .ss s, .vs l]) (Rh.go (w46_9999 t n s l _) ?_) h
  simp only [SQ, RhQ, eq_self, implies_true, forall_const, VT.eta, if_true, if_false]
  exact ⟨fun e => ⟨by omega, by have := ho e; omega⟩, Ret.bool isD_mk⟩
/-! ### the place of an element -/
theorem findGo_spec (v x : VT) : ∀ (n k : Nat), ((k + n : Nat) : Int) = rCount v → (k : Int) ≤ findGo v x k n ∧ findGo v x k n ≤ rCount v ∧ (findGo v x k n < rCount v → veq x (atV v (findGo v x k n)) = true) ∧ ∀ j : Nat, k ≤ j → (j : Int) < findGo v x k n → veq x (atV v j) = false
  | 0, k, h => by
    unfold findGo
    exact ⟨by omega, by omega, fun h2 => by omega, fun j h1 h2 => by omega⟩
  | n + 1, k, h => by
    unfold findGo
    split
    · rename_i hv
      exact ⟨by omega, by omega, fun _ => hv, fun j h1 h2 => by omega⟩
    · rename_i hv
      obtain ⟨a, b, c, d⟩ := findGo_spec v x n (k + 1) (by omega)
      refine ⟨by omega, b, c, fun j h1 h2 => ?_⟩
      rcases Nat.lt_or_ge k j with h3 | h3
      · exact d j (by omega) h2
      · obtain rfl : j = k := by omega
        simpa using hv
theorem findG_spec (v x : VT) : 0 ≤ findG v x ∧ findG v x ≤ rCount v ∧ (findG v x < rCount v → veq x (atV v (findG v x)) = true) ∧ ∀ j : Nat, (j : Int) < findG v x → veq x (atV v j) = false := by
  have h0 := rCount_nn v
  obtain ⟨a, b, c, d⟩ := findGo_spec v x (rCount v).toNat 0 (by omega)
  unfold findG
  exact ⟨by simpa using a, b, c, fun j h => d j (Nat.zero_le _) h⟩
theorem roundF_ok (t n s l) (zt : Int) (zn : List Int) (zs : List ByteArray) (zl : List VT) (r0 r1 : Int) (i : Nat) (el : VT) {Q : List Lf × Jp → Prop}
    (hx : veq (.mk zt zn zs zl) el = true → Q ([.int t, .is n, .ss s, .vs l, .int zt, .is zn, .ss zs, .vs zl, .int i, .int 0], .ret))
    (hgo : veq (.mk zt zn zs zl) el = false → Q ([.int t, .is n, .ss s, .vs l, .int zt, .is zn, .ss zs, .vs zl, .int r0, .int r1], .go)) :
    Sat (roundT O.real Go.Qv.tb (inl O.real Go.Qv.tb Go.Qv.fns (pureOrc (PS.also 99 sp99f PS.none)) (fun f => Nat.beq f 99) (fun _ => false) 300 14) (rfA (rfAt Tryz.f57 4)) (rfB (rfAt Tryz.f57 4)) 0 tmF
      [(14, .agg [.int .i64 el.t, .sl (.i .i64 el.n), .sl (.s el.s), .sl (.v el.l)]), (13, .int .i64 i)] (tmF.inst [.int t, .is n, .ss s, .vs l, .int zt, .is zn, .ss zs, .vs zl, .int r0, .int r1])) Q := by
  refine ⟨?_⟩
  have e := wFR t n s l zt zn zs zl r0 r1 i el.t el.n el.s el.l Q
  generalize roundT O.real Go.Qv.tb _ _ _ 0 tmF _ _ = X at e ⊢
  refine ob_of noB_ok _ _ e ?_
  rw [VT.eta]
  exact ⟨hx, hgo⟩
theorem lpFind_ok : LpOk none Tryz.prog 0 lpFind := lpOf_ok noLp_ok (fun c hC hB hn hmd y ρ K hs Q hQ β F a w hrs hy => by
  unfold spLpF at hs
  split at hs
  · rename_i t n s l t' n' s' l' xt xn xs xl r0 r1
    obtain ⟨hok, hs⟩ := hs
    obtain ⟨ht, hp⟩ : fndOk (.mk t n s l) := hok
    have h0 := rCount_nn (.mk t n s l)
    have hc := (cnt_bk (.mk t n s l)).2 hp
    have ht' : (VT.mk t n s l).bk ≤ 1073741824 := ht
    obtain ⟨g1, g2, g3, g4⟩ := findG_spec (.mk t n s l) (.mk xt xn xs xl)
    have e : rfAt Tryz.f57 4 = .rangeFunc (.tmp 12) #[13, 14] (rfA (rfAt Tryz.f57 4)) (rfB (rfAt Tryz.f57 4)) := by kernel_rfl
    have e2 : rfF (rfAt Tryz.f57 4) = .tmp 12 := by kernel_rfl
    rw [e2] at hy
    rw [e]
    have hB' : fndB (.mk t n s l) (.mk xt xn xs xl) = true ↔ findG (.mk t n s l) (.mk xt xn xs xl) < rCount (.mk t n s l) := by unfold fndB; exact decide_eq_true_iff
    refine each_ok mixed tbOk (walked (kn := fun f => Nat.beq f 99) (md := fun _ => false) (PureOk.also ok99 (PureOk.none _)) 14) fnsOk hC hB hmd (by decide) (tm := tmF) (ρs := fun k => [.int t', .is n', .ss s', .vs l', .int xt, .is xn, .ss xs, .vs xl, .int r0, .int r1]) (N := (rCount (.mk t n s l)).toNat) (els := elsV (.mk t n s l)) (fun k => rfl) (fng := Tryz.f107) (by kernel_rfl) (each107 ht (part_ok2 hp) (by omega)) (fun k => by rfl) (fun k => by rfl) (fun k => by rfl) (by decide)
      (X := fun r j => fndB (.mk t n s l) (.mk xt xn xs xl) = true ∧ r = [.int t', .is n', .ss s', .vs l', .int xt, .is xn, .ss xs, .vs xl, .int (findG (.mk t n s l) (.mk xt xn xs xl)), .int 0] ∧ j = .ret) (M := (findG (.mk t n s l) (.mk xt xn xs xl)).toNat) (fun k x0 x1 hk hM hx => ?_) (fun hNM β F a w h => ?_) (fun r j ⟨hX, hr, hj⟩ => ?_) hrs hy
    · rw [hn]
      injection hx with hx0 hx
      injection hx with hx1 hx
      subst hx0; subst hx1
      refine roundF_ok t' n' s' l' xt xn xs xl r0 r1 k (atV (.mk t n s l) k) (fun hv => ?_) (fun hv => ?_)
      · have hge : ¬ (k : Int) < findG (.mk t n s l) (.mk xt xn xs xl) := fun h => by rw [g4 k h] at hv; cases hv
        have hk' : findG (.mk t n s l) (.mk xt xn xs xl) = k := by omega
        refine .inr ⟨by simp, hB'.2 (by omega), ?_, rfl⟩
        rw [hk']
      · have hne : findG (.mk t n s l) (.mk xt xn xs xl) ≠ k := fun h => by
          have := g3 (by omega)
          rw [h, hv] at this; cases this
        exact .inl ⟨by omega, rfl, rfl⟩
    · have hb : ¬ fndB (.mk t n s l) (.mk xt xn xs xl) = true := fun hb => by have := hB'.1 hb; omega
      exact hQ _ _ (hs.2 (by simpa using hb)) β F a w h
    · subst hr; subst hj
      exact hQ _ _ (hs.1 hX)
  · exact hs.elim)
theorem contractL {lp : LP} (hlp : LpOk none Tryz.prog 0 lp) {orc : Orc} (horc : OrcOk Tryz.prog orc (fun _ => True)) {f : FuncId} {fn : Func} (hf : fns f = some fn) {cuts : List Cut} (hok : cutsOk cuts = true) {c0 : Cut} {xs : List AV} {ρ : List Lf}
    (hc0 : findCut 9999 cuts = some c0) (hpre : c0.pre = [.code (bodyOf fn)]) (hys : renL (renF (sig0 0) 5) xs = some xs) (hin : c0.tm.inst ρ = ⟨zipArgs 0 xs, [], [], 0, fn.ntmps⟩) (hnt : Nat.ble xs.length fn.ntmps = true)
    {cs : Array Value} {F : Nat → Prop} {w : World} {R : Value → World → Prop} {y : AV} (ha : Args F w cs xs) (hr : Rh (stepL lp O.real tb orc fn.results [] 0 cuts) (Ret y) (9999, ρ))
    (hK : ∀ v' F' w', PPost F w y v' F' w' → R v' w') : Goes Tryz.prog f cs w R := by
  obtain ⟨n, hn⟩ := hr
  refine flow_pureL hlp mixed tbOk horc fnsOk hf hok hc0 hpre hys hin hnt ha (K := fun z => z = y) (n := n) ?_ (fun z hz => by subst hz; exact hK)
  exact flow_pure.FS.imp (fun E hE => ⟨y, hE, rfl⟩) hn
theorem find_no {v x : VT} (h : partB v = false) : findI v x = 0 ∧ findE v = 31 := by unfold findI findE; rw [h]; exact ⟨rfl, rfl⟩
theorem find_yes {v x : VT} (h : partB v = true) : findI v x = findG v x ∧ findE v = 0 := by unfold findI findE findG; rw [h]; exact ⟨rfl, rfl⟩
theorem ok57 : Pure1 Tryz.prog 57 spFindS := by
  intro xs F w cs R ha h
  obtain ⟨x, y, a, b, rfl, h1, h2, h⟩ := onVV_inv h
  obtain ⟨ht, h⟩ := when_inv h
  have ha := ha.conv2 (fun v => as_V h1) (fun v => as_V h2)
  obtain ⟨t, n, s, l⟩ := a
  obtain ⟨zt, zn, zs, zl⟩ := b
  refine contractL lpFind_ok (fn := Tryz.f57) (walked (PureOk.also ok98 (PureOk.also ok67 (PureOk.also ok99 (PureOk.also ok47 (PureOk.none _))))) 14) (by kernel_rfl) w57C_ok (by rfl) (by rfl) (by rfl) (by rfl) (by rfl) ha (ρ := [.int t, .is n, .ss s, .vs l, .int zt, .is zn, .ss zs, .vs zl]) (Rh.go (w57_9999 t n s l zt zn zs zl _) ?_) h
  simp only [SQ, RhQ, eq_self, implies_true, forall_const, VT.eta, if_true, if_false]
  obtain ⟨g1, g2, g3, g4⟩ := findG_spec (.mk t n s l) (.mk zt zn zs zl)
  refine ⟨fun hp => ?_, fun hp => ?_⟩
  · obtain ⟨e1, e2⟩ := find_no (x := .mk zt zn zs zl) hp
    rw [e1, e2]; rfl
  · obtain ⟨e1, e2⟩ := find_yes (x := .mk zt zn zs zl) hp
    rw [e1, e2]
    refine ⟨ht, ⟨ht, partB_iff.1 hp⟩, fun hb => rfl, fun hb => ?_⟩
    have : ¬ findG (.mk t n s l) (.mk zt zn zs zl) < rCount (.mk t n s l) := of_decide_eq_false hb
    rw [show findG (.mk t n s l) (.mk zt zn zs zl) = rCount (.mk t n s l) by omega]; rfl
end Go.Qv
