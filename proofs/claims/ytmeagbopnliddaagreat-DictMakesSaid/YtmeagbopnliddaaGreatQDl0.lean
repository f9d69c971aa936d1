/- What live() answers, its loops over functions run round by round. No condition. -/
import Derived.Test.YtmeagbopnliddaaGreatQWfM
import Derived.Test.YtmeagbopnliddaaGreatQRlM
import Derived.Test.YtmeagbopnliddaaGreatQLd
import Derived.Test.YtmeagbopnliddaaGreatQPe
import Derived.Test.YtmeagbopnliddaaGreatQDc
set_option linter.unusedVariables false
set_option linter.unusedSimpArgs false
set_option maxRecDepth 100000
namespace Go.Qv
open Go Go.RowKit Go.Proofs
instance (v : VT) : Decidable (tame v) := inferInstanceAs (Decidable (_ ≤ _))
instance (l : List VT) : Decidable (tames l) := inferInstanceAs (Decidable (_ ≤ _))
instance (v : VT) : Decidable (flat9 v) := inferInstanceAs (Decidable (_ ∧ _))
instance (l : List VT) : Decidable (cols l) := inferInstanceAs (Decidable (∀ x ∈ l, ∀ c ∈ x.l, flat9 c))
instance (v : VT) : Decidable (ok2 v) := inferInstanceAs (Decidable (_ ∧ _))
def itr : Itr where
  gf := 107
  dom v := ⟨tame v ∧ ok2 v ∧ rCount v ≤ 9223372036854775807, inferInstance⟩
  cnt v := (rCount v).toNat
  els := elsV
theorem itr_ok : ItrOk Tryz.prog itr := ⟨fun v k => rfl, fun t n s l h => each107 h.1 h.2.1 h.2.2⟩
/-! ### contracts that can be decided -/
def whenD {α : Type} (p : Prop) [Decidable p] (t : T α) : T α := .req ⟨p, inferInstance⟩ t
theorem Pure1.of {P : Program} {f : FuncId} {s s' : List AV → T AV} (h : Pure1 P f s) (hs : ∀ xs (Q : AV → Prop), (s' xs).sat Q → (s xs).sat Q) : Pure1 P f s' :=
  fun xs F w cs R ha h1 => h xs F w cs R ha (hs xs _ h1)
def cdClone := onV fun a => whenD (tame a) (.leaf (vcl a))
def cdOf := onVs fun l => whenD (tames l) (.leaf (vcl (ofV l)))
def cdAt := onVn fun a i => whenD (tame a) (whenD (ok2 a) (.leaf (.tup [vcl (atV a i), .int .i64 (atE a i)])))
def cdEach := onV fun a => whenD (tame a) (.leaf (.fn 107 [.rp [.int .i64 a.t, .sl (.i .i64 a.n), .sl (.s a.s), .sl (.v a.l)]]))
theorem cdEach_of : ∀ xs (Q : AV → Prop), (cdEach xs).sat Q → (sp67 xs).sat Q := fun xs Q h => by
  unfold cdEach onV at h; unfold sp67 onV
  split at h
  · split at h <;> exact h
  · exact h
theorem cdClone_of : ∀ xs (Q : AV → Prop), (cdClone xs).sat Q → ((onV fun a => when_ (tame a) (.leaf (vcl a))) xs).sat Q := fun xs Q h => by
  unfold cdClone onV at h; unfold onV
  split at h
  · split at h <;> exact h
  · exact h
theorem cdOf_of : ∀ xs (Q : AV → Prop), (cdOf xs).sat Q → ((onVs fun l => when_ (tames l) (.leaf (vcl (ofV l)))) xs).sat Q := fun xs Q h => by
  unfold cdOf onVs at h; unfold onVs
  split at h
  · split at h <;> exact h
  · exact h
theorem cdAt_of : ∀ xs (Q : AV → Prop), (cdAt xs).sat Q → ((onVn fun a i => when_ (tame a) (when_ (ok2 a) (.leaf (.tup [vcl (atV a i), .int .i64 (atE a i)])))) xs).sat Q := fun xs Q h => by
  unfold cdAt onVn at h; unfold onVn
  split at h
  · split at h <;> exact h
  · exact h
/-! ### the first place of an element, decided -/
mutual
def vtEq : VT → VT → Bool
  | .mk t n s l, .mk t' n' s' l' => eqI t t' && eqL eqI n n' && eqL eqBy s s' && vtEqs l l'
def vtEqs : List VT → List VT → Bool
  | [], [] => true
  | x :: l, y :: r => match vtEq x y with | true => vtEqs l r | false => false
  | _, _ => false
end
theorem eqL_refl {α : Type} {f : α → α → Bool} (hf : ∀ x, f x x = true) : ∀ l : List α, eqL f l l = true
  | [] => rfl
  | x :: l => by simp only [eqL, hf x, eqL_refl hf l]
theorem bytesEq_refl : ∀ l : List UInt8, bytesEq l l = true
  | [] => rfl
  | a :: l => by simp only [bytesEq, Nat.beq_refl, bytesEq_refl l]
mutual
theorem vtEq_self : ∀ x : VT, vtEq x x = true
  | .mk t n s l => by
    simp only [vtEq, Bool.and_eq_true]
    exact ⟨⟨⟨decide_eq_true rfl, eqL_refl (f := eqI) (fun x => (decide_eq_true rfl : eqI x x = true)) n⟩, eqL_refl (f := eqBy) (fun x => (bytesEq_refl _ : eqBy x x = true)) s⟩, vtEqs_self l⟩
theorem vtEqs_self : ∀ l : List VT, vtEqs l l = true
  | [] => rfl
  | x :: l => by simp only [vtEqs, vtEq_self x, vtEqs_self l]
end
mutual
theorem vtEq_ok : ∀ {x y : VT}, vtEq x y = true → x = y
  | .mk t n s l, .mk t' n' s' l', h => by
    simp only [vtEq, Bool.and_eq_true] at h
    obtain ⟨⟨⟨h1, h2⟩, h3⟩, h4⟩ := h
    rw [eqI_ok h1, eqL_ok (fun _ _ h => eqI_ok h) h2, eqL_ok (fun _ _ h => eqBy_ok h) h3, vtEqs_ok h4]
theorem vtEqs_ok : ∀ {l r : List VT}, vtEqs l r = true → l = r
  | [], [], _ => rfl
  | [], _ :: _, h => by simp [vtEqs] at h
  | _ :: _, [], h => by simp [vtEqs] at h
  | x :: l, y :: r, h => by
    simp only [vtEqs] at h
    split at h
    · rename_i h1; rw [vtEq_ok h1, vtEqs_ok h]
    · cases h
end
theorem vtEq_veq (x y : VT) : vtEq x y = veq x y := by
  rw [Bool.eq_iff_iff, veq_iff]
  exact ⟨vtEq_ok, fun h => by rw [h]; exact vtEq_self y⟩
def findGoD (v x : VT) : Nat → Nat → Int
  | _, 0 => rCount v
  | k, n + 1 => match vtEq x (atV v (k : Int)) with | true => (k : Int) | false => findGoD v x (k + 1) n
theorem findGoD_eq (v x : VT) : ∀ n k, findGoD v x k n = findGo v x k n
  | 0, k => rfl
  | n + 1, k => by
    rw [findGoD, findGo, vtEq_veq]
    cases veq x (atV v (k : Int))
    · rw [if_neg (by decide)]; exact findGoD_eq v x n (k + 1)
    · rw [if_pos rfl]
def findID (v x : VT) : Int := match partB v with | true => findGoD v x 0 (rCount v).toNat | false => 0
theorem findID_eq (v x : VT) : findID v x = findI v x := by
  unfold findID findI
  cases partB v
  · rw [if_neg (by decide)]
  · rw [if_pos rfl, findGoD_eq]
def cdFind := onVV fun v x => whenD (tame v) (.leaf (.tup [.int .i64 (findID v x), .int .i64 (findE v)]))
theorem cdFind_of : ∀ xs (Q : AV → Prop), (cdFind xs).sat Q → (spFindS xs).sat Q := fun xs Q h => by
  unfold cdFind onVV at h; unfold spFindS onVV
  split at h
  · split at h
    · simp only [findID_eq] at h; exact h
    · exact h
  · exact h
noncomputable def closedF : Orc := inlL itr O.real tbF fns noOrc noKnown shutM 300 14
theorem closedF_ok : OrcOk Tryz.prog closedF (fun _ => True) := inlL_ok (fng := Tryz.f107) mixed tbF_ok fnsOk itr_ok (by kernel_rfl) (noOrc_ok _ _) 14
noncomputable def lvP : PS := PS.also 57 cdFind <| PS.also 67 cdEach <| PS.also 43 (runP closedF 43) <| PS.also 44 (runP closedF 44) <| PS.also 50 cdClone (PS.also 12 cdClone (PS.also 68 cdOf (PS.also 75 cdOf (PS.also 54 cdAt (PS.also 28 cdAt PS.none)))))
theorem lvP_ok : PureOk Tryz.prog lvP := PureOk.also (ok57.of cdFind_of) <| PureOk.also (ok67.of cdEach_of) <| PureOk.also (runP_ok closedF_ok 43) <| PureOk.also (runP_ok closedF_ok 44) <| PureOk.also (ok50.of cdClone_of) (PureOk.also (ok12.of cdClone_of) (PureOk.also (ok68.of cdOf_of) (PureOk.also (ok75.of cdOf_of) (PureOk.also (ok54.of cdAt_of) (PureOk.also (ok28.of cdAt_of) (PureOk.none _))))))
def lvK : FuncId → Bool := fun f => Nat.beq f 57 || Nat.beq f 67 || Nat.beq f 43 || Nat.beq f 44 || Nat.beq f 50 || Nat.beq f 12 || Nat.beq f 68 || Nat.beq f 75 || Nat.beq f 54 || Nat.beq f 28
noncomputable def closedL : Orc := inlL itr O.real tbF fns (pureOrcR lvP) lvK shutM 3000 14
theorem closedL_ok : OrcOk Tryz.prog closedL (fun _ => True) := inlL_ok (fng := Tryz.f107) mixed tbF_ok fnsOk itr_ok (by kernel_rfl) (pureOrcR_ok lvP_ok) 14
end Go.Qv
