/- Dictionaries: Find, Keys, Values, Make. No condition. -/
import Derived.Test.YtmeagbopnliddaaGreatQDb
set_option linter.unusedVariables false
set_option linter.unusedSimpArgs false
set_option maxRecDepth 100000
namespace Go.Qv
open Go Go.RowKit Go.Proofs
theorem isD_yes {t n s l} (h : isD (.mk t n s l) = true) : t = 99 ∧ partB (l.getD 0 default) = true := by
  rw [isD_mk, Bool.and_eq_true, decide_eq_true_eq] at h; exact h
theorem side_yes {d : VT} (i : Nat) (h : isD d = true) : sideV d i = d.l.getD i default ∧ findDE d = 0 := by unfold sideV findDE; rw [h]; exact ⟨rfl, rfl⟩
theorem side_no {d : VT} (i : Nat) (h : isD d = false) : sideV d i = .mk 0 [] [] [] ∧ findDE d = 31 := by unfold sideV findDE; rw [h]; exact ⟨rfl, rfl⟩
theorem fd_yes {d x : VT} (h : isD d = true) : findDI d x = findI (d.l.getD 0 default) x := by unfold findDI; rw [h]; rfl
theorem fd_no {d x : VT} (h : isD d = false) : findDI d x = 0 := by unfold findDI; rw [h]; rfl
theorem ok16 : Pure1 Tryz.prog 16 spFindD := by
  intro xs F w cs R ha h
  obtain ⟨x, y, a, b, rfl, h1, h2, h⟩ := onVV_inv h
  obtain ⟨ho, h⟩ := when_inv h
  obtain ⟨ht, h⟩ := when_inv h
  have ha := ha.conv2 (fun v => as_V h1) (fun v => as_V h2)
  obtain ⟨t, n, s, l⟩ := a
  obtain ⟨zt, zn, zs, zl⟩ := b
  refine contract (fn := Tryz.f16) (walked (PureOk.also ok46 (PureOk.also ok57 (PureOk.none _))) 14) (by kernel_rfl) w16C_ok (by rfl) (by rfl) (by rfl) (by rfl) (by rfl) ha (ρ := [.int t, .is n, .ss s, .vs l, .int zt, .is zn, .ss zs, .vs zl]) (Rh.go (w16_9999 t n s l zt zn zs zl _) ?_) h
  simp only [SQ, RhQ, eq_self, implies_true, forall_const, VT.eta, if_true, if_false]
  refine ⟨ho, fun hp => ?_, fun hp => ?_⟩
  · rw [fd_no hp, (side_no 0 hp).2]; rfl
  · obtain ⟨e1, e2⟩ := isD_yes hp
    have hl : l.length = 2 := ho e1
    rw [fd_yes hp, (side_yes 0 hp).2]
    refine ⟨⟨⟨by omega, by omega⟩, ht.mem (getD_mem l default (by omega))⟩, ?_⟩
    rw [(find_yes (x := .mk zt zn zs zl) e2).2]; rfl
theorem ok17 : Pure1 Tryz.prog 17 spKeysD := by
  intro xs F w cs R ha h
  obtain ⟨x, a, rfl, h1, h⟩ := onV_inv h
  obtain ⟨ho, h⟩ := when_inv h
  obtain ⟨ht, h⟩ := when_inv h
  have ha := ha.conv1 (fun v => as_V h1)
  obtain ⟨t, n, s, l⟩ := a
  refine contract (fn := Tryz.f17) (walked (PureOk.also ok46 (PureOk.also ok50 (PureOk.none _))) 14) (by kernel_rfl) w17C_ok (by rfl) (by rfl) (by rfl) (by rfl) (by rfl) ha (ρ := [.int t, .is n, .ss s, .vs l]) (Rh.go (w17_9999 t n s l _) ?_) h
  simp only [SQ, RhQ, eq_self, implies_true, forall_const, VT.eta, if_true, if_false]
  refine ⟨ho, fun hp => ?_, fun hp => ?_⟩
  · obtain ⟨e1, e2⟩ := side_no 0 hp; exact Ret.ve e1 e2 rfl
  · obtain ⟨q1, q2⟩ := isD_yes hp
    have hl : l.length = 2 := ho q1
    obtain ⟨e1, e2⟩ := side_yes 0 hp
    exact ⟨⟨by omega, by omega⟩, ht.mem (getD_mem l default (by omega)), Ret.ve e1 e2 rfl⟩
theorem ok22 : Pure1 Tryz.prog 22 spValuesD := by
  intro xs F w cs R ha h
  obtain ⟨x, a, rfl, h1, h⟩ := onV_inv h
  obtain ⟨ho, h⟩ := when_inv h
  obtain ⟨ht, h⟩ := when_inv h
  have ha := ha.conv1 (fun v => as_V h1)
  obtain ⟨t, n, s, l⟩ := a
  refine contract (fn := Tryz.f22) (walked (PureOk.also ok46 (PureOk.also ok50 (PureOk.none _))) 14) (by kernel_rfl) w22C_ok (by rfl) (by rfl) (by rfl) (by rfl) (by rfl) ha (ρ := [.int t, .is n, .ss s, .vs l]) (Rh.go (w22_9999 t n s l _) ?_) h
  simp only [SQ, RhQ, eq_self, implies_true, forall_const, VT.eta, if_true, if_false]
  refine ⟨ho, fun hp => ?_, fun hp => ?_⟩
  · obtain ⟨e1, e2⟩ := side_no 1 hp; exact Ret.ve e1 e2 rfl
  · obtain ⟨q1, q2⟩ := isD_yes hp
    have hl : l.length = 2 := ho q1
    obtain ⟨e1, e2⟩ := side_yes 1 hp
    exact ⟨⟨by omega, by omega⟩, ht.mem (getD_mem l default (by omega)), Ret.ve e1 e2 rfl⟩
end Go.Qv
