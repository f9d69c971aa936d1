/- What layer 20's functions answer to any test: definitions. No condition. -/
import Derived.Test.YtpbjikomdljphaaGreatQKbM
set_option linter.unusedVariables false
set_option linter.unusedSimpArgs false
set_option maxRecDepth 100000
namespace Go.Qv
open Go Go.RowKit Go.Proofs
/-- The first place of which p holds. -/
def fstN (p : Nat → Bool) : Nat → Nat → Nat
  | k, 0 => k
  | k, n + 1 => if p k then k else fstN p (k + 1) n
theorem fstN_spec (p : Nat → Bool) : ∀ (n k : Nat), k ≤ fstN p k n ∧ fstN p k n ≤ k + n ∧ (fstN p k n < k + n → p (fstN p k n) = true) ∧ ∀ j, k ≤ j → j < fstN p k n → p j = false
  | 0, k => by unfold fstN; exact ⟨Nat.le_refl _, Nat.le_refl _, fun h => absurd h (by omega), fun j h1 h2 => absurd h2 (by omega)⟩
  | n + 1, k => by
    unfold fstN
    split
    · rename_i hp
      exact ⟨Nat.le_refl _, by omega, fun _ => hp, fun j h1 h2 => absurd h2 (by omega)⟩
    · rename_i hp
      obtain ⟨a, b, c, d⟩ := fstN_spec p n (k + 1)
      refine ⟨by omega, by omega, fun h => c (by omega), fun j h1 h2 => ?_⟩
      rcases Nat.lt_or_ge k j with h3 | h3
      · exact d j (by omega) h2
      · obtain rfl : j = k := by omega
        simpa using hp
def eqAt (w x : VT) (k : Nat) : Bool := decide (vcmp x (atV w (k : Int)) = 0)
def fstEq (w x : VT) : Nat := fstN (eqAt w x) 0 (rCount w).toNat
def anyEq (w x : VT) : Bool := decide (fstEq w x < (rCount w).toNat)
def passT (x : VT) (op : Int) (w : VT) : Bool := if op = 6 then anyEq w x else if op = 7 then decide (0 ≤ vcmp x (atV w 0)) && decide (vcmp x (atV w 1) ≤ 0) else cmpB op (vcmp x w)
def tstOk (w : VT) : Prop := tame w ∧ ok2 w ∧ rCount w ≤ 536870912
def chkE (op : Int) (w : VT) (k : Int) : Int := if op < 0 ∨ 7 < op then 200 else if ¬ (1 ≤ k ∧ k ≤ 5) then 31 else if w.t ≠ (if 6 ≤ op then k else -k) then 31 else if op = 7 ∧ rCount w ≠ 2 then 32 else 0
def scE (v : VT) (op : Int) (w : VT) : Int := if ¬ (1 ≤ v.t ∧ v.t ≤ 5) then 31 else chkE op w v.t
def scanTN (v : VT) (op : Int) (w : VT) (n : Nat) : List Int := ((List.range n).filter fun k => passT (atV v (k : Nat)) op w).map fun (k : Nat) => (k : Int)
def scanT (v : VT) (op : Int) (w : VT) : List Int := scanTN v op w (rCount v).toNat
def scTL (v : VT) (op : Int) (w : VT) : List Int := if scE v op w = 0 then scanT v op w else []
def outB (v : VT) (i : Int) : Bool := decide (i < 0 ∨ rCount v ≤ i)
def wiE (r : List Int) (v : VT) (op : Int) (w : VT) : Int := if scE v op w ≠ 0 then scE v op w else if r.any (outB v) then 33 else 0
def wiTL (r : List Int) (v : VT) (op : Int) (w : VT) : List Int := if wiE r v op w = 0 then r.filter fun i => passT (atV v i) op w else []
def onTn (f : Int → VT → Int → T AV) : List AV → T AV
  | [.agg (.int .i64 op :: cs), .int .i64 k] => (match asV [] (.agg cs) with | some b => f op b k | _ => .stuck "onTn")
  | _ => .stuck "onTn"
def onIVT (f : List Int → VT → Int → VT → T AV) : List AV → T AV
  | [r, x, .agg (.int .i64 op :: cs)] => (match cInts [] .i64 r, asV [] x, asV [] (.agg cs) with | some r, some a, some b => f r a op b | _, _, _ => .stuck "onIVT")
  | _ => .stuck "onIVT"
noncomputable def spChk := onTn fun op w k => .leaf (.int .i64 (chkE op w k))
noncomputable def spPassT := onVT fun x op w => when_ (tstOk w) (.leaf (.bool (passT x op w)))
noncomputable def spScanT := onVT fun v op w => when_ (tstOk v) (when_ (tstOk w) (.leaf (.tup [.sl (.i .i64 (scTL v op w)), .int .i64 (scE v op w)])))
noncomputable def spWinT := onIVT fun r v op w => when_ (fewI r) (when_ (tstOk v) (when_ (tstOk w) (.leaf (.tup [.sl (.i .i64 (wiTL r v op w)), .int .i64 (wiE r v op w)]))))
noncomputable def spIntsR := onII fun a b => .leaf (.bool (eqIs a b))

noncomputable def tmI : TS := ⟨[(2, .one (.ptr 0 0)), (3, .one (.ptr 64 0)), (4, .one (.ptr 128 0))], [(0, .cells [.int .i64, .sl (.i .i64), .sl .s, .sl .v]), (64, .cells [.int .i64, .int .i64, .sl (.i .i64), .sl .s, .sl .v]), (128, .cells [.bool])], 192, 77⟩
noncomputable def spLpI : AV → List Lf → T (List Lf × Jp)
  | .fn 49 [.rp [.int .i64 t, .sl (.i .i64 n), .sl (.s s), .sl (.v l)]], [.int xt, .is xn, .ss xs, .vs xl, .int op, .int t', .is n', .ss s', .vs l', .bool r] =>
    when_ (tstOk (.mk t n s l)) (.ite (anyEq (.mk t n s l) (.mk xt xn xs xl))
      (.leaf ([.int xt, .is xn, .ss xs, .vs xl, .int op, .int t', .is n', .ss s', .vs l', .bool true], .ret))
      (.leaf ([.int xt, .is xn, .ss xs, .vs xl, .int op, .int t', .is n', .ss s', .vs l', .bool r], .go)))
  | _, _ => .stuck "loop's arguments"
noncomputable def lpI : LP := lpOf 0 Go.Proofs.Tryz.f30 3 tmI spLpI noLp
noncomputable def spLpT : AV → List Lf → T (List Lf × Jp)
  | .fn 49 [.rp [.int .i64 t, .sl (.i .i64 n), .sl (.s s), .sl (.v l)]], [.int op, .int t', .is n', .ss s', .vs l', .is h] =>
    when_ (tstOk (.mk t n s l)) (when_ (tstOk (.mk t' n' s' l')) (when_ (fewI h) (.leaf ([.int op, .int t', .is n', .ss s', .vs l', .is (appI h (scanT (.mk t n s l) op (.mk t' n' s' l')))], .go))))
  | _, _ => .stuck "loop's arguments"
noncomputable def lpT : LP := lpOf 0 Go.Proofs.Tryz.f8 6 tmS spLpT noLp

end Go.Qv
