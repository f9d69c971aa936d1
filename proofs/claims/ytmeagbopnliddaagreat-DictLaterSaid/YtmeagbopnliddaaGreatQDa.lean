/- Dictionaries: what is asked of them. No condition. -/
import Derived.Test.YtmeagbopnliddaaGreatQPlM
import Derived.Test.YtmeagbopnliddaaGreatQWfM
import Derived.Test.YtmeagbopnliddaaGreatQRlM
set_option linter.unusedVariables false
set_option linter.unusedSimpArgs false
set_option maxRecDepth 100000
namespace Go.Qv
open Go Go.RowKit Go.Proofs
def partB (a : VT) : Bool := decide (0 ≤ a.t ∧ a.t ≤ 5)
/-- The first place of an element, k places gone through; n to come. -/
noncomputable def findGo (v x : VT) : Nat → Nat → Int
  | _, 0 => rCount v
  | k, n + 1 => if veq x (atV v (k : Int)) then (k : Int) else findGo v x (k + 1) n
noncomputable def findI (v x : VT) : Int := if partB v then findGo v x 0 (rCount v).toNat else 0
def findE (v : VT) : Int := if partB v then 0 else 31
def dOk (d : VT) : Prop := d.t = 99 → d.l.length = 2
def isD (d : VT) : Bool := decide (d.t = 99) && partB (d.l.getD 0 default)
noncomputable def findDI (d x : VT) : Int := if isD d then findI (d.l.getD 0 default) x else 0
def findDE (d : VT) : Int := if isD d then 0 else 31
def sideV (d : VT) (i : Nat) : VT := if isD d then d.l.getD i default else .mk 0 [] [] []
def pairV (k v : VT) : VT := .mk 99 [] [] [k, v]
noncomputable def findG (v x : VT) : Int := findGo v x 0 (rCount v).toNat
def fndOk (v : VT) : Prop := tame v ∧ partP v
noncomputable def fndB (v x : VT) : Bool := decide (findG v x < rCount v)
noncomputable def spPart := onV fun a => .leaf (.bool (partB a))
noncomputable def spIsD := onV fun d => when_ (dOk d) (.leaf (.bool (isD d)))
noncomputable def spFindS := onVV fun v x => when_ (tame v) (.leaf (.tup [.int .i64 (findI v x), .int .i64 (findE v)]))
noncomputable def spFindD := onVV fun d x => when_ (dOk d) (when_ (tame d) (.leaf (.tup [.int .i64 (findDI d x), .int .i64 (findDE d)])))
noncomputable def spKeysD := onV fun d => when_ (dOk d) (when_ (tame d) (.leaf (.tup [vcl (sideV d 0), .int .i64 (findDE d)])))
noncomputable def spValuesD := onV fun d => when_ (dOk d) (when_ (tame d) (.leaf (.tup [vcl (sideV d 1), .int .i64 (findDE d)])))
noncomputable def tmF : TS := ⟨[(2, .one (.ptr 0 0)), (3, .one (.ptr 64 0)), (4, .one (.ptr 128 0)), (5, .one (.ptr 192 0))], [(0, .cells [.int .i64, .sl (.i .i64), .sl .s, .sl .v]), (64, .cells [.int .i64, .sl (.i .i64), .sl .s, .sl .v]), (128, .cells [.int .i64]), (192, .cells [.int .i64])], 256, 21⟩
noncomputable def spLpF : AV → List Lf → T (List Lf × Jp)
  | .fn 107 [.rp [.int .i64 t, .sl (.i .i64 n), .sl (.s s), .sl (.v l)]], [.int t', .is n', .ss s', .vs l', .int xt, .is xn, .ss xs, .vs xl, .int r0, .int r1] =>
    when_ (fndOk (.mk t n s l)) (.ite (fndB (.mk t n s l) (.mk xt xn xs xl))
      (.leaf ([.int t', .is n', .ss s', .vs l', .int xt, .is xn, .ss xs, .vs xl, .int (findG (.mk t n s l) (.mk xt xn xs xl)), .int 0], .ret))
      (.leaf ([.int t', .is n', .ss s', .vs l', .int xt, .is xn, .ss xs, .vs xl, .int r0, .int r1], .go)))
  | _, _ => .stuck "loop's arguments"
noncomputable def lpFind : LP := lpOf 0 Go.Proofs.Tryz.f57 4 tmF spLpF noLp

end Go.Qv
