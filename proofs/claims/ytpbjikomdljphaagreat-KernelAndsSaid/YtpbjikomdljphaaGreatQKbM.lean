/- What the functions of layer 20 answer: definitions. No condition. -/
import Derived.Test.YtpbjikomdljphaaGreatQWfM
import Derived.Test.YtpbjikomdljphaaGreatQPk
import Derived.Test.YtpbjikomdljphaaGreatQPe
set_option linter.unusedVariables false
set_option linter.unusedSimpArgs false
set_option maxRecDepth 100000
namespace Go.Qv
open Go Go.RowKit Go.Proofs
mutual
def leftI : VT → Int → Int → Int
  | .mk _ n s l, k, d => if 100 < d then -1 else leftL l (IntKind.i64.wrap (IntKind.i64.wrap (IntKind.i64.wrap (k - 1) - n.length) - s.length)) d
def leftL : List VT → Int → Int → Int
  | [], k, _ => k
  | x :: l, k, d => if 0 ≤ k then leftL l (leftI x k (IntKind.i64.wrap (d + 1))) d else k
end
def smallV (v : VT) : Bool := !(decide ((300 : Int) < IntKind.i64.wrap (IntKind.i64.wrap (v.n.length + v.s.length) + v.l.length))) && decide (0 ≤ leftI v 2400 0) && decide (checkV v = 0)
def smallB (l : List VT) : Bool := l.all smallV
def hasI (l : List Int) (n : Int) : Bool := decide (0 ≤ idxI n l 0)
def rowI (rows : List (List AV)) (k : Nat) : List Int := rInts (rows.getD k []) 0
def andL (rows : List (List AV)) : List Int := (rowI rows 0).filter fun i => (rows.drop 1).all fun m => hasI (rInts m 0) i
def andOk (rows : List (List AV)) : Prop := 0 < rows.length ∧ rows.length ≤ 1073741824 ∧ ∀ m ∈ rows, (rInts m 0).length ≤ 1073741824
def cmpB (op c : Int) : Bool := if op = 0 then decide (c = 0) else if op = 1 then decide (c < 0) else if op = 2 then decide (0 < c) else if op = 3 then decide (c ≤ 0) else if op = 4 then decide (0 ≤ c) else decide (c ≠ 0)
def fewI (l : List Int) : Prop := l.length ≤ 536870912
def appI (h l : List Int) : List Int := h ++ l
def onV3 (f : VT → Int → Int → T AV) : List AV → T AV
  | [x, .int .i64 n, .int .i64 m] => (match asV [] x with | some a => f a n m | none => .stuck "onV3")
  | _ => .stuck "onV3"
def onVT (f : VT → Int → VT → T AV) : List AV → T AV
  | [x, .agg (.int .i64 op :: cs)] => (match asV [] x, asV [] (.agg cs) with | some a, some b => f a op b | _, _ => .stuck "onVT")
  | _ => .stuck "onVT"
def onRs (f : List (List AV) → T AV) : List AV → T AV
  | [x] => (match cRs [] [.ints .i64] x with | some a => f a | none => .stuck "onRs")
  | _ => .stuck "onRs"
noncomputable def sp37 (n : Nat) := onV3 fun a k d => when_ (smaller a n) (.leaf (.int .i64 (leftI a k d)))
noncomputable def sp37f := onV3 fun a k d => .leaf (.int .i64 (leftI a k d))
noncomputable def sp6 := onVs fun l => when_ (fines l) (.leaf (.bool (smallB l)))
noncomputable def sp36 := onIn fun a n => .leaf (.bool (hasI a n))
noncomputable def tmS : TS := ⟨[(3, .one (.ptr 64 0)), (4, .one (.fix .nils)), (5, .one (.fix (.int .i64 0))), (7, .one (.ptr 640 0))], [(64, .cells [.int .i64, .int .i64, .sl (.i .i64), .sl .s, .sl .v]), (640, .cells [.own 705]), (705, .arr 3 (.i .i64))], 768, 28⟩
theorem onV3_inv {f : VT → Int → Int → T AV} {xs : List AV} {Q : AV → Prop} (h : (onV3 f xs).sat Q) : ∃ x n m a, xs = [x, .int .i64 n, .int .i64 m] ∧ asV [] x = some a ∧ (f a n m).sat Q := by
  unfold onV3 at h
  split at h
  · split at h
    · rename_i x n m _ a h1; exact ⟨x, n, m, a, rfl, h1, h⟩
    · exact h.elim
  · exact h.elim
theorem onV3_mk {f : VT → Int → Int → T AV} {x : AV} {n m : Int} {a : VT} {Q : AV → Prop} (h1 : asV [] x = some a) (h : (f a n m).sat Q) : (onV3 f [x, .int .i64 n, .int .i64 m]).sat Q := by
  unfold onV3; simp only [h1]; exact h
theorem onVT_inv {f : VT → Int → VT → T AV} {xs : List AV} {Q : AV → Prop} (h : (onVT f xs).sat Q) : ∃ x op cs a b, xs = [x, .agg (.int .i64 op :: cs)] ∧ asV [] x = some a ∧ asV [] (.agg cs) = some b ∧ (f a op b).sat Q := by
  unfold onVT at h
  split at h
  · split at h
    · rename_i x op cs _ _ a b h1 h2; exact ⟨x, op, cs, a, b, rfl, h1, h2, h⟩
    · exact h.elim
  · exact h.elim
theorem onRs_inv {f : List (List AV) → T AV} {xs : List AV} {Q : AV → Prop} (h : (onRs f xs).sat Q) : ∃ x a, xs = [x] ∧ cRs [] [.ints .i64] x = some a ∧ (f a).sat Q := by
  unfold onRs at h
  split at h
  · split at h
    · rename_i x _ a h1; exact ⟨x, a, rfl, h1, h⟩
    · exact h.elim
  · exact h.elim
section
variable {F : Nat → Prop} {w : World} {cs : Array Value}
theorem as_Rs {v : Value} {x : AV} {a : List (List AV)} (h : cRs [] [.ints .i64] x = some a) (hv : VR noβ F w v x) : VR noβ F w v (.sl (.r [.ints .i64] a)) := by
  unfold cRs at h
  split at h
  · split at h
    · cases h
    · injection h with h; subst h
      exact vr_back (nils_sl hv.fz rfl ⟨by decide, by simp⟩)
  · split at h
    · rename_i hd; injection h with h; subst h; rw [← of_decide_eq_true hd]; exact hv
    · cases h
  · simp [lk] at h
  · cases h
/-- A value and a test: the test's cells. -/
theorem as_T {v : Value} {op : Int} {cs : List AV} {b : VT} (h : asV [] (.agg cs) = some b) (hv : VR noβ F w v (.agg (.int .i64 op :: cs))) : VR noβ F w v (.agg (.int .i64 op :: b.cells)) := by
  unfold asV at h
  split at h
  · rename_i t n s l e
    injection e with e
    subst e
    split at h
    · rename_i n' s' l' h1 h2 h3
      injection h with h
      subst h
      cases hv with
      | agg us _ hl h4 h5 =>
        refine .agg us _ (by simpa [VT.cells] using hl) (fun x hx => ?_) (fun j u y hu hy => ?_)
        · simp only [VT.cells, List.mem_cons, List.not_mem_nil, or_false] at hx
          rcases hx with rfl | rfl | rfl | rfl | rfl <;> rfl
        · match j, hy with
          | 0, hy => simp at hy; subst hy; exact h5 0 u _ hu rfl
          | 1, hy => simp [VT.cells] at hy; subst hy; exact h5 1 u _ hu rfl
          | 2, hy => simp [VT.cells] at hy; subst hy; exact as_I h1 (h5 2 u _ hu rfl)
          | 3, hy => simp [VT.cells] at hy; subst hy; exact as_S h2 (h5 3 u _ hu rfl)
          | 4, hy => simp [VT.cells] at hy; subst hy; exact as_Vs h3 (h5 4 u _ hu rfl)
          | j + 5, hy => simp [VT.cells] at hy
    · cases h
  · cases h
end
end Go.Qv
/- A test and its opposite: plain facts. No condition. -/
set_option linter.unusedVariables false
set_option linter.unusedSimpArgs false
set_option maxRecDepth 100000
namespace Go.Qv
open Go Go.RowKit Go.Proofs
theorem idxI_not {x : Int} : ∀ {l : List Int} {n : Int}, x ∉ l → idxI x l n = -1
  | [], _, _ => rfl
  | y :: l, n, h => by
    rw [idxI, if_neg (fun e => h (by rw [e]; exact List.mem_cons_self)), idxI_not (fun hm => h (List.mem_cons_of_mem _ hm))]
end Go.Qv
