/- What the functions of layer 20 answer: definitions. No condition. -/
import Derived.Test.YtpbjikomdljphaaGreatQWfM
import Derived.Test.YtpbjikomdljphaaGreatQPk
import Derived.Test.YtpbjikomdljphaaGreatQPe
set_option linter.unusedVariables false
set_option linter.unusedSimpArgs false
set_option maxRecDepth 100000
namespace Go.Qv
open Go Go.RowKit Go.Proofs
mutual
def leftI : VT → Int → Int → Int
  | .mk _ n s l, k, d => if 100 < d then -1 else leftL l (IntKind.i64.wrap (IntKind.i64.wrap (IntKind.i64.wrap (k - 1) - n.length) - s.length)) d
def leftL : List VT → Int → Int → Int
  | [], k, _ => k
  | x :: l, k, d => if 0 ≤ k then leftL l (leftI x k (IntKind.i64.wrap (d + 1))) d else k
end
def smallV (v : VT) : Bool := !(decide ((300 : Int) < IntKind.i64.wrap (IntKind.i64.wrap (v.n.length + v.s.length) + v.l.length))) && decide (0 ≤ leftI v 2400 0) && decide (checkV v = 0)
def smallB (l : List VT) : Bool := l.all smallV
def hasI (l : List Int) (n : Int) : Bool := decide (0 ≤ idxI n l 0)
def rowI (rows : List (List AV)) (k : Nat) : List Int := rInts (rows.getD k []) 0
def andL (rows : List (List AV)) : List Int := (rowI rows 0).filter fun i => (rows.drop 1).all fun m => hasI (rInts m 0) i
def andOk (rows : List (List AV)) : Prop := 0 < rows.length ∧ rows.length ≤ 1073741824 ∧ ∀ m ∈ rows, (rInts m 0).length ≤ 1073741824
def opOk (op : Int) : Prop := 0 ≤ op ∧ op ≤ 5
def cmpB (op c : Int) : Bool := if op = 0 then decide (c = 0) else if op = 1 then decide (c < 0) else if op = 2 then decide (0 < c) else if op = 3 then decide (c ≤ 0) else if op = 4 then decide (0 ≤ c) else decide (c ≠ 0)
def passB (x : VT) (op : Int) (w : VT) : Bool := cmpB op (vcmp x w)
def scanOk (v : VT) (op : Int) (w : VT) : Prop := tame v ∧ 1 ≤ v.t ∧ v.t ≤ 5 ∧ w.t = -v.t ∧ opOk op ∧ rCount v ≤ 536870912
def scanN (v : VT) (op : Int) (w : VT) (n : Nat) : List Int := ((List.range n).filter fun k => passB (atV v (k : Nat)) op w).map fun (k : Nat) => (k : Int)
def scanL (v : VT) (op : Int) (w : VT) : List Int := scanN v op w (rCount v).toNat
def fewI (l : List Int) : Prop := l.length ≤ 536870912
def appI (h l : List Int) : List Int := h ++ l
def onV3 (f : VT → Int → Int → T AV) : List AV → T AV
  | [x, .int .i64 n, .int .i64 m] => (match asV [] x with | some a => f a n m | none => .stuck "onV3")
  | _ => .stuck "onV3"
def onVT (f : VT → Int → VT → T AV) : List AV → T AV
  | [x, .agg (.int .i64 op :: cs)] => (match asV [] x, asV [] (.agg cs) with | some a, some b => f a op b | _, _ => .stuck "onVT")
  | _ => .stuck "onVT"
def onRs (f : List (List AV) → T AV) : List AV → T AV
  | [x] => (match cRs [] [.ints .i64] x with | some a => f a | none => .stuck "onRs")
  | _ => .stuck "onRs"
noncomputable def sp37 (n : Nat) := onV3 fun a k d => when_ (smaller a n) (.leaf (.int .i64 (leftI a k d)))
noncomputable def sp37f := onV3 fun a k d => .leaf (.int .i64 (leftI a k d))
noncomputable def sp6 := onVs fun l => when_ (fines l) (.leaf (.bool (smallB l)))
noncomputable def sp36 := onIn fun a n => .leaf (.bool (hasI a n))
noncomputable def sp18 := onRs fun a => when_ (andOk a) (.leaf (.sl (.i .i64 (andL a))))
noncomputable def spPass := onVT fun x op w => when_ (opOk op) (.leaf (.bool (passB x op w)))
noncomputable def spScan := onVT fun v op w => when_ (scanOk v op w) (.leaf (.tup [.sl (.i .i64 (scanL v op w)), .int .i64 0]))

noncomputable def tmS : TS := ⟨[(3, .one (.ptr 64 0)), (4, .one (.fix .nils)), (5, .one (.fix (.int .i64 0))), (7, .one (.ptr 640 0))], [(64, .cells [.int .i64, .int .i64, .sl (.i .i64), .sl .s, .sl .v]), (640, .cells [.own 705]), (705, .arr 3 (.i .i64))], 768, 28⟩
noncomputable def spLpS : AV → List Lf → T (List Lf × Jp)
  | .fn 49 [.rp [.int .i64 t, .sl (.i .i64 n), .sl (.s s), .sl (.v l)]], [.int op, .int t', .is n', .ss s', .vs l', .is h] =>
    when_ (scanOk (.mk t n s l) op (.mk t' n' s' l')) (when_ (fewI h) (.leaf ([.int op, .int t', .is n', .ss s', .vs l', .is (appI h (scanL (.mk t n s l) op (.mk t' n' s' l')))], .go)))
  | _, _ => .stuck "loop's arguments"
noncomputable def lpS : LP := lpOf 0 Go.Proofs.Tryz.f8 6 tmS spLpS noLp

theorem onV3_inv {f : VT → Int → Int → T AV} {xs : List AV} {Q : AV → Prop} (h : (onV3 f xs).sat Q) : ∃ x n m a, xs = [x, .int .i64 n, .int .i64 m] ∧ asV [] x = some a ∧ (f a n m).sat Q := by
  unfold onV3 at h
  split at h
  · split at h
    · rename_i x n m _ a h1; exact ⟨x, n, m, a, rfl, h1, h⟩
    · exact h.elim
  · exact h.elim
theorem onV3_mk {f : VT → Int → Int → T AV} {x : AV} {n m : Int} {a : VT} {Q : AV → Prop} (h1 : asV [] x = some a) (h : (f a n m).sat Q) : (onV3 f [x, .int .i64 n, .int .i64 m]).sat Q := by
  unfold onV3; simp only [h1]; exact h
theorem onVT_inv {f : VT → Int → VT → T AV} {xs : List AV} {Q : AV → Prop} (h : (onVT f xs).sat Q) : ∃ x op cs a b, xs = [x, .agg (.int .i64 op :: cs)] ∧ asV [] x = some a ∧ asV [] (.agg cs) = some b ∧ (f a op b).sat Q := by
  unfold onVT at h
  split at h
  · split at h
    · rename_i x op cs _ _ a b h1 h2; exact ⟨x, op, cs, a, b, rfl, h1, h2, h⟩
    · exact h.elim
  · exact h.elim
theorem onRs_inv {f : List (List AV) → T AV} {xs : List AV} {Q : AV → Prop} (h : (onRs f xs).sat Q) : ∃ x a, xs = [x] ∧ cRs [] [.ints .i64] x = some a ∧ (f a).sat Q := by
  unfold onRs at h
  split at h
  · split at h
    · rename_i x _ a h1; exact ⟨x, a, rfl, h1, h⟩
    · exact h.elim
  · exact h.elim
section
variable {F : Nat → Prop} {w : World} {cs : Array Value}
theorem cRs_known0 {x : AV} {sh : List CK} {l : List (List AV)} (h : cRs [] sh x = some l) : x.owns1 = [] := by
  cases x <;> first | rfl | (simp [cRs, lk] at h)
theorem as_Rs {v : Value} {x : AV} {a : List (List AV)} (h : cRs [] [.ints .i64] x = some a) (hv : VR noβ F w v x) : VR noβ F w v (.sl (.r [.ints .i64] a)) := by
  unfold cRs at h
  split at h
  · split at h
    · cases h
    · injection h with h; subst h
      exact vr_back (nils_sl hv.fz rfl ⟨by decide, by simp⟩)
  · split at h
    · rename_i hd; injection h with h; subst h; rw [← of_decide_eq_true hd]; exact hv
    · cases h
  · simp [lk] at h
  · cases h
/-- A value and a test: the test's cells. -/
theorem as_T {v : Value} {op : Int} {cs : List AV} {b : VT} (h : asV [] (.agg cs) = some b) (hv : VR noβ F w v (.agg (.int .i64 op :: cs))) : VR noβ F w v (.agg (.int .i64 op :: b.cells)) := by
  unfold asV at h
  split at h
  · rename_i t n s l e
    injection e with e
    subst e
    split at h
    · rename_i n' s' l' h1 h2 h3
      injection h with h
      subst h
      cases hv with
      | agg us _ hl h4 h5 =>
        refine .agg us _ (by simpa [VT.cells] using hl) (fun x hx => ?_) (fun j u y hu hy => ?_)
        · simp only [VT.cells, List.mem_cons, List.not_mem_nil, or_false] at hx
          rcases hx with rfl | rfl | rfl | rfl | rfl <;> rfl
        · match j, hy with
          | 0, hy => simp at hy; subst hy; exact h5 0 u _ hu rfl
          | 1, hy => simp [VT.cells] at hy; subst hy; exact h5 1 u _ hu rfl
          | 2, hy => simp [VT.cells] at hy; subst hy; exact as_I h1 (h5 2 u _ hu rfl)
          | 3, hy => simp [VT.cells] at hy; subst hy; exact as_S h2 (h5 3 u _ hu rfl)
          | 4, hy => simp [VT.cells] at hy; subst hy; exact as_Vs h3 (h5 4 u _ hu rfl)
          | j + 5, hy => simp [VT.cells] at hy
    · cases h
  · cases h
end
end Go.Qv
/- A test and its opposite: plain facts. No condition. -/
set_option linter.unusedVariables false
set_option linter.unusedSimpArgs false
set_option maxRecDepth 100000
namespace Go.Qv
open Go Go.RowKit Go.Proofs
theorem scanN_succ (v : VT) (op : Int) (w : VT) (n : Nat) : scanN v op w (n + 1) = scanN v op w n ++ (if passB (atV v (n : Nat)) op w = true then [(n : Int)] else []) := by
  unfold scanN
  rw [List.range_succ, List.filter_append, List.map_append]
  congr 1
  rw [List.filter_cons]
  split <;> rfl
theorem scanN_len (v : VT) (op : Int) (w : VT) (n : Nat) : (scanN v op w n).length ≤ n := by
  unfold scanN
  rw [List.length_map]
  have := List.length_filter_le (fun k => passB (atV v (k : Nat)) op w) (List.range n)
  rw [List.length_range] at this
  exact this
theorem filter_two (p q : Nat → Bool) (h : ∀ k, q k = !p k) : ∀ l : List Nat, (l.filter p).length + (l.filter q).length = l.length
  | [] => rfl
  | x :: l => by
    have := filter_two p q h l
    rw [List.filter_cons, List.filter_cons, h x]
    cases p x <;> simp only [Bool.not_true, Bool.not_false, if_true, if_false, Bool.false_eq_true, List.length_cons] <;> omega
theorem mem_scan {v : VT} {op : Int} {w : VT} {i : Int} (h : i ∈ scanL v op w) : ∃ k : Nat, i = k ∧ passB (atV v (k : Nat)) op w = true := by
  unfold scanL scanN at h
  obtain ⟨k, hk, rfl⟩ := List.mem_map.1 h
  exact ⟨k, rfl, (List.mem_filter.1 hk).2⟩
theorem idxI_not {x : Int} : ∀ {l : List Int} {n : Int}, x ∉ l → idxI x l n = -1
  | [], _, _ => rfl
  | y :: l, n, h => by
    rw [idxI, if_neg (fun e => h (by rw [e]; exact List.mem_cons_self)), idxI_not (fun hm => h (List.mem_cons_of_mem _ hm))]
/-- Two tests of which each element passes one. -/
def opp (op op' : Int) : Prop := ∀ c, cmpB op' c = !cmpB op c
theorem opp05 : opp 0 5 := fun c => by unfold cmpB; simp
theorem opp14 : opp 1 4 := fun c => by unfold cmpB; simp; rw [Bool.eq_iff_iff]; simp
theorem opp23 : opp 2 3 := fun c => by unfold cmpB; simp; rw [Bool.eq_iff_iff]; simp
theorem opp_len {op op' : Int} (h : opp op op') (v w : VT) : ((scanL v op w).length : Int) + (scanL v op' w).length = rCount v := by
  have h0 := rCount_nn v
  have := filter_two (fun k => passB (atV v (k : Nat)) op w) (fun k => passB (atV v (k : Nat)) op' w) (fun k => h _) (List.range (rCount v).toNat)
  rw [List.length_range] at this
  unfold scanL scanN
  rw [List.length_map, List.length_map]
  omega
theorem opp_and {op op' : Int} (h : opp op op') (v w : VT) : andL [[.sl (.i .i64 (scanL v op w))], [.sl (.i .i64 (scanL v op' w))]] = [] := by
  show (scanL v op w).filter (fun i => hasI (scanL v op' w) i && true) = []
  rw [List.filter_eq_nil_iff]
  intro i hi
  rw [Bool.and_true]
  have hn : i ∉ scanL v op' w := fun hm => by
    obtain ⟨k, rfl, h1⟩ := mem_scan hi
    obtain ⟨k', e, h2⟩ := mem_scan hm
    have e : k' = k := by omega
    subst e
    unfold passB at h1 h2
    rw [h, h1] at h2
    cases h2
  unfold hasI
  rw [idxI_not hn]
  decide
/-- A vector that is one is small. -/
theorem vec_small {v : VT} (hc : checkV v = 0) (ht : 1 ≤ v.t ∧ v.t ≤ 5) : v.bk ≤ 8388608 := by
  have hp : rParts v 1048576 = 0 := by
    unfold checkV at hc
    split at hc
    · omega
    · exact hc
  obtain ⟨t, n, s, l⟩ := v
  have ht : 1 ≤ t ∧ t ≤ 5 := ht
  have ha : rAbs t = t := by unfold rAbs; rw [if_neg (by omega)]
  rw [rParts] at hp
  split at hp
  · cases hp
  · rename_i h1
    split at hp
    · cases hp
    · rename_i h2
      split at hp
      · cases hp
      · rename_i h3
        simp only [not_or, not_and] at h1
        have hL : rfL t = false := by
          unfold rfL rFields
          rw [ha]
          by_cases h3 : t = 3
          · rw [if_pos h3]
          · rw [if_neg h3, if_pos ⟨⟨by omega, ht.1⟩, ht.2⟩]
        have l0 : l = [] := List.eq_nil_of_length_eq_zero (by have := h1.2.2.2 hL; omega)
        subst l0
        have h2 : (if t = 3 then decide ((65536 : Int) < s.length) else if 1 ≤ t ∧ t ≤ 5 then decide ((65536 : Int) < n.length) else if t = 98 then decide ((64 : Int) < s.length) || decide ((64 : Int) < ([] : List VT).length) else decide (t = 0) && decide ((65536 : Int) < ([] : List VT).length)) = false := by
          cases hh : rMany (.mk t n s []) with
          | true => exact absurd hh h2
          | false => exact hh
        have h3 : longer (if t = 100 then 65536 else 64) s = false := by
          cases hh : rLong (.mk t n s []) with
          | true => exact absurd hh h3
          | false => exact hh
        rw [if_neg (by omega)] at h3
        have hs : ∀ x ∈ s, x.size ≤ 64 := fun x hx => by
          unfold longer at h3
          rw [List.any_eq_false] at h3
          have := h3 x hx
          simp at this
          omega
        have hst : ∀ l : List ByteArray, (∀ x ∈ l, x.size ≤ 64) → strs l ≤ 65 * l.length := by
          intro l
          induction l with
          | nil => intro _; simp [strs]
          | cons x l ih =>
            intro h
            have := ih (fun y hy => h y (List.mem_cons_of_mem _ hy))
            have := h x List.mem_cons_self
            simp only [strs, List.length_cons]
            omega
        have := hst s hs
        have hb : bks ([] : List VT) = 0 := rfl
        rw [VT.bk_eq, hb]
        by_cases e3 : t = 3
        · have hN : rfN t = false := by unfold rfN rFields; rw [ha, if_pos e3]
          have n0 : n.length = 0 := by have := h1.2.1 hN; omega
          rw [if_pos e3] at h2
          have := of_decide_eq_false h2
          omega
        · have hS : rfS t = false := by unfold rfS rFields; rw [ha, if_neg e3, if_pos ⟨⟨by omega, ht.1⟩, ht.2⟩]
          have s0 : s.length = 0 := by have := h1.2.2.1 hS; omega
          rw [if_neg e3, if_pos (show 1 ≤ t ∧ t ≤ 5 from ht)] at h2
          have := of_decide_eq_false h2
          omega
end Go.Qv
