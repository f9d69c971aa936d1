/- Builders of values: what they answer; what is told of it. No condition. -/
import Derived.Test.YtmeagbopnliddaaGreatQPcM
import Derived.Test.YtmeagbopnliddaaGreatQBv
set_option linter.unusedVariables false
set_option linter.unusedSimpArgs false
set_option maxRecDepth 100000
namespace Go.Qv
open Go Go.RowKit

mutual
def rSize : VT → Int
  | .mk _ n s l => rSizeL l (IntKind.i64.wrap (IntKind.i64.wrap (1 + n.length) + s.length))
def rSizeL : List VT → Int → Int
  | [], d => d
  | x :: l, d => rSizeL l (IntKind.i64.wrap (d + rSize x))
end
def mixedB (l : List VT) : Bool := rListGo ((l.getD 0 default).t) (decide (0 < l.length)) l
/-- Where the first stands that is no atom. -/
def naIdx : List VT → Int → Int
  | [], _ => -1
  | x :: l, i => if isAtomT x.t then naIdx l (i + 1) else i
def alikeGo (t0 : Int) (b : Bool) (l : List VT) : Bool := b && l.all fun x => decide (isAtomT x.t ∧ x.t = t0)
def alikeB (l : List VT) : Bool := alikeGo (l.getD 0 default).t (decide (0 < l.length)) l
def ofV (l : List VT) : VT := if alikeB l then .mk (-(l.getD 0 default).t) (l.flatMap VT.n) (l.flatMap VT.s) [] else .mk 0 [] [] l
def atomV (t n : Int) : VT := if rAbs t = 3 ∨ rAbs t < 1 ∨ 5 < rAbs t then .mk 101 [] [] [] else .mk (-(rAbs t)) [n] [] []
def at0 (v : VT) (i : Nat) : VT := if v.t = 3 then .mk (-3) [] [v.s.getD i ⟨#[]⟩] [] else if isVecT v.t then atomV v.t (v.n.getD i 0) else if v.t = 0 then v.l.getD i default else v
def at1V (v : VT) (i : Int) : VT := if i < 0 ∨ rCount v ≤ i then .mk 0 [] [] [] else at0 v i.toNat
def at1E (v : VT) (i : Int) : Int := if i < 0 ∨ rCount v ≤ i then 33 else 0
def flat9 (v : VT) : Prop := v.t ≠ 98 ∧ v.t ≠ 99
def cols (l : List VT) : Prop := ∀ x ∈ l, ∀ c ∈ x.l, flat9 c
def rowV (l : List VT) (i : Int) : VT := .mk 99 [] [] [.mk 3 [] (l.flatMap VT.s) [], ofV ((l.flatMap VT.l).map fun c => at1V c i)]
def ok2 (v : VT) : Prop := (v.t = 98 → cols [v]) ∧ (v.t = 99 → v.l.length = 2 ∧ ((v.l.getD 0 default).t = 98 → cols v.l) ∧ ((v.l.getD 0 default).t ≠ 98 → flat9 (v.l.getD 1 default)))
def atV (v : VT) (i : Int) : VT :=
  if i < 0 ∨ rCount v ≤ i then .mk 0 [] [] [] else if v.t = 98 then rowV [v] i
  else if v.t = 99 then (if (v.l.getD 0 default).t = 98 then rowV v.l i else at1V (v.l.getD 1 default) i) else at0 v i.toNat
def atE (v : VT) (i : Int) : Int := if i < 0 ∨ rCount v ≤ i then 33 else if v.t = 99 ∧ (v.l.getD 0 default).t ≠ 98 then at1E (v.l.getD 1 default) i else 0
def onVsG (g : FuncId) (f : List VT → T AV) : List AV → T AV
  | [x, .fn g' []] => (match Nat.beq g' g, cVs [] x with | true, some a => f a | _, _ => .stuck "onVsG")
  | _ => .stuck "onVsG"
def onVsn (f : List VT → Int → T AV) : List AV → T AV
  | [x, .int .i64 n] => (match cVs [] x with | some a => f a n | none => .stuck "onVsn")
  | _ => .stuck "onVsn"
def spNo (_ : List AV) : T AV := .stuck "not reached"
def onSs (f : List ByteArray → T AV) : List AV → T AV
  | [x] => (match cStrs [] x with | some a => f a | none => .stuck "onSs")
  | _ => .stuck "onSs"
noncomputable def sp87 := onI fun l => when_ (l.length ≤ 1073741824) (.leaf (.sl (.i .i64 l)))
noncomputable def sp88 := onSs fun l => when_ (l.length ≤ 1073741824) (.leaf (.sl (.s l)))
noncomputable def sp89 := onVs fun l => when_ (l.length ≤ 1073741824) (.leaf (.sl (.v l)))
noncomputable def sp95 := onInt2 fun t n => .leaf (vcl (atomV t n))
noncomputable def sp70 := onInt2 fun t n => .leaf (vcl (atomV t n))
noncomputable def sp12 (n : Nat) := onV fun a => when_ (smaller a n) (when_ (tame a) (.leaf (vcl a)))
noncomputable def sp12f := onV fun a => when_ (tame a) (.leaf (vcl a))
noncomputable def sp50 (n : Nat) := onV fun a => when_ (smaller a n) (when_ (tame a) (.leaf (vcl a)))
noncomputable def sp50f := onV fun a => when_ (tame a) (.leaf (vcl a))
noncomputable def sp108 := onVs fun l => .leaf (.bool (mixedB l))
noncomputable def sp144 := onVsG 110 fun l => .leaf (.int .i64 (naIdx l 0))
noncomputable def sp68 := onVs fun l => when_ (tames l) (.leaf (vcl (ofV l)))
noncomputable def sp75 := onVs fun l => when_ (tames l) (.leaf (vcl (ofV l)))
noncomputable def sp47 (n : Nat) := onV fun a => when_ (smaller a n) (.leaf (.int .i64 (rCount a)))
noncomputable def sp47f := onV fun a => .leaf (.int .i64 (rCount a))
noncomputable def sp86 (n : Nat) := onV fun a => when_ (smaller a n) (.leaf (.int .i64 (rDepth a)))
noncomputable def sp86f := onV fun a => .leaf (.int .i64 (rDepth a))
noncomputable def sp54p := onVn fun a i => when_ (tame a) (when_ (flat9 a) (.leaf (.tup [vcl (at1V a i), .int .i64 (at1E a i)])))
noncomputable def sp28p := onVn fun a i => when_ (tame a) (when_ (flat9 a) (.leaf (.tup [vcl (at1V a i), .int .i64 (at1E a i)])))
noncomputable def sp96 := onVsn fun l i => when_ (tames l) (when_ (cols l) (.leaf (vcl (rowV l i))))
noncomputable def sp71 := onVsn fun l i => when_ (tames l) (when_ (cols l) (.leaf (vcl (rowV l i))))
noncomputable def sp54 := onVn fun a i => when_ (tame a) (when_ (ok2 a) (.leaf (.tup [vcl (atV a i), .int .i64 (atE a i)])))
noncomputable def sp28 := onVn fun a i => when_ (tame a) (when_ (ok2 a) (.leaf (.tup [vcl (atV a i), .int .i64 (atE a i)])))

section
variable {Q : AV → Prop}
theorem onVsG_inv {g : FuncId} {f : List VT → T AV} {xs : List AV} (h : (onVsG g f xs).sat Q) : ∃ x a, xs = [x, .fn g []] ∧ cVs [] x = some a ∧ (f a).sat Q := by
  unfold onVsG at h
  split at h
  · split at h
    · rename_i x g' _ _ a h0 h1
      have := Nat.eq_of_beq_eq_true h0; subst this
      exact ⟨x, a, rfl, h1, h⟩
    · exact h.elim
  · exact h.elim
theorem onSs_inv {f : List ByteArray → T AV} {xs : List AV} (h : (onSs f xs).sat Q) : ∃ x a, xs = [x] ∧ cStrs [] x = some a ∧ (f a).sat Q := by
  unfold onSs at h
  split at h
  · split at h
    · rename_i x _ a h1; exact ⟨x, a, rfl, h1, h⟩
    · exact h.elim
  · exact h.elim
theorem onVsn_inv {f : List VT → Int → T AV} {xs : List AV} (h : (onVsn f xs).sat Q) : ∃ x n a, xs = [x, .int .i64 n] ∧ cVs [] x = some a ∧ (f a n).sat Q := by
  unfold onVsn at h
  split at h
  · split at h
    · rename_i x n _ a h1; exact ⟨x, n, a, rfl, h1, h⟩
    · exact h.elim
  · exact h.elim
end
/-! ### what a list becomes -/
theorem naIdx_atoms : ∀ (l : List VT) (i : Int), 0 ≤ i → (naIdx l i < 0 ↔ ∀ x ∈ l, isAtomT x.t)
  | [], i, h => by simp [naIdx]
  | x :: l, i, h => by
    unfold naIdx
    by_cases hx : isAtomT x.t
    · rw [if_pos hx, naIdx_atoms l (i + 1) (by omega)]; simp [hx]
    · rw [if_neg hx]; constructor
      · intro h'; omega
      · intro h'; exact absurd (h' x (by simp)) hx
theorem rListGo_atoms (t0 : Int) : ∀ (l : List VT) (b : Bool), (∀ x ∈ l, isAtomT x.t) → rListGo t0 b l = !(alikeGo t0 b l)
  | [], b, _ => by simp [rListGo, alikeGo]
  | x :: l, b, h => by
    have hx := h x (by simp)
    have hn : x.t ≠ 101 := by unfold isAtomT at hx; omega
    rw [rListGo, if_neg hn, rListGo_atoms t0 l _ (fun y hy => h y (by simp [hy]))]
    simp only [alikeGo, List.all_cons, Bool.and_assoc]
theorem list_iff (l : List VT) : (l.length = 0 ∨ mixedB l = true ∨ 0 ≤ naIdx l 0) ↔ alikeB l = false := by
  by_cases h0 : l.length = 0
  · simp [h0, alikeB, alikeGo]
  by_cases ha : ∀ x ∈ l, isAtomT x.t
  · have h1 := (naIdx_atoms l 0 (by omega)).2 ha
    have h2 := rListGo_atoms (l.getD 0 default).t l (decide (0 < l.length)) ha
    unfold mixedB alikeB
    rw [h2]
    constructor
    · rintro (h | h | h)
      · exact absurd h h0
      · simpa using h
      · omega
    · intro h; exact .inr (.inl (by rw [h]; rfl))
  · have h1 : ¬ naIdx l 0 < 0 := fun h => ha ((naIdx_atoms l 0 (by omega)).1 h)
    constructor
    · intro _
      cases e : alikeB l with
      | false => rfl
      | true =>
        exfalso; apply ha; intro x hx
        unfold alikeB alikeGo at e
        rw [Bool.and_eq_true, List.all_eq_true] at e
        exact (of_decide_eq_true (e.2 x hx)).1
    · intro _; exact .inr (.inr (by omega))
theorem at1V_bk (v : VT) (i : Int) : (at1V v i).bk ≤ v.bk := by
  unfold at1V
  split
  · rw [VT.bk_eq]; have := bk_pos v; simp [strs, bks]; omega
  · rename_i hi
    obtain ⟨t, n, s, l⟩ := v
    have mem : ∀ {l : List ByteArray} {x : ByteArray}, x ∈ l → x.size + 1 ≤ strs l := by
      intro l; induction l with
      | nil => intro x h; cases h
      | cons y l ih =>
        intro x h; simp only [strs]
        rcases List.mem_cons.1 h with rfl | h
        · omega
        · have := ih h; omega
    have e0 : at0 (.mk t n s l) i.toNat = if t = 3 then .mk (-3) [] [s.getD i.toNat ⟨#[]⟩] [] else if isVecT t then atomV t (n.getD i.toNat 0) else if t = 0 then l.getD i.toNat default else .mk t n s l := rfl
    rw [e0]
    by_cases h3 : t = 3
    · rw [if_pos h3]
      subst h3
      have hc : rCount (.mk 3 n s l) = s.length := by cases l <;> simp [rCount]
      rw [hc] at hi
      have := mem (getD_mem s ⟨#[]⟩ (i := i.toNat) (by omega))
      rw [VT.bk_eq, VT.bk_eq]; simp only [strs, bks, List.length_nil]; omega
    · rw [if_neg h3]
      by_cases hv : isVecT t
      · rw [if_pos hv]
        have hc : rCount (.mk t n s l) = n.length := by cases l <;> simp only [rCount, if_neg h3, if_pos hv]
        rw [hc] at hi
        unfold atomV
        by_cases ha : rAbs t = 3 ∨ rAbs t < 1 ∨ 5 < rAbs t
        · rw [if_pos ha, VT.bk_eq, VT.bk_eq]; simp only [strs, bks, List.length_nil]; omega
        · rw [if_neg ha, VT.bk_eq, VT.bk_eq]; simp only [strs, bks, List.length_nil, List.length_cons]; omega
      · rw [if_neg hv]
        by_cases h0 : t = 0
        · rw [if_pos h0]
          have hc : rCount (.mk t n s l) = l.length := by cases l <;> simp only [rCount, if_neg h3, if_neg hv, if_pos h0]
          rw [hc] at hi
          have hm := bk_mem (getD_mem l default (i := i.toNat) (by omega))
          rw [VT.bk_eq]; omega
        · rw [if_neg h0]; exact Nat.le_refl _
theorem bks_map_le {f : VT → VT} (h : ∀ x, (f x).bk ≤ x.bk) : ∀ l : List VT, bks (l.map f) ≤ bks l
  | [] => by simp [bks]
  | x :: l => by have := h x; have := bks_map_le h l; rw [List.map_cons, bks_cons, bks_cons]; omega
end Go.Qv
