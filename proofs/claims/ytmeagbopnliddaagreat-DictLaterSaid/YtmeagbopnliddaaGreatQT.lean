/- One state as another's instance: names are matched, what stands in the leaves becomes equations. -/
import Derived.Test.YtmeagbopnliddaaGreatQS
set_option linter.unusedVariables false
set_option linter.unusedSimpArgs false
namespace Go.Qv
open Go.RowKit

abbrev Rho := List (Nat × Option Nat)
def hasT (t : Nat) : Rho → Bool
  | [] => false
  | (_, some u) :: r => match Nat.beq u t with | true => true | false => hasT t r
  | (_, none) :: r => hasT t r
def bindR (ρ : Rho) (id : Nat) : Option Nat → Option Rho
  | none => match lk ρ id with
    | some none => some ρ
    | some (some _) => none
    | none => some ((id, none) :: ρ)
  | some t => match lk ρ id with
    | some (some u) => (match Nat.beq u t with | true => some ρ | false => none)
    | some none => none
    | none => (match hasT t ρ with | true => none | false => some ((id, some t) :: ρ))
def uLS : LS → LS → Option Prop
  | .i k xs, .i k' ys => match decide (k = k') with | true => some (xs = ys) | false => none
  | .s xs, .s ys => some (xs = ys)
  | .v xs, .v ys => some (xs = ys)
  | .r sh xs, .r sh' ys => match decide (sh = sh'), hasAny sh with | true, false => some (xs = ys) | _, _ => none
  | _, _ => none
def LS.good : LS → Bool
  | .r [] _ => false | _ => true
def LS.empty : LS → Prop
  | .i _ xs => xs = [] | .s xs => xs = [] | .v xs => xs = [] | .r _ xs => xs = []
/-- 'x' of the form, 'y' of the state. -/
def u1 (ρ : Rho) : AV → AV → Option (Rho × Prop)
  | .int k n, .int k' m => match decide (k = k') with | true => some (ρ, n = m) | false => none
  | .bool a, .bool b => some (ρ, a = b)
  | .str a, .str b => some (ρ, a = b)
  | .nilp, .nilp => some (ρ, True)
  | .nils, .nils => some (ρ, True)
  | .nilf, .nilf => some (ρ, True)
  | .nili, .nili => some (ρ, True)
  | .sl c, .sl d => match uLS c d with | some p => some (ρ, p) | none => none
  | .sl c, .nils => match c.good with | true => some (ρ, c.empty) | false => none
  | .ptr id off, .ptr id' off' => match Nat.beq off off', bindR ρ id (some id') with | true, some ρ' => some (ρ', True) | _, _ => none
  | .ep id sz i off, .ep id' sz' i' off' => match Nat.beq off off' && Nat.beq sz sz', bindR ρ id (some id') with | true, some ρ' => some (ρ', i = i') | _, _ => none
  | .own id, .own id' => match bindR ρ id (some id') with | some ρ' => some (ρ', True) | none => none
  | .own id, .nils => match bindR ρ id none with | some ρ' => some (ρ', True) | none => none
  | .raw v, .raw u => some (ρ, v = u)
  | .nilm, .nilm => some (ρ, True)
  | .mp id, .mp id' => match bindR ρ id (some id') with | some ρ' => some (ρ', True) | none => none
  | .fn f [], .fn g [] => match Nat.beq f g with | true => some (ρ, True) | false => none
  | _, _ => none
def uL (ρ : Rho) : List AV → List AV → Option (Rho × Prop)
  | [], [] => some (ρ, True)
  | x :: xs, y :: ys => match u1 ρ x y with
    | some (ρ', p) => (match uL ρ' xs ys with | some (ρ'', q) => some (ρ'', p ∧ q) | none => none)
    | none => none
  | _, _ => none
def uA (ρ : Rho) : AV → AV → Option (Rho × Prop)
  | .agg l, .agg m => uL ρ l m
  | .tup l, .tup m => uL ρ l m
  | .rp l, .rp m => uL ρ l m
  | .fn f l, .fn g m => match Nat.beq f g with | true => uL ρ l m | false => none
  | .iface t x, .iface t' y => match Nat.beq t t' with | true => u1 ρ x y | false => none
  | x, y => u1 ρ x y
def uEnv (ρ : Rho) (env : Env) : Env → Option (Rho × Prop)
  | [] => some (ρ, True)
  | (t, none, x) :: r => match lk env t with
    | some (none, y) => (match uA ρ x y with
      | some (ρ', p) => (match uEnv ρ' env r with | some (ρ'', q) => some (ρ'', p ∧ q) | none => none)
      | none => none)
    | _ => none
  | _ => none
def uPs (ρ : Rho) : List (AV × AV) → List (AV × AV) → Option (Rho × Prop)
  | [], [] => some (ρ, True)
  | (k, x) :: r, (k', y) :: r' => match uA ρ x y with
    | some (ρ', p) => (match uPs ρ' r r' with | some (ρ'', q) => some (ρ'', k = k' ∧ p ∧ q) | none => none)
    | none => none
  | _, _ => none
def uOb (ρ : Rho) : HObj → HObj → Option (Rho × Prop)
  | .map c bs ps, .map c' bs' ps' => match uPs ρ ps ps' with | some (ρ', p) => some (ρ', (c = c' ∧ bs = bs') ∧ p) | none => none
  | .arr e c, .arr e' d => match Nat.beq e e', uLS c d with | true, some p => some (ρ, p) | _, _ => none
  | .cells l, .cells m => uL ρ l m
  | .sset l, .sset l' => some (ρ, l = l')
  | _, _ => none
def uHeap (ρ : Rho) (heap : List (Nat × HObj)) : List (Nat × HObj) → Option (Rho × Prop)
  | [] => some (ρ, True)
  | (id, ob) :: r => match lk ρ id with
    | some (some t) => (match lk heap t with
      | some ob' => (match uOb ρ ob ob' with
        | some (ρ', p) => (match uHeap ρ' heap r with | some (ρ'', q) => some (ρ'', p ∧ q) | none => none)
        | none => none)
      | none => none)
    | some none => (match ob with
      | .arr _ c => (match c.good, uHeap ρ heap r with | true, some (ρ'', q) => some (ρ'', c.empty ∧ q) | _, _ => none)
      | _ => none)
    | none => none
def keysLt (n : Nat) : Rho → Bool
  | [] => true
  | (i, _) :: r => Nat.blt i n && keysLt n r

def RhoLe (ρ ρ' : Rho) : Prop := ∀ id t, lk ρ id = some t → lk ρ' id = some t
theorem RhoLe.refl (ρ : Rho) : RhoLe ρ ρ := fun _ _ h => h
theorem RhoLe.trans {a b c : Rho} (h : RhoLe a b) (h' : RhoLe b c) : RhoLe a c := fun i t x => h' i t (h i t x)
def RhoInj (ρ : Rho) : Prop := ∀ i j t, lk ρ i = some (some t) → lk ρ j = some (some t) → i = j
theorem hasT_false {t : Nat} : ∀ {ρ : Rho}, hasT t ρ = false → ∀ i, lk ρ i ≠ some (some t)
  | [], _, i, h => by simp [lk] at h
  | (j, some u) :: r, hh, i, h => by
    unfold hasT at hh
    rw [lk_cons] at h
    split at hh
    · cases hh
    · rename_i hb
      split at h
      · injection h with h; injection h with h
        subst h
        simp [Nat.beq_refl] at hb
      · exact hasT_false hh i h
  | (j, none) :: r, hh, i, h => by
    unfold hasT at hh
    rw [lk_cons] at h
    split at h
    · cases h
    · exact hasT_false hh i h
theorem bindR_ok {ρ ρ' : Rho} {id : Nat} {t : Option Nat} (h : bindR ρ id t = some ρ') : RhoLe ρ ρ' ∧ lk ρ' id = some t ∧ (RhoInj ρ → RhoInj ρ') := by
  have new : ∀ u, lk ρ id = none → (∀ t, u = some t → ∀ i, lk ρ i ≠ some (some t)) → RhoLe ρ ((id, u) :: ρ) ∧ lk ((id, u) :: ρ) id = some u ∧ (RhoInj ρ → RhoInj ((id, u) :: ρ)) := by
    intro u hn hu
    refine ⟨fun i t hi => ?_, by rw [lk_cons, if_pos rfl], fun hinj i j t hi hj => ?_⟩
    · rw [lk_cons, if_neg (fun e => by subst e; rw [hn] at hi; cases hi)]; exact hi
    · rw [lk_cons] at hi hj
      split at hi <;> split at hj
      · rename_i a b; rw [a, b]
      · injection hi with hi; exact absurd hj (hu t hi j)
      · injection hj with hj; exact absurd hi (hu t hj i)
      · exact hinj i j t hi hj
  cases t with
  | none =>
    simp only [bindR] at h
    split at h
    · rename_i hl; injection h with h; subst h; exact ⟨.refl _, hl, fun h => h⟩
    · cases h
    · rename_i hl; injection h with h; subst h; exact new none hl (by intro t ht; cases ht)
  | some t =>
    simp only [bindR] at h
    split at h
    · rename_i u hl
      split at h
      · rename_i hb; injection h with h; subst h; rw [Nat.eq_of_beq_eq_true hb] at hl; exact ⟨.refl _, hl, fun h => h⟩
      · cases h
    · cases h
    · rename_i hl
      split at h
      · cases h
      · rename_i hT; injection h with h; subst h; exact new (some t) hl (by intro t' ht; injection ht with ht; subst ht; exact hasT_false hT)

def βρ (β : Nat → Option Value) (ρ : Rho) : Nat → Option Value := fun id => match lk ρ id with
  | some (some t) => β t
  | some none => some (.slice none 0 0)
  | none => none
theorem βρ_some {β ρ id t} (h : lk ρ id = some (some t)) : βρ β ρ id = β t := by unfold βρ; rw [h]
theorem βρ_nil {β ρ id} (h : lk ρ id = some none) : βρ β ρ id = some (.slice none 0 0) := by unfold βρ; rw [h]

section
variable {β : Nat → Option Value} {F : Nat → Prop} {w : World}
theorem uLS_eq {c d : LS} {p : Prop} (h : uLS c d = some p) (hp : p) : c = d := by
  unfold uLS at h
  split at h
  · split at h
    · rename_i he; injection h with h; subst h; rw [of_decide_eq_true he, hp]
    · cases h
  · injection h with h; subst h; rw [hp]
  · injection h with h; subst h; rw [hp]
  · split at h
    · rename_i he _; injection h with h; subst h; rw [of_decide_eq_true he, hp]
    · cases h
  · cases h
theorem uLS_plain {c d : LS} {p : Prop} (h : uLS c d = some p) : d.plain = true := by
  unfold uLS at h
  split at h
  · rfl
  · rfl
  · rfl
  · split at h
    · rename_i he ha; simp [LS.plain, ← of_decide_eq_true he, ha]
    · cases h
  · cases h
theorem LS.empty_len {c : LS} (h : c.empty) : c.len = 0 := by cases c <;> simp_all [LS.empty, LS.len]
theorem LS.empty_ok {c : LS} (hg : c.good = true) (h : c.empty) : c.ok := by
  cases c with
  | r sh xs =>
    cases sh with
    | nil => simp [LS.good] at hg
    | cons a sh =>
      simp only [LS.empty] at h
      subst h
      exact ⟨by simp, by simp⟩
  | _ => trivial
theorem nils_inv {v : Value} (h : VR β F w v .nils) : v = .slice none 0 0 := by cases h; rfl
/-- What a match says. -/
structure UOk (ρ ρ' : Rho) (K : Rho → Prop) : Prop where
  le : RhoLe ρ ρ'
  inj : RhoInj ρ → RhoInj ρ'
  vr : ∀ ρ'', RhoLe ρ' ρ'' → K ρ''
theorem UOk.same {ρ : Rho} {K : Rho → Prop} (h : ∀ ρ'', K ρ'') : UOk ρ ρ K := ⟨.refl _, fun h => h, fun ρ'' _ => h ρ''⟩
theorem u1_ok {ρ ρ' : Rho} {x y : AV} {p : Prop} (h : u1 ρ x y = some (ρ', p)) (hp : p) : UOk ρ ρ' (fun ρ'' => ∀ v, VR β F w v y → VR (βρ β ρ'') F w v x) ∧ x.one = y.one := by
  unfold u1 at h
  split at h
  · split at h
    · rename_i he; injection h with h; injection h with h1 h2; subst h1; subst h2; subst hp; rw [of_decide_eq_true he]
      exact ⟨.same fun _ v hv => by cases hv; exact .int _ _, rfl⟩
    · cases h
  · injection h with h; injection h with h1 h2; subst h1; subst h2; subst hp
    exact ⟨.same fun _ v hv => by cases hv; exact .bool _, rfl⟩
  · injection h with h; injection h with h1 h2; subst h1; subst h2; subst hp
    exact ⟨.same fun _ v hv => by cases hv; exact .str _, rfl⟩
  · injection h with h; injection h with h1 h2; subst h1
    exact ⟨.same fun _ v hv => by cases hv; exact .nilp, rfl⟩
  · injection h with h; injection h with h1 h2; subst h1
    exact ⟨.same fun _ v hv => by cases hv; exact .nils, rfl⟩
  · injection h with h; injection h with h1 h2; subst h1
    exact ⟨.same fun _ v hv => by cases hv; exact .nilf, rfl⟩
  · injection h with h; injection h with h1 h2; subst h1
    exact ⟨.same fun _ v hv => by cases hv; exact .nili, rfl⟩
  · split at h
    · rename_i q hq
      injection h with h; injection h with h1 h2; subst h1; subst h2
      have hpl := uLS_plain hq
      have := uLS_eq hq hp
      subst this
      refine ⟨.same fun ρ'' v hv => ?_, rfl⟩
      exact hv.clean (.sl _ hpl)
    · cases h
  · split at h
    · rename_i hg
      injection h with h; injection h with h1 h2; subst h1; subst h2
      refine ⟨.same fun ρ'' v hv => ?_, rfl⟩
      rw [nils_inv hv]
      exact .sl0 _ _ _ (LS.empty_len hp) (LS.empty_ok hg hp)
    · cases h
  · split at h
    · rename_i ρ1 h1 h2
      injection h with h; injection h with h3 h4; subst h3
      have := Nat.eq_of_beq_eq_true h1
      subst this
      obtain ⟨a1, a2, a3⟩ := bindR_ok h2
      refine ⟨⟨a1, a3, fun ρ'' hle v hv => ?_⟩, rfl⟩
      cases hv with
      | ptr _ _ b o hb => exact .ptr _ _ _ _ ((βρ_some (hle _ _ a2)).trans hb)
    · cases h
  · split at h
    · rename_i ρ1 h1 h2
      injection h with h; injection h with h3 h4; subst h3; subst h4
      simp only [Bool.and_eq_true] at h1
      have e1 := Nat.eq_of_beq_eq_true h1.1
      have e2 := Nat.eq_of_beq_eq_true h1.2
      subst e1; subst e2; subst hp
      obtain ⟨a1, a2, a3⟩ := bindR_ok h2
      refine ⟨⟨a1, a3, fun ρ'' hle v hv => ?_⟩, rfl⟩
      cases hv with
      | ep _ _ _ _ b n c hb => exact .ep _ _ _ _ _ _ _ ((βρ_some (hle _ _ a2)).trans hb)
    · cases h
  · split at h
    · rename_i ρ1 h2
      injection h with h; injection h with h3 h4; subst h3
      obtain ⟨a1, a2, a3⟩ := bindR_ok h2
      refine ⟨⟨a1, a3, fun ρ'' hle v hv => ?_⟩, rfl⟩
      cases hv with
      | own _ _ hb hs => exact .own _ _ ((βρ_some (hle _ _ a2)).trans hb) hs
    · cases h
  · split at h
    · rename_i ρ1 h2
      injection h with h; injection h with h3 h4; subst h3
      obtain ⟨a1, a2, a3⟩ := bindR_ok h2
      refine ⟨⟨a1, a3, fun ρ'' hle v hv => ?_⟩, rfl⟩
      rw [nils_inv hv]
      exact .own _ _ (βρ_nil (hle _ _ a2)) ⟨_, _, _, rfl⟩
    · cases h
  · injection h with h; injection h with h1 h2; subst h1; subst h2; subst hp
    exact ⟨.same fun _ v hv => by cases hv; exact .raw _ (by assumption), rfl⟩
  · injection h with h; injection h with h1 h2; subst h1
    exact ⟨.same fun _ v hv => by cases hv; exact .nilm, rfl⟩
  · split at h
    · rename_i ρ1 h2
      injection h with h; injection h with h3 h4; subst h3
      obtain ⟨a1, a2, a3⟩ := bindR_ok h2
      refine ⟨⟨a1, a3, fun ρ'' hle v hv => ?_⟩, rfl⟩
      cases hv with
      | mp _ r hb => exact .mp _ _ ((βρ_some (hle _ _ a2)).trans hb)
    · cases h
  · split at h
    · rename_i hb
      injection h with h; injection h with h1 h2; subst h1
      have := Nat.eq_of_beq_eq_true hb
      subst this
      exact ⟨.same fun _ v hv => by
        cases hv with
        | fn _ cs _ hsz _ => exact .fn _ cs _ hsz (by simp), rfl⟩
    · cases h
  · cases h
theorem uL_ok : ∀ {xs ys : List AV} {ρ ρ' : Rho} {p : Prop}, uL ρ xs ys = some (ρ', p) → p →
    UOk ρ ρ' (fun ρ'' => ∀ (j : Nat) (x y : AV), xs[j]? = some x → ys[j]? = some y → x.one = y.one ∧ ∀ v, VR β F w v y → VR (βρ β ρ'') F w v x) ∧ xs.length = ys.length
  | [], [], ρ, ρ', p, h, hp => by
    injection h with h; injection h with h1 h2; subst h1
    exact ⟨.same fun _ j x y hx => by simp at hx, rfl⟩
  | x :: xs, y :: ys, ρ, ρ', p, h, hp => by
    unfold uL at h
    split at h
    · rename_i ρ1 p1 h1
      split at h
      · rename_i ρ2 q h2
        injection h with h; injection h with h3 h4; subst h3; subst h4
        obtain ⟨a, a'⟩ := u1_ok (β := β) (F := F) (w := w) h1 hp.1
        obtain ⟨b, b'⟩ := uL_ok h2 hp.2
        refine ⟨⟨a.le.trans b.le, fun hi => b.inj (a.inj hi), fun ρ'' hle j x' y' hx hy => ?_⟩, by simp [b']⟩
        cases j with
        | zero => simp at hx hy; subst hx; subst hy; exact ⟨a', a.vr ρ'' (b.le.trans hle)⟩
        | succ j => exact b.vr ρ'' hle j x' y' (by simpa using hx) (by simpa using hy)
      · cases h
    · cases h
  | [], _ :: _, _, _, _, h, _ => by simp [uL] at h
  | _ :: _, [], _, _, _, h, _ => by simp [uL] at h
theorem uA_ok {ρ ρ' : Rho} {x y : AV} {p : Prop} (h : uA ρ x y = some (ρ', p)) (hp : p) : UOk ρ ρ' (fun ρ'' => ∀ v, VR β F w v y → VR (βρ β ρ'') F w v x) := by
  have get : ∀ {l m : List AV} {j : Nat} {x : AV}, l.length = m.length → l[j]? = some x → ∃ y, m[j]? = some y := fun hl hx => by
    have := (List.getElem?_eq_some_iff.1 hx).1
    exact ⟨_, List.getElem?_eq_getElem (by omega)⟩
  unfold uA at h
  split at h
  · rename_i l m
    obtain ⟨a, hl⟩ := uL_ok (β := β) (F := F) (w := w) h hp
    refine ⟨a.le, a.inj, fun ρ'' hle v hv => ?_⟩
    cases hv with
    | agg cs _ h1 h2 h3 =>
      refine .agg _ _ (by omega) (fun x hx => ?_) (fun j v x hv hx => ?_)
      · obtain ⟨j, hj, rfl⟩ := List.getElem_of_mem hx
        have hx := List.getElem?_eq_getElem hj
        obtain ⟨y, hy⟩ := get hl hx
        rw [(a.vr ρ'' hle j _ y hx hy).1]
        exact h2 y (List.mem_of_getElem? hy)
      · obtain ⟨y, hy⟩ := get hl hx
        exact (a.vr ρ'' hle j x y hx hy).2 v (h3 j v y hv hy)
  · rename_i l m
    obtain ⟨a, hl⟩ := uL_ok (β := β) (F := F) (w := w) h hp
    refine ⟨a.le, a.inj, fun ρ'' hle v hv => ?_⟩
    cases hv with
    | tup cs _ h1 h3 =>
      refine .tup _ _ (by omega) (fun j v x hv hx => ?_)
      obtain ⟨y, hy⟩ := get hl hx
      exact (a.vr ρ'' hle j x y hx hy).2 v (h3 j v y hv hy)
  · rename_i l m
    obtain ⟨a, hl⟩ := uL_ok (β := β) (F := F) (w := w) h hp
    refine ⟨a.le, a.inj, fun ρ'' hle v hv => ?_⟩
    cases hv with
    | rp _ b o cv hf hc h1 h3 =>
      refine .rp _ _ _ cv hf (fun j hj => hc j (by omega)) (fun j x hx => ?_) (fun j x hx => ?_)
      · obtain ⟨y, hy⟩ := get hl hx
        rw [(a.vr ρ'' hle j x y hx hy).1]
        exact h1 j y hy
      · obtain ⟨y, hy⟩ := get hl hx
        exact (a.vr ρ'' hle j x y hx hy).2 _ (h3 j y hy)
  · rename_i f l g m
    split at h
    · rename_i hb
      have := Nat.eq_of_beq_eq_true hb
      subst this
      obtain ⟨a, hl⟩ := uL_ok (β := β) (F := F) (w := w) h hp
      refine ⟨a.le, a.inj, fun ρ'' hle v hv => ?_⟩
      cases hv with
      | fn _ cs _ h1 h3 =>
        refine .fn _ _ _ (by omega) (fun j v x hv hx => ?_)
        obtain ⟨y, hy⟩ := get hl hx
        exact (a.vr ρ'' hle j x y hx hy).2 v (h3 j v y hv hy)
    · cases h
  · split at h
    · rename_i hb
      have := Nat.eq_of_beq_eq_true hb
      subst this
      obtain ⟨a, _⟩ := u1_ok (β := β) (F := F) (w := w) h hp
      refine ⟨a.le, a.inj, fun ρ'' hle v hv => ?_⟩
      cases hv with
      | iface _ v _ h3 => exact .iface _ _ _ (a.vr ρ'' hle v h3)
    · cases h
  · exact (u1_ok h hp).1
theorem uEnv_ok {env : Env} : ∀ {l : Env} {ρ ρ' : Rho} {p : Prop}, uEnv ρ env l = some (ρ', p) → p →
    UOk ρ ρ' (fun ρ'' => ∀ t g x, lk l t = some (g, x) → g = none ∧ ∃ y, lk env t = some (none, y) ∧ ∀ v, VR β F w v y → VR (βρ β ρ'') F w v x)
  | [], ρ, ρ', p, h, hp => by
    injection h with h; injection h with h1 h2; subst h1
    exact .same fun _ t g x hx => by simp [lk] at hx
  | (t, some _, x) :: r, ρ, ρ', p, h, hp => by simp [uEnv] at h
  | (t, none, x) :: r, ρ, ρ', p, h, hp => by
    unfold uEnv at h
    split at h
    · rename_i y hl
      split at h
      · rename_i ρ1 p1 h1
        split at h
        · rename_i ρ2 q h2
          injection h with h; injection h with h3 h4; subst h3; subst h4
          have a := uA_ok (β := β) (F := F) (w := w) h1 hp.1
          have b := uEnv_ok h2 hp.2
          refine ⟨a.le.trans b.le, fun hi => b.inj (a.inj hi), fun ρ'' hle t' g x' hx => ?_⟩
          rw [lk_cons] at hx
          split at hx
          · rename_i e
            subst e
            injection hx with hx; injection hx with hx1 hx2
            subst hx1; subst hx2
            exact ⟨rfl, y, hl, a.vr ρ'' (b.le.trans hle)⟩
          · exact b.vr ρ'' hle t' g x' hx
        · cases h
      · cases h
    · cases h
theorem uPs_ok : ∀ {xs ys : List (AV × AV)} {ρ ρ' : Rho} {p : Prop}, uPs ρ xs ys = some (ρ', p) → p →
    UOk ρ ρ' (fun ρ'' => ∀ (j : Nat) (k x : AV), xs[j]? = some (k, x) → ∃ y, ys[j]? = some (k, y) ∧ ∀ v, VR β F w v y → VR (βρ β ρ'') F w v x) ∧ xs.length = ys.length
  | [], [], ρ, ρ', p, h, hp => by
    injection h with h; injection h with h1 h2; subst h1
    exact ⟨.same fun _ j k x hx => by simp at hx, rfl⟩
  | (k, x) :: xs, (k', y) :: ys, ρ, ρ', p, h, hp => by
    unfold uPs at h
    split at h
    · rename_i ρ1 p1 h1
      split at h
      · rename_i ρ2 q h2
        injection h with h; injection h with h3 h4; subst h3; subst h4
        obtain ⟨hk, hp1, hq⟩ := hp
        subst hk
        have a := uA_ok (β := β) (F := F) (w := w) h1 hp1
        obtain ⟨b, b'⟩ := uPs_ok h2 hq
        refine ⟨⟨a.le.trans b.le, fun hi => b.inj (a.inj hi), fun ρ'' hle j k' x' hx => ?_⟩, by simp [b']⟩
        cases j with
        | zero => simp at hx; obtain ⟨rfl, rfl⟩ := hx; exact ⟨y, rfl, a.vr ρ'' (b.le.trans hle)⟩
        | succ j => obtain ⟨y', g1, g2⟩ := b.vr ρ'' hle j k' x' (by simpa using hx); exact ⟨y', by simpa using g1, g2⟩
      · cases h
    · cases h
  | [], _ :: _, _, _, _, h, _ => by simp [uPs] at h
  | _ :: _, [], _, _, _, h, _ => by simp [uPs] at h
theorem uOb_ok {ρ ρ' : Rho} {ob ob' : HObj} {p : Prop} (h : uOb ρ ob ob' = some (ρ', p)) (hp : p) :
    UOk ρ ρ' (fun ρ'' => ∀ id t, lk ρ'' id = some (some t) → OR β F w t ob' → OR (βρ β ρ'') F w id ob) := by
  unfold uOb at h
  split at h
  · split at h
    · rename_i c bs ps c' bs' ps' ρ1 q hq
      injection h with h; injection h with h1 h2; subst h1; subst h2
      obtain ⟨⟨rfl, rfl⟩, hp⟩ := hp
      obtain ⟨a, hl⟩ := uPs_ok (β := β) (F := F) (w := w) hq hp
      refine ⟨a.le, a.inj, fun ρ'' hle id t hlk ho => ?_⟩
      obtain ⟨r, es, h1, h2, hbs, h0, h3, h4⟩ := ho
      refine ⟨r, es, (βρ_some hlk).trans h1, h2, hbs, h0, by omega, fun j k x hj => ?_⟩
      obtain ⟨y, g1, g2⟩ := a.vr ρ'' hle j k x hj
      obtain ⟨e, g3, g4, g5⟩ := h4 j k y g1
      exact ⟨e, g3, g4, g2 _ g5⟩
    · cases h
  · split at h
    · rename_i q hb hq
      injection h with h; injection h with h1 h2; subst h1; subst h2
      have e1 := Nat.eq_of_beq_eq_true hb
      have e2 := uLS_eq hq hp
      have hpl := uLS_plain hq
      subst e1; subst e2
      refine .same fun ρ'' id t hl ho => ?_
      obtain ⟨v, cvs, h1, h2, h3, h4⟩ := ho
      exact ⟨v, cvs, (βρ_some hl).trans h1, h2, h3, fun i el j x he hx => by
        obtain ⟨u, a1, a2⟩ := h4 i el j x he hx
        exact ⟨u, a1, a2.clean (LS.el_clean h3 hpl el (List.mem_of_getElem? he) x (List.mem_of_getElem? hx))⟩⟩
    · cases h
  · rename_i l m
    obtain ⟨a, hl⟩ := uL_ok (β := β) (F := F) (w := w) h hp
    refine ⟨a.le, a.inj, fun ρ'' hle id t hlk ho => ?_⟩
    obtain ⟨b, o, cur, e, h1, h2, h3, h4⟩ := ho
    refine ⟨b, o, cur, e, (βρ_some hlk).trans h1, h2, by omega, fun j x hx => ?_⟩
    have hj := (List.getElem?_eq_some_iff.1 hx).1
    have hy : m[j]? = some m[j] := List.getElem?_eq_getElem (by omega)
    obtain ⟨a1, v, a2, a3⟩ := h4 j _ hy
    obtain ⟨b1, b2⟩ := a.vr ρ'' hle j x _ hx hy
    exact ⟨b1.trans a1, v, a2, b2 v a3⟩
  · injection h with h; injection h with h1 h2; subst h1; subst h2
    subst hp
    refine .same fun ρ'' id t hl ho => ?_
    obtain ⟨c, bs, r, es, h1, h2, hbs, h0, h3, h4⟩ := ho
    refine ⟨c, bs, r, es, (βρ_some hl).trans h1, h2, hbs, h0, h3, fun j k x hj => ?_⟩
    obtain ⟨e, g1, g2, g3⟩ := h4 j k x hj
    refine ⟨e, g1, g2, ?_⟩
    obtain ⟨s, _, hs⟩ := List.mem_map.1 (List.mem_of_getElem? hj)
    injection hs with hs1 hs2
    subst hs2
    exact g3.clean (.bool _)
  · cases h
theorem uHeap_ok {heap : List (Nat × HObj)} : ∀ {l : List (Nat × HObj)} {ρ ρ' : Rho} {p : Prop}, uHeap ρ heap l = some (ρ', p) → p →
    UOk ρ ρ' (fun ρ'' => ∀ id ob, lk l id = some ob →
      (∃ t ob', lk ρ'' id = some (some t) ∧ lk heap t = some ob' ∧ (OR β F w t ob' → OR (βρ β ρ'') F w id ob)) ∨ (lk ρ'' id = some none ∧ OR (βρ β ρ'') F w id ob))
  | [], ρ, ρ', p, h, hp => by
    injection h with h; injection h with h1 h2; subst h1
    exact .same fun _ id ob hx => by simp [lk] at hx
  | (id, ob) :: r, ρ, ρ', p, h, hp => by
    unfold uHeap at h
    split at h
    · rename_i t hl
      split at h
      · rename_i ob' ho
        split at h
        · rename_i ρ1 p1 h1
          split at h
          · rename_i ρ2 q h2
            injection h with h; injection h with h3 h4; subst h3; subst h4
            have a := uOb_ok (β := β) (F := F) (w := w) h1 hp.1
            have b := uHeap_ok h2 hp.2
            refine ⟨a.le.trans b.le, fun hi => b.inj (a.inj hi), fun ρ'' hle id' ob1 hx => ?_⟩
            rw [lk_cons] at hx
            split at hx
            · rename_i e
              subst e
              injection hx with hx
              subst hx
              have := hle _ _ (b.le _ _ (a.le _ _ hl))
              exact .inl ⟨t, ob', this, ho, a.vr ρ'' (b.le.trans hle) _ _ this⟩
            · exact b.vr ρ'' hle id' ob1 hx
          · cases h
        · cases h
      · cases h
    · rename_i hl
      split at h
      · rename_i e c
        split at h
        · rename_i ρ2 q hg h2
          injection h with h; injection h with h3 h4; subst h3; subst h4
          have b := uHeap_ok h2 hp.2
          refine ⟨b.le, b.inj, fun ρ'' hle id' ob1 hx => ?_⟩
          rw [lk_cons] at hx
          split at hx
          · rename_i e
            subst e
            injection hx with hx
            subst hx
            have hl' := hle _ _ (b.le _ _ hl)
            have h0 := LS.empty_len hp.1
            refine .inr ⟨hl', .slice none 0 0, [], βρ_nil hl', ⟨by simp [h0], .inl ⟨rfl, h0⟩⟩, LS.empty_ok hg hp.1, fun i el j x he hx => ?_⟩
            have := (List.getElem?_eq_some_iff.1 he).1
            rw [LS.elems_len, h0] at this
            omega
          · exact b.vr ρ'' hle id' ob1 hx
        · cases h
      · cases h
    · cases h
theorem keysLt_ok {n : Nat} : ∀ {ρ : Rho}, keysLt n ρ = true → ∀ id t, lk ρ id = some t → id < n
  | [], _, id, t, h => by simp [lk] at h
  | (i, u) :: r, hh, id, t, h => by
    unfold keysLt at hh
    simp only [Bool.and_eq_true] at hh
    rw [lk_cons] at h
    split at h
    · rename_i e; subst e; exact Nat.le_of_ble_eq_true hh.1
    · exact keysLt_ok hh.2 id t h
end

theorem RhoInj.nil : RhoInj [] := fun i j t h => by simp [lk] at h
/-! ### the same within a call: the caller's names stay as they are -/
def fixB (n0 : Nat) : Rho → Bool
  | [] => true
  | (i, some t) :: r => (match Nat.blt i n0, Nat.blt t n0 with | false, false => true | _, _ => Nat.beq i t) && fixB n0 r
  | (i, none) :: r => !Nat.blt i n0 && fixB n0 r
def rho0 (n0 : Nat) : List (Nat × HObj) → Rho
  | [] => []
  | (i, _) :: r => match Nat.blt i n0 with | true => (i, some i) :: rho0 n0 r | false => rho0 n0 r
theorem rho0_id {n0 : Nat} : ∀ {l : List (Nat × HObj)} {i : Nat} {t : Option Nat}, lk (rho0 n0 l) i = some t → t = some i
  | [], i, t, h => by simp [rho0, lk] at h
  | (j, ob) :: r, i, t, h => by
    unfold rho0 at h
    split at h
    · rw [lk_cons] at h
      split at h
      · rename_i e; subst e; injection h with h; exact h.symm
      · exact rho0_id h
    · exact rho0_id h
theorem rho0_inj {n0 : Nat} {l : List (Nat × HObj)} : RhoInj (rho0 n0 l) := fun i j t h h' => by
  have a := rho0_id h
  have b := rho0_id h'
  injection a with a
  injection b with b
  exact a.symm.trans b
theorem fixB_ok {n0 : Nat} : ∀ {ρ : Rho}, fixB n0 ρ = true → ∀ i t, lk ρ i = some t → (i < n0 → t = some i) ∧ (∀ u, t = some u → u < n0 → i = u)
  | [], _, i, t, h => by simp [lk] at h
  | (j, some u) :: r, hf, i, t, h => by
    simp only [fixB, Bool.and_eq_true] at hf
    rw [lk_cons] at h
    split at h
    · rename_i e
      subst e
      injection h with h
      subst h
      have h1 := hf.1
      refine ⟨fun hi => ?_, fun u' hu hl => ?_⟩
      · have : Nat.blt i n0 = true := Nat.ble_eq_true_of_le hi
        rw [this] at h1
        rw [Nat.eq_of_beq_eq_true h1]
      · injection hu with hu
        subst hu
        have : Nat.blt u n0 = true := Nat.ble_eq_true_of_le hl
        rw [this] at h1
        cases hb : Nat.blt i n0 <;> rw [hb] at h1 <;> exact Nat.eq_of_beq_eq_true h1
    · exact fixB_ok hf.2 i t h
  | (j, none) :: r, hf, i, t, h => by
    simp only [fixB, Bool.and_eq_true, Bool.not_eq_true'] at hf
    rw [lk_cons] at h
    split at h
    · rename_i e
      subst e
      injection h with h
      subst h
      refine ⟨fun hi => ?_, fun u' hu hl => by cases hu⟩
      have : Nat.blt i n0 = true := Nat.ble_eq_true_of_le hi
      rw [this] at hf
      exact absurd hf.1 (by simp)
    · exact fixB_ok hf.2 i t h
noncomputable def subN (n0 : Nat) (inv st : S) : T Unit :=
  match inv.gds, Nat.beq inv.nt st.nt, uEnv (rho0 n0 inv.heap) st.env inv.env with
  | [], true, some (ρ, p) => match uHeap ρ st.heap inv.heap with
    | some (ρ', q) => (match keysLt inv.next ρ' && fixB n0 ρ' && Nat.ble n0 inv.next with | true => .req ⟨p ∧ q, Classical.propDecidable _⟩ (.leaf ()) | false => .stuck "sub: next")
    | none => .stuck "sub: heap"
  | _, _, _ => .stuck "sub"
theorem subN_ok {c : Ctx} (hB : ∀ id, c.n0 ≤ id → c.B0 id = none) {inv st : S} {β F a w} (h : RS c st β F a w) {R : Prop} (hs : (subN c.n0 inv st).sat fun _ => R) : R ∧ ∃ β', RS c inv β' F a w := by
  unfold subN at hs
  split at hs
  · rename_i ρ p hg hn he
    split at hs
    · rename_i ρ' q hh
      split at hs
      · rename_i hk
        simp only [Bool.and_eq_true] at hk
        obtain ⟨⟨hk1, hk2⟩, hk3⟩ := hk
        have hk3 := Nat.le_of_ble_eq_true hk3
        obtain ⟨⟨hp, hq⟩, hR⟩ := hs
        have a1 := uEnv_ok (β := β) (F := F) (w := w) he hp
        have a2 := uHeap_ok (β := β) (F := F) (w := w) hh hq
        have e := a1.vr ρ' a2.le
        have hhp := a2.vr ρ' (.refl _)
        have hi : RhoInj ρ' := a2.inj (a1.inj rho0_inj)
        have fx := fixB_ok hk2
        let β' : Nat → Option Value := fun id => if id < c.n0 then β id else βρ β ρ' id
        have up : ∀ id u, βρ β ρ' id = some u → β' id = some u := fun id u hu => by
          show (if _ then _ else _) = _
          split
          · rename_i hl
            unfold βρ at hu
            split at hu
            · rename_i t ht
              have := (fx id _ ht).1 hl
              injection this with this
              subst this
              exact hu
            · rename_i ht
              have := (fx id _ ht).1 hl
              cases this
            · cases hu
          · exact hu
        have eq' : ∀ id t, lk ρ' id = some t → β' id = βρ β ρ' id := fun id t ht => by
          show (if _ then _ else _) = _
          split
          · rename_i hl
            have := (fx id _ ht).1 hl
            subst this
            rw [βρ_some ht]
          · rfl
        have vr : ∀ {v x}, VR (βρ β ρ') F w v x → VR β' F w v x := fun h => h.mono up (fun _ h => h) (fun _ _ => rfl)
        have orr : ∀ {id ob}, OR (βρ β ρ') F w id ob → OR β' F w id ob := fun h => h.mono up (fun _ h => h) (fun _ _ => rfl) (fun _ _ _ _ => rfl)
        have r := h.rel
        refine ⟨hR, β', ⟨⟨fun t g x hx => ?_, fun id ob hx => ?_, fun id ob v b hx hv hb => ?_, fun id id' ob ob' v v' b hx hx' hne hv hv' hb hb' => ?_, r.Flt, r.Fbnd, r.F0F, r.cls, fun id v hv => ?_, r.os, r.tape, r.output, r.size, r.frame, r.defers,
          fun id x hx => ?_, fun id x hid hx => ?_, fun id hid => Nat.lt_of_lt_of_le hid hk3⟩, by rw [← h.nt]; exact Nat.eq_of_beq_eq_true hn, fun t g x hx => ?_⟩⟩
        · obtain ⟨rfl, y, h1, h2⟩ := e t g x hx
          obtain ⟨v, h3, h4⟩ := r.env t none y h1
          exact ⟨v, h3, vr (h2 v h4)⟩
        · rcases hhp id ob hx with ⟨t, ob', h1, h2, h3⟩ | ⟨_, h1⟩
          · exact orr (h3 (r.heap t ob' h2))
          · exact orr h1
        · rcases hhp id ob hx with ⟨t, ob', h1, h2, h3⟩ | ⟨h1, _⟩
          · rw [eq' _ _ h1, βρ_some h1] at hv; exact r.own t ob' v b h2 hv hb
          · rw [eq' _ _ h1, βρ_nil h1] at hv; injection hv with hv; subst hv; simp [blkOf] at hb
        · rcases hhp id ob hx with ⟨t, ob1, h1, h2, h3⟩ | ⟨h1, _⟩
          · rcases hhp id' ob' hx' with ⟨t', ob1', h1', h2', h3'⟩ | ⟨h1', _⟩
            · rw [eq' _ _ h1, βρ_some h1] at hv
              rw [eq' _ _ h1', βρ_some h1'] at hv'
              exact r.sep t t' _ _ v v' b h2 h2' (fun e => by subst e; exact hne (hi _ _ _ h1 h1')) hv hv' hb hb'
            · rw [eq' _ _ h1', βρ_nil h1'] at hv'; injection hv' with hv'; subst hv'; simp [blkOf] at hb'
          · rw [eq' _ _ h1, βρ_nil h1] at hv; injection hv with hv; subst hv; simp [blkOf] at hb
        · have hv : (if id < c.n0 then β id else βρ β ρ' id) = some v := hv
          split at hv
          · omega
          · unfold βρ at hv
            split at hv
            · rename_i hl; exact keysLt_ok hk1 id _ hl
            · rename_i hl; exact keysLt_ok hk1 id _ hl
            · cases hv
        · by_cases hid : id < c.n0
          · show (if _ then _ else _) = _
            rw [if_pos hid]; exact r.Bext id x hx
          · rw [hB id (by omega)] at hx; cases hx
        · have hx : (if id < c.n0 then β id else βρ β ρ' id) = some x := hx
          rw [if_pos hid] at hx
          exact r.Blow id x hid hx
        · have := (e t _ x hx).1
          cases this
      · exact hs.elim
    · exact hs.elim
  · exact hs.elim
end Go.Qv
