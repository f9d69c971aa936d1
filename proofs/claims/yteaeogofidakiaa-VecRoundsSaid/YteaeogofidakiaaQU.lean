/- Calls: a function's body, walked in place of its call. -/
import Derived.Test.YteaeogofidakiaaQT
set_option linter.unusedVariables false
set_option linter.unusedSimpArgs false
namespace Go.Qv
open Go.RowKit

/-! ### names turned -/
abbrev Sg := Nat → Option Nat
def renL (g : AV → Option AV) : List AV → Option (List AV)
  | [] => some []
  | x :: l => match g x, renL g l with | some y, some r => some (y :: r) | _, _ => none
def renF (σ : Sg) : Nat → AV → Option AV
  | 0, x => match clean1 x with | true => some x | false => none
  | n + 1, x => match x with
    | .ptr id off => match σ id with | some t => some (.ptr t off) | none => none
    | .ep id sz i off => match σ id with | some t => some (.ep t sz i off) | none => none
    | .own id => match σ id with | some t => some (.own t) | none => none
    | .mp id => match σ id with | some t => some (.mp t) | none => none
    | .agg l => match renL (renF σ n) l with | some r => some (.agg r) | none => none
    | .tup l => match renL (renF σ n) l with | some r => some (.tup r) | none => none
    | .rp l => match renL (renF σ n) l with | some r => some (.rp r) | none => none
    | .fn f l => match renL (renF σ n) l with | some r => some (.fn f r) | none => none
    | .iface t y => match renF σ n y with | some r => some (.iface t r) | none => none
    | x => match clean1 x with | true => some x | false => none
def renPs (g : AV → Option AV) : List (AV × AV) → Option (List (AV × AV))
  | [] => some []
  | (k, x) :: l => match g x, renPs g l with | some y, some r => some ((k, y) :: r) | _, _ => none
def renLL (g : AV → Option AV) : List (List AV) → Option (List (List AV))
  | [] => some []
  | x :: l => match renL g x, renLL g l with | some y, some r => some (y :: r) | _, _ => none
def renOb (σ : Sg) : HObj → Option HObj
  | .cells l => match renL (renF σ 4) l with | some r => some (.cells r) | none => none
  | .arr e c => match c.plain with
    | true => some (.arr e c)
    | false => match c with
      | .r [.any] xs => (match renLL (renF σ 4) xs with | some r => some (.arr e (.r [.any] r)) | none => none)
      | _ => none
  | .map c bs ps => match renPs (renF σ 4) ps with | some r => some (.map c bs r) | none => none
def idsF : Nat → AV → List Nat
  | 0, _ => []
  | n + 1, x => match x with
    | .ptr id _ => [id] | .ep id _ _ _ => [id] | .own id => [id] | .mp id => [id]
    | .agg l => l.flatMap (idsF n) | .tup l => l.flatMap (idsF n) | .rp l => l.flatMap (idsF n) | .fn _ l => l.flatMap (idsF n)
    | .iface _ y => idsF n y
    | _ => []

section
variable {F : Nat → Prop} {w : World} {β β' : Nat → Option Value} {σ : Sg}
theorem renL_ok {g : AV → Option AV} : ∀ {l r : List AV}, renL g l = some r → r.length = l.length ∧ (∀ (j : Nat) (y : AV), r[j]? = some y → ∃ x, l[j]? = some x ∧ g x = some y) ∧ (∀ x ∈ l, ∃ y, g x = some y)
  | [], r, h => by simp [renL] at h; subst h; simp
  | x :: l, r, h => by
    simp only [renL] at h
    split at h
    · rename_i y r' h1 h2
      injection h with h
      subst h
      obtain ⟨a1, a2, a3⟩ := renL_ok h2
      refine ⟨by simp [a1], fun j y' hj => ?_, fun x' hx => ?_⟩
      · match j, hj with
        | 0, hj => simp at hj; subst hj; exact ⟨x, rfl, h1⟩
        | j + 1, hj => simp at hj; obtain ⟨x', h3, h4⟩ := a2 j y' hj; exact ⟨x', by simpa using h3, h4⟩
      · rcases List.mem_cons.1 hx with rfl | hx
        · exact ⟨y, h1⟩
        · exact a3 x' hx
    · cases h
theorem renPs_ok {g : AV → Option AV} : ∀ {l r : List (AV × AV)}, renPs g l = some r → r.length = l.length ∧ (∀ (j : Nat) (k y : AV), r[j]? = some (k, y) → ∃ x, l[j]? = some (k, x) ∧ g x = some y)
  | [], r, h => by simp [renPs] at h; subst h; simp
  | (k, x) :: l, r, h => by
    simp only [renPs] at h
    split at h
    · rename_i y r' h1 h2
      injection h with h
      subst h
      obtain ⟨a1, a2⟩ := renPs_ok h2
      refine ⟨by simp [a1], fun j k' y' hj => ?_⟩
      match j, hj with
      | 0, hj => simp at hj; obtain ⟨rfl, rfl⟩ := hj; exact ⟨x, rfl, h1⟩
      | j + 1, hj => simp at hj; obtain ⟨x', h3, h4⟩ := a2 j k' y' hj; exact ⟨x', by simpa using h3, h4⟩
    · cases h
theorem renLL_ok {g : AV → Option AV} : ∀ {l r : List (List AV)}, renLL g l = some r → r.length = l.length ∧ (∀ (j : Nat) (y : List AV), r[j]? = some y → ∃ x, l[j]? = some x ∧ renL g x = some y)
  | [], r, h => by simp [renLL] at h; subst h; simp
  | x :: l, r, h => by
    simp only [renLL] at h
    split at h
    · rename_i y r' h1 h2
      injection h with h
      subst h
      obtain ⟨a1, a2⟩ := renLL_ok h2
      refine ⟨by simp [a1], fun j y' hj => ?_⟩
      match j, hj with
      | 0, hj => simp at hj; subst hj; exact ⟨x, rfl, h1⟩
      | j + 1, hj => simp at hj; obtain ⟨x', h3, h4⟩ := a2 j y' hj; exact ⟨x', by simpa using h3, h4⟩
    · cases h
theorem renF_one : ∀ {n : Nat} {x y : AV}, renF σ n x = some y → y.one = x.one
  | 0, x, y, h => by
    unfold renF at h
    split at h
    · injection h with h; subst h; rfl
    · cases h
  | n + 1, x, y, h => by
    unfold renF at h
    split at h <;> split at h <;> first | (cases h; done) | (injection h with h; subst h; rfl)
theorem renF_ok (hσ : ∀ id t u, σ id = some t → β id = some u → β' t = some u) : ∀ {n : Nat} {x y : AV} {v : Value}, renF σ n x = some y → VR β F w v x → VR β' F w v y
  | 0, x, y, v, h, hv => by
    unfold renF at h
    split at h
    · rename_i hc; injection h with h; subst h; exact hv.clean (clean1_ok hc)
    · cases h
  | n + 1, x, y, v, h, hv => by
    unfold renF at h
    split at h <;> split at h <;> first | (cases h; done) | (injection h with h; subst h)
    · rename_i ht; cases hv with | ptr id off b o hb => exact .ptr _ _ _ _ (hσ _ _ _ ht hb)
    · rename_i ht; cases hv with | ep id sz i off b n c hb => exact .ep _ _ _ _ _ _ _ (hσ _ _ _ ht hb)
    · rename_i ht; cases hv with | own id v hb hs => exact .own _ _ (hσ _ _ _ ht hb) hs
    · rename_i ht; cases hv with | mp id r hb => exact .mp _ _ (hσ _ _ _ ht hb)
    · rename_i l r hr
      obtain ⟨a1, a2, a3⟩ := renL_ok hr
      cases hv with
      | agg cs _ h1 h2 h3 =>
        refine .agg cs _ (by rw [h1, a1]) (fun y hy => ?_) (fun j v y hj hy => ?_)
        · obtain ⟨j, hj, he⟩ := List.getElem_of_mem hy
          obtain ⟨x, h4, h5⟩ := a2 j y (by rw [List.getElem?_eq_getElem hj, he])
          rw [renF_one h5]
          exact h2 x (List.mem_of_getElem? h4)
        · obtain ⟨x, h4, h5⟩ := a2 j y hy
          exact renF_ok hσ h5 (h3 j v x hj h4)
    · rename_i l r hr
      obtain ⟨a1, a2, a3⟩ := renL_ok hr
      cases hv with
      | tup cs _ h1 h3 =>
        refine .tup cs _ (by rw [h1, a1]) (fun j v y hj hy => ?_)
        obtain ⟨x, h4, h5⟩ := a2 j y hy
        exact renF_ok hσ h5 (h3 j v x hj h4)
    · rename_i l r hr
      obtain ⟨a1, a2, a3⟩ := renL_ok hr
      cases hv with
      | rp _ b o cv hf hc h1 h3 =>
        refine .rp _ b o cv hf (fun j hj => hc j (by omega)) (fun j y hy => ?_) (fun j y hy => ?_)
        · obtain ⟨x, h4, h5⟩ := a2 j y hy
          rw [renF_one h5]
          exact h1 j x h4
        · obtain ⟨x, h4, h5⟩ := a2 j y hy
          exact renF_ok hσ h5 (h3 j x h4)
    · rename_i f l r hr
      obtain ⟨a1, a2, a3⟩ := renL_ok hr
      cases hv with
      | fn _ cs _ h1 h3 =>
        refine .fn _ cs _ (by rw [h1, a1]) (fun j v y hj hy => ?_)
        obtain ⟨x, h4, h5⟩ := a2 j y hy
        exact renF_ok hσ h5 (h3 j v x hj h4)
    · rename_i t z r hr
      cases hv with
      | iface _ v _ hz => exact .iface _ _ _ (renF_ok hσ hr hz)
    · rename_i hc
      exact hv.clean (clean1_ok hc)
theorem renOb_ok (hσ : ∀ id t u, σ id = some t → β id = some u → β' t = some u) {id t : Nat} {ob ob' : HObj} (ht : σ id = some t) (h : renOb σ ob = some ob') (ho : OR β F w id ob) : OR β' F w t ob' := by
  cases ob with
  | cells l =>
    simp only [renOb] at h
    split at h
    · rename_i r hr
      injection h with h
      subst h
      obtain ⟨a1, a2, a3⟩ := renL_ok hr
      obtain ⟨b, o, cur, e, h1, h2, h3, h4⟩ := ho
      refine ⟨b, o, cur, e, hσ _ _ _ ht h1, h2, by omega, fun j y hy => ?_⟩
      obtain ⟨x, h5, h6⟩ := a2 j y hy
      obtain ⟨h7, v, h8, h9⟩ := h4 j x h5
      exact ⟨by rw [renF_one h6]; exact h7, v, h8, renF_ok hσ h6 h9⟩
    · cases h
  | arr e c =>
    simp only [renOb] at h
    split at h
    · rename_i hpl
      injection h with h
      subst h
      obtain ⟨v, cvs, h1, h2, h3, h4⟩ := ho
      refine ⟨v, cvs, hσ _ _ _ ht h1, h2, h3, fun i el j x he hx => ?_⟩
      obtain ⟨u, h5, h6⟩ := h4 i el j x he hx
      exact ⟨u, h5, h6.clean (LS.el_clean h3 hpl el (List.mem_of_getElem? he) x (List.mem_of_getElem? hx))⟩
    · split at h
      · rename_i xs _
        split at h
        · rename_i r hr
          injection h with h
          subst h
          obtain ⟨a1, a2⟩ := renLL_ok hr
          obtain ⟨v, cvs, h1, h2, h3, h4⟩ := ho
          have hlen : (LS.r [.any] r).len = (LS.r [.any] xs).len := a1
          refine ⟨v, cvs, hσ _ _ _ ht h1, by rw [hlen]; exact h2, ⟨by simp, fun e he => ?_⟩, fun i el j y he hy => ?_⟩
          · obtain ⟨i, hi, rfl⟩ := List.getElem_of_mem he
            obtain ⟨x, g1, g2⟩ := a2 i _ (List.getElem?_eq_getElem hi)
            have hx := h3.2 x (List.mem_of_getElem? g1)
            obtain ⟨q1, q2, _⟩ := renL_ok g2
            have hxl : x.length = 1 := by rw [hx]; rfl
            have hyl : (r[i]).length = 1 := by omega
            obtain ⟨y, hy⟩ : ∃ y, r[i] = [y] := by
              match hh : r[i], hyl with
              | [y], _ => exact ⟨y, rfl⟩
            rw [hy] at q2 ⊢
            obtain ⟨z, g3, g4⟩ := q2 0 y rfl
            have hz : z.one = true := by
              have : shapeFrom x 0 [.any] = [rAny x 0] := rfl
              rw [hx, this] at g3
              simp at g3
              subst g3
              exact rAny_one _ _
            have hy1 : y.one = true := by rw [renF_one g4]; exact hz
            show [y] = [rAny [y] 0]
            simp [rAny, hy1]
          · obtain ⟨x, g1, g2⟩ := a2 i el he
            obtain ⟨q1, q2, _⟩ := renL_ok g2
            obtain ⟨z, g3, g4⟩ := q2 j y hy
            obtain ⟨u, h5, h6⟩ := h4 i x j z g1 g3
            exact ⟨u, h5, renF_ok hσ g4 h6⟩
        · cases h
      · cases h
  | map c bs ps =>
    simp only [renOb] at h
    split at h
    · rename_i r hr
      injection h with h
      subst h
      obtain ⟨a1, a2⟩ := renPs_ok hr
      obtain ⟨b, es, h1, h2, hbs, h0, h3, h4⟩ := ho
      refine ⟨b, es, hσ _ _ _ ht h1, h2, hbs, h0, by omega, fun j k y hj => ?_⟩
      obtain ⟨x, g1, g2⟩ := a2 j k y hj
      obtain ⟨e, g3, g4, g5⟩ := h4 j k x g1
      exact ⟨e, g3, g4, renF_ok hσ g2 g5⟩
    · cases h
end

/-! ### results -/
def ret1 (tb : Tb) (st : S) : ResultVar → Option AV
  | .tmp t => val st.env [] (.tmp t)
  | .cell a t => match val st.env [] (.tmp a), tb t with
    | some (.ptr id off), some d => match lk st.heap id with
      | some (.cells l) => (match Nat.beq ((l.drop off).take d.size).length d.size, mkAgg d.kd.agg ((l.drop off).take d.size) with | true, some v => some v | _, _ => none)
      | _ => none
    | _, _ => none
def rets (tb : Tb) (st : S) : List ResultVar → Option (List AV)
  | [] => some []
  | r :: l => match ret1 tb st r, rets tb st l with | some x, some xs => some (x :: xs) | _, _ => none
def retV (tb : Tb) (st : S) (rs : Array ResultVar) : Option AV :=
  match rets tb st rs.toList with
  | some [x] => some x
  | some [] => some (.tup [])
  | some [x, y] => some (.tup [x, y])
  | some [x, y, z] => some (.tup [x, y, z])
  | some [x, y, z, u] => some (.tup [x, y, z, u])
  | _ => none
def resGet (tmps : Array Value) : ResultVar → Sem Value
  | .tmp t => pure (tmps.getD t undef)
  | .cell a t => do loadVar t (← asAddr (tmps.getD a undef))
section
variable {P : Program} {tb : Tb} {c : Ctx} {st : S} {β : Nat → Option Value} {F : Nat → Prop} {a : Act} {w : World}
theorem ret1_ok (htb : TbOk P tb) (h : RS c st β F a w) {r : ResultVar} {x : AV} (hr : ret1 tb st r = some x) : ∃ v, (resGet a.tmps r).run P w = .ok v w ∧ VR β F w v x := by
  have hv : ∀ {t : Nat} {x : AV}, val st.env [] (.tmp t) = some x → VR β F w (a.tmps.getD t undef) x := fun {t x} he => by
    have := val_ok (h.he (T := fun _ => True)) (ch := []) (by simp) (fun _ _ => trivial) he
    simpa [Act.eval] using this
  cases r with
  | tmp t => exact ⟨_, rfl, hv hr⟩
  | cell p t =>
    simp only [ret1] at hr
    split at hr
    · rename_i id off d h1 h2
      split at hr
      · rename_i l hl
        split at hr
        · rename_i z hlen hm
          injection hr with hr
          subst hr
          obtain ⟨b, o', e1, cv, e2, e3⟩ := (h.rel.heap _ _ hl).cells_at (hv h1)
          have hlen' := Nat.eq_of_beq_eq_true hlen
          obtain ⟨r, hr1, hr2⟩ := loadAt_ok (P := P) (b := b) (o := o' + off) (cv := cv) (htb.1 _ _ h2) (fun j hj => e2 j (by simp at hlen'; omega)) hlen' (fun x hx => by
              obtain ⟨j, hj, rfl⟩ := List.getElem_of_mem (List.mem_of_mem_take hx)
              exact (e3 j _ (List.getElem?_eq_getElem hj)).1) (fun j x hj => by
              rw [List.getElem?_take] at hj
              split at hj
              · exact (e3 j x hj).2
              · cases hj) hm
          refine ⟨r, ?_, hr2⟩
          simp only [resGet, Sem.run_bind, e1]
          simp only [Instr.loadAt, Instr.sureAddr, Sem.run_bind, Sem.run_pure, Result.andThen_ok] at hr1
          simpa [asAddr] using hr1
        · cases hr
      · cases hr
    · cases hr
theorem rets_ok (htb : TbOk P tb) (h : RS c st β F a w) : ∀ {rs : List ResultVar} {xs : List AV}, rets tb st rs = some xs → xs.length = rs.length ∧ ∀ (j : Nat) (r : ResultVar) (x : AV), rs[j]? = some r → xs[j]? = some x → ∃ v, (resGet a.tmps r).run P w = .ok v w ∧ VR β F w v x
  | [], xs, he => by simp [rets] at he; subst he; simp
  | r :: rs, xs, he => by
    simp only [rets] at he
    split at he
    · rename_i x xs' h1 h2
      injection he with he
      subst he
      obtain ⟨a1, a2⟩ := rets_ok htb h h2
      refine ⟨by simp [a1], fun j r' x' hr hx => ?_⟩
      match j, hr, hx with
      | 0, hr, hx => simp at hr hx; subst hr; subst hx; exact ret1_ok htb h h1
      | j + 1, hr, hx => simp at hr hx; exact a2 j r' x' hr hx
    · cases he
theorem results_eq (fn : Func) (tmps : Array Value) : results fn tmps = (do
    let vs ← fn.results.mapM (resGet tmps)
    pure (if h : vs.size = 1 then vs[0] else .tuple vs)) := rfl
theorem retV_ok (htb : TbOk P tb) (h : RS c st β F a w) {fn : Func} {x : AV} (hr : retV tb st fn.results = some x) : ∃ v, (results fn a.tmps).run P w = .ok v w ∧ VR β F w v x := by
  unfold retV at hr
  have hrs : ∀ l, fn.results.toList = l → fn.results = l.toArray := fun l hl => by rw [← hl]
  split at hr
  · rename_i z he
    injection hr with hr; subst hr
    obtain ⟨a1, a2⟩ := rets_ok htb h he
    match hl : fn.results.toList, a1 with
    | [r], _ =>
      obtain ⟨v, h1, h2⟩ := a2 0 r z (by rw [hl]; rfl) rfl
      exact ⟨v, by simp [results_eq, hrs _ hl, h1, Sem.run_bind, Result.andThen], h2⟩
  · rename_i he
    injection hr with hr; subst hr
    obtain ⟨a1, a2⟩ := rets_ok htb h he
    match hl : fn.results.toList, a1 with
    | [], _ => exact ⟨.tuple #[], by simp [results_eq, hrs _ hl, Sem.run_bind, Result.andThen], .tup _ _ rfl (fun j v x hv => by simp at hv)⟩
  · rename_i z1 z2 he
    injection hr with hr; subst hr
    obtain ⟨a1, a2⟩ := rets_ok htb h he
    match hl : fn.results.toList, a1 with
    | [r1, r2], _ =>
      obtain ⟨v1, h1, h2⟩ := a2 0 r1 z1 (by rw [hl]; rfl) rfl
      obtain ⟨v2, h3, h4⟩ := a2 1 r2 z2 (by rw [hl]; rfl) rfl
      refine ⟨.tuple #[v1, v2], by simp [results_eq, hrs _ hl, h1, h3, Sem.run_bind, Result.andThen], .tup _ _ rfl (fun j v x hv hx => ?_)⟩
      match j, hv, hx with
      | 0, hv, hx => simp at hv hx; subst hv; subst hx; exact h2
      | 1, hv, hx => simp at hv hx; subst hv; subst hx; exact h4
      | j + 2, hv, hx => simp at hx
  · rename_i z1 z2 z3 he
    injection hr with hr; subst hr
    obtain ⟨a1, a2⟩ := rets_ok htb h he
    match hl : fn.results.toList, a1 with
    | [r1, r2, r3], _ =>
      obtain ⟨v1, h1, h2⟩ := a2 0 r1 z1 (by rw [hl]; rfl) rfl
      obtain ⟨v2, h3, h4⟩ := a2 1 r2 z2 (by rw [hl]; rfl) rfl
      obtain ⟨v3, h5, h6⟩ := a2 2 r3 z3 (by rw [hl]; rfl) rfl
      refine ⟨.tuple #[v1, v2, v3], by simp [results_eq, hrs _ hl, h1, h3, h5, Sem.run_bind, Result.andThen], .tup _ _ rfl (fun j v x hv hx => ?_)⟩
      match j, hv, hx with
      | 0, hv, hx => simp at hv hx; subst hv; subst hx; exact h2
      | 1, hv, hx => simp at hv hx; subst hv; subst hx; exact h4
      | 2, hv, hx => simp at hv hx; subst hv; subst hx; exact h6
      | j + 3, hv, hx => simp at hx
  · rename_i z1 z2 z3 z4 he
    injection hr with hr; subst hr
    obtain ⟨a1, a2⟩ := rets_ok htb h he
    match hl : fn.results.toList, a1 with
    | [r1, r2, r3, r4], _ =>
      obtain ⟨v1, h1, h2⟩ := a2 0 r1 z1 (by rw [hl]; rfl) rfl
      obtain ⟨v2, h3, h4⟩ := a2 1 r2 z2 (by rw [hl]; rfl) rfl
      obtain ⟨v3, h5, h6⟩ := a2 2 r3 z3 (by rw [hl]; rfl) rfl
      obtain ⟨v4, h7, h8⟩ := a2 3 r4 z4 (by rw [hl]; rfl) rfl
      refine ⟨.tuple #[v1, v2, v3, v4], by simp [results_eq, hrs _ hl, h1, h3, h5, h7, Sem.run_bind, Result.andThen], .tup _ _ rfl (fun j v x hv hx => ?_)⟩
      match j, hv, hx with
      | 0, hv, hx => simp at hv hx; subst hv; subst hx; exact h2
      | 1, hv, hx => simp at hv hx; subst hv; subst hx; exact h4
      | 2, hv, hx => simp at hv hx; subst hv; subst hx; exact h6
      | 3, hv, hx => simp at hv hx; subst hv; subst hx; exact h8
      | j + 4, hv, hx => simp at hx
  · cases hr
end
end Go.Qv
