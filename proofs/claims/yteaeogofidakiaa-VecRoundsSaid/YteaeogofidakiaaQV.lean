/- Calls, second part: what comes of a body walked in place of its call. -/
import Derived.Test.YteaeogofidakiaaQU
import Derived.Test.YteaeogofidakiaaQSL
set_option linter.unusedVariables false
set_option linter.unusedSimpArgs false
namespace Go.Qv
open Go.RowKit

def sig0 (nx : Nat) : Sg := fun id => match Nat.blt id nx with | true => some id | false => none
def idxN (id : Nat) : List Nat → Nat → Option Nat
  | [], _ => none
  | x :: l, n => match Nat.beq id x with | true => some n | false => idxN id l (n + 1)
def sig1 (nx : Nat) (names : List Nat) : Sg := fun id => match Nat.blt id nx with | true => some id | false => idxN id names nx
def renHs (σ : Sg) : List (Nat × HObj) → Option (List (Nat × HObj))
  | [] => some []
  | (i, ob) :: r => match σ i, renOb σ ob, renHs σ r with | some j, some ob', some r' => some ((j, ob') :: r') | _, _, _ => none
def nodupB : List Nat → Bool
  | [] => true
  | x :: l => !mem x l && nodupB l
def newsOf (σ : Sg) (heap : List (Nat × HObj)) : List Nat → Option (List HObj)
  | [] => some []
  | i :: r => match lk heap i with
    | some ob => (match renOb σ ob, newsOf σ heap r with | some ob', some l => some (ob' :: l) | _, _ => none)
    | none => none
def outsOf (σ : Sg) (heap : List (Nat × HObj)) : List (Nat × HObj) → Option (List (Nat × Option HObj))
  | [] => some []
  | (i, _) :: r => match lk heap i with
    | some ob => (match renOb σ ob, outsOf σ heap r with | some ob', some l => some ((i, some ob') :: l) | _, _ => none)
    | none => (match outsOf σ heap r with | some l => some ((i, none) :: l) | none => none)
def gonesOf : List (Nat × Option HObj) → List Nat
  | [] => []
  | (i, none) :: r => i :: gonesOf r
  | (_, some _) :: r => gonesOf r
def newNames (nx : Nat) : List (Nat × HObj) → List Nat
  | [] => []
  | (i, _) :: r => match Nat.blt i nx with | true => newNames nx r | false => i :: newNames nx r
def fin (tb : Tb) (nx : Nat) (rs : Array ResultVar) (hs : List (Nat × HObj)) (st : S) : T Eff :=
  match retV tb st rs with
  | none => .stuck "result"
  | some v =>
    let names := newNames nx (reach st.heap 400 (idsF 5 v ++ hs.map (·.1)) [])
    match nodupB names && Nat.ble names.length 64, renF (sig1 nx names) 5 v, newsOf (sig1 nx names) st.heap names, outsOf (sig1 nx names) st.heap hs with
    | true, some v', some nw, some ou => .leaf ⟨v', ou, gonesOf ou, nw⟩
    | _, _, _, _ => .stuck "call: names"
def zipArgs : Nat → List AV → Env
  | _, [] => []
  | j, x :: l => (j, none, x) :: zipArgs (j + 1) l
def LS.none1 : LS → Bool
  | .i _ [] => true | .s [] => true | .v [] => true | .r (_ :: _) [] => true | _ => false
def eqHw (a b : Nat × Option HObj) : Bool := Nat.beq a.1 b.1 && (match a.2, b.2 with | some x, some y => sameOb x y | none, none => true | _, _ => false)
/-- A nil slice, or an empty one of the call's own: the one name stands for both. -/
def joinT (nx : Nat) (t : T Eff) : T Eff :=
  match t with
  | .both p t1 q t2 => match t1.lin, t2.lin with
    | some (r1, { v := .nils, hw := h1, frz := [], new := [] }), some (r2, { v := .own m, hw := h2, frz := [], new := [.arr e c] }) =>
      (match Nat.beq m nx && c.none1 && eqL eqHw h1 h2 with
      | true => .req (r1.and r2) (.leaf ⟨.own m, h2, [], [.arr e c]⟩)
      | false => .both p t1 q t2)
    | _, _ => .both p t1 q t2
  | t => t
/-- Two scalars as one that a condition picks. -/
def selA (o : O) (b : Bool) : AV → AV → Option AV
  | .int k x, .int k' y => (match decide (k = k') with | true => some (.int k (o.isel b x y)) | false => none)
  | .bool x, .bool y => some (.bool (o.sel b x y))
  | .str x, .str y => some (.str (o.ssel b x y))
  | _, _ => none
def selL (o : O) (b : Bool) : List AV → List AV → Option (List AV)
  | [], [] => some []
  | x :: l, y :: r => match selA o b x y, selL o b l r with | some z, some m => some (z :: m) | _, _ => none
  | _, _ => none
def selV (o : O) (b : Bool) (x y : AV) : Option AV :=
  match x, y with
  | .tup l, .tup r => (match selL o b l r with | some m => some (.tup m) | none => none)
  | x, y => selA o b x y
/-- Ways of a call that do nothing but answer scalars, as one. -/
def joinI (o : O) : T Eff → T Eff
  | .ite b t e => match (joinI o t).lin, (joinI o e).lin with
    | some (p, ⟨x, [], [], []⟩), some (q, ⟨y, [], [], []⟩) => (match selV o b x y with
      | some z => .req (DP.when b true p) (.req (DP.when b false q) (.leaf ⟨z, [], [], []⟩))
      | none => .ite b (joinI o t) (joinI o e))
    | _, _ => .ite b (joinI o t) (joinI o e)
  | .req p t => .req p (joinI o t)
  | t => t
def joinM (o : O) (m : Bool) (t : T Eff) : T Eff := match m with | true => t | false => joinI o t
/-- Some functions' contracts first; of all others the body is walked. -/
def inl (o : O) (tb : Tb) (fns : FuncId → Option Func) (sp : Orc) (known : FuncId → Bool) (md : FuncId → Bool) (fuel : Nat) : Nat → Orc
  | 0 => fun _ _ _ _ => .stuck "depth"
  | n + 1 => fun f nx xs hs => match known f with
    | true => sp f nx xs hs
    | false => match fns f with
      | none => .stuck "function"
      | some fn => match renL (renF (sig0 nx) 5) xs, renHs (sig0 nx) hs, Nat.ble xs.length fn.ntmps with
        | some ys, some hs', true =>
          joinT nx (joinM o (md f) ((run o tb (inl o tb fns sp known md fuel n) (md f) [] fuel [.code (bodyOf fn)] ⟨zipArgs 0 ys, [], hs', nx, fn.ntmps⟩).bind fun s => match s with
            | .ret st => fin tb nx fn.results hs st
            | .done st => fin tb nx fn.results hs st
            | .exit _ _ => .stuck "exit" | .again _ _ => .stuck "again" | .loop _ _ _ => .stuck "loop" | .rfunc _ _ _ _ _ _ => .stuck "rfunc" | .more _ _ => .stuck "more"))
        | _, _, _ => .stuck "call: arguments"

def FnsOk (P : Program) (fns : FuncId → Option Func) : Prop := ∀ f fn, fns f = some fn → P.funcs[f]? = some fn ∧ fn.name ≠ "runtime.NumGoroutine" ∧ fn.body.isSome = true

section
variable {P : Program} {tb : Tb} {hs : List (Nat × HObj)} {nx : Nat} {β βf : Nat → Option Value} {F Ff : Nat → Prop} {w wf : World}
theorem blt_true {a b : Nat} (h : Nat.blt a b = true) : a < b := by
  have := Nat.le_of_ble_eq_true h; omega
theorem blt_false {a b : Nat} (h : Nat.blt a b = false) : ¬ a < b := by
  intro hh
  have : Nat.blt a b = true := Nat.ble_eq_true_of_le hh
  rw [h] at this; cases this
theorem sig0_ok {id t : Nat} (h : sig0 nx id = some t) : id < nx ∧ t = id := by
  unfold sig0 at h
  split at h
  · rename_i hb; injection h with h; exact ⟨blt_true hb, h.symm⟩
  · cases h
theorem idxN_ok {id : Nat} : ∀ {l : List Nat} {n t : Nat}, idxN id l n = some t → n ≤ t ∧ l[t - n]? = some id
  | [], n, t, h => by simp [idxN] at h
  | x :: l, n, t, h => by
    unfold idxN at h
    split at h
    · rename_i hb
      injection h with h
      subst h
      have := Nat.eq_of_beq_eq_true hb
      subst this
      exact ⟨Nat.le_refl _, by simp⟩
    · obtain ⟨h1, h2⟩ := idxN_ok h
      refine ⟨by omega, ?_⟩
      have : t - n = (t - (n + 1)) + 1 := by omega
      rw [this, List.getElem?_cons_succ]
      exact h2
theorem sig1_ok {names : List Nat} {id t : Nat} (h : sig1 nx names id = some t) : (id < nx ∧ t = id) ∨ (nx ≤ t ∧ t < nx + names.length ∧ names[t - nx]? = some id) := by
  unfold sig1 at h
  split at h
  · rename_i hb; injection h with h; exact .inl ⟨blt_true hb, h.symm⟩
  · obtain ⟨h1, h2⟩ := idxN_ok h
    have := (List.getElem?_eq_some_iff.1 h2).1
    exact .inr ⟨h1, by omega, h2⟩
theorem renHs_ok {σ : Sg} : ∀ {l r : List (Nat × HObj)}, renHs σ l = some r → (∀ j ob', (j, ob') ∈ r → ∃ i ob, (i, ob) ∈ l ∧ σ i = some j ∧ renOb σ ob = some ob') ∧ (∀ p ∈ l, ∃ j, σ p.1 = some j)
  | [], r, h => by simp [renHs] at h; subst h; simp
  | (i, ob) :: l, r, h => by
    simp only [renHs] at h
    split at h
    · rename_i j ob1 r' h1 h2 h3
      injection h with h
      subst h
      obtain ⟨a1, a2⟩ := renHs_ok h3
      refine ⟨fun j' ob' hm => ?_, fun p hp => ?_⟩
      · rcases List.mem_cons.1 hm with he | hm
        · injection he with e1 e2
          subst e1; subst e2
          exact ⟨i, ob, List.mem_cons_self, h1, h2⟩
        · obtain ⟨i', ob2, g1, g2, g3⟩ := a1 j' ob' hm
          exact ⟨i', ob2, List.mem_cons_of_mem _ g1, g2, g3⟩
      · rcases List.mem_cons.1 hp with rfl | hp
        · exact ⟨j, h1⟩
        · exact a2 p hp
    · cases h
theorem nodupB_ok : ∀ {l : List Nat}, nodupB l = true → l.Nodup
  | [], _ => List.nodup_nil
  | x :: l, h => by
    simp only [nodupB, Bool.and_eq_true, Bool.not_eq_true'] at h
    refine List.nodup_cons.2 ⟨fun hm => ?_, nodupB_ok h.2⟩
    rw [mem_true.2 hm] at h
    exact absurd h.1 (by simp)
theorem newsOf_ok {σ : Sg} {heap : List (Nat × HObj)} : ∀ {l : List Nat} {r : List HObj}, newsOf σ heap l = some r → r.length = l.length ∧ ∀ (j : Nat) (ob' : HObj), r[j]? = some ob' → ∃ i ob, l[j]? = some i ∧ lk heap i = some ob ∧ renOb σ ob = some ob'
  | [], r, h => by simp [newsOf] at h; subst h; simp
  | i :: l, r, h => by
    simp only [newsOf] at h
    split at h
    · rename_i ob hob
      split at h
      · rename_i ob1 r' h1 h2
        injection h with h
        subst h
        obtain ⟨a1, a2⟩ := newsOf_ok h2
        refine ⟨by simp [a1], fun j ob' hj => ?_⟩
        match j, hj with
        | 0, hj => simp at hj; subst hj; exact ⟨i, ob, rfl, hob, h1⟩
        | j + 1, hj => simp at hj; obtain ⟨i', ob2, g1, g2, g3⟩ := a2 j ob' hj; exact ⟨i', ob2, by simpa using g1, g2, g3⟩
      · cases h
    · cases h
theorem outsOf_ok {σ : Sg} {heap : List (Nat × HObj)} : ∀ {l : List (Nat × HObj)} {r : List (Nat × Option HObj)}, outsOf σ heap l = some r →
    (∀ p ∈ r, (∃ ob, (p.1, ob) ∈ l) ∧ ((p.2 = none ∧ lk heap p.1 = none) ∨ ∃ ob ob', p.2 = some ob' ∧ lk heap p.1 = some ob ∧ renOb σ ob = some ob')) ∧ ∀ p ∈ l, ∃ x, (p.1, x) ∈ r
  | [], r, h => by simp [outsOf] at h; subst h; simp
  | (i, ob0) :: l, r, h => by
    simp only [outsOf] at h
    split at h
    · rename_i ob hob
      split at h
      · rename_i ob1 r' h1 h2
        injection h with h
        subst h
        obtain ⟨a1, a2⟩ := outsOf_ok h2
        refine ⟨fun p hp => ?_, fun p hp => ?_⟩
        · rcases List.mem_cons.1 hp with rfl | hp
          · exact ⟨⟨ob0, List.mem_cons_self⟩, .inr ⟨ob, ob1, rfl, hob, h1⟩⟩
          · obtain ⟨⟨o2, g1⟩, g2⟩ := a1 p hp
            exact ⟨⟨o2, List.mem_cons_of_mem _ g1⟩, g2⟩
        · rcases List.mem_cons.1 hp with rfl | hp
          · exact ⟨_, List.mem_cons_self⟩
          · obtain ⟨x, g⟩ := a2 p hp
            exact ⟨x, List.mem_cons_of_mem _ g⟩
      · cases h
    · rename_i hob
      split at h
      · rename_i r' h2
        injection h with h
        subst h
        obtain ⟨a1, a2⟩ := outsOf_ok h2
        refine ⟨fun p hp => ?_, fun p hp => ?_⟩
        · rcases List.mem_cons.1 hp with rfl | hp
          · exact ⟨⟨ob0, List.mem_cons_self⟩, .inl ⟨rfl, hob⟩⟩
          · obtain ⟨⟨o2, g1⟩, g2⟩ := a1 p hp
            exact ⟨⟨o2, List.mem_cons_of_mem _ g1⟩, g2⟩
        · rcases List.mem_cons.1 hp with rfl | hp
          · exact ⟨_, List.mem_cons_self⟩
          · obtain ⟨x, g⟩ := a2 p hp
            exact ⟨x, List.mem_cons_of_mem _ g⟩
      · cases h
theorem gonesOf_ok : ∀ {r : List (Nat × Option HObj)} {i : Nat}, (i, none) ∈ r → i ∈ gonesOf r
  | (j, none) :: r, i, h => by
    simp only [gonesOf]
    rcases List.mem_cons.1 h with h | h
    · injection h with h; subst h; exact List.mem_cons_self
    · exact List.mem_cons_of_mem _ (gonesOf_ok h)
  | (j, some ob) :: r, i, h => by
    simp only [gonesOf]
    rcases List.mem_cons.1 h with h | h
    · injection h with _ h; cases h
    · exact gonesOf_ok h

/-- The frame of a call: what it may write, where it began. -/
def callCtx (hs : List (Nat × HObj)) (nx : Nat) (β : Nat → Option Value) (F : Nat → Prop) (w : World) : Ctx where
  w0 := w
  M b := ∃ p ∈ hs, ∃ v, β p.1 = some v ∧ blkOf v = some b
  C _ := True
  F0 := F
  B0 id := if id < nx then β id else none
  n0 := nx
  stable _ _ _ _ := trivial

theorem fin_ok (htb : TbOk P tb) (hp : Pre hs nx β F w) (hlt : ∀ p ∈ hs, p.1 < nx) {st : S} {a : Act} {fn : Func} (h : RS (callCtx hs nx β F w) st βf Ff a wf) {R : Value → World → Prop}
    (hf : (fin tb nx fn.results hs st).sat (fun E => ∀ v' β' F' w', Post hs nx E β F w v' β' F' w' → R v' w')) :
    a.defers = [] ∧ ∃ v, (results fn a.tmps).run P wf = .ok v wf ∧ R v wf := by
  refine ⟨h.rel.defers, ?_⟩
  unfold fin at hf
  split at hf
  · exact hf.elim
  · rename_i v hv
    obtain ⟨rv, hrun, hvr⟩ := retV_ok htb h hv
    simp only at hf
    generalize hnm : newNames nx (reach st.heap 400 (idsF 5 v ++ hs.map (·.1)) []) = names at hf
    have hge : ∀ i ∈ names, nx ≤ i := by
      have : ∀ (l : List (Nat × HObj)), ∀ i ∈ newNames nx l, nx ≤ i := by
        intro l
        induction l with
        | nil => intro i hi; simp [newNames] at hi
        | cons p l ih =>
          intro i hi
          obtain ⟨j, ob⟩ := p
          unfold newNames at hi
          split at hi
          · exact ih i hi
          · rename_i hb
            rcases List.mem_cons.1 hi with rfl | hi
            · exact Nat.le_of_not_lt (blt_false hb)
            · exact ih i hi
      rw [← hnm]; exact this _
    split at hf
    · rename_i v' nw ou hnb hv' hnw hou
      refine ⟨rv, hrun, ?_⟩
      simp only [Bool.and_eq_true] at hnb
      have hnd := nodupB_ok hnb.1
      have hln := Nat.le_of_ble_eq_true hnb.2
      obtain ⟨n1, n2⟩ := newsOf_ok hnw
      obtain ⟨o1, o2⟩ := outsOf_ok hou
      let β' : Nat → Option Value := fun id => if nx ≤ id ∧ id < nx + names.length then (match names[id - nx]? with | some i => βf i | none => none) else β id
      have r := h.rel
      have hold : ∀ id, id < nx → ∀ u, β id = some u → βf id = some u := fun id hid u hu => r.Bext id u (by show (if id < nx then β id else none) = some u; rw [if_pos hid]; exact hu)
      have hnew : ∀ j, j < names.length → ∀ i, names[j]? = some i → β' (nx + j) = βf i := fun j hj i hi => by
        show (if nx ≤ nx + j ∧ nx + j < nx + names.length then _ else _) = _
        rw [if_pos ⟨by omega, by omega⟩]
        have : nx + j - nx = j := by omega
        rw [this, hi]
      have hlow : ∀ id, id < nx → β' id = β id := fun id hid => by
        show (if nx ≤ id ∧ id < nx + names.length then _ else _) = _
        rw [if_neg (by omega)]
      have hback : ∀ id, id < nx → ∀ u, βf id = some u → β id = some u := fun id hid u hu => by
        have := r.Blow id u hid hu
        have e : (callCtx hs nx β F w).B0 id = if id < nx then β id else none := rfl
        rw [e, if_pos hid] at this
        exact this
      have hσ : ∀ id t u, sig1 nx names id = some t → βf id = some u → β' t = some u := fun id t u ht hu => by
        rcases sig1_ok ht with ⟨h1, rfl⟩ | ⟨h1, h2, h3⟩
        · rw [hlow _ h1]; exact hback _ h1 u hu
        · have := hnew (t - nx) (by omega) id h3
          rw [show nx + (t - nx) = t by omega] at this
          rw [this]; exact hu
      have hs1 : ∀ i, i < nx → sig1 nx names i = some i := fun i hi => by
        unfold sig1
        have : Nat.blt i nx = true := Nat.ble_eq_true_of_le hi
        rw [this]
      have hidx : ∀ (l : List Nat) (n j i : Nat), l.Nodup → l[j]? = some i → idxN i l n = some (n + j) := by
        intro l
        induction l with
        | nil => intro n j i _ hj; simp at hj
        | cons x l ih =>
          intro n j i hd hj
          obtain ⟨hd1, hd2⟩ := List.nodup_cons.1 hd
          unfold idxN
          match j, hj with
          | 0, hj => simp at hj; subst hj; simp [Nat.beq_refl]
          | j + 1, hj =>
            simp at hj
            have hne : Nat.beq i x = false := by
              cases hb : Nat.beq i x with
              | false => rfl
              | true => rw [Nat.eq_of_beq_eq_true hb] at hj; exact absurd (List.mem_of_getElem? hj) hd1
            rw [hne]
            simp only
            rw [ih (n + 1) j i hd2 hj]
            congr 1; omega
      have hs2 : ∀ j i, names[j]? = some i → sig1 nx names i = some (nx + j) := fun j i hj => by
        unfold sig1
        have : Nat.blt i nx = false := by
          cases hb : Nat.blt i nx with
          | false => rfl
          | true => have := hge i (List.mem_of_getElem? hj); have := blt_true hb; omega
        rw [this]
        exact hidx names nx j i hnd hj
      have houtη : ∀ id ob, (id, some ob) ∈ ou → ∃ ob0 ob1, (id, ob0) ∈ hs ∧ lk st.heap id = some ob1 ∧ renOb (sig1 nx names) ob1 = some ob := fun id ob hm => by
        obtain ⟨⟨ob0, g1⟩, g2⟩ := o1 _ hm
        rcases g2 with ⟨g2, _⟩ | ⟨ob1, ob2, g2, g3, g4⟩
        · cases g2
        · simp only [Option.some.injEq] at g2
          subst g2
          exact ⟨ob0, ob1, g1, g3, g4⟩
      have houtN : ∀ p ∈ hs, lk st.heap p.1 = none → (p.1, none) ∈ ou := fun p hp' hn => by
        obtain ⟨x, hx⟩ := o2 p hp'
        obtain ⟨_, g2⟩ := o1 _ hx
        rcases g2 with ⟨g2, _⟩ | ⟨ob1, ob2, g2, g3, g4⟩
        · simp only at g2; subst g2; exact hx
        · simp only at g3; rw [hn] at g3; cases g3
      have hMid : ∀ b, (callCtx hs nx β F w).M b → (∃ id, (id, none) ∈ ou ∧ ∃ y, β id = some y ∧ blkOf y = some b) ∨ (∃ id ob y, lk st.heap id = some ob ∧ βf id = some y ∧ blkOf y = some b ∧ id < nx) := fun b hM => by
        obtain ⟨p, hp', v, hv1, hv2⟩ := hM
        cases hl : lk st.heap p.1 with
        | none => exact .inl ⟨p.1, houtN p hp' hl, v, hv1, hv2⟩
        | some ob => exact .inr ⟨p.1, ob, v, hl, hold _ (hlt p hp') v hv1, hv2, hlt p hp'⟩
      have hl' : nw.length = names.length := n1
      refine hf rv β' Ff wf ⟨?_, ?_, ?_, ?_, ?_, ?_, ?_, ?_, ?_, ?_, ?_, ?_, ?_, ?_, ?_, ?_, ?_⟩
      · exact renF_ok hσ hv' hvr
      · intro id x hx
        show (if nx ≤ id ∧ id < nx + names.length then _ else _) = _
        by_cases hid : nx ≤ id ∧ id < nx + names.length
        · rw [hp.hn id hid.1 (by omega)] at hx; cases hx
        · rw [if_neg hid]; exact hx
      · intro id x hx
        have hx : (if nx ≤ id ∧ id < nx + names.length then (match names[id - nx]? with | some i => βf i | none => none) else β id) = some x := hx
        split at hx
        · rename_i hid; exact .inr ⟨hid.1, by rw [hl']; exact hid.2⟩
        · exact .inl hx
      · intro b hb; exact r.F0F b hb
      · exact r.Flt
      · intro b hb
        rcases r.Fbnd b hb with h1 | h1 | h1
        · exact .inl h1
        · exact .inr (.inl h1)
        · rcases hMid b h1 with ⟨id, g1, y, g2, g3⟩ | ⟨id, ob, y, g1, g2, g3, _⟩
          · exact .inr (.inr ⟨id, gonesOf_ok g1, g1, y, g2, g3⟩)
          · exact absurd hb (r.own id ob y b g1 g2 g3).1
      · intro id ob hm
        obtain ⟨ob0, ob1, g1, g2, g3⟩ := houtη id ob hm
        exact renOb_ok hσ (hs1 id (hlt _ g1)) g3 (r.heap _ _ g2)
      · intro j ob hj
        obtain ⟨i, ob1, g1, g2, g3⟩ := n2 j ob hj
        exact renOb_ok hσ (hs2 j i g1) g3 (r.heap _ _ g2)
      · intro j x b hj hx hb
        have hj' : j < names.length := by rw [← hl']; exact hj
        have hg := List.getElem?_eq_getElem hj'
        rw [hnew j hj' _ hg] at hx
        obtain ⟨i, ob1, g1, g2, g3⟩ := n2 j _ (List.getElem?_eq_getElem hj)
        rw [hg] at g1
        injection g1 with g1
        rw [g1] at hx
        obtain ⟨k1, k2⟩ := r.own i ob1 x b g2 hx hb
        refine ⟨k1, ?_⟩
        rcases k2 with k2 | k2
        · exact .inl k2
        · rcases hMid b k2 with ⟨id, q1, y, q2, q3⟩ | ⟨id, ob, y, q1, q2, q3, q4⟩
          · exact .inr ⟨id, q1, y, q2, q3⟩
          · exfalso
            have hi := hge i (List.mem_of_getElem? (g1 ▸ hg))
            exact r.sep id i ob ob1 y x b q1 g2 (by omega) q2 hx q3 hb
      · intro j k x y b hj hk hne hx hy hbx hby
        have hj' : j < names.length := by rw [← hl']; exact hj
        have hk' : k < names.length := by rw [← hl']; exact hk
        have hgj := List.getElem?_eq_getElem hj'
        have hgk := List.getElem?_eq_getElem hk'
        rw [hnew j hj' _ hgj] at hx
        rw [hnew k hk' _ hgk] at hy
        obtain ⟨i, ob1, g1, g2, g3⟩ := n2 j _ (List.getElem?_eq_getElem hj)
        obtain ⟨i', ob1', g1', g2', g3'⟩ := n2 k _ (List.getElem?_eq_getElem hk)
        rw [hgj] at g1
        rw [hgk] at g1'
        injection g1 with g1
        injection g1' with g1'
        rw [g1] at hx
        rw [g1'] at hy
        refine r.sep i i' ob1 ob1' x y b g2 g2' (fun e => hne ?_) hx hy hbx hby
        rw [← g1, ← g1'] at e
        exact (List.getElem_inj hnd).1 e
      · intro p hp'
        obtain ⟨g1, _⟩ := o1 p hp'
        exact g1
      · intro id ob hm hm'
        obtain ⟨ob0, ob1, g1, g2, g3⟩ := houtη id ob hm
        obtain ⟨_, g4⟩ := o1 _ hm'
        rcases g4 with ⟨_, g4⟩ | ⟨_, _, g4, _⟩
        · simp only at g4; rw [g2] at g4; cases g4
        · cases g4
      · intro b hb hno
        refine r.frame b hb (fun hM => ?_)
        obtain ⟨p, hp', v, hv1, hv2⟩ := hM
        obtain ⟨x, hx⟩ := o2 p hp'
        exact hno _ hx v hv1 hv2
      · exact r.os
      · exact r.tape
      · exact r.output
      · exact r.size
    · exact hf.elim

theorem lk_zip : ∀ {ys : List AV} {j t : Nat} {g : Gd} {x : AV}, lk (zipArgs j ys) t = some (g, x) → g = none ∧ j ≤ t ∧ ys[t - j]? = some x
  | [], j, t, g, x, h => by simp [zipArgs, lk] at h
  | y :: ys, j, t, g, x, h => by
    simp only [zipArgs] at h
    rw [lk_cons] at h
    split at h
    · rename_i e
      injection h with h
      injection h with h1 h2
      subst e
      exact ⟨h1.symm, Nat.le_refl _, by simp [h2]⟩
    · obtain ⟨h1, h2, h3⟩ := lk_zip h
      refine ⟨h1, by omega, ?_⟩
      have : t - j = (t - (j + 1)) + 1 := by omega
      rw [this, List.getElem?_cons_succ]
      exact h3

theorem LS.none1_ok {c : LS} (h : c.none1 = true) : c.len = 0 ∧ c.ok := by
  unfold LS.none1 at h
  split at h
  · exact ⟨rfl, trivial⟩
  · exact ⟨rfl, trivial⟩
  · exact ⟨rfl, trivial⟩
  · exact ⟨rfl, by simp, by simp⟩
  · cases h
theorem eqHw_ok {a b : Nat × Option HObj} (h : eqHw a b = true) : a = b := by
  obtain ⟨i, x⟩ := a
  obtain ⟨j, y⟩ := b
  simp only [eqHw, Bool.and_eq_true] at h
  obtain ⟨h1, h2⟩ := h
  have e : i = j := nbeq h1
  subst e
  cases x <;> cases y <;> simp at h2 ⊢
  exact sameOb_ok h2
theorem Post.nilOwn {hw : List (Nat × Option HObj)} {e : TypeId} {c : LS} {v' : Value} {β' : Nat → Option Value} {F' : Nat → Prop} {w' : World} (hp : Pre hs nx β F w) (p : Post hs nx ⟨.nils, hw, [], []⟩ β F w v' β' F' w') (hc : c.none1 = true) :
    Post hs nx ⟨.own nx, hw, [], [.arr e c]⟩ β F w v' (βset β' nx v') F' w' := by
  have hv : v' = .slice none 0 0 := by cases p.vr; rfl
  subst hv
  obtain ⟨c1, c2⟩ := LS.none1_ok hc
  have hn : β' nx = none := by
    cases hb : β' nx with
    | none => rfl
    | some x =>
      rcases p.βnew nx x hb with h1 | h1
      · rw [hp.hn nx (Nat.le_refl _) (by omega)] at h1; cases h1
      · simp at h1
  have ext : ∀ id x, β' id = some x → βset β' nx (.slice none 0 0) id = some x := fun id x hx => by
    unfold βset
    split
    · rename_i e; subst e; rw [hn] at hx; cases hx
    · exact hx
  have hle : c.elems = [] := List.eq_nil_of_length_eq_zero (by rw [LS.elems_len]; exact c1)
  constructor
  · exact .own _ _ (βset_self _ _ _) ⟨_, _, _, rfl⟩
  · exact fun id x hx => ext id x (p.βext id x hx)
  · intro id x hx
    unfold βset at hx
    split at hx
    · rename_i e; subst e; exact .inr ⟨Nat.le_refl _, by simp⟩
    · rcases p.βnew id x hx with h1 | h1
      · exact .inl h1
      · simp at h1; omega
  · exact p.Fext
  · exact p.Flt
  · exact p.Fnew
  · intro id ob hm
    exact (p.live id ob hm).mono ext (fun _ h => h) (fun _ _ => rfl) (fun _ _ _ _ => rfl)
  · intro j ob hj
    match j, hj with
    | 0, hj =>
      simp at hj
      subst hj
      refine ⟨.slice none 0 0, [], βset_self _ _ _, ?_, c2, fun i el j x he hx => by rw [hle] at he; simp at he⟩
      exact ⟨by simp [c1], .inl ⟨rfl, c1⟩⟩
  · intro j x b hj hx hb
    have : j = 0 := by simpa using hj
    subst this
    rw [Nat.add_zero, βset_self] at hx
    injection hx with hx
    subst hx
    simp [blkOf] at hb
  · intro j k x y b hj hk hne
    have : j = 0 := by simpa using hj
    have : k = 0 := by simpa using hk
    omega
  · exact p.known
  · exact p.nd
  · exact p.frame
  · exact p.os
  · exact p.tape
  · exact p.output
  · exact p.size
theorem joinT_ok {t : T Eff} {R : Value → World → Prop} (hp : Pre hs nx β F w) (h : (joinT nx t).sat (fun E => ∀ v' β' F' w', Post hs nx E β F w v' β' F' w' → R v' w')) :
    t.sat (fun E => ∀ v' β' F' w', Post hs nx E β F w v' β' F' w' → R v' w') := by
  unfold joinT at h
  split at h
  · split at h
    · rename_i h1 h2
      split at h
      · rename_i hb
        simp only [Bool.and_eq_true] at hb
        have hm := nbeq hb.1.1
        subst hm
        have hhw := eqL_ok (fun _ _ h => eqHw_ok h) hb.2
        subst hhw
        obtain ⟨⟨r1, r2⟩, hE⟩ := h
        exact ⟨fun _ => lin_sat h1 r1 (fun v' β' F' w' pp => hE _ _ _ _ (pp.nilOwn hp hb.1.2)), fun _ => lin_sat h2 r2 hE⟩
      · exact h
    · exact h
  · exact h
theorem selA_ok {b : Bool} {x y z : AV} (h : selA O.real b x y = some z) : z = if b then x else y := by
  unfold selA at h
  split at h
  · split at h
    · rename_i e; have := of_decide_eq_true e; subst this
      injection h with h; subst h; cases b <;> rfl
    · cases h
  · injection h with h; subst h; cases b <;> rfl
  · injection h with h; subst h; cases b <;> rfl
  · cases h
theorem selL_ok {b : Bool} : ∀ {l r m : List AV}, selL O.real b l r = some m → m = if b then l else r
  | [], [], m, h => by injection h with h; subst h; cases b <;> rfl
  | x :: l, y :: r, m, h => by
    unfold selL at h
    split at h
    · rename_i z m' h1 h2
      injection h with h; subst h
      rw [selA_ok h1, selL_ok h2]; cases b <;> rfl
    · cases h
  | [], _ :: _, m, h => by simp [selL] at h
  | _ :: _, [], m, h => by simp [selL] at h
theorem selV_ok {b : Bool} {x y z : AV} (h : selV O.real b x y = some z) : z = if b then x else y := by
  unfold selV at h
  split at h
  · split at h
    · rename_i h1; injection h with h; subst h; rw [selL_ok h1]; cases b <;> rfl
    · cases h
  · exact selA_ok h
theorem joinI_ok {Q : Eff → Prop} : ∀ {t : T Eff}, (joinI O.real t).sat Q → t.sat Q
  | .leaf a, h => h
  | .stuck _, h => h.elim
  | .both p t q e, h => h
  | .req p t, h => ⟨h.1, joinI_ok h.2⟩
  | .ite b t e, h => by
    unfold joinI at h
    split at h
    · rename_i p x q y hx hy
      split at h
      · rename_i z hz
        obtain ⟨h1, h2, h3⟩ := h
        have e := selV_ok hz
        subst e
        have h3 : Q ⟨if b = true then x else y, [], [], []⟩ := h3
        refine ⟨fun hb => joinI_ok (lin_sat hx (h1 hb) ?_), fun hb => joinI_ok (lin_sat hy (h2 hb) ?_)⟩
        · subst hb; exact h3
        · subst hb; exact h3
      · exact ⟨fun hb => joinI_ok (h.1 hb), fun hb => joinI_ok (h.2 hb)⟩
    · exact ⟨fun hb => joinI_ok (h.1 hb), fun hb => joinI_ok (h.2 hb)⟩
theorem joinM_ok {m : Bool} {Q : Eff → Prop} {t : T Eff} (h : (joinM O.real m t).sat Q) : t.sat Q := by
  cases m
  · exact joinI_ok h
  · exact h
theorem renHs_lt {l r : List (Nat × HObj)} (h : renHs (sig0 nx) l = some r) : ∀ p ∈ l, p.1 < nx := fun p hp' => by
  obtain ⟨j, hj⟩ := (renHs_ok h).2 p hp'
  exact (sig0_ok hj).1
/-- A call's walk: the body, from the state in which it begins. -/
theorem walk_goes {fns : FuncId → Option Func} (hfn : FnsOk P fns) {f : FuncId} {fn : Func} (hfn' : fns f = some fn) {xs ys : List AV} {hs' : List (Nat × HObj)} {cs : Array Value} {R : Value → World → Prop} (hp : Pre hs nx β F w) (hlen : cs.size = xs.length)
    (hvr : ∀ (j : Nat) (v : Value) (x : AV), cs[j]? = some v → xs[j]? = some x → VR β F w v x) (hys : renL (renF (sig0 nx) 5) xs = some ys) (hhs' : renHs (sig0 nx) hs = some hs') (hnt : Nat.ble xs.length fn.ntmps = true)
    (h : AW P (fun _ _ _ => False) (bodyPost P fn fun e w'' => ∃ v, e = .returned v ∧ R v w'') (callCtx hs nx β F w) [.code (bodyOf fn)] ⟨zipArgs 0 ys, [], hs', nx, fn.ntmps⟩) : Goes P f cs w R := by
  obtain ⟨hf, hname, hbody⟩ := hfn f fn hfn'
  have hnt := Nat.le_of_ble_eq_true hnt
  obtain ⟨body, hb⟩ := Option.isSome_iff_exists.1 hbody
  have hbo : bodyOf fn = body := by simp [bodyOf, hb]
  have hgoes : (callFunc f cs).run P w = .ok (.enter f cs) w := by
    simp [callFunc, Sem.run_bind, hf, hname, hb]
  unfold Goes
  rw [hgoes]
  simp only
  refine calls_of_wp hf hb ?_
  obtain ⟨q1, q2⟩ := renHs_ok hhs'
  have hlt : ∀ p ∈ hs, p.1 < nx := fun p hp' => by
    obtain ⟨j, hj⟩ := q2 p hp'
    exact (sig0_ok hj).1
  have hs0 : ∀ id t u, sig0 nx id = some t → β id = some u → (callCtx hs nx β F w).B0 t = some u := fun id t u ht hu => by
    obtain ⟨h1, rfl⟩ := sig0_ok ht
    show (if _ then _ else _) = _
    rw [if_pos h1]; exact hu
  have hB : ∀ id u, (callCtx hs nx β F w).B0 id = some u → id < nx ∧ β id = some u := fun id u hu => by
    have hu : (if id < nx then β id else none) = some u := hu
    split at hu
    · rename_i hl; exact ⟨hl, hu⟩
    · cases hu
  obtain ⟨l1, l2, _⟩ := renL_ok hys
  have hheap : ∀ id ob, lk hs' id = some ob → ∃ ob0, (id, ob0) ∈ hs ∧ OR (callCtx hs nx β F w).B0 F w id ob := fun id ob hob => by
    obtain ⟨i, ob0, g1, g2, g3⟩ := q1 id ob (lk_mem hob)
    obtain ⟨_, rfl⟩ := sig0_ok g2
    exact ⟨ob0, g1, renOb_ok hs0 g2 g3 (hp.hh _ g1).1⟩
  have hrs : RS (callCtx hs nx β F w) ⟨zipArgs 0 ys, [], hs', nx, fn.ntmps⟩ (callCtx hs nx β F w).B0 F { tmps := cs ++ Array.replicate (fn.ntmps - cs.size) undef, defers := [] } w := by
    refine ⟨⟨fun t g x hx => ?_, fun id ob hob => ?_, fun id ob v b hob hv hb => ?_, fun id id' ob ob' v v' b hob hob' hne hv hv' hb hb' => ?_, hp.hF, fun b hb => .inl hb, fun b hb => hb, trivial, fun id v hv => (hB id v hv).1, rfl, rfl, rfl, Nat.le_refl _, fun _ _ _ => rfl, rfl, fun _ _ h => h, fun _ _ _ h => h, fun id hid => hid⟩, ?_, fun t g x hx => ?_⟩
    · obtain ⟨rfl, _, h3⟩ := lk_zip hx
      simp only [Nat.sub_zero] at h3
      obtain ⟨x0, g1, g2⟩ := l2 t x h3
      have htl : t < xs.length := (List.getElem?_eq_some_iff.1 g1).1
      have htc : t < cs.size := by omega
      refine ⟨cs[t], ?_, renF_ok hs0 g2 (hvr t _ x0 (Array.getElem?_eq_getElem htc) g1)⟩
      simp only
      rw [Array.getElem?_append_left htc]
      exact Array.getElem?_eq_getElem htc
    · obtain ⟨_, _, g⟩ := hheap id ob hob; exact g
    · obtain ⟨ob0, g1, _⟩ := hheap id ob hob
      obtain ⟨k1, k2⟩ := hB id v hv
      exact ⟨(hp.hh _ g1).2 v b k2 hb, .inr ⟨_, g1, v, k2, hb⟩⟩
    · obtain ⟨ob0, g1, _⟩ := hheap id ob hob
      obtain ⟨ob0', g1', _⟩ := hheap id' ob' hob'
      exact hp.hsep _ g1 _ g1' hne v v' b (hB id v hv).2 (hB id' v' hv').2 hb hb'
    · simp; omega
    · obtain ⟨h1, _⟩ := lk_zip hx
      cases h1
  rw [hbo] at h
  exact h _ _ _ _ hrs
theorem fin_leaf (htb : TbOk P tb) (hp : Pre hs nx β F w) (hlt : ∀ p ∈ hs, p.1 < nx) {fn : Func} {R : Value → World → Prop} {H : Nat → Act → World → Prop} {st : S}
    (h : (fin tb nx fn.results hs st).sat (fun E => ∀ v' β' F' w', Post hs nx E β F w v' β' F' w' → R v' w')) :
    Leaf P H (bodyPost P fn fun e w'' => ∃ v, e = .returned v ∧ R v w'') (callCtx hs nx β F w) (.ret st) ∧ Leaf P H (bodyPost P fn fun e w'' => ∃ v, e = .returned v ∧ R v w'') (callCtx hs nx β F w) (.done st) := by
  constructor
  · intro β2 F2 a2 w2 h2
    obtain ⟨d, v, r1, r2⟩ := fin_ok htb hp hlt h2 h
    exact ⟨d, v, r1, v, rfl, r2⟩
  · intro β2 F2 a2 w2 h2
    obtain ⟨d, v, r1, r2⟩ := fin_ok htb hp hlt h2 h
    exact ⟨d, v, r1, v, rfl, r2⟩
theorem inl_ok (hm : P.follows .mixedOrders = true) (htb : TbOk P tb) {fns : FuncId → Option Func} (hfn : FnsOk P fns) {sp : Orc} (hsp : OrcOk P sp (fun _ => True)) {known : FuncId → Bool} {md : FuncId → Bool} {fuel : Nat} :
    ∀ n, OrcOk P (inl O.real tb fns sp known md fuel n) (fun _ => True) := by
  intro n
  induction n with
  | zero => exact fun _ _ _ _ _ _ _ _ _ _ _ _ _ h => h.elim
  | succ n ih =>
    intro f nx xs hs β F w cs R hC hp hlen hvr h
    unfold inl at h
    split at h
    · exact hsp f nx xs hs β F w cs R hC hp hlen hvr h
    · split at h
      · exact h.elim
      · rename_i fn hfn'
        split at h
        · rename_i ys hs' hys hhs' hnt
          have hlt := renHs_lt hhs'
          refine walk_goes hfn hfn' hp hlen hvr hys hhs' hnt ?_
          refine run_ok (H := fun _ _ _ => False) hm htb ih fuel _ _ (sat_mono (fun s hst => ?_) (bind_sat (joinM_ok (joinT_ok hp h))))
          cases s with
          | done st => exact (fin_leaf htb hp hlt hst).2
          | ret st => exact (fin_leaf htb hp hlt hst).1
          | exit id st => exact hst.elim
          | again n st => exact hst.elim
          | loop b r st => exact hst.elim
          | rfunc f ps asg b r st => exact hst.elim
          | more l st => exact hst.elim
        · exact h.elim
end
end Go.Qv
