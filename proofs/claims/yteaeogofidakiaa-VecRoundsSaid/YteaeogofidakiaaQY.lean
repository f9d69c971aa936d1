/- A contract that is shown for one set of names holds for all. -/
import Derived.Test.YteaeogofidakiaaQW
set_option linter.unusedVariables false
set_option linter.unusedSimpArgs false
namespace Go.Qv
open Go.RowKit

abbrev Orc0 := FuncId → List AV → List (Nat × HObj) → T Eff
def subHs (hs : List (Nat × HObj)) : List Nat → Option (List (Nat × HObj))
  | [] => some []
  | i :: r => match lk hs i, subHs hs r with | some ob, some l => some ((i, ob) :: l) | _, _ => none
def idxS (names : List Nat) : Sg := fun id => idxN id names 0
def tau (nx : Nat) (names : List Nat) : Sg := fun id => match Nat.blt id 64 with | true => names[id]? | false => some (nx + (id - 64))
def renHw (σ : Sg) : List (Nat × Option HObj) → Option (List (Nat × Option HObj))
  | [] => some []
  | (i, some ob) :: r => match σ i, renOb σ ob, renHw σ r with | some j, some ob', some l => some ((j, some ob') :: l) | _, _, _ => none
  | (i, none) :: r => match σ i, renHw σ r with | some j, some l => some ((j, none) :: l) | _, _ => none
def renIds (σ : Sg) : List Nat → Option (List Nat)
  | [] => some []
  | i :: r => match σ i, renIds σ r with | some j, some l => some (j :: l) | _, _ => none
def renNew (σ : Sg) : List HObj → Option (List HObj)
  | [] => some []
  | ob :: r => match renOb σ ob, renNew σ r with | some ob', some l => some (ob' :: l) | _, _ => none
def moveE (nx : Nat) (names : List Nat) (E : Eff) : T Eff :=
  match Nat.ble E.new.length 64, renF (tau nx names) 5 E.v, renHw (tau nx names) E.hw, renIds (tau nx names) E.frz, renNew (tau nx names) E.new with
  | true, some v, some hw, some frz, some nw => .leaf ⟨v, hw, frz, nw⟩
  | _, _, _, _, _ => .stuck "move"
def namesOf (xs : List AV) (hs : List (Nat × HObj)) : List Nat := (reach hs 400 (xs.flatMap (idsF 5)) []).map (·.1)
def canon (sp0 : Orc0) : Orc := fun f nx xs hs =>
  match nodupB (namesOf xs hs) && Nat.ble (namesOf xs hs).length 64, subHs hs (namesOf xs hs), renL (renF (idxS (namesOf xs hs)) 5) xs with
  | true, some sub, some xs0 => (match renHs (idxS (namesOf xs hs)) sub with
    | some hs0 => (sp0 f xs0 hs0).bind (moveE nx (namesOf xs hs))
    | none => .stuck "canon: objects")
  | _, _, _ => .stuck "canon: values"
def Orc0Ok (P : Program) (sp0 : Orc0) : Prop :=
  ∀ (f : FuncId) (xs : List AV) (hs : List (Nat × HObj)) (β : Nat → Option Value) (F : Nat → Prop) (w : World) (cs : Array Value) (R : Value → World → Prop),
    Pre hs 64 β F w → cs.size = xs.length → (∀ (j : Nat) (v : Value) (x : AV), cs[j]? = some v → xs[j]? = some x → VR β F w v x) →
    (sp0 f xs hs).sat (fun E => ∀ v' β' F' w', Post hs 64 E β F w v' β' F' w' → R v' w') → Goes P f cs w R

theorem subHs_ok {hs : List (Nat × HObj)} : ∀ {l : List Nat} {r : List (Nat × HObj)}, subHs hs l = some r → (∀ p ∈ r, p ∈ hs ∧ p.1 ∈ l)
  | [], r, h => by simp [subHs] at h; subst h; simp
  | i :: l, r, h => by
    simp only [subHs] at h
    split at h
    · rename_i ob l' h1 h2
      injection h with h
      subst h
      intro p hp
      rcases List.mem_cons.1 hp with rfl | hp
      · exact ⟨lk_mem h1, List.mem_cons_self⟩
      · obtain ⟨a, b⟩ := subHs_ok h2 p hp
        exact ⟨a, List.mem_cons_of_mem _ b⟩
    · cases h
theorem renHw_ok {σ : Sg} : ∀ {l r : List (Nat × Option HObj)}, renHw σ l = some r →
    (∀ j x, (j, x) ∈ r → ∃ i, σ i = some j ∧ ((x = none ∧ (i, none) ∈ l) ∨ ∃ ob ob', x = some ob' ∧ (i, some ob) ∈ l ∧ renOb σ ob = some ob')) ∧
    (∀ i x, (i, x) ∈ l → ∃ j y, σ i = some j ∧ (j, y) ∈ r ∧ (x = none → y = none))
  | [], r, h => by simp [renHw] at h; subst h; simp
  | (i, some ob) :: l, r, h => by
    simp only [renHw] at h
    split at h
    · rename_i j ob' r' h1 h2 h3
      injection h with h
      subst h
      obtain ⟨a1, a2⟩ := renHw_ok h3
      refine ⟨fun j' x hm => ?_, fun i' x hm => ?_⟩
      · rcases List.mem_cons.1 hm with hm | hm
        · injection hm with e1 e2; subst e1; subst e2
          exact ⟨i, h1, .inr ⟨ob, ob', rfl, List.mem_cons_self, h2⟩⟩
        · obtain ⟨i', b1, b2⟩ := a1 j' x hm
          refine ⟨i', b1, ?_⟩
          rcases b2 with ⟨b2, b3⟩ | ⟨o1, o2, b2, b3, b4⟩
          · exact .inl ⟨b2, List.mem_cons_of_mem _ b3⟩
          · exact .inr ⟨o1, o2, b2, List.mem_cons_of_mem _ b3, b4⟩
      · rcases List.mem_cons.1 hm with hm | hm
        · injection hm with e1 e2; subst e1; subst e2
          exact ⟨j, _, h1, List.mem_cons_self, fun h => by cases h⟩
        · obtain ⟨j', y, b1, b2, b3⟩ := a2 i' x hm
          exact ⟨j', y, b1, List.mem_cons_of_mem _ b2, b3⟩
    · cases h
  | (i, none) :: l, r, h => by
    simp only [renHw] at h
    split at h
    · rename_i j r' h1 h3
      injection h with h
      subst h
      obtain ⟨a1, a2⟩ := renHw_ok h3
      refine ⟨fun j' x hm => ?_, fun i' x hm => ?_⟩
      · rcases List.mem_cons.1 hm with hm | hm
        · injection hm with e1 e2; subst e1; subst e2
          exact ⟨i, h1, .inl ⟨rfl, List.mem_cons_self⟩⟩
        · obtain ⟨i', b1, b2⟩ := a1 j' x hm
          refine ⟨i', b1, ?_⟩
          rcases b2 with ⟨b2, b3⟩ | ⟨o1, o2, b2, b3, b4⟩
          · exact .inl ⟨b2, List.mem_cons_of_mem _ b3⟩
          · exact .inr ⟨o1, o2, b2, List.mem_cons_of_mem _ b3, b4⟩
      · rcases List.mem_cons.1 hm with hm | hm
        · injection hm with e1 e2; subst e1; subst e2
          exact ⟨j, none, h1, List.mem_cons_self, fun _ => rfl⟩
        · obtain ⟨j', y, b1, b2, b3⟩ := a2 i' x hm
          exact ⟨j', y, b1, List.mem_cons_of_mem _ b2, b3⟩
    · cases h
theorem renIds_ok {σ : Sg} : ∀ {l r : List Nat}, renIds σ l = some r → ∀ i ∈ l, ∃ j ∈ r, σ i = some j
  | [], r, h => by simp
  | i :: l, r, h => by
    simp only [renIds] at h
    split at h
    · rename_i j r' h1 h2
      injection h with h
      subst h
      intro i' hi
      rcases List.mem_cons.1 hi with rfl | hi
      · exact ⟨j, List.mem_cons_self, h1⟩
      · obtain ⟨j', a, b⟩ := renIds_ok h2 i' hi
        exact ⟨j', List.mem_cons_of_mem _ a, b⟩
    · cases h
theorem renNew_ok {σ : Sg} : ∀ {l r : List HObj}, renNew σ l = some r → r.length = l.length ∧ ∀ (j : Nat) (ob' : HObj), r[j]? = some ob' → ∃ ob, l[j]? = some ob ∧ renOb σ ob = some ob'
  | [], r, h => by simp [renNew] at h; subst h; simp
  | ob :: l, r, h => by
    simp only [renNew] at h
    split at h
    · rename_i ob1 r' h1 h2
      injection h with h
      subst h
      obtain ⟨a1, a2⟩ := renNew_ok h2
      refine ⟨by simp [a1], fun j ob' hj => ?_⟩
      match j, hj with
      | 0, hj => simp at hj; subst hj; exact ⟨ob, rfl, h1⟩
      | j + 1, hj => simp at hj; obtain ⟨o, b1, b2⟩ := a2 j ob' hj; exact ⟨o, by simpa using b1, b2⟩
    · cases h

section
variable {P : Program}
theorem canon_ok {sp0 : Orc0} (h0 : Orc0Ok P sp0) : OrcOk P (canon sp0) (fun _ => True) := by
  intro f nx xs hs β F w cs R _ hp hlen hvr h
  unfold canon at h
  generalize namesOf xs hs = names at h
  split at h
  · rename_i sub xs0 hnb hsub hxs0
    split at h
    · rename_i hs0 hhs0
      simp only [Bool.and_eq_true] at hnb
      have hnd := nodupB_ok hnb.1
      have hln := Nat.le_of_ble_eq_true hnb.2
      let β0 : Nat → Option Value := fun t => match names[t]? with | some i => β i | none => none
      have hidx : ∀ {id t}, idxS names id = some t → names[t]? = some id ∧ t < 64 := fun {id t} ht => by
        obtain ⟨_, h2⟩ := idxN_ok ht
        have h2 : names[t]? = some id := by simpa using h2
        exact ⟨h2, by have := (List.getElem?_eq_some_iff.1 h2).1; omega⟩
      have hβ0 : ∀ {t i}, names[t]? = some i → β0 t = β i := fun {t i} ht => by show (match names[t]? with | some i => β i | none => none) = _; rw [ht]
      have hσ : ∀ id t u, idxS names id = some t → β id = some u → β0 t = some u := fun id t u ht hu => by rw [hβ0 (hidx ht).1]; exact hu
      have hβn : ∀ t, 64 ≤ t → β0 t = none := fun t ht => by
        show (match names[t]? with | some i => β i | none => none) = _
        rw [List.getElem?_eq_none (by omega)]
      obtain ⟨q1, q2⟩ := renHs_ok hhs0
      have hsb := subHs_ok hsub
      have hpre : Pre hs0 64 β0 F w := by
        refine ⟨fun id h1 _ => hβn id h1, hp.hF, fun p hp' => ?_, fun p hp' q hq hne x y b hx hy hbx hby => ?_⟩
        · obtain ⟨i, ob, g1, g2, g3⟩ := q1 p.1 p.2 hp'
          obtain ⟨a1, a2⟩ := hp.hh _ (hsb _ g1).1
          refine ⟨renOb_ok hσ g2 g3 a1, fun v b hv hb => ?_⟩
          rw [hβ0 (hidx g2).1] at hv
          exact a2 v b hv hb
        · obtain ⟨i, ob, g1, g2, g3⟩ := q1 p.1 p.2 hp'
          obtain ⟨i', ob', g1', g2', g3'⟩ := q1 q.1 q.2 hq
          rw [hβ0 (hidx g2).1] at hx
          rw [hβ0 (hidx g2').1] at hy
          exact hp.hsep _ (hsb _ g1).1 _ (hsb _ g1').1 (fun e => by
            simp only at e
            subst e
            rw [g2] at g2'
            injection g2' with g2'
            exact hne g2') x y b hx hy hbx hby
      obtain ⟨l1, l2, _⟩ := renL_ok hxs0
      refine h0 f xs0 hs0 β0 F w cs R hpre (by rw [hlen, l1]) (fun j v x hv hx => ?_) (sat_mono (fun E0 hE => ?_) (bind_sat h))
      · obtain ⟨x0, g1, g2⟩ := l2 j x hx
        exact renF_ok hσ g2 (hvr j v x0 hv g1)
      · unfold moveE at hE
        split at hE
        · rename_i v hw frz nw hnl hv hhw hfrz hnw
          have hnl := Nat.le_of_ble_eq_true hnl
          intro v' β1 F' w' p0
          obtain ⟨n1, n2⟩ := renNew_ok hnw
          obtain ⟨w1, w2⟩ := renHw_ok hhw
          have fr := renIds_ok hfrz
          let β' : Nat → Option Value := fun id => if nx ≤ id ∧ id < nx + E0.new.length then β1 (64 + (id - nx)) else β id
          have hold : ∀ id u, β id = some u → β' id = some u := fun id u hu => by
            show (if _ then _ else _) = _
            rw [if_neg (fun hh => by rw [hp.hn id hh.1 (by omega)] at hu; cases hu)]
            exact hu
          have hnew : ∀ j, j < E0.new.length → β' (nx + j) = β1 (64 + j) := fun j hj => by
            show (if _ then _ else _) = _
            rw [if_pos ⟨by omega, by omega⟩, show nx + j - nx = j by omega]
          have hτl : ∀ {i t}, i < 64 → tau nx names i = some t → names[i]? = some t := fun {i t} hi ht => by
            unfold tau at ht
            rw [show Nat.blt i 64 = true from Nat.ble_eq_true_of_le hi] at ht
            exact ht
          have hτ : ∀ id t u, tau nx names id = some t → β1 id = some u → β' t = some u := fun id t u ht hu => by
            rcases p0.βnew id u hu with h1 | ⟨h1, h2⟩
            · have hid : id < 64 := Nat.lt_of_not_le (fun hh => by rw [hβn id hh] at h1; cases h1)
              have hn := hτl hid ht
              rw [hβ0 hn] at h1
              exact hold t u h1
            · unfold tau at ht
              have hb : Nat.blt id 64 = false := by
                cases hb : Nat.blt id 64 with
                | false => rfl
                | true => have := blt_true hb; omega
              rw [hb] at ht
              injection ht with ht
              subst ht
              rw [hnew (id - 64) (by omega), show 64 + (id - 64) = id by omega]
              exact hu
          have hkn : ∀ i x, (i, x) ∈ E0.hw → i < 64 ∧ ∃ t, names[i]? = some t ∧ tau nx names i = some t ∧ ∃ ob, (t, ob) ∈ hs := fun i x hm => by
            obtain ⟨ob, ho⟩ := p0.known _ hm
            obtain ⟨i', ob', g1, g2, g3⟩ := q1 i ob ho
            obtain ⟨a1, a2⟩ := hidx g2
            refine ⟨a2, i', a1, ?_, ob', (hsb _ g1).1⟩
            unfold tau
            rw [show Nat.blt i 64 = true from Nat.ble_eq_true_of_le a2]
            exact a1
          have back : ∀ {j x}, (j, x) ∈ hw → ∃ i, i < 64 ∧ names[i]? = some j ∧ tau nx names i = some j ∧ ((x = none ∧ (i, none) ∈ E0.hw) ∨ ∃ ob ob', x = some ob' ∧ (i, some ob) ∈ E0.hw ∧ renOb (tau nx names) ob = some ob') := fun {j x} hm => by
            obtain ⟨i, a1, a2⟩ := w1 j x hm
            have hi : i < 64 := by
              rcases a2 with ⟨_, a2⟩ | ⟨_, _, _, a2, _⟩
              · exact (hkn i _ a2).1
              · exact (hkn i _ a2).1
            exact ⟨i, hi, hτl hi a1, a1, a2⟩
          have inj : ∀ {i i' j}, names[i]? = some j → names[i']? = some j → i = i' := fun {i i' j} h1 h2 => by
            obtain ⟨k1, k2⟩ := List.getElem?_eq_some_iff.1 h1
            obtain ⟨k3, k4⟩ := List.getElem?_eq_some_iff.1 h2
            exact List.getElem_inj hnd |>.1 (k2.trans k4.symm)
          have gone0 : ∀ {i y b}, (i, none) ∈ E0.hw → β0 i = some y → blkOf y = some b → ∃ id, (id, none) ∈ hw ∧ ∃ y, β id = some y ∧ blkOf y = some b := fun {i y b} hm hy hb => by
            obtain ⟨hi, t, a1, a2, ob, a3⟩ := hkn i _ hm
            obtain ⟨j, y', b1, b2, b3⟩ := w2 i none hm
            rw [a2] at b1
            injection b1 with b1
            subst b1
            rw [b3 rfl] at b2
            rw [hβ0 a1] at hy
            exact ⟨t, b2, y, hy, hb⟩
          refine hE v' β' F' w' ⟨?_, ?_, ?_, ?_, ?_, ?_, ?_, ?_, ?_, ?_, ?_, ?_, ?_, ?_, ?_, ?_, ?_⟩
          · exact renF_ok hτ hv p0.vr
          · exact hold
          · intro id x hx
            have hx : (if nx ≤ id ∧ id < nx + E0.new.length then β1 (64 + (id - nx)) else β id) = some x := hx
            split at hx
            · rename_i hh
              exact .inr ⟨hh.1, by rw [n1]; exact hh.2⟩
            · exact .inl hx
          · exact p0.Fext
          · exact p0.Flt
          · intro b hb
            rcases p0.Fnew b hb with h1 | h1 | ⟨id, h1, h2, y, h3, h4⟩
            · exact .inl h1
            · exact .inr (.inl h1)
            · obtain ⟨hi, t, a1, a2, ob, a3⟩ := hkn id _ h2
              obtain ⟨t', c1, c2⟩ := fr id h1
              rw [a2] at c2
              injection c2 with c2
              subst c2
              obtain ⟨j, y', b1, b2, b3⟩ := w2 id none h2
              rw [a2] at b1
              injection b1 with b1
              subst b1
              rw [b3 rfl] at b2
              rw [hβ0 a1] at h3
              exact .inr (.inr ⟨t, c1, b2, y, h3, h4⟩)
          · intro id ob hm
            obtain ⟨i, a1, a2, a3, a4⟩ := back hm
            rcases a4 with ⟨a4, _⟩ | ⟨o1, o2, a4, a5, a6⟩
            · cases a4
            · injection a4 with a4
              subst a4
              exact renOb_ok hτ a3 a6 (p0.live i o1 a5)
          · intro j ob hj
            obtain ⟨o1, a1, a2⟩ := n2 j ob hj
            have hjl := (List.getElem?_eq_some_iff.1 a1).1
            refine renOb_ok hτ (id := 64 + j) ?_ a2 (p0.news j o1 a1)
            unfold tau
            have hb : Nat.blt (64 + j) 64 = false := by
              cases hb : Nat.blt (64 + j) 64 with
              | false => rfl
              | true => have := blt_true hb; omega
            rw [hb, show 64 + j - 64 = j by omega]
          · intro j x b hj hx hb
            simp only at hj
            rw [n1] at hj
            rw [hnew j hj] at hx
            obtain ⟨a1, a2⟩ := p0.newb j x b hj hx hb
            refine ⟨a1, ?_⟩
            rcases a2 with a2 | ⟨id, a2, y, a3, a4⟩
            · exact .inl a2
            · exact .inr (gone0 a2 a3 a4)
          · intro j k x y b hj hk hne hx hy hbx hby
            simp only at hj hk
            rw [n1] at hj hk
            rw [hnew j hj] at hx
            rw [hnew k hk] at hy
            exact p0.newsep j k x y b hj hk hne hx hy hbx hby
          · intro q hq
            obtain ⟨i, a1, a2, a3, a4⟩ := back (j := q.1) (x := q.2) hq
            have : ∃ x, (i, x) ∈ E0.hw := by
              rcases a4 with ⟨_, a4⟩ | ⟨_, _, _, a4, _⟩
              · exact ⟨_, a4⟩
              · exact ⟨_, a4⟩
            obtain ⟨x, hx⟩ := this
            obtain ⟨_, t, b1, b2, ob, b3⟩ := hkn i x hx
            rw [a2] at b1
            injection b1 with b1
            subst b1
            exact ⟨ob, b3⟩
          · intro id ob hm hm'
            obtain ⟨i, a1, a2, a3, a4⟩ := back hm
            obtain ⟨i', a1', a2', a3', a4'⟩ := back hm'
            have := inj a2 a2'
            subst this
            rcases a4 with ⟨a4, _⟩ | ⟨o1, o2, _, a5, _⟩
            · cases a4
            · rcases a4' with ⟨_, a5'⟩ | ⟨_, _, a5', _⟩
              · exact p0.nd i o1 a5 a5'
              · cases a5'
          · intro b hb hne
            refine p0.frame b hb (fun q hq x hx hbx => ?_)
            obtain ⟨hi, t, a1, a2, ob, a3⟩ := hkn q.1 q.2 hq
            obtain ⟨j, y, b1, b2, b3⟩ := w2 q.1 q.2 hq
            rw [a2] at b1
            injection b1 with b1
            subst b1
            rw [hβ0 a1] at hx
            exact hne (t, y) b2 x hx hbx
          · exact p0.os
          · exact p0.tape
          · exact p0.output
          · exact p0.size
        · exact hE.elim
    · exact h.elim
  · exact h.elim
end
end Go.Qv
