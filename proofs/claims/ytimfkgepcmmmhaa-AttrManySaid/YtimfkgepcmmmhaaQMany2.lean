/- quiverlaw09.AttrMany: contracts. -/
import Derived.Test.YtimfkgepcmmmhaaQMany
set_option linter.unusedVariables false
set_option maxRecDepth 100000
namespace Go.Qv
open Go.RowKit
section
variable {P : Program} {hs hs1 : List (Nat × HObj)} {nx : Nat} {β : Nat → Option Value} {F : Nat → Prop} {w : World}
theorem Pre.sub (h : Pre hs nx β F w) (hsub : ∀ p ∈ hs1, p ∈ hs) : Pre hs1 nx β F w :=
  ⟨h.hn, h.hF, fun p hp => h.hh p (hsub p hp), fun p hp q hq => h.hsep p (hsub p hp) q (hsub q hq)⟩
theorem Post.sup {E : Eff} {v' : Value} {β' : Nat → Option Value} {F' : Nat → Prop} {w' : World} (p : Post hs1 nx E β F w v' β' F' w') (hsub : ∀ p ∈ hs1, p ∈ hs) : Post hs nx E β F w v' β' F' w' :=
  ⟨p.vr, p.βext, p.βnew, p.Fext, p.Flt, p.Fnew, p.live, p.news, p.newb, p.newsep, fun q hq => by obtain ⟨ob, h⟩ := p.known q hq; exact ⟨ob, hsub _ h⟩, p.nd, p.frame, p.os, p.tape, p.output, p.size⟩
/-- What is answered is let go: nobody writes it any more. -/
theorem Post.freeze {hw : List (Nat × Option HObj)} {xs ys : List AV} {nw : List HObj} {v' : Value} {β' : Nat → Option Value} {F' : Nat → Prop} {w' : World} (hp : Pre hs nx β F w) (hl : xs.length = ys.length)
    (hx : ∀ (j : Nat) (y : AV), ys[j]? = some y → ∃ x, xs[j]? = some x ∧ (renF (sig0 nx) 5 x = some y ∨ ∃ k e cl, x = .own (nx + k) ∧ nw[k]? = some (.arr e cl) ∧ y = .sl cl ∧ cl.plain = true))
    (hw0 : ∀ p ∈ hw, p.1 < nx ∧ ∃ ob, p.2 = some ob ∧ renOb (sig0 nx) ob = some ob)
    (p : Post hs nx ⟨.agg xs, hw, [], nw⟩ β F w v' β' F' w') : Post hs nx ⟨.agg ys, hw, [], []⟩ β F w v' β (FZ ((List.range nw.length).map (nx + ·)) β' F') w' := by
  have hσ : ∀ id t u, sig0 nx id = some t → β' id = some u → β t = some u := fun id t u ht hu => by
    obtain ⟨h1, rfl⟩ := sig0_ok ht
    rcases p.βnew _ _ hu with h | ⟨h, _⟩
    · exact h
    · omega
  have hvr := p.vr
  constructor
  · cases hvr with
    | agg cs _ h1 h2 h3 =>
      refine .agg _ _ (by omega) (fun y hy => ?_) (fun j v y hv hy => ?_)
      · obtain ⟨j, hj, rfl⟩ := List.getElem_of_mem hy
        obtain ⟨x, g1, g2⟩ := hx j _ (List.getElem?_eq_getElem hj)
        rcases g2 with g2 | ⟨k, e, cl, rfl, _, g3, _⟩
        · rw [renF_one g2]; exact h2 x (List.mem_of_getElem? g1)
        · rw [g3]; rfl
      · obtain ⟨x, g1, g2⟩ := hx j y hy
        rcases g2 with g2 | ⟨k, e, cl, rfl, g3, rfl, g4⟩
        · exact (renF_ok hσ g2 (h3 j v _ hv g1)).mono (fun _ _ h => h) (fun b h => .inl h) (fun _ _ => rfl)
        · have hk := (List.getElem?_eq_some_iff.1 g3).1
          exact (own_sl (p.news k _ g3) (h3 j v _ hv g1) (List.mem_map.2 ⟨k, List.mem_range.2 hk, rfl⟩)).clean (.sl _ g4)
  · exact fun _ _ h => h
  · exact fun _ _ h => .inl h
  · exact fun b h => .inl (p.Fext b h)
  · rintro b (h | ⟨id, hid, v, h1, h2⟩)
    · exact p.Flt b h
    · obtain ⟨k, hk, rfl⟩ := List.mem_map.1 hid
      have hk := List.mem_range.1 hk
      exact (p.news k _ (List.getElem?_eq_getElem hk)).lt h1 h2
  · rintro b (h | ⟨id, hid, v, h1, h2⟩)
    · rcases p.Fnew b h with h | h | ⟨i, hi, _⟩
      · exact .inl h
      · exact .inr (.inl h)
      · simp at hi
    · obtain ⟨k, hk, rfl⟩ := List.mem_map.1 hid
      have hk := List.mem_range.1 hk
      obtain ⟨_, h3⟩ := p.newb k v b hk h1 h2
      rcases h3 with h3 | ⟨i, hi, y, h4, h5⟩
      · exact .inr (.inl h3)
      · obtain ⟨_, ob, h6, _⟩ := hw0 _ hi
        cases h6
  · intro id ob hm
    obtain ⟨h1, ob', h2, h3⟩ := hw0 _ hm
    have h2 : some ob = some ob' := h2
    injection h2 with h2
    subst h2
    have := renOb_ok hσ (id := id) (t := id) (by unfold sig0; rw [show Nat.blt id nx = true from Nat.ble_eq_true_of_le h1]) h3 (p.live id ob hm)
    exact this.mono (fun _ _ h => h) (fun b h => .inl h) (fun _ _ => rfl) (fun _ _ _ _ => rfl)
  · intro j ob h; simp at h
  · intro j x b h; simp at h
  · intro j k x y b h; simp at h
  · exact p.known
  · exact p.nd
  · exact p.frame
  · exact p.os
  · exact p.tape
  · exact p.output
  · exact p.size
end
end Go.Qv
namespace Go.Proofs.Ytimfkgepcmmmhaa
open Go.RowKit Go.Qv
def many : Nat := 1099511627776
def zeros (l : List Int) : Prop := (∀ x ∈ l, x = 0) ∧ l.length ≤ many
noncomputable def reqP {α : Type} (p : Prop) (t : T α) : T α := .req ⟨p, Classical.propDecidable _⟩ t
def arrI (l : List Int) : HObj := .arr 2 (.i .i64 l)
def filled1 (n : Nat) : List HObj := [.map 1 [0] [(soKey, .own 65)], .arr 3 (.i .i64 (rng n))]
def fiE0 (sc : AV) (ex : List (Nat × HObj)) (l : List Int) : Eff := ⟨.tup [], (0, some (.cells [.int .i64 1, .own 1, sc, .nils, .int .i64 0, .mp 64])) :: (1, some (arrI l)) :: ex.map (fun p => (p.1, some p.2)), [], [.map 0 [] []]⟩
def fiE1 (sc : AV) (ex : List (Nat × HObj)) (l : List Int) : Eff := ⟨.tup [], (0, some (.cells [.int .i64 1, .own 1, sc, .nils, .int .i64 0, .mp 64])) :: (1, some (arrI l)) :: ex.map (fun p => (p.1, some p.2)), [], filled1 l.length⟩
noncomputable def spClone : List AV → List (Nat × HObj) → T Eff
  | [.own 0], [(0, .arr 2 (.i .i64 l))] => reqP (l.length ≤ many) (.leaf ⟨.own 64, [(0, some (arrI l))], [], [arrI l]⟩)
  | _, _ => .stuck "clone"
noncomputable def spSo : List AV → List (Nat × HObj) → T Eff
  | [.ptr 0 0, .int .i64 k], (0, .cells [.int .i64 t, .own 1, .nils, .nils]) :: (1, .arr 2 (.i .i64 l)) :: _ => reqP (k = 0 ∧ t = 1) (reqP (zeros l) (.leaf (soE .nils [] [] l)))
  | [.ptr 0 0, .int .i64 k], (0, .cells [.int .i64 t, .own 1, .nils, .nils, .int .i64 kk, .mp 2]) :: (1, .arr 2 (.i .i64 l)) :: _ => reqP (k = 0 ∧ t = 1) (reqP (zeros l) (.leaf (soE .nils [] [.int .i64 kk, .mp 2] l)))
  | [.ptr 0 0, .int .i64 k], (0, .cells [.int .i64 t, .own 1, .own 2, .nils, .int .i64 kk, .mp 3]) :: (1, .arr 2 (.i .i64 l)) :: (2, .arr 9 (.s [])) :: _ => reqP (k = 0 ∧ t = 1) (reqP (zeros l) (.leaf (soE (.own 2) [(2, .arr 9 (.s []))] [.int .i64 kk, .mp 3] l)))
  | _, _ => .stuck "so"
noncomputable def fiT (sc : AV) (ex : List (Nat × HObj)) (k t : Int) (l : List Int) : T Eff := reqP (k = 0 ∧ t = 1) (reqP (zeros l) (.both (l = []) (.leaf (fiE0 sc ex l)) (l ≠ []) (.leaf (fiE1 sc ex l))))
noncomputable def spFill : List AV → List (Nat × HObj) → T Eff
  | [.ptr 0 0], (0, .cells [.int .i64 t, .own 1, .nils, .nils, .int .i64 k, .nilm]) :: (1, .arr 2 (.i .i64 l)) :: _ => fiT .nils [] k t l
  | [.ptr 0 0], (0, .cells [.int .i64 t, .own 1, .nils, .nils, .int .i64 k, .mp 2]) :: (1, .arr 2 (.i .i64 l)) :: _ => fiT .nils [] k t l
  | [.ptr 0 0], (0, .cells [.int .i64 t, .own 1, .own 2, .nils, .int .i64 k, .mp 3]) :: (1, .arr 2 (.i .i64 l)) :: (2, .arr 9 (.s [])) :: _ => fiT (.own 2) [(2, .arr 9 (.s []))] k t l
  | _, _ => .stuck "fill"
def spLive : List AV → List (Nat × HObj) → T Eff
  | [], [] => .leaf ⟨.bool true, [], [], []⟩
  | _, _ => .stuck "live"
noncomputable def sp0M : Orc0 := fun f xs hs =>
  match Nat.beq f 122 with
  | true => spClone xs hs
  | false => match Nat.beq f 95 with
    | true => spSo xs hs
    | false => match Nat.beq f 92 with
      | true => spFill xs hs
      | false => match Nat.beq f 34 with
        | true => spLive xs hs
        | false => .stuck "sp0M"

abbrev someT (t : T Eff) : T (Option Eff) := t.bind fun E => .leaf (some E)
theorem some_sat {t : T Eff} {Q : Option Eff → Prop} (h : (someT t).sat Q) : t.sat fun E => Q (some E) := sat_mono (fun _ h => h) (bind_sat h)
/-- slices.Clone of ints. -/
theorem clone_nil (Q : Option Eff → Prop) : T.ob noB Q (.D 1 (.S .E)) (someT (I14 122 64 [.own 0] [(0, .arr 2 (.i .i64 []))])) = Q (some ⟨.own 64, [(0, some (arrI []))], [], [arrI []]⟩) := by kernel_rfl
theorem clone_cons (x : Int) (l : List Int) (Q : Option Eff → Prop) : T.ob noB Q (.S (.S .E)) (someT (I14 122 64 [.own 0] [(0, .arr 2 (.i .i64 (x :: l)))])) =
    ((O.real.fit (O.real.ilen []) (O.real.ilen (x :: l)) 8).p ∧ Q (some ⟨.own 64, [(0, some (arrI (x :: l)))], [], [arrI (x :: l)]⟩)) := by kernel_rfl
theorem live34 : T.ob (fun E => isT E && E.hw.isEmpty && E.frz.isEmpty && E.new.isEmpty) (fun E => E = ⟨.bool true, [], [], []⟩) .E (I14 34 64 [] []) = (true = true) := by kernel_rfl
attribute [local irreducible] Go.Qv.run Go.Qv.inl Go.Qv.T.bind
theorem clone_ok {l : List Int} (hn : l.length ≤ many) {β : Nat → Option Value} {F : Nat → Prop} {w : World} {cs : Array Value} {R : Value → World → Prop} (hp : Pre [(0, .arr 2 (.i .i64 l))] 64 β F w) (hlen : cs.size = 1)
    (hvr : ∀ (j : Nat) (v : Value) (x : AV), cs[j]? = some v → [AV.own 0][j]? = some x → VR β F w v x)
    (hR : ∀ v' β' F' w', Post [(0, .arr 2 (.i .i64 l))] 64 ⟨.own 64, [(0, some (arrI l))], [], [arrI l]⟩ β F w v' β' F' w' → R v' w') : Goes Try.prog 122 cs w R := by
  cases l with
  | nil => exact I14_ok 122 64 [.own 0] _ β F w cs R trivial hp hlen hvr (some_sat (Q := fun o => match o with | none => False | some E => ∀ v' β' F' w', Post [(0, .arr 2 (.i .i64 []))] 64 E β F w v' β' F' w' → R v' w') (ob_of noB_ok _ _ (clone_nil _) hR))
  | cons x l =>
    refine I14_ok 122 64 [.own 0] _ β F w cs R trivial hp hlen hvr (some_sat (Q := fun o => match o with | none => False | some E => ∀ v' β' F' w', Post [(0, .arr 2 (.i .i64 (x :: l)))] 64 E β F w v' β' F' w' → R v' w') (ob_of noB_ok _ _ (clone_cons x l _) ⟨?_, hR⟩))
    show ((0 : Int) + (((x :: l).length : Nat) : Int)) * 8 ≤ 140737488355328
    unfold many at hn
    omega
theorem reqP_sat {α : Type} {p : Prop} {t : T α} {Q : α → Prop} (h : (reqP p t).sat Q) : p ∧ t.sat Q := h
theorem sp0M_ok : Orc0Ok Try.prog sp0M := by
  intro f xs hs β F w cs R hp hlen hvr h
  unfold sp0M at h
  split at h
  · rename_i hf
    have hf := Nat.eq_of_beq_eq_true hf
    subst hf
    unfold spClone at h
    split at h
    · obtain ⟨h1, h2⟩ := reqP_sat h
      exact clone_ok h1 hp hlen hvr h2
    · exact h.elim
  · split at h
    · rename_i hf
      have hf := Nat.eq_of_beq_eq_true hf
      subst hf
      unfold spSo at h
      split at h
      · obtain ⟨⟨rfl, rfl⟩, h1⟩ := reqP_sat h
        obtain ⟨⟨h2, h3⟩, h4⟩ := reqP_sat h1
        exact so_goesA h2 h3 (hp.sub (by intro p hp; simp [soHs] at hp ⊢; rcases hp with rfl | rfl <;> simp)) hlen hvr (fun v' β' F' w' p => h4 v' β' F' w' (p.sup (by intro p hp; simp [soHs] at hp ⊢; rcases hp with rfl | rfl <;> simp)))
      · obtain ⟨⟨rfl, rfl⟩, h1⟩ := reqP_sat h
        obtain ⟨⟨h2, h3⟩, h4⟩ := reqP_sat h1
        exact so_goesB _ h2 h3 (hp.sub (by intro p hp; simp [soHs] at hp ⊢; rcases hp with rfl | rfl <;> simp)) hlen hvr (fun v' β' F' w' p => h4 v' β' F' w' (p.sup (by intro p hp; simp [soHs] at hp ⊢; rcases hp with rfl | rfl <;> simp)))
      · obtain ⟨⟨rfl, rfl⟩, h1⟩ := reqP_sat h
        obtain ⟨⟨h2, h3⟩, h4⟩ := reqP_sat h1
        exact so_goesC _ h2 h3 (hp.sub (by intro p hp; simp [soHs] at hp ⊢; rcases hp with rfl | rfl | rfl <;> simp)) hlen hvr (fun v' β' F' w' p => h4 v' β' F' w' (p.sup (by intro p hp; simp [soHs] at hp ⊢; rcases hp with rfl | rfl | rfl <;> simp)))
      · exact h.elim
    · split at h
      · rename_i hf
        have hf := Nat.eq_of_beq_eq_true hf
        subst hf
        unfold spFill at h
        have key : ∀ {sc ex} {l : List Int} {k t : Int} {hs}, (fiT sc ex k t l).sat (fun E => ∀ v' β' F' w', Post hs 64 E β F w v' β' F' w' → R v' w') → k = 0 ∧ t = 1 ∧ zeros l ∧ ∀ v' β' F' w', Post hs 64 (fiE sc ex l l.length) β F w v' β' F' w' → R v' w' := by
          intro sc ex l k t hs h
          obtain ⟨⟨rfl, rfl⟩, h1⟩ := reqP_sat h
          obtain ⟨h2, h3, h4⟩ := reqP_sat h1
          refine ⟨rfl, rfl, h2, ?_⟩
          cases l with
          | nil => exact h3 rfl
          | cons x l => exact h4 (by simp)
        split at h
        · obtain ⟨rfl, rfl, ⟨h2, h3⟩, h4⟩ := key h
          exact fi_goesA h2 h3 (hp.sub (by intro p hp; simp [fiHs] at hp ⊢; rcases hp with rfl | rfl <;> simp)) hlen hvr (fun v' β' F' w' p => h4 v' β' F' w' (p.sup (by intro p hp; simp [fiHs] at hp ⊢; rcases hp with rfl | rfl <;> simp)))
        · obtain ⟨rfl, rfl, ⟨h2, h3⟩, h4⟩ := key h
          exact fi_goesB h2 h3 (hp.sub (by intro p hp; simp [fiHs] at hp ⊢; rcases hp with rfl | rfl <;> simp)) hlen hvr (fun v' β' F' w' p => h4 v' β' F' w' (p.sup (by intro p hp; simp [fiHs] at hp ⊢; rcases hp with rfl | rfl <;> simp)))
        · obtain ⟨rfl, rfl, ⟨h2, h3⟩, h4⟩ := key h
          exact fi_goesC h2 h3 (hp.sub (by intro p hp; simp [fiHs] at hp ⊢; rcases hp with rfl | rfl | rfl <;> simp)) hlen hvr (fun v' β' F' w' p => h4 v' β' F' w' (p.sup (by intro p hp; simp [fiHs] at hp ⊢; rcases hp with rfl | rfl | rfl <;> simp)))
        · exact h.elim
      · split at h
        · rename_i hf
          have hf := Nat.eq_of_beq_eq_true hf
          subst hf
          unfold spLive at h
          split at h
          · refine I14_ok 34 64 [] [] β F w cs R trivial hp hlen hvr (sat_mono (fun E hE => by subst hE; exact h) (ob_of (fun E hE => ?_) _ _ live34 rfl))
            simp only [Bool.and_eq_true, List.isEmpty_iff] at hE
            obtain ⟨v, hw, frz, nw⟩ := E
            obtain ⟨⟨⟨h1, h2⟩, h3⟩, h4⟩ := hE
            simp only at h2 h3 h4
            subst h2; subst h3; subst h4
            unfold isT at h1
            split at h1
            · rename_i b hb
              subst h1
              simp only at hb
              subst hb
              rfl
            · cases h1
          · exact h.elim
        · exact h.elim
end Go.Proofs.Ytimfkgepcmmmhaa
