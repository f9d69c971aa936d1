/- Regions in the order of the text; code. -/
import Derived.Test.YteaeogofidakiaaQO
set_option linter.unusedVariables false
set_option linter.unusedSimpArgs false
namespace Go.Qv
open Go.RowKit
section
variable {P : Program} {tb : Tb} {orc : Orc} {c : Ctx} {st : S} {β : Nat → Option Value} {F : Nat → Prop} {a : Act} {w : World}

theorem newF_nil (n : Nat) (η : Nat → Option HObj) : newF n [] η = η := by
  funext id; unfold newF; rw [if_neg (by rw [List.length_nil]; omega)]
theorem lk_putEnv (env : Env) (g : Gd) (x : AV) (dst : Option Nat) : lk (putEnv env g x dst) = putF (lk env) dst g x := by
  funext t
  unfold putF
  cases dst with
  | none => simp [putEnv]
  | some d =>
    simp only [putEnv, lk_cons]
    by_cases e : t = d
    · subst e; simp
    · rw [if_neg e, if_neg (by intro hh; injection hh with hh; exact e hh.symm)]
theorem addGd_mem {l : List Nat} {g : Gd} {n : Nat} (h : n ∈ l ∨ ∃ b, g = some (n, b)) : n ∈ addGd l g := by
  cases g with
  | none => rcases h with h | ⟨b, h⟩ <;> first | exact h | cases h
  | some p =>
    obtain ⟨d, b⟩ := p
    have e : addGd l (some (d, b)) = if mem d l = true then l else d :: l := by
      unfold addGd; cases hm : mem d l <;> simp [hm]
    rw [e]
    split
    · rename_i hm
      rcases h with h | ⟨b', h⟩
      · exact h
      · injection h with h; injection h with h1 h2; subst h1; exact mem_true.1 hm
    · rcases h with h | ⟨b', h⟩
      · exact List.mem_cons_of_mem _ h
      · injection h with h; injection h with h1 h2; subst h1; exact List.mem_cons_self
theorem dstOk_lt {dst : Option Nat} (h : dstOk st dst = true) : ∀ d, dst = some d → d < st.nt ∧ d ∉ st.gds := by
  rintro d rfl
  simp only [dstOk, Bool.and_eq_true, Bool.not_eq_true'] at h
  exact ⟨by have := Nat.le_of_ble_eq_true h.1; omega, fun hm => by rw [mem_true.2 hm] at h; exact absurd h.2 (by simp)⟩
theorem eqO_false {a b : Option Nat} {d : Nat} (h : eqO a (some d) = false) : a ≠ some d := by
  rintro rfl; simp [eqO, Nat.beq_refl] at h
/-- Behind an operation that was carried out. -/
theorem RS.put {hs : List (Nat × HObj)} {E : Eff} {dst : Option Nat} {g : Gd} {v' : Value} {β' : Nat → Option Value} {F' : Nat → Prop} {w' : World} (h : RS c st β F a w) (hhs : ∀ p ∈ hs, lk st.heap p.1 = some p.2)
    (p : Post hs st.next E β F w v' β' F' w') (h8 : E.new.length ≤ 64) (hd : dstOk st dst = true) (hgd : ∀ p, g = some p → Holds a p) (hgn : gdDst dst g = false) : RS c (Qv.put st dst g E) β' F' (a.put dst v') w' := by
  have hd' := dstOk_lt hd
  have hs := h.rel.step (dst := dst) (g := g) hhs p (fun d hdd => by rw [← h.nt]; exact (hd' d hdd).1) (fun t g x hx e => by
      have := h.gds t g x hx
      exact (hd' _ e).2 this) (fun id h1 h2 => Nat.not_lt.2 h1) (fun d b hg => by
      subst hg
      exact ⟨hgd _ rfl, eqO_false (b := some d) hgn⟩)
  refine ⟨?_, ?_, ?_⟩
  · have e1 : lk (Qv.put st dst g E).env = putF (lk st.env) dst g E.v := lk_putEnv _ _ _ _
    have e2 : lk (Qv.put st dst g E).heap = newF st.next E.new (updF (lk st.heap) E.hw) := by
      funext id
      show lk (named st.next E.new ++ upd st.heap E.hw) id = _
      rw [lk_named]
      congr 1
      funext j
      exact lk_upd _ _ _
    rw [e1, e2]
    have hdom : ∀ id v, β' id = some v → id < (Qv.put st dst g E).next := fun id v hv => by
      show id < st.next + 64
      rcases hs.dom id v hv with h1 | h1
      · exact Nat.lt_of_lt_of_le h1 (Nat.le_add_right _ _)
      · omega
    exact { hs with dom := hdom, n0δ := fun id hid => by show id < st.next + 64; have := h.rel.n0δ id hid; omega }
  · show st.nt = (a.put dst v').tmps.size
    rw [h.nt]
    cases dst <;> simp [Act.put]
  · intro t g' x hx
    have : lk (Qv.put st dst g E).env t = putF (lk st.env) dst g E.v t := congrFun (lk_putEnv _ _ _ _) t
    rw [this] at hx
    unfold putF at hx
    split at hx
    · injection hx with hx
      injection hx with hx1 hx2
      obtain ⟨d, b⟩ := g'
      exact addGd_mem (.inr ⟨b, hx1⟩)
    · exact addGd_mem (.inl (h.gds t g' x hx))
/-- Behind an operation that was passed over. -/
theorem RS.skip {dst : Option Nat} {g : Nat × Bool} {v : AV} (h : RS c st β F a w) (hd : dstOk st dst = true) (hng : ¬ Holds a g) (hgn : gdDst dst (some g) = false) :
    RS c (Qv.put st dst (some g) ⟨v, [], [], []⟩) β F (a.put dst undef) w := by
  have hd' := dstOk_lt hd
  have hgne : dst ≠ some g.1 := by obtain ⟨d, b⟩ := g; exact eqO_false (b := some d) hgn
  have henv : lk (Qv.put st dst (some g) ⟨v, [], [], []⟩).env = putF (lk st.env) dst (some g) v := lk_putEnv _ _ _ _
  refine ⟨?_, by show st.nt = (a.put dst undef).tmps.size; rw [h.nt]; cases dst <;> simp [Act.put], ?_⟩
  · rw [henv]
    show Rel c _ (lk (named st.next [] ++ upd st.heap [])) (fun id => id < st.next + 64) β F _ w
    have r := h.rel
    refine ⟨fun t g' x hx => ?_, r.heap, r.own, r.sep, r.Flt, r.Fbnd, r.F0F, r.cls, fun id v hv => Nat.lt_of_lt_of_le (r.dom id v hv) (Nat.le_add_right _ _), r.os, r.tape, r.output, r.size, r.frame, by rw [put_defers]; exact r.defers, r.Bext, r.Blow, fun id hid => Nat.lt_of_lt_of_le (r.n0δ id hid) (Nat.le_add_right _ _)⟩
    unfold putF at hx
    split at hx
    · rename_i hdt
      injection hx with hx
      injection hx with hx1 hx2
      subst hx1
      have hlt := (hd' t hdt).1
      rw [h.nt] at hlt
      obtain ⟨d, b⟩ := g
      have e1 : (a.put dst undef).tmps[d]? = a.tmps[d]? := by rw [put_tmps, if_neg (fun hh => hgne hh.1)]
      refine ⟨fun hh => ?_, fun _ => by rw [put_tmps, if_pos ⟨hdt, hlt⟩]⟩
      rw [e1] at hh
      exact absurd hh hng
    · rename_i hdt
      have ht := r.env t g' x hx
      cases g' with
      | none =>
        obtain ⟨u, h1, h2⟩ := ht
        exact ⟨u, by rw [put_tmps, if_neg (fun hh => hdt hh.1)]; exact h1, h2⟩
      | some g' =>
        obtain ⟨d, b⟩ := g'
        have hgn' : dst ≠ some d := fun e => (hd' d e).2 (h.gds t _ x hx)
        have e1 : (a.put dst undef).tmps[d]? = a.tmps[d]? := by rw [put_tmps, if_neg (fun hh => hgn' hh.1)]
        have e2 : (a.put dst undef).tmps[t]? = a.tmps[t]? := by rw [put_tmps, if_neg (fun hh => hdt hh.1)]
        refine ⟨fun hh => ?_, fun hh => ?_⟩
        · rw [e1] at hh
          obtain ⟨u, h1, h2⟩ := ht.1 hh
          exact ⟨u, e2.trans h1, h2⟩
        · rw [e1] at hh
          exact e2.trans (ht.2 hh)
  · intro t g' x hx
    rw [henv] at hx
    unfold putF at hx
    split at hx
    · injection hx with hx
      injection hx with hx1 hx2
      obtain ⟨d, b⟩ := g'
      exact addGd_mem (.inr ⟨b, hx1⟩)
    · exact addGd_mem (g := some g) (.inl (h.gds t g' x hx))

theorem RS.skipE {dst : Option Nat} {g : Nat × Bool} {E : Eff} (h : RS c st β F a w) (hd : dstOk st dst = true) (hng : ¬ Holds a g) (hgn : gdDst dst (some g) = false) (hs : softOk st.heap E = true) :
    RS c (Qv.put st dst (some g) E) β F (a.put dst undef) w := by
  obtain ⟨e1, e2, e3⟩ := softOk_ok hs
  have h0 := h.skip (v := E.v) hd hng hgn
  have hh : lk (Qv.put st dst (some g) E).heap = lk (Qv.put st dst (some g) ⟨E.v, [], [], []⟩).heap := by
    show lk (named st.next E.new ++ upd st.heap E.hw) = lk (named st.next [] ++ upd st.heap [])
    rw [e2]
    funext id
    simp only [named, List.nil_append]
    rw [lk_upd, updF_same e3]
    rfl
  refine ⟨?_, h0.nt, h0.gds⟩
  rw [hh]
  exact h0.rel

theorem wanted_some {ops : Array Oper} {x : Oper} {tmps : Array Value} {g : Nat × Bool} (h : gdOf (ops.toList.map (·.dst)) x.guard = some (some g)) : Region.wanted x (yielded ops tmps) = true ↔ tmps[g.1]? = some (.bool g.2) := by
  unfold gdOf at h
  split at h
  · injection h with h; cases h
  · rename_i j b hg
    split at h
    · rename_i d hd
      injection h with h
      injection h with h
      subst h
      simp only [List.getElem?_map] at hd
      obtain ⟨o, ho, hod⟩ := Option.map_eq_some_iff.1 hd
      have ho' : ops[j]? = some o := by simpa using ho
      unfold Region.wanted
      simp only [hg]
      have : yielded ops tmps j = match tmps[d]? with | some (.bool b) => some b | _ => none := by
        unfold yielded
        simp only [ho', Option.bind_some, hod]
        rfl
      rw [this]
      constructor
      · intro hh
        split at hh
        · rename_i b' hb'
          simp at hh
          subst hh
          exact hb'
        · simp at hh
      · intro hh
        have hh' : tmps[d]? = some (.bool b) := hh
        rw [hh']
        simp
    · cases h
theorem wanted_none {ops : Array Oper} {x : Oper} {tmps : Array Value} {ds : List (Option Nat)} (h : gdOf ds x.guard = some none) : Region.wanted x (yielded ops tmps) = true := by
  unfold gdOf at h
  split at h
  · rename_i hg; unfold Region.wanted; simp [hg]
  · split at h <;> simp at h

theorem RS.he (h : RS c st β F a w) {T : Nat → Prop} : ∀ t, T t → ∀ g x, lk st.env t = some (g, x) → TR β F w a.tmps t g x := fun t _ g x hx => h.rel.env t g x hx
theorem stepT_ok (htb : TbOk P tb) (horc : OrcOk P orc c.C) {m : Bool} {ops : Array Oper} {x : Oper} (h : RS c st β F a w) {K : Act → World → Prop} {Q : Exit → Act → World → Prop} {R : S → Prop}
    (hR : ∀ st' β' F' a' w', RS c st' β' F' a' w' → R st' → K a' w') (hs : (stepT O.real tb orc m (ops.toList.map (·.dst)) st x).sat R) :
    if Region.wanted x (yielded ops a.tmps) then x.wp P a w K Q else K (a.put x.dst undef) w := by
  have hnx : ∀ id, st.next ≤ id → id < st.next + 64 → ¬ id < st.next := fun id h1 _ => Nat.not_lt.2 h1
  unfold stepT at hs
  split at hs
  · rename_i hd hg
    rw [if_pos (wanted_none hg)]
    refine opT_ok htb horc h.rel (ch := []) (by simp) h.he (fun p _ hp => hp) hnx (fun E hs' hE hhs v' β' F' w' hp => ?_) (bind_sat hs)
    split at hE
    · rename_i h8
      exact hR _ _ _ _ _ (h.put (g := none) hhs hp (Nat.le_of_ble_eq_true h8) hd (by simp) rfl) hE
    · exact hE.elim
  · rename_i g hd hg
    split at hs
    · rename_i hk
      have hw : Holds a g := (known_ok (T := fun _ => True) h.he 12 g true (fun _ _ => trivial) (by unfold kn at hk; cases m <;> simp_all)).1 rfl
      rw [if_pos ((wanted_some hg).2 hw)]
      refine opT_ok htb horc h.rel (ch := []) (by simp) h.he (fun p _ hp => hp) hnx (fun E hs' hE hhs v' β' F' w' hp => ?_) (bind_sat hs)
      split at hE
      · rename_i h8
        exact hR _ _ _ _ _ (h.put (g := none) hhs hp (Nat.le_of_ble_eq_true h8) hd (by simp) rfl) hE
      · exact hE.elim
    · rename_i hk
      have hw : ¬ Holds a g := (known_ok (T := fun _ => True) h.he 12 g false (fun _ _ => trivial) (by unfold kn at hk; cases m <;> simp_all)).2 rfl
      split at hs
      · rename_i hgn
        rw [if_neg (fun hh => hw ((wanted_some hg).1 hh))]
        exact hR _ _ _ _ _ (h.skipE hd hw hgn rfl) hs
      · exact hs.elim
    ·
      split at hs
      · rename_i pc q E0 hgn hpc hlin
        obtain ⟨hsoft, hs⟩ := hs
        have hsoft : softOk st.heap E0 = true := hsoft
        by_cases hw : Holds a g
        · rw [if_pos ((wanted_some hg).2 hw)]
          have hgd : ∀ p, some g = some p → Holds a p := fun p hp => by injection hp with hp; subst hp; exact hw
          have hq := imp_ok hs.1 (pcs_ok (T := fun _ => True) h.he 12 _ pc (fun _ _ => trivial) hpc hgd)
          exact opT_ok htb horc h.rel (R := fun E => E = E0) (chain_ok (T := fun _ => True) h.he 12 _ (fun _ _ => trivial) hgd) h.he (fun p _ hp => hp) hnx (fun E hs' hE hhs v' β' F' w' hp => by
            subst hE
            exact hR _ _ _ _ _ (h.put (g := some g) hhs hp (by rw [(softOk_ok hsoft).2.1]; simp) hd hgd hgn) hs.2) (lin_sat hlin hq rfl)
        · rw [if_neg (fun hh => hw ((wanted_some hg).1 hh))]
          exact hR _ _ _ _ _ (h.skipE hd hw hgn hsoft) hs.2
      · exact hs.elim
  · exact hs.elim
theorem seqT_ok (htb : TbOk P tb) (horc : OrcOk P orc c.C) {m : Bool} {ops : Array Oper} {Q : Exit → Act → World → Prop} {R : S → Prop}
    (hR : ∀ st' β' F' a' w', RS c st' β' F' a' w' → R st' → Q .normal a' w') : ∀ {l : List Oper} {st : S} {β : Nat → Option Value} {F : Nat → Prop} {a : Act} {w : World}, RS c st β F a w →
    (seqT O.real tb orc m (ops.toList.map (·.dst)) l st).sat R → wpList P ops Q l a w
  | [], st, β, F, a, w, h, hs => hR _ _ _ _ _ h hs
  | x :: l, st, β, F, a, w, h, hs => by
    have hs' := bind_sat hs
    refine wpList_step fun K hK => ?_
    exact stepT_ok htb horc h (fun st' β' F' a' w' h' hr => hK _ _ (seqT_ok htb horc hR h' hr)) hs'
end
end Go.Qv
