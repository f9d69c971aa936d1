/- Regions that draw their order. -/
import Derived.Test.YtmeagbopnliddaaGreatQNM
import Derived.Orders
set_option linter.unusedVariables false
set_option linter.unusedSimpArgs false
namespace Go.Qv
open Go.RowKit

def late {X : Type} (D : Nat → Bool) (f : Rec → Option X) : X → Nat → List Rec → X
  | d, _, [] => d
  | d, i, r :: rs => late D f (match D i, f r with | true, some y => y | _, _ => d) (i + 1) rs
theorem late_congr {X : Type} {D D' : Nat → Bool} {f : Rec → Option X} : ∀ {rs : List Rec} {d : X} {i : Nat}, (∀ k r, rs[k]? = some r → f r ≠ none → D (i + k) = D' (i + k)) → late D f d i rs = late D' f d i rs
  | [], d, i, h => rfl
  | r :: rs, d, i, h => by
    simp only [late]
    have e : (match D i, f r with | true, some y => y | _, _ => d) = (match D' i, f r with | true, some y => y | _, _ => d) := by
      cases hf : f r with
      | none => cases D i <;> cases D' i <;> rfl
      | some y =>
        have := h 0 r rfl (by rw [hf]; simp)
        simp only [Nat.add_zero] at this
        rw [this]
    rw [e]
    exact late_congr fun k r' hk hf => by
      have := h (k + 1) r' (by simpa using hk) hf
      rwa [show i + (k + 1) = i + 1 + k by omega] at this
theorem late_none {X : Type} {D : Nat → Bool} {f : Rec → Option X} : ∀ {rs : List Rec} {d : X} {i : Nat}, (∀ k r, rs[k]? = some r → f r ≠ none → D (i + k) = false) → late D f d i rs = d
  | [], d, i, h => rfl
  | r :: rs, d, i, h => by
    simp only [late]
    have e : (match D i, f r with | true, some y => y | _, _ => d) = d := by
      cases hf : f r with
      | none => cases D i <;> rfl
      | some y =>
        have := h 0 r rfl (by rw [hf]; simp)
        simp only [Nat.add_zero] at this
        rw [this]
    rw [e]
    exact late_none fun k r' hk hf => by
      have := h (k + 1) r' (by simpa using hk) hf
      rwa [show i + (k + 1) = i + 1 + k by omega] at this
theorem late_last {X : Type} {D : Nat → Bool} {f : Rec → Option X} {y : X} : ∀ {rs : List Rec} {d : X} {i j : Nat} {r : Rec}, rs[j]? = some r → D (i + j) = true → f r = some y → (∀ k r', j < k → rs[k]? = some r' → f r' ≠ none → D (i + k) = false) → late D f d i rs = y
  | [], d, i, j, r, h, _, _, _ => by simp at h
  | r0 :: rs, d, i, 0, r, h, hD, hf, hk => by
    simp at h
    subst h
    simp only [late]
    simp only [Nat.add_zero] at hD
    rw [hD, hf]
    exact late_none fun k r' hr hf' => by
      have := hk (k + 1) r' (by omega) (by simpa using hr) hf'
      rwa [show i + (k + 1) = i + 1 + k by omega] at this
  | r0 :: rs, d, i, j + 1, r, h, hD, hf, hk => by
    simp only [late]
    exact late_last (j := j) (r := r) (by simpa using h) (by rwa [show i + (j + 1) = i + 1 + j by omega] at hD) hf fun k r' hjk hr hf' => by
      have := hk (k + 1) r' (by omega) (by simpa using hr) hf'
      rwa [show i + (k + 1) = i + 1 + k by omega] at this
/-- What it tells is the start's, or one of those that are listed told it. -/
theorem late_from {X : Type} {D : Nat → Bool} {f : Rec → Option X} : ∀ {rs : List Rec} {d : X} {i : Nat}, late D f d i rs = d ∨ ∃ k r, rs[k]? = some r ∧ D (i + k) = true ∧ f r = some (late D f d i rs)
  | [], d, i => .inl rfl
  | r :: rs, d, i => by
    simp only [late]
    rcases late_from (D := D) (f := f) (rs := rs) (d := match D i, f r with | true, some y => y | _, _ => d) (i := i + 1) with h | ⟨k, r', h1, h2, h3⟩
    · cases hD : D i with
      | false => rw [hD] at h; exact .inl h
      | true =>
        cases hf : f r with
        | none => rw [hD, hf] at h; exact .inl h
        | some y =>
          rw [hD, hf] at h
          refine .inr ⟨0, r, rfl, by simpa using hD, ?_⟩
          simp only at h ⊢
          rw [h, hf]
    · exact .inr ⟨k + 1, r', by simpa using h1, by rwa [show i + (k + 1) = i + 1 + k by omega], h3⟩
theorem late_take {X : Type} {f : Rec → Option X} : ∀ {rs : List Rec} {d : X} {i k : Nat}, late (fun n => decide (n < i + k)) f d i rs = late (fun _ => true) f d i (rs.take k)
  | [], d, i, k => by simp [late]
  | r :: rs, d, i, 0 => by
    rw [List.take_zero]
    refine (late_none fun k r hk _ => by simp).trans rfl
  | r :: rs, d, i, k + 1 => by
    rw [List.take_succ_cons]
    simp only [late]
    have e : decide (i < i + (k + 1)) = true := by simp
    rw [e]
    have := late_take (f := f) (rs := rs) (d := match true, f r with | true, some y => y | _, _ => d) (i := i + 1) (k := k)
    rw [show i + 1 + k = i + (k + 1) by omega] at this
    exact this

def fG (t : Nat) (r : Rec) : Option (Option (Gd × AV)) := if r.x.dst = some t then some (some (r.g, r.E.v)) else none
def tchL : List (Nat × Option HObj) → Nat → Option (Option HObj)
  | [], _ => none
  | (i, ob) :: l, id => match tchL l id with | some x => some x | none => if id = i then some ob else none
theorem updF_tch : ∀ (l : List (Nat × Option HObj)) (η : Nat → Option HObj) (id : Nat), updF η l id = (tchL l id).getD (η id)
  | [], η, id => rfl
  | (i, ob) :: l, η, id => by
    simp only [updF, tchL]
    rw [updF_tch l]
    cases tchL l id with
    | some x => rfl
    | none => by_cases e : id = i <;> simp [e]
theorem tchL_mem : ∀ {l : List (Nat × Option HObj)} {id : Nat}, tchL l id ≠ none → id ∈ l.map (·.1)
  | [], id, h => absurd rfl h
  | (i, ob) :: l, id, h => by
    simp only [tchL] at h
    cases hl : tchL l id with
    | some x => exact List.mem_cons_of_mem _ (tchL_mem (by rw [hl]; simp))
    | none =>
      rw [hl] at h
      by_cases e : id = i
      · subst e; exact List.mem_cons_self
      · simp [e] at h
def fH (id : Nat) (r : Rec) : Option (Option HObj) := if r.st.next ≤ id ∧ id < r.st.next + r.E.new.length then some (r.E.new[id - r.st.next]?) else tchL r.E.hw id
theorem newF_tch (r : Rec) (η : Nat → Option HObj) (id : Nat) : newF r.st.next r.E.new (updF η r.E.hw) id = (fH id r).getD (η id) := by
  unfold newF fH
  split
  · rfl
  · exact updF_tch _ _ _
theorem putF_fG (r : Rec) (γ : Nat → Option (Gd × AV)) (t : Nat) : putF γ r.x.dst r.g r.E.v t = (fG t r).getD (γ t) := by
  unfold putF fG
  split <;> rfl
theorem named_fst : ∀ (n : Nat) (l : List HObj) (id : Nat), n ≤ id → id < n + l.length → id ∈ (named n l).map (·.1)
  | n, [], id, h1, h2 => by simp at h2; omega
  | n, ob :: l, id, h1, h2 => by
    simp only [named, List.map_cons, List.mem_cons]
    by_cases e : id = n
    · exact .inl e
    · exact .inr (named_fst (n + 1) l id (by omega) (by simp only [List.length_cons] at h2; omega))
theorem fH_mem {r : Rec} {id : Nat} (h : fH id r ≠ none) : id ∈ r.E.hw.map (·.1) ++ (named r.st.next r.E.new).map (·.1) := by
  unfold fH at h
  split at h
  · rename_i hh; exact List.mem_append_right _ (named_fst _ _ _ hh.1 hh.2)
  · exact List.mem_append_left _ (tchL_mem h)

/-- The state behind some records. -/
def behind (st : S) : List Rec → S
  | [] => st
  | r :: rs => behind (put st r.x.dst r.g r.E) rs
theorem behind_next : ∀ (rs : List Rec) (st : S), (behind st rs).next = st.next + 64 * rs.length
  | [], st => rfl
  | r :: rs, st => by
    simp only [behind, List.length_cons]
    rw [behind_next rs]
    show st.next + 64 + 64 * rs.length = _
    omega
theorem behind_nt : ∀ (rs : List Rec) (st : S), (behind st rs).nt = st.nt
  | [], st => rfl
  | r :: rs, st => behind_nt rs _
theorem behind_gds : ∀ (rs : List Rec) (st : S) (d : Nat), (d ∈ st.gds ∨ ∃ r ∈ rs, ∃ b, r.g = some (d, b)) → d ∈ (behind st rs).gds
  | [], st, d, h => by
    rcases h with h | ⟨r, h, _⟩
    · exact h
    · simp at h
  | r :: rs, st, d, h => by
    refine behind_gds rs _ d ?_
    rcases h with h | ⟨r', hr, b, hb⟩
    · exact .inl (addGd_mem (.inl h))
    · rcases List.mem_cons.1 hr with rfl | hr
      · exact .inl (addGd_mem (.inr ⟨b, hb⟩))
      · exact .inr ⟨r', hr, b, hb⟩

theorem Rel.skip {c : Ctx} {γ : Nat → Option (Gd × AV)} {η : Nat → Option HObj} {δ : Nat → Prop} {β : Nat → Option Value} {F : Nat → Prop} {a : Act} {w : World} {dst : Option Nat} {g : Nat × Bool} {v : AV} (h : Rel c γ η δ β F a w)
    (hd : ∀ d, dst = some d → d < a.tmps.size) (hg : ∀ t g x, γ t = some (some g, x) → dst ≠ some g.1) (hng : ¬ Holds a g) (hgne : dst ≠ some g.1) : Rel c (putF γ dst (some g) v) η δ β F (a.put dst undef) w := by
  refine ⟨fun t g' x hx => ?_, h.heap, h.own, h.sep, h.Flt, h.Fbnd, h.F0F, h.cls, h.dom, h.os, h.tape, h.output, h.size, h.frame, by rw [put_defers]; exact h.defers, h.Bext, h.Blow, h.n0δ⟩
  unfold putF at hx
  split at hx
  · rename_i hdt
    injection hx with hx
    injection hx with hx1 hx2
    subst hx1
    have hlt := hd t hdt
    obtain ⟨d, b⟩ := g
    have e1 : (a.put dst undef).tmps[d]? = a.tmps[d]? := by rw [put_tmps, if_neg (fun hh => hgne hh.1)]
    refine ⟨fun hh => ?_, fun _ => by rw [put_tmps, if_pos ⟨hdt, hlt⟩]⟩
    rw [e1] at hh
    exact absurd hh hng
  · rename_i hdt
    have ht := h.env t g' x hx
    cases g' with
    | none =>
      obtain ⟨u, h1, h2⟩ := ht
      exact ⟨u, by rw [put_tmps, if_neg (fun hh => hdt hh.1)]; exact h1, h2⟩
    | some g' =>
      obtain ⟨d, b⟩ := g'
      have hgn' : dst ≠ some d := hg t _ x hx
      have e1 : (a.put dst undef).tmps[d]? = a.tmps[d]? := by rw [put_tmps, if_neg (fun hh => hgn' hh.1)]
      have e2 : (a.put dst undef).tmps[t]? = a.tmps[t]? := by rw [put_tmps, if_neg (fun hh => hdt hh.1)]
      refine ⟨fun hh => ?_, fun hh => ?_⟩
      · rw [e1] at hh
        obtain ⟨u, h1, h2⟩ := ht.1 hh
        exact ⟨u, e2.trans h1, h2⟩
      · rw [e1] at hh
        exact e2.trans (ht.2 hh)
theorem Rel.wider {c : Ctx} {γ γ' : Nat → Option (Gd × AV)} {η η' : Nat → Option HObj} {δ δ' : Nat → Prop} {β : Nat → Option Value} {F : Nat → Prop} {a : Act} {w : World} (h : Rel c γ η δ β F a w) (e1 : ∀ t, γ t = γ' t) (e2 : ∀ id, η id = η' id) (e3 : ∀ id, δ id → δ' id) : Rel c γ' η' δ' β F a w := by
  have h1 := funext e1
  have h2 := funext e2
  subst h1; subst h2
  have hdom : ∀ id v, β id = some v → δ' id := fun id v hv => e3 _ (h.dom id v hv)
  exact { h with dom := hdom, n0δ := fun id hid => e3 _ (h.n0δ id hid) }

structure One (o : O) (tb : Tb) (orc : Orc) (m : Bool) (ds : List (Option Nat)) (st : S) (x : Oper) (r : Rec) : Prop where
  ex : r.x = x
  est : r.st = st
  hd : dstOk st x.dst = true
  kind : ∃ g0, gdOf ds x.guard = some g0 ∧ r.fp.rd = rdOf st.env (chain st.env 12 g0) x.op ∧
    ((r.g = g0 ∧ r.fp.hr = hsOf st (chain st.env 12 g0) x.op ∧ ∃ pc q, pcs st.env 12 g0 = some pc ∧ (opT o tb orc m st (chain st.env 12 g0) x.op).lin = some (q, r.E) ∧ (imp pc q).p) ∨
     (∃ g, g0 = some g ∧ known st.env 12 g = some true ∧ r.g = none ∧ r.fp.hr = hsOf st [] x.op ∧ ∃ q, (opT o tb orc m st [] x.op).lin = some (q, r.E) ∧ q.p) ∨
     (∃ g, g0 = some g ∧ known st.env 12 g = some false ∧ r.g = some g))
  hgd : gdDst x.dst r.g = false
  eff : effOk st r.g r.E = true
  d : r.fp.d = x.dst
  hw : r.fp.hw = r.E.hw.map (·.1) ++ (named st.next r.E.new).map (·.1)
theorem One.grd {o : O} {tb : Tb} {orc : Orc} {m : Bool} {ds : List (Option Nat)} {st : S} {x : Oper} {r : Rec} (h : One o tb orc m ds st x r) {g : Nat × Bool} (hg : r.g = some g) : g.1 ∈ r.fp.rd := by
  obtain ⟨g0, h1, h2, h3⟩ := h.kind
  have hg0 : g0 = some g := by
    rcases h3 with ⟨e, _⟩ | ⟨_, _, _, e, _⟩ | ⟨g', e1, _, e2⟩
    · rw [← e, hg]
    · rw [hg] at e; cases e
    · rw [e1, ← hg, e2]
  rw [h2, hg0]
  unfold rdOf
  refine List.mem_append_left _ (List.mem_append_right _ (List.mem_map.2 ⟨g, ?_, rfl⟩))
  unfold chain
  exact List.mem_cons_self
def Good (o : O) (tb : Tb) (orc : Orc) (m : Bool) (ds : List (Option Nat)) : S → List Oper → List Rec → Prop
  | _, [], [] => True
  | st, x :: l, r :: rs => One o tb orc m ds st x r ∧ Good o tb orc m ds (put st x.dst r.g r.E) l rs
  | _, _, _ => False
theorem recT_one {o : O} {tb : Tb} {orc : Orc} {m : Bool} {ds : List (Option Nat)} {st st' : S} {x : Oper} {p : DP} {r : Rec} (h : recT o tb orc m ds st x = some (p, r, st')) (hp : p.p) : One o tb orc m ds st x r ∧ st' = put st x.dst r.g r.E := by
  unfold recT at h
  split at h
  · rename_i g hd hg
    split at h
    · rename_i hk
      split at h
      · rename_i q E hl
        split at h
        · rename_i hb
          injection h with h
          injection h with e1 h
          injection h with e2 e3
          subst e2
          subst e3
          subst e1
          obtain ⟨g', rfl⟩ : ∃ g', g = some g' := by cases g with | none => simp [kn] at hk | some g' => exact ⟨_, rfl⟩
          exact ⟨⟨rfl, rfl, hd, ⟨_, hg, rfl, .inr (.inl ⟨g', rfl, (by unfold kn at hk; cases m <;> simp_all), rfl, rfl, q, hl, hp⟩)⟩, rfl, hb, rfl, rfl⟩, rfl⟩
        · cases h
      · cases h
    · rename_i hk
      split at h
      · rename_i hgn
        injection h with h
        injection h with e1 h
        injection h with e2 e3
        subst e2
        subst e3
        obtain ⟨g', rfl⟩ : ∃ g', g = some g' := by cases g with | none => simp [kn] at hk | some g' => exact ⟨_, rfl⟩
        exact ⟨⟨rfl, rfl, hd, ⟨_, hg, rfl, .inr (.inr ⟨g', rfl, (by unfold kn at hk; cases m <;> simp_all), rfl⟩)⟩, hgn, rfl, rfl, rfl⟩, rfl⟩
      · cases h
    · split at h
      · rename_i pc q E h1 h2 h3
        injection h with h
        injection h with e1 h
        injection h with e2 e3
        subst e2
        subst e3
        subst e1
        exact ⟨⟨rfl, rfl, hd, ⟨_, hg, rfl, .inl ⟨rfl, rfl, pc, q, h2, h3, hp.2⟩⟩, h1, hp.1, rfl, rfl⟩, rfl⟩
      · cases h
  · cases h
theorem recs_good {o : O} {tb : Tb} {orc : Orc} {m : Bool} {ds : List (Option Nat)} : ∀ {l : List Oper} {st st' : S} {p : DP} {rs : List Rec}, recs o tb orc m ds l st = some (p, rs, st') → p.p → Good o tb orc m ds st l rs ∧ st' = behind st rs
  | [], st, st', p, rs, h, hp => by
    injection h with h
    injection h with e1 h
    injection h with e2 e3
    subst e2
    exact ⟨trivial, e3.symm⟩
  | x :: l, st, st', p, rs, h, hp => by
    unfold recs at h
    split at h
    · rename_i p1 r st1 h1
      split at h
      · rename_i q rs1 st2 h2
        injection h with h
        injection h with e1 h
        injection h with e2 e3
        subst e1
        subst e2
        obtain ⟨g1, g2⟩ := recT_one h1 hp.1
        subst g2
        obtain ⟨g3, g4⟩ := recs_good h2 hp.2
        refine ⟨⟨g1, g3⟩, ?_⟩
        unfold behind
        rw [← e3, g4, g1.ex]
      · cases h
    · cases h
theorem Good.len {o : O} {tb : Tb} {orc : Orc} {m : Bool} {ds : List (Option Nat)} : ∀ {l : List Oper} {rs : List Rec} {st : S}, Good o tb orc m ds st l rs → rs.length = l.length
  | [], [], _, _ => rfl
  | x :: l, r :: rs, st, h => by simp [Good.len h.2]
  | [], r :: rs, _, h => h.elim
  | x :: l, [], _, h => h.elim
theorem Good.at {o : O} {tb : Tb} {orc : Orc} {m : Bool} {ds : List (Option Nat)} : ∀ {l : List Oper} {rs : List Rec} {st : S} {k : Nat} {x : Oper}, Good o tb orc m ds st l rs → l[k]? = some x → ∃ r, rs[k]? = some r ∧ One o tb orc m ds (behind st (rs.take k)) x r
  | [], _, _, k, x, h, hk => by simp at hk
  | y :: l, [], _, _, _, h, _ => h.elim
  | y :: l, r :: rs, st, 0, x, h, hk => by
    simp at hk
    subst hk
    exact ⟨r, rfl, h.1⟩
  | y :: l, r :: rs, st, k + 1, x, h, hk => by
    simp only [List.getElem?_cons_succ, List.take_succ_cons] at hk ⊢
    obtain ⟨r', h1, h2⟩ := Good.at h.2 hk
    refine ⟨r', h1, ?_⟩
    unfold behind
    rw [h.1.ex]
    exact h2
theorem Good.env {o : O} {tb : Tb} {orc : Orc} {m : Bool} {ds : List (Option Nat)} (t : Nat) : ∀ {l : List Oper} {rs : List Rec} {st : S} {i : Nat} (k : Nat), Good o tb orc m ds st l rs → lk (behind st (rs.take k)).env t = late (fun _ => true) (fG t) (lk st.env t) i (rs.take k)
  | [], [], st, i, k, h => by simp [behind, late]
  | [], r :: rs, _, _, _, h => h.elim
  | x :: l, [], _, _, _, h => h.elim
  | x :: l, r :: rs, st, i, 0, h => by simp [behind, late]
  | x :: l, r :: rs, st, i, k + 1, h => by
    simp only [List.take_succ_cons, behind, late]
    have g := h.2
    rw [← h.1.ex] at g
    rw [Good.env t (i := i + 1) k g]
    congr 1
    have : lk (put st r.x.dst r.g r.E).env = putF (lk st.env) r.x.dst r.g r.E.v := lk_putEnv _ _ _ _
    rw [this, putF_fG]
    cases fG t r <;> rfl
theorem Good.heap {o : O} {tb : Tb} {orc : Orc} {m : Bool} {ds : List (Option Nat)} (t : Nat) : ∀ {l : List Oper} {rs : List Rec} {st : S} {i : Nat} (k : Nat), Good o tb orc m ds st l rs → lk (behind st (rs.take k)).heap t = late (fun _ => true) (fH t) (lk st.heap t) i (rs.take k)
  | [], [], st, i, k, h => by simp [behind, late]
  | [], r :: rs, _, _, _, h => h.elim
  | x :: l, [], _, _, _, h => h.elim
  | x :: l, r :: rs, st, i, 0, h => by simp [behind, late]
  | x :: l, r :: rs, st, i, k + 1, h => by
    simp only [List.take_succ_cons, behind, late]
    have g := h.2
    rw [← h.1.ex] at g
    rw [Good.heap t (i := i + 1) k g]
    congr 1
    have : lk (put st r.x.dst r.g r.E).heap t = newF r.st.next r.E.new (updF (lk st.heap) r.E.hw) t := by
      rw [h.1.est]
      show lk (named st.next r.E.new ++ upd st.heap r.E.hw) t = _
      rw [lk_named]
      congr 1
      funext j
      exact lk_upd _ _ _
    rw [this, newF_tch]
    cases fH t r <;> rfl
theorem okPairs_spec {j : Nat} {b : Fp} {an : Nat} : ∀ {l : List Fp} {i0 : Nat}, okPairs j b an i0 l = true → ∀ i a, l[i]? = some a → conf a b = true → an.testBit (i0 + i) = true
  | [], i0, h, i, a, ha, _ => by simp at ha
  | x :: l, i0, h, i, a, ha, hc => by
    unfold okPairs at h
    simp only [Bool.and_eq_true, Bool.or_eq_true, Bool.not_eq_true'] at h
    cases i with
    | zero =>
      simp at ha
      subst ha
      rcases h.1 with h1 | h1
      · rw [hc] at h1; cases h1
      · simpa using h1
    | succ i =>
      have := okPairs_spec h.2 i a (by simpa using ha) hc
      rwa [show i0 + 1 + i = i0 + (i + 1) by omega] at this
theorem okAll_spec : ∀ {l : List Fp} {ar : List Nat} {j0 : Nat} {dn : List Fp}, okAll j0 dn l ar = true → dn.length = j0 → ∀ i j a b, i < j0 + j → (dn ++ l)[i]? = some a → l[j]? = some b → conf a b = true → ∃ an, ar[j]? = some an ∧ an.testBit i = true
  | [], _, _, _, _, _, i, j, a, b, _, _, hb, _ => by simp at hb
  | x :: l, [], _, _, h, _, _, _, _, _, _, _, _, _ => by simp [okAll] at h
  | x :: l, an :: ar, j0, dn, h, hl, i, j, a, b, hij, ha, hb, hc => by
    unfold okAll at h
    simp only [Bool.and_eq_true] at h
    cases j with
    | zero =>
      simp at hb
      subst hb
      rw [List.getElem?_append_left (by omega)] at ha
      exact ⟨an, rfl, by simpa using okPairs_spec h.1 i a ha hc⟩
    | succ j =>
      obtain ⟨an', h1, h2⟩ := okAll_spec h.2 (by simp [hl]) i j a b (by omega) (by simpa using ha) (by simpa using hb) hc
      exact ⟨an', by simpa using h1, h2⟩

def Preds (D : Nat → Bool) (x : Oper) : Prop := ∀ e ∈ x.after.toList, Region.binds .any e = true → D e.on = true
theorem anc_bits {acc : List Nat} {i : Nat} : ∀ {l : List Edge} {s : Nat}, (l.foldl (fun s e => match Region.binds .any e with | true => s ||| 2 ^ e.on ||| acc.getD e.on 0 | false => s) s).testBit i = true →
    s.testBit i = true ∨ ∃ e ∈ l, Region.binds .any e = true ∧ (i = e.on ∨ (acc.getD e.on 0).testBit i = true)
  | [], s, h => .inl h
  | e :: l, s, h => by
    rw [List.foldl_cons] at h
    rcases anc_bits h with h | ⟨e', h1, h2⟩
    · cases hb : Region.binds .any e with
      | false => rw [hb] at h; exact .inl h
      | true =>
        rw [hb] at h
        simp only [Nat.testBit_or, Bool.or_eq_true, Nat.testBit_two_pow, decide_eq_true_eq] at h
        rcases h with (h | h) | h
        · exact .inl h
        · exact .inr ⟨e, List.mem_cons_self, hb, .inl h.symm⟩
        · exact .inr ⟨e, List.mem_cons_self, hb, .inr h⟩
    · exact .inr ⟨e', List.mem_cons_of_mem _ h1, h2⟩
theorem ancs_ok {ops : List Oper} {D : Nat → Bool} (hD : ∀ j x, D j = true → ops[j]? = some x → Preds D x) : ∀ {l : List Oper} {acc : List Nat} (pre : List Oper), ops = pre ++ l → acc.length = pre.length →
    (∀ j x, j < acc.length → ops[j]? = some x → Preds D x → ∀ i, (acc.getD j 0).testBit i = true → D i = true) →
    ∀ j x, ops[j]? = some x → Preds D x → ∀ i, ((ancs acc l).getD j 0).testBit i = true → D i = true
  | [], acc, pre, he, hl, h => by
    intro j x hx
    simp only [ancs]
    have : j < acc.length := by
      rw [hl]
      have := (List.getElem?_eq_some_iff.1 hx).1
      rw [he] at this
      simpa using this
    exact h j x this hx
  | y :: l, acc, pre, he, hl, h => by
    simp only [ancs]
    refine ancs_ok hD (pre ++ [y]) (by simp [he]) (by simp [hl]) fun j x hj hx hp i hi => ?_
    by_cases e : j < acc.length
    · refine h j x e hx hp i ?_
      simpa [List.getD_eq_getElem?_getD, List.getElem?_append_left e] using hi
    · have ej : j = acc.length := by simp at hj; omega
      subst ej
      have hi' : (ancOf acc y).testBit i = true := by simpa [List.getD_eq_getElem?_getD] using hi
      have hxy : x = y := by
        rw [he, hl] at hx
        simpa using hx.symm
      subst hxy
      rcases anc_bits hi' with h0 | ⟨e, h1, h2, h3⟩
      · simp at h0
      · have hDe := hp e h1 h2
        rcases h3 with rfl | h3
        · exact hDe
        · by_cases hlt : e.on < acc.length
          · obtain ⟨z, hz⟩ : ∃ z, ops[e.on]? = some z := by
              have : e.on < ops.length := by rw [he]; simp; omega
              exact ⟨_, List.getElem?_eq_getElem this⟩
            exact h e.on z hlt hz (hD _ _ hDe hz) i h3
          · rw [List.getD_eq_getElem?_getD, List.getElem?_eq_none (by omega)] at h3
            simp at h3
theorem ordOk_spec : ∀ {l : List Oper} {j0 : Nat}, ordOk j0 l = true → ∀ j x, l[j]? = some x → ∀ e ∈ x.after.toList, Region.binds .any e = true → e.on < j0 + j
  | [], _, _, j, x, hx => by simp at hx
  | y :: l, j0, h, j, x, hx => by
    unfold ordOk at h
    simp only [Bool.and_eq_true] at h
    cases j with
    | zero =>
      simp at hx
      subst hx
      intro e he hb
      have := List.all_eq_true.1 h.1 e he
      rw [hb] at this
      have h2 : e.on < j0 := by simpa using this
      omega
    | succ j =>
      intro e he hb
      have := ordOk_spec h.2 j x (by simpa using hx) e he hb
      omega

section
variable {P : Program} {tb : Tb} {orc : Orc} {c : Ctx} {st : S} {ops : Array Oper} {rs : List Rec}
def gamD (st : S) (rs : List Rec) (D : Nat → Bool) : Nat → Option (Gd × AV) := fun t => late D (fG t) (lk st.env t) 0 rs
def etaD (st : S) (rs : List Rec) (D : Nat → Bool) : Nat → Option HObj := fun id => late D (fH id) (lk st.heap id) 0 rs
def delD (st : S) (rs : List Rec) (D : Nat → Bool) : Nat → Prop := fun id => id < st.next ∨ ∃ k, k < rs.length ∧ D k = true ∧ st.next + 64 * k ≤ id ∧ id < st.next + 64 * k + 64
def addD (D : Nat → Bool) (j : Nat) : Nat → Bool := fun k => k == j || D k

/-- One operation of a region that draws its order, where some are done. -/
theorem draw_one {rn : Option Nat} (htb : TbOk P tb) (horc : OrcOk P orc c.C) {m : Bool} (hg0 : st.gds = []) (hG : Good O.real tb orc m (ops.toList.map (·.dst)) st ops.toList rs) (hA : okAll 0 [] (rs.map (·.fp)) (ancs [] ops.toList) = true)
    (hst : ∀ t g x, lk st.env t = some (some g, x) → g.1 ∈ st.gds)
    {D : Nat → Bool} (hD : ∀ j x, D j = true → ops[j]? = some x → Preds D x) {j : Nat} {x : Oper} (hx : ops[j]? = some x) (hj : D j = false) (hp : Preds D x)
    {β : Nat → Option Value} {F : Nat → Prop} {a : Act} {w : World} (h : Rel c (gamD st rs D) (etaD st rs D) (delD st rs D) β F a w) (hnt : st.nt = a.tmps.size) {K : Act → World → Prop} {Q : Exit → Act → World → Prop}
    (hK : ∀ β' F' a' w', Rel c (gamD st rs (addD D j)) (etaD st rs (addD D j)) (delD st rs (addD D j)) β' F' a' w' → st.nt = a'.tmps.size → K a' w') :
    if Region.wanted x (yielded ops a.tmps) then x.wpIn (FrR rn) 0 P a w K Q else (∀ f, x.about P w a.eval = some f → (FrR rn).fn f) ∧ K (a.put x.dst undef) w := by
  have hxl : ops.toList[j]? = some x := by simpa using hx
  obtain ⟨r, hr, one⟩ := hG.at hxl
  have hjl : j < rs.length := (List.getElem?_eq_some_iff.1 hr).1
  generalize hsj : behind st (rs.take j) = sj at one
  have hnext : sj.next = st.next + 64 * j := by rw [← hsj, behind_next, List.length_take]; congr 2; omega
  have hntj : sj.nt = st.nt := by rw [← hsj, behind_nt]
  have hD' : ∀ j x, D j = true → ops.toList[j]? = some x → Preds D x := fun j x h1 h2 => hD j x h1 (by simpa using h2)
  have anc : ∀ j' x', ops.toList[j']? = some x' → Preds D x' → ∀ (i an : Nat), (ancs [] ops.toList)[j']? = some an → an.testBit i = true → D i = true := fun j' x' h1 h2 i an h3 h4 =>
    ancs_ok hD' [] rfl rfl (fun j x hj => absurd hj (Nat.not_lt_zero _)) j' x' h1 h2 i (by rw [List.getD_eq_getElem?_getD, h3]; exact h4)
  -- two that meet
  have before : ∀ i r', i < j → rs[i]? = some r' → conf r'.fp r.fp = true → D i = true := fun i r' hij hr' hc => by
    obtain ⟨an, h1, h2⟩ := okAll_spec hA rfl i j r'.fp r.fp (by omega) (by simp [hr']) (by simp [hr]) hc
    exact anc j x hxl hp i an h1 h2
  have behind' : ∀ i r', j < i → rs[i]? = some r' → conf r.fp r'.fp = true → D i = false := fun i r' hij hr' hc => by
    cases hDi : D i with
    | false => rfl
    | true =>
      obtain ⟨an, h1, h2⟩ := okAll_spec hA rfl j i r.fp r'.fp (by omega) (by simp [hr]) (by simp [hr']) hc
      obtain ⟨x', hx'⟩ : ∃ x', ops.toList[i]? = some x' := by
        have : i < ops.toList.length := by rw [← hG.len]; exact (List.getElem?_eq_some_iff.1 hr').1
        exact ⟨_, List.getElem?_eq_getElem this⟩
      exact absurd (anc i x' hx' (hD' _ _ hDi hx') j an h1 h2) (by rw [hj]; simp)
  have oneAt : ∀ i r', rs[i]? = some r' → ∃ x', ops.toList[i]? = some x' ∧ One O.real tb orc m (ops.toList.map (·.dst)) (behind st (rs.take i)) x' r' := fun i r' hr' => by
    obtain ⟨x', hx'⟩ : ∃ x', ops.toList[i]? = some x' := by
      have : i < ops.toList.length := by rw [← hG.len]; exact (List.getElem?_eq_some_iff.1 hr').1
      exact ⟨_, List.getElem?_eq_getElem this⟩
    obtain ⟨r'', h1, h2⟩ := hG.at hx'
    rw [hr'] at h1
    injection h1 with h1
    subst h1
    exact ⟨x', hx', h2⟩
  have fGd : ∀ i r' t, rs[i]? = some r' → fG t r' ≠ none → r'.fp.d = some t := fun i r' t hr' hf => by
    obtain ⟨x', _, o'⟩ := oneAt i r' hr'
    rw [o'.d, ← o'.ex]
    unfold fG at hf
    split at hf
    · assumption
    · exact absurd rfl hf
  have fHd : ∀ i r' id, rs[i]? = some r' → fH id r' ≠ none → id ∈ r'.fp.hw := fun i r' id hr' hf => by
    obtain ⟨x', _, o'⟩ := oneAt i r' hr'
    have := fH_mem hf
    rw [o'.est] at this
    rw [o'.hw]
    exact this
  have agree : ∀ {X : Type} (f : Rec → Option X) (d : X), (∀ i r', rs[i]? = some r' → f r' ≠ none → i ≠ j → (i < j → conf r'.fp r.fp = true) ∧ (j < i → conf r.fp r'.fp = true)) → late D f d 0 rs = late (fun n => decide (n < 0 + j)) f d 0 rs := fun f d hf =>
    late_congr fun k r' hr' hne => by
      rw [Nat.zero_add, Nat.zero_add]
      rcases Nat.lt_trichotomy k j with hk | hk | hk
      · rw [before k r' hk hr' ((hf k r' hr' hne (by omega)).1 hk)]; simp [hk]
      · subst hk; rw [hj]; simp
      · rw [behind' k r' hk hr' ((hf k r' hr' hne (by omega)).2 hk)]; simp; omega
  have eqTrue : ∀ t, eqO (some t) (some t) = true := fun t => by simp [eqO, Nat.beq_refl]
  have hrd : ∀ t ∈ r.fp.rd, gamD st rs D t = lk sj.env t := fun t ht => by
    rw [← hsj, hG.env t (i := 0) j, ← late_take]
    refine agree (fG t) _ fun i r' hr' hne hij => ⟨fun hlt => ?_, fun hlt => ?_⟩
    · have := fGd i r' t hr' hne
      unfold conf
      rw [this]
      simp [memO, mem_true.2 ht]
    · have := fGd i r' t hr' hne
      unfold conf
      rw [this]
      simp [memO, mem_true.2 ht]
  have meetsI : ∀ {l m : List Nat} {i : Nat}, i ∈ l → i ∈ m → meets l m = true := fun h1 h2 => by
    unfold meets
    exact List.any_eq_true.2 ⟨_, h1, mem_true.2 h2⟩
  have hhr : ∀ id ∈ r.fp.hr, etaD st rs D id = lk sj.heap id := fun id hid => by
    rw [← hsj, hG.heap id (i := 0) j, ← late_take]
    refine agree (fH id) _ fun i r' hr' hne hij => ⟨fun hlt => ?_, fun hlt => ?_⟩
    · have := fHd i r' id hr' hne
      unfold conf
      simp [meetsI this hid]
    · have := fHd i r' id hr' hne
      unfold conf
      simp [meetsI this hid]
  -- what is listed anew
  have gam' : ∀ t, putF (gamD st rs D) x.dst r.g r.E.v t = gamD st rs (addD D j) t := fun t => by
    have := putF_fG r (gamD st rs D) t
    rw [one.ex] at this
    rw [this]
    unfold gamD
    cases hf : fG t r with
    | none =>
      exact late_congr fun k r' hr' hne => by
        unfold addD
        rw [Nat.zero_add]
        by_cases e : k = j
        · subst e
          rw [hr] at hr'
          injection hr' with hr'
          subst hr'
          exact absurd hf hne
        · simp [e]
    | some y =>
      refine (late_last (j := j) hr (by simp [addD]) hf fun k r' hjk hr' hne => ?_).symm
      rw [Nat.zero_add]
      have h1 := fGd k r' t hr' hne
      have h2 := fGd j r t hr (by rw [hf]; simp)
      have := behind' k r' hjk hr' (by unfold conf; rw [h1, h2]; simp [eqTrue])
      simp [addD, this]; omega
  have eta' : ∀ id, newF sj.next r.E.new (updF (etaD st rs D) r.E.hw) id = etaD st rs (addD D j) id := fun id => by
    have := newF_tch r (etaD st rs D) id
    rw [one.est] at this
    rw [this]
    unfold etaD
    cases hf : fH id r with
    | none =>
      exact late_congr fun k r' hr' hne => by
        unfold addD
        rw [Nat.zero_add]
        by_cases e : k = j
        · subst e
          rw [hr] at hr'
          injection hr' with hr'
          subst hr'
          exact absurd hf hne
        · simp [e]
    | some y =>
      refine (late_last (j := j) hr (by simp [addD]) hf fun k r' hjk hr' hne => ?_).symm
      rw [Nat.zero_add]
      have h1 := fHd k r' id hr' hne
      have h2 := fHd j r id hr (by rw [hf]; simp)
      have := behind' k r' hjk hr' (by unfold conf; simp [meetsI h2 h1])
      simp [addD, this]; omega
  have hhw : ∀ p ∈ r.E.hw, etaD st rs D p.1 = lk sj.heap p.1 := fun p hp => by
    have hin : p.1 ∈ r.fp.hw := by rw [one.hw]; exact List.mem_append_left _ (List.mem_map.2 ⟨p, hp, rfl⟩)
    rw [← hsj, hG.heap p.1 (i := 0) j, ← late_take]
    refine agree (fH p.1) _ fun i r' hr' hne hij => ⟨fun hlt => ?_, fun hlt => ?_⟩
    · have := fHd i r' p.1 hr' hne
      unfold conf
      simp [meetsI this hin]
    · have := fHd i r' p.1 hr' hne
      unfold conf
      simp [meetsI hin this]
  have eta0 : softOk sj.heap r.E = true → ∀ id, etaD st rs D id = etaD st rs (addD D j) id := fun h1 id => by
    obtain ⟨_, q2, q3⟩ := softOk_ok h1
    rw [← eta' id, q2, newF_nil, updF_same (fun p hp => (q3 p hp).trans (hhw p hp).symm)]
  have del' : ∀ id, (delD st rs D id ∨ (sj.next ≤ id ∧ id < sj.next + 64)) → delD st rs (addD D j) id := fun id hid => by
    rcases hid with (hid | ⟨k, h1, h2, h3⟩) | hid
    · exact .inl hid
    · exact .inr ⟨k, h1, by simp [addD, h2], h3⟩
    · exact .inr ⟨j, hjl, by simp [addD], by omega, by omega⟩
  have hnx : ∀ id, sj.next ≤ id → id < sj.next + 64 → ¬ delD st rs D id := fun id h1 h2 hd => by
    rcases hd with hd | ⟨k, h3, h4, h5, h6⟩
    · omega
    · have : k = j := by omega
      subst this
      rw [hj] at h4; cases h4
  have hdl := dstOk_lt one.hd
  have hdlt : ∀ d, x.dst = some d → d < a.tmps.size := fun d hd => by rw [← hnt, ← hntj]; exact (hdl d hd).1
  have hgne : ∀ t g y, gamD st rs D t = some (some g, y) → x.dst ≠ some g.1 := fun t g y hy e => by
    rcases late_from (D := D) (f := fG t) (rs := rs) (d := lk st.env t) (i := 0) with h0 | ⟨k, r', h1, h2, h3⟩
    · have h0 := h0.symm.trans hy
      have := hst t g y h0
      rw [hg0] at this
      simp at this
    · rw [Nat.zero_add] at h2
      rw [show late D (fG t) (lk st.env t) 0 rs = some (some g, y) from hy] at h3
      obtain ⟨x', hx', o'⟩ := oneAt k r' h1
      have hrg : r'.g = some g := by
        unfold fG at h3
        split at h3
        · injection h3 with h3
          injection h3 with h3
          injection h3
        · cases h3
      rcases Nat.lt_trichotomy k j with hk | hk | hk
      · refine (hdl _ e).2 ?_
        rw [← hsj]
        refine behind_gds _ _ _ (.inr ⟨r', ?_, g.2, hrg⟩)
        exact List.mem_of_getElem? (i := k) (by rw [List.getElem?_take, if_pos hk]; exact h1)
      · subst hk; rw [hj] at h2; cases h2
      · have hin : g.1 ∈ r'.fp.rd := o'.grd hrg
        have := behind' k r' hk h1 (by unfold conf; rw [one.d, e]; simp [memO, mem_true.2 hin])
        rw [this] at h2; cases h2
  have he : ∀ t ∈ r.fp.rd, ∀ g y, lk sj.env t = some (g, y) → TR β F w a.tmps t g y := fun t ht g y hy => h.env t g y ((hrd t ht).trans hy)
  have hsz : ∀ (a' : Act) v, st.nt = (a.put x.dst v).tmps.size := fun _ v => by
    rw [hnt]
    cases x.dst <;> simp [Act.put]
  obtain ⟨g0, hgo, hrdE, kind⟩ := one.kind
  have hchr : ∀ p ∈ chain sj.env 12 g0, p.1 ∈ r.fp.rd := fun p hp => by
    rw [hrdE]
    unfold rdOf
    exact List.mem_append_left _ (List.mem_append_right _ (List.mem_map.2 ⟨p, hp, rfl⟩))
  have hrdS : ∀ ch : List (Nat × Bool), (∀ p ∈ ch, p.1 ∈ r.fp.rd) → ∀ t ∈ rdOf sj.env ch x.op, t ∈ r.fp.rd := fun ch hch t ht => by
    unfold rdOf at ht
    rcases List.mem_append.1 ht with ht | ht
    · rcases List.mem_append.1 ht with ht | ht
      · rw [hrdE]; unfold rdOf; exact List.mem_append_left _ (List.mem_append_left _ ht)
      · obtain ⟨p, hp, rfl⟩ := List.mem_map.1 ht; exact hch p hp
    · rw [hrdE]; unfold rdOf; exact List.mem_append_right _ ht
  have h8 : r.E.new.length ≤ 64 := by
    have := one.eff
    unfold effOk at this
    split at this
    · exact Nat.le_of_ble_eq_true this
    · rw [(softOk_ok this).2.1]; simp
  have after : ∀ (hgd : ∀ p, r.g = some p → Holds a p) (E : Eff) (hs' : List (Nat × HObj)), E = r.E → (∀ p ∈ hs', etaD st rs D p.1 = some p.2) → ∀ v' β' F' w', Post hs' sj.next E β F w v' β' F' w' → K (a.put x.dst v') w' := fun hgd E hs' hE hhs v' β' F' w' hpo => by
    subst hE
    have hs := h.step (dst := x.dst) (g := r.g) hhs hpo hdlt hgne (fun id h1 h2 => hnx id h1 (by omega)) (fun d b hg => by
      refine ⟨hgd _ hg, ?_⟩
      have := one.hgd
      rw [hg] at this
      exact eqO_false (b := some d) this)
    exact hK _ _ _ _ (hs.wider gam' eta' (fun id hid => del' id (hid.imp (fun z => z) (fun hh => ⟨hh.1, by omega⟩)))) (hsz a v')
  have skipped : ∀ g, r.g = some g → ¬ Holds a g → K (a.put x.dst undef) w := fun g hg hw => by
    have heff := one.eff
    rw [hg] at heff
    simp only [effOk] at heff
    have hgd := one.hgd
    rw [hg] at hgd
    obtain ⟨d, b⟩ := g
    have hs := h.skip (dst := x.dst) (g := (d, b)) (v := r.E.v) hdlt hgne hw (eqO_false (b := some d) hgd)
    rw [← hg] at hs
    exact hK _ _ _ _ (hs.wider gam' (eta0 heff) (fun id hid => del' id (.inl hid))) (hsz a undef)
  rcases kind with ⟨hg, hhrE, pc, q, hpc, hlin, himp⟩ | ⟨g, e0, hk, hg, hhrE, q, hlin, hq⟩ | ⟨g, e0, hk, hg⟩
  · have finish : (∀ p, r.g = some p → Holds a p) → x.wpIn (FrR rn) 0 P a w K Q := fun hgd => by
      rw [hg] at hgd
      have hq := imp_ok himp (pcs_ok (T := fun t => t ∈ r.fp.rd) he 12 _ pc hchr hpc hgd)
      exact opT_okR htb horc h (R := fun E => E = r.E) (chain_ok (T := fun t => t ∈ r.fp.rd) he 12 _ hchr hgd) (by rw [← hrdE]; exact he) (fun p hp hl => (hhr p.1 (by rw [hhrE]; exact hp)).trans hl) hnx (fun E hs' hE hhs v' β' F' w' hpo => after (by rw [hg]; exact hgd) E hs' hE hhs v' β' F' w' hpo) (lin_sat hlin hq rfl)
    cases hg0' : g0 with
    | none =>
      rw [hg0'] at hgo
      rw [if_pos (wanted_none hgo)]
      exact finish (by rw [hg, hg0']; simp)
    | some g =>
      rw [hg0'] at hgo
      by_cases hw : Holds a g
      · rw [if_pos ((wanted_some hgo).2 hw)]
        exact finish (by rw [hg, hg0']; intro p hp; injection hp with hp; subst hp; exact hw)
      · rw [if_neg (fun hh => hw ((wanted_some hgo).1 hh))]
        exact ⟨fun _ _ => trivial, skipped g (by rw [hg, hg0']) hw⟩
  · subst e0
    have hw : Holds a g := (known_ok (T := fun t => t ∈ r.fp.rd) he 12 g true hchr hk).1 rfl
    rw [if_pos ((wanted_some hgo).2 hw)]
    exact opT_okR htb horc h (ch := []) (R := fun E => E = r.E) (by simp) (fun t ht => he t (hrdS [] (by simp) t ht)) (fun p hp hl => (hhr p.1 (by rw [hhrE]; exact hp)).trans hl) hnx (fun E hs' hE hhs v' β' F' w' hpo => after (by rw [hg]; simp) E hs' hE hhs v' β' F' w' hpo) (lin_sat hlin hq rfl)
  · subst e0
    have hw : ¬ Holds a g := (known_ok (T := fun t => t ∈ r.fp.rd) he 12 g false hchr hk).2 rfl
    rw [if_neg (fun hh => hw ((wanted_some hgo).1 hh))]
    exact ⟨fun _ _ => trivial, skipped g hg hw⟩

theorem wpAny_of {rn : Option Nat} (hord : ordOk 0 ops.toList = true) (htb : TbOk P tb) (horc : OrcOk P orc c.C) {m : Bool} (hg0 : st.gds = []) (hG : Good O.real tb orc m (ops.toList.map (·.dst)) st ops.toList rs) (hA : okAll 0 [] (rs.map (·.fp)) (ancs [] ops.toList) = true)
    (hst : ∀ t g x, lk st.env t = some (some g, x) → g.1 ∈ st.gds) {Q : Exit → Act → World → Prop} (hQ : ∀ β' F' a' w', RS c (behind st rs) β' F' a' w' → Q .normal a' w') :
    ∀ (fuel : Nat) (listed : Array Bool) {β : Nat → Option Value} {F : Nat → Prop} {a : Act} {w : World}, listed.size = ops.size → listed.toList.count false ≤ fuel →
      (∀ j x, listed.getD j false = true → ops[j]? = some x → Preds (listed.getD · false) x) →
      Rel c (gamD st rs (listed.getD · false)) (etaD st rs (listed.getD · false)) (delD st rs (listed.getD · false)) β F a w → st.nt = a.tmps.size → wpAnyIn (FrR rn) 0 P .any ops Q fuel listed a w := by
  have all : ∀ (listed : Array Bool) {β : Nat → Option Value} {F : Nat → Prop} {a : Act} {w : World}, listed.size = ops.size → Region.ready .any ops listed = [] →
      Rel c (gamD st rs (listed.getD · false)) (etaD st rs (listed.getD · false)) (delD st rs (listed.getD · false)) β F a w → st.nt = a.tmps.size → Q .normal a w := by
    intro listed β F a w hsz hr h hnt
    have hall : ∀ j, j < ops.size → listed.getD j false = true := by
      intro j
      induction j using Nat.strongRecOn with
      | ind j ih =>
        intro hj
        have hnm : j ∉ Region.ready .any ops listed := by rw [hr]; simp
        unfold Region.ready at hnm
        rw [List.mem_filter] at hnm
        have hlj : j < listed.size := by omega
        have hgd : listed.getD j true = listed.getD j false := by simp [Array.getD, hlj]
        cases hl : listed.getD j false with
        | true => rfl
        | false =>
          exfalso
          refine hnm ⟨List.mem_range.2 hj, ?_⟩
          rw [hgd, hl]
          have hx : ops[j]? = some ops[j] := Array.getElem?_eq_getElem hj
          rw [hx]
          simp only [Bool.not_false, Bool.true_and, Option.map_some, Option.getD_some]
          rw [Array.all_eq_true_iff_forall_mem]
          intro e he
          cases hb : Region.binds .any e with
          | false => rfl
          | true =>
            have := ordOk_spec hord j ops[j] (by simp) e (by simpa using he) hb
            have h2 := ih e.on (by omega) (by omega)
            simp only [Bool.not_true, Bool.false_or]
            exact h2
    have hlen : rs.length = ops.size := by rw [hG.len]; simp
    refine hQ β F a w ⟨h.wider (fun t => ?_) (fun id => ?_) (fun id hid => ?_), by rw [behind_nt]; exact hnt, fun t g x hx => ?_⟩
    · have := hG.env t (i := 0) rs.length
      rw [List.take_length] at this
      rw [this]
      exact late_congr fun k r hk _ => by
        have := (List.getElem?_eq_some_iff.1 hk).1
        rw [Nat.zero_add]; exact hall k (by omega)
    · have := hG.heap id (i := 0) rs.length
      rw [List.take_length] at this
      rw [this]
      exact late_congr fun k r hk _ => by
        have := (List.getElem?_eq_some_iff.1 hk).1
        rw [Nat.zero_add]; exact hall k (by omega)
    · rw [behind_next]
      rcases hid with hid | ⟨k, h1, h2, h3, h4⟩ <;> omega
    · have h1 := hG.env t (i := 0) rs.length
      rw [List.take_length] at h1
      rw [h1] at hx
      rcases late_from (D := fun _ => true) (f := fG t) (rs := rs) (d := lk st.env t) (i := 0) with h0 | ⟨k, r', h1, h2, h3⟩
      · rw [hx] at h0
        exact behind_gds _ _ _ (.inl (hst t g x h0.symm))
      · rw [hx] at h3
        have hrg : r'.g = some g := by
          unfold fG at h3
          split at h3
          · injection h3 with h3
            injection h3 with h3
            injection h3
          · cases h3
        exact behind_gds _ _ _ (.inr ⟨r', List.mem_of_getElem? h1, g.2, hrg⟩)
  intro fuel
  induction fuel with
  | zero =>
    intro listed β F a w hsz hc hcl h hnt
    have hr : Region.ready .any ops listed = [] := by
      unfold Region.ready
      rw [List.filter_eq_nil_iff]
      intro i hi hh
      simp only [Bool.and_eq_true, Bool.not_eq_true'] at hh
      have hi' := List.mem_range.1 hi
      have : listed[i]'(by omega) = false := by simpa [Array.getD, show i < listed.size by omega] using hh.1
      have hm : false ∈ listed.toList := by rw [← this]; simp
      have := List.count_pos_iff.2 hm
      omega
    exact ⟨hr, all listed hsz hr h hnt⟩
  | succ fuel ih =>
    intro listed β F a w hsz hc hcl h hnt
    refine ⟨fun hr => all listed hsz hr h hnt, fun j hj => ?_⟩
    unfold Region.ready at hj
    rw [List.mem_filter] at hj
    obtain ⟨hj1, hj2⟩ := hj
    have hjo := List.mem_range.1 hj1
    have hlj : j < listed.size := by omega
    have hx : ops[j]? = some ops[j] := Array.getElem?_eq_getElem hjo
    rw [hx] at hj2
    simp only [Option.map_some, Option.getD_some, Bool.and_eq_true, Bool.not_eq_true'] at hj2
    have hjf : listed.getD j false = false := by simpa [Array.getD, hlj] using hj2.1
    have hjl : listed[j] = false := by simpa [Array.getD, hlj] using hjf
    have hp : Preds (listed.getD · false) ops[j] := by
      intro e he hb
      have := (Array.all_eq_true_iff_forall_mem.1 hj2.2) e (by simpa using he)
      rw [hb] at this
      simpa using this
    have hadd : ∀ k, (listed.setIfInBounds j true).getD k false = addD (listed.getD · false) j k := by
      intro k
      unfold addD
      by_cases e : k = j
      · subst e; simp [Array.getD, hlj]
      · simp only [Array.getD, Array.size_setIfInBounds]
        by_cases hk : k < listed.size
        · simp [hk, e, Array.getElem_setIfInBounds, Ne.symm e]
        · simp [hk, e]
    have hadd' : (fun k => (listed.setIfInBounds j true).getD k false) = addD (listed.getD · false) j := funext hadd
    unfold wpOpIn
    rw [hx]
    simp only
    have key := draw_one (rn := rn) (K := wpAnyIn (FrR rn) 0 P .any ops Q fuel (listed.setIfInBounds j true)) (Q := Q) htb horc hg0 hG hA hst hcl hx hjf hp h hnt (fun β' F' a' w' h' hnt' => by
      refine ih (listed.setIfInBounds j true) (by simpa using hsz) ?_ ?_ (by rw [hadd']; exact h') hnt'
      · have hl : j < listed.toList.length := by simpa using hlj
        rw [Array.toList_setIfInBounds, List.count_set hl]
        have h1 : listed.toList[j] = false := by simpa using hjl
        have : 0 < listed.toList.count false := List.count_pos_iff.2 (by rw [← h1]; exact List.getElem_mem hl)
        rw [h1, if_pos (show (false == false) = true from rfl), if_neg (show ¬ (true == false) = true by decide)]
        omega
      · intro k x hk hkx e he hb
        show (listed.setIfInBounds j true).getD e.on false = true
        rw [hadd] at hk ⊢
        unfold addD at hk ⊢
        by_cases ek : k = j
        · subst ek
          rw [hx] at hkx
          injection hkx with hkx
          subst hkx
          simp [hp e he hb]
        · have hk' : listed.getD k false = true := by simpa [ek] using hk
          simp [hcl k x hk' hkx e he hb])
    exact key
theorem drawT_ok {rn : Option Nat} (hm : P.follows .mixedOrders = true) (htb : TbOk P tb) (horc : OrcOk P orc c.C) {m : Bool} {β : Nat → Option Value} {F : Nat → Prop} {a : Act} {w : World} {Q : Exit → Act → World → Prop} {R : S → Prop} {id : Nat}
    (h : RS c st β F a { w with drawn := w.drawn + 1 }) (hR : ∀ st' β' F' a' w', RS c st' β' F' a' w' → R st' → Q .normal a' w') (hs : (drawT O.real tb orc m ops.toList st).sat R) : (Code.region id ops true).wpIn (FrR rn) 0 P Q a w := by
  refine wpIn_region_any hm ?_
  unfold drawT at hs
  split at hs
  · rename_i q rs st' hgds hrecs
    split at hs
    · rename_i hA
      simp only [Bool.and_eq_true] at hA
      obtain ⟨hq, hr⟩ := hs
      obtain ⟨hG, rfl⟩ := recs_good hrecs hq
      refine wpAny_of hA.2 htb horc hgds hG hA.1 h.gds (fun β' F' a' w' h' => hR _ _ _ _ _ h' hr) ops.size _ (β := β) (F := F) (by simp) ?_ ?_ ?_ h.nt
      · simp
      · intro j x hj
        exfalso
        by_cases e : j < ops.size
        · simp [Array.getD, e] at hj
        · simp [Array.getD, e] at hj
      · refine h.rel.wider (fun t => ?_) (fun id => ?_) (fun id hid => .inl hid)
        · exact (late_none fun k r hk hf => by by_cases e : k < ops.size <;> simp [Array.getD, e]).symm
        · exact (late_none fun k r hk hf => by by_cases e : k < ops.size <;> simp [Array.getD, e]).symm
    · exact hs.elim
  · exact hs.elim
  · exact hs.elim
end
end Go.Qv
