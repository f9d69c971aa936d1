/- A loop over a function: the loop's record is kept; each round is its body's. No condition. -/
import Derived.Test.YtmeagbopnliddaaGreatQFe
import Derived.RangeFuncIn
import Derived.RangeFuncSeq
set_option linter.unusedVariables false
set_option linter.unusedSimpArgs false
namespace Go.Qv
open Go.RowKit

/-- What nobody writes stays, cell by cell; a mark stays. -/
structure Keeps (F : Nat → Prop) (W W' : World) : Prop where
  cell : ∀ A u, F A.block → W.cell? A = some u → W'.cell? A = some u
  mark : ∀ D x, F D → W.heap[D]? = some (.deferred x) → W'.heap[D]? = some (.deferred x)
theorem Keeps.refl (F : Nat → Prop) (W : World) : Keeps F W W := ⟨fun _ _ _ h => h, fun _ _ _ h => h⟩
theorem Keeps.trans {F F' : Nat → Prop} {A B C : World} (h : Keeps F A B) (k : Keeps F' B C) (hF : ∀ b, F b → F' b) : Keeps F A C :=
  ⟨fun X u hx hu => k.cell X u (hF _ hx) (h.cell X u hx hu), fun D x hD hx => k.mark D x (hF _ hD) (h.mark D x hD hx)⟩
theorem Keeps.of_blocks {F : Nat → Prop} {W W' : World} (h : ∀ b, F b → W'.heap[b]? = W.heap[b]?) : Keeps F W W' :=
  ⟨fun A u hA hu => (World.cell?_of_block (w := W) (h _ hA)).trans hu, fun D x hD hx => (h D hD).trans hx⟩
/-- A record is written. -/
theorem Keeps.record {F : Nat → Prop} {W : World} {l : Nat} {r : Loop} (o : Obj) (hl : W.heap[l]? = some (.loop r)) : Keeps F W (W.putObj l o) :=
  ⟨fun A u _ hu => by
    have hne : A.block ≠ l := fun e => by unfold World.cell? at hu; rw [e, hl] at hu; simp at hu
    exact (World.cell?_of_block (w := W) (World.putObj_heap_other hne)).trans hu,
   fun D x _ hx => by
    have hne : D ≠ l := fun e => by rw [e, hl] at hx; cases hx
    rw [World.putObj_heap_other hne]; exact hx⟩
theorem Keeps.vr {β β' : Nat → Option Value} {F F' : Nat → Prop} {W W' : World} {v : Value} {x : AV} (h : VR β F W v x) (hβ : ∀ id u, β id = some u → β' id = some u) (hF : ∀ b, F b → F' b) (k : Keeps F W W') : VR β' F' W' v x := by
  induction h with
  | int => exact .int _ _
  | bool => exact .bool _
  | str => exact .str _
  | nilp => exact .nilp
  | ptr id off b o h => exact .ptr _ _ _ _ (hβ _ _ h)
  | ep id sz i off b n c h => exact .ep _ _ _ _ _ _ _ (hβ _ _ h)
  | rp cs b o cv hf hc' h1 _ ih => exact .rp _ _ _ cv (hF _ hf) (fun j hj => k.cell _ _ hf (hc' j hj)) h1 ih
  | nils => exact .nils
  | sl0 c A cap h hk => exact .sl0 _ _ _ h hk
  | sl c b o n cap cv h1 h2 h3 h4 hf h5 hc' _ ih => exact .sl _ _ _ _ _ cv h1 h2 h3 h4 (hF _ hf) h5 (fun i j hi hj => k.cell _ _ hf (hc' i j hi hj)) ih
  | own id v h hs => exact .own _ _ (hβ _ _ h) hs
  | fn f cs l h _ ih => exact .fn _ _ _ h ih
  | nilf => exact .nilf
  | raw v h => exact .raw _ h
  | agg cs l h h2 _ ih => exact .agg _ _ h h2 ih
  | tup cs l h _ ih => exact .tup _ _ h ih
  | iface t v x _ ih => exact .iface _ _ _ ih
  | nili => exact .nili
  | mp id r h => exact .mp _ _ (hβ _ _ h)
  | nilm => exact .nilm
  | vw id sz lo b n c h1 h2 => exact .vw _ _ _ _ _ _ (hβ _ _ h1) h2

/-- What an iterator itself may do between two rounds. -/
structure Later (F : Nat → Prop) (W : World) (F' : Nat → Prop) (W' : World) : Prop where
  Fext : ∀ b, F b → F' b
  Flt : ∀ b, F' b → b < W'.heap.size
  Fnew : ∀ b, F' b → F b ∨ W.heap.size ≤ b
  same : ∀ b, b < W.heap.size → W'.heap[b]? = W.heap[b]?
  os : W'.os = W.os
  tape : W'.tape = W.tape
  output : W'.output = W.output
  size : W.heap.size ≤ W'.heap.size
theorem Later.refl {F : Nat → Prop} {W : World} (h : ∀ b, F b → b < W.heap.size) : Later F W F W := ⟨fun _ h => h, h, fun _ h => .inl h, fun _ _ => rfl, rfl, rfl, rfl, Nat.le_refl _⟩
theorem PPost.later {F : Nat → Prop} {w : World} {y : AV} {v' : Value} {F' : Nat → Prop} {w' : World} (p : PPost F w y v' F' w') : Later F w F' w' := ⟨p.Fext, p.Flt, p.Fnew, p.frame, p.os, p.tape, p.output, p.size⟩
/-- An iterator that gives N times, at each time what El says, if no round ends it before. -/
def IterOk (P : Program) (gf : FuncId) (lb : Array Value) (N : Nat) (El : Nat → (Nat → Prop) → World → Array Value → Prop) (F0 : Nat → Prop) (w0 : World) : Prop :=
  ∀ (l : Nat) (J : Nat → (Nat → Prop) → World → Prop) (Jx : (Nat → Prop) → World → Prop),
    (∀ k F W F' W', J k F W → Later F W F' W' → J k F' W') → (∀ k F W, J k F W → ∀ b, F b → b < W.heap.size) →
    (∀ F W F' W', Jx F W → Later F W F' W' → Jx F' W') → (∀ F W, Jx F W → ∀ b, F b → b < W.heap.size) →
    (∀ k F W cs, k < N → J k F W → El k F W cs → YieldAt Fence.wide 0 P l cs W fun e W' => ∃ F', (∀ b, F b → F' b) ∧ Keeps F W W' ∧ ((e = .returned (.bool true) ∧ J (k + 1) F' W') ∨ (e = .returned (.bool false) ∧ Jx F' W'))) →
    ∀ F W, (∀ b, F0 b → F b) → Keeps F0 w0 W → J 0 F W →
    Calls P gf (#[.func (.yield l) #[] #[]] ++ lb) W fun e W' => (∃ v, e = .returned v) ∧ ∃ F', J N F' W' ∨ Jx F' W'
/-- What a round's body must come to. -/
def RoundEnd (l D : Nat) (bz : Obj) (F : Nat → Prop) (W : World) (I : (Nat → Prop) → World → Prop) (Ix : Jp → (Nat → Prop) → World → Prop) : Exit → Act → World → Prop
  | .normal, _, W' => W'.heap[l]? = some bz ∧ ∃ F', (∀ b, F b → F' b) ∧ Keeps F W W' ∧ I F' W'
  | .exit id, _, W' => W'.heap[l]? = some bz ∧ ∃ F', (∀ b, F b → F' b) ∧ Keeps F W W' ∧ Ix (.exit id) F' W'
  | .ret, _, W' => W'.heap[l]? = some bz ∧ ∃ F', (∀ b, F b → F' b) ∧ Keeps F W W' ∧ Ix .ret F' W'
  | _, _, _ => False
def Jp.code : Jp → Code
  | .go => .skip | .exit id => .exit id | .ret => .ret
theorem range_law {P : Program} {g : Operand} {ps : Array Tmp} {assign body : Code} {Q : Exit → Act → World → Prop} {a : Act} {w : World} {gf : FuncId} {lb : Array Value} {N : Nat} {El : Nat → (Nat → Prop) → World → Array Value → Prop} {F : Nat → Prop}
    (hg : a.eval g = .func (.func gf) #[] lb) (eg : ∀ args w, (callFunc gf args).run P w = .ok (.enter gf args) w) (hit : IterOk P gf lb N El F w) (hsz : ∀ k F W cs, El k F W cs → cs.size = ps.size) (hF : ∀ b, F b → b < w.heap.size)
    (I : Nat → (Nat → Prop) → World → Prop) (hlater : ∀ k F W F' W', I k F W → Later F W F' W' → I k F' W') (hlt : ∀ k F W, I k F W → ∀ b, F b → b < W.heap.size)
    (hrec : ∀ k F W l r o, I k F W → w.heap.size ≤ l → W.heap[l]? = some (.loop r) → I k F (W.putObj l o))
    (Ix : Jp → (Nat → Prop) → World → Prop) (hlaterx : ∀ j F W F' W', Ix j F W → Later F W F' W' → Ix j F' W') (hltx : ∀ j F W, Ix j F W → ∀ b, F b → b < W.heap.size)
    (hrecx : ∀ j F W l r o, Ix j F W → w.heap.size ≤ l → W.heap[l]? = some (.loop r) → Ix j F (W.putObj l o))
    (h0 : ∀ W, W = ((w.alloc (.deferred (some []))).alloc W.heap[w.heap.size + 1]!) → I 0 (fun b => F b ∨ b = w.heap.size ∨ b = w.heap.size + 1) W)
    (hround : ∀ rd bz k F W cs, k < N → I k F W → El k F W cs → F w.heap.size → F (w.heap.size + 1) → W.heap[w.heap.size + 1]? = some (.loop rd) → W.heap[w.heap.size]? = some (.deferred (some [])) →
      wpR (some (w.heap.size + 1)) P assign (Exit.then (fun a₁ w₁ => w₁.heap[w.heap.size + 1]? = some (.loop rd) ∧ wpR (some (w.heap.size + 1)) P body (RoundEnd (w.heap.size + 1) w.heap.size (.loop bz) F W (I (k + 1)) Ix) a₁ (w₁.putObj (w.heap.size + 1) (.loop bz))) (fun _ _ _ => False))
        { tmps := (ps.zip cs).foldl (fun t (p, v) => t.setIfInBounds p v) a.tmps, defers := [] } W)
    (hdone : ∀ F' W, I N F' W → F' w.heap.size → W.heap[w.heap.size]? = some (.deferred (some [])) → Q .normal { a with defers := mark w.heap.size :: a.defers } W)
    (hdonex : ∀ j F' W, j ≠ .go → Ix j F' W → F' w.heap.size → W.heap[w.heap.size]? = some (.deferred (some [])) → Q j.ex { a with defers := mark w.heap.size :: a.defers } W) :
    wpR none P (Code.rangeFunc g ps assign body) Q a w := by
  refine wpIn_rangeFunc ?_
  intro fn hfn
  obtain ⟨rec, hre⟩ : ∃ rec : LoopState → Option Code → Loop, rec = fun st pe => { state := st, pending := pe, fn, tmps := a.tmps, params := ps, assign, body, defers := w.heap.size } := ⟨_, rfl⟩
  obtain ⟨W1, hW1⟩ : ∃ W1, (w.alloc (.deferred (some []))).alloc (.loop (rec .ready none)) = W1 := ⟨_, rfl⟩
  have hL1 : W1.heap[w.heap.size + 1]? = some (.loop (rec .ready none)) := by
    rw [← hW1]; have := World.alloc_heap_new (w.alloc (.deferred (some []))) (.loop (rec .ready none)); rwa [World.size_alloc] at this
  have hK1 : W1.heap[w.heap.size]? = some (.deferred (some [])) := by
    rw [← hW1]; exact (Below.heap_alloc _ _ _ (by simp)).trans (World.alloc_heap_new w _)
  have hold : ∀ b, b < w.heap.size → W1.heap[b]? = w.heap[b]? := fun b hb => by
    rw [← hW1]; exact (Below.heap_alloc _ _ _ (by simp; omega)).trans (Below.heap_alloc _ _ _ hb)
  have hI1 : I 0 (fun b => F b ∨ b = w.heap.size ∨ b = w.heap.size + 1) W1 := by
    refine h0 W1 ?_
    have : W1.heap[w.heap.size + 1]! = .loop (rec .ready none) := by rw [getElem!_def, hL1]
    rw [this, hW1]
  have hne : w.heap.size ≠ w.heap.size + 1 := by omega
  refine ⟨w.heap.size + 1, [mark w.heap.size], W1, { target := .fn (.func gf) lb, args := #[.func (.yield (w.heap.size + 1)) #[] #[]] }, W1, gf,
    #[.func (.yield (w.heap.size + 1)) #[] #[]] ++ lb, W1, ?_, ?_, ?_, ?_, fun hh => by simp [FrR] at hh, ?_⟩
  · rw [← hW1, hre]; exact run_enterLoop_outer _ _ _ _ _
  · simp only [resolve, hg]
    simp [go_sem]
  · intro f' hf'; trivial
  · simp [invoke, go_sem, eg]
  · refine (callsIn_wide (n := 0 - 1)).2 ?_
    refine (hit (w.heap.size + 1)
      (fun k F W => I k F W ∧ F w.heap.size ∧ F (w.heap.size + 1) ∧ W.heap[w.heap.size + 1]? = some (.loop (rec .ready none)) ∧ W.heap[w.heap.size]? = some (.deferred (some [])))
      (fun F W => ∃ j, j ≠ Jp.go ∧ Ix j F W ∧ F w.heap.size ∧ F (w.heap.size + 1) ∧ W.heap[w.heap.size + 1]? = some (.loop (rec .done (some j.code))) ∧ W.heap[w.heap.size]? = some (.deferred (some [])))
      (fun k F W F' W' ⟨j1, j2, j3, j4, j5⟩ hl => ⟨hlater _ _ _ _ _ j1 hl, hl.Fext _ j2, hl.Fext _ j3, (hl.same _ (Array.getElem?_eq_some_iff.1 j4).1).trans j4, (hl.same _ (Array.getElem?_eq_some_iff.1 j5).1).trans j5⟩)
      (fun k F W hj => hlt _ _ _ hj.1)
      (fun F W F' W' ⟨j, j0, j1, j2, j3, j4, j5⟩ hl => ⟨j, j0, hlaterx _ _ _ _ _ j1 hl, hl.Fext _ j2, hl.Fext _ j3, (hl.same _ (Array.getElem?_eq_some_iff.1 j4).1).trans j4, (hl.same _ (Array.getElem?_eq_some_iff.1 j5).1).trans j5⟩)
      (fun F W ⟨j, _, hj, _⟩ => hltx _ _ _ hj)
      ?_ _ W1 (fun b hb => .inl hb) (Keeps.of_blocks fun b hb => hold b (hF b hb)) ⟨hI1, .inr (.inl rfl), .inr (.inr rfl), hL1, hK1⟩).mono ?_
    · -- one round
      rintro k F2 W cs hk ⟨hi, hf1, hf2, hl, hd⟩ hel
      have hy := run_yield (P := P) (args := cs) hl (by rw [hre]; exact hsz _ _ _ _ hel)
      refine ⟨(rec .ready none).fn, _, (rec .ready none).assign, (rec .ready none).body, hy, ?_⟩
      rw [hre]
      have hr := hround (rec .ready none) { rec .ready none with state := .busy } k F2 W cs hk hi hel hf1 hf2 hl hd
      refine roundIn_of_wpIn (F := Fence.wide) (n := 0) trivial (wpIn_mono hr ?_)
      have left : ∀ (j : Jp) (w3 : World), j ≠ .go → w3.heap[w.heap.size + 1]? = some (.loop { rec .ready none with state := .busy }) → ∀ F', (∀ b, F2 b → F' b) → Keeps F2 W w3 → Ix j F' w3 →
          ∃ v w', (Instr.endRound (w.heap.size + 1) (some j.code)).run P w3 = .ok v w' ∧ ∃ F'', (∀ b, F2 b → F'' b) ∧ Keeps F2 W w' ∧ ((Ending.returned v = .returned (.bool true) ∧ (I (k + 1) F'' w' ∧ F'' w.heap.size ∧ F'' (w.heap.size + 1) ∧ w'.heap[w.heap.size + 1]? = some (.loop (rec .ready none)) ∧ w'.heap[w.heap.size]? = some (.deferred (some [])))) ∨
            (Ending.returned v = .returned (.bool false) ∧ ∃ j, j ≠ Jp.go ∧ Ix j F'' w' ∧ F'' w.heap.size ∧ F'' (w.heap.size + 1) ∧ w'.heap[w.heap.size + 1]? = some (.loop (rec .done (some j.code))) ∧ w'.heap[w.heap.size]? = some (.deferred (some [])))) := by
        intro j w3 hj p1 F' p2 p3 p4
        have he := run_endRound (P := P) (some j.code) p1
        have hdm := p3.mark _ _ hf1 hd
        refine ⟨_, _, he, F', p2, p3.trans (Keeps.record _ p1) p2, .inr ⟨rfl, j, hj, hrecx _ _ _ _ _ _ p4 (by omega) p1, p2 _ hf1, p2 _ hf2, ?_, ?_⟩⟩
        · rw [World.putObj_heap_same (Array.getElem?_eq_some_iff.1 p1).1, hre]; rfl
        · rw [World.putObj_heap_other hne]; exact hdm
      intro e a1 w1 hq
      cases e with
      | normal =>
        obtain ⟨q1, q2⟩ := hq
        rw [hre] at left
        refine ⟨_, run_beginRound q1 (by rw [hre]), wpIn_mono q2 ?_⟩
        intro e2 a2 w3 hq2
        cases e2 with
        | normal =>
          obtain ⟨p1, F', p2, p3, p4⟩ := hq2
          have he := run_endRound (P := P) none p1
          have hdm := p3.mark _ _ hf1 hd
          refine ⟨_, _, he, F', p2, p3.trans (Keeps.record _ p1) p2, .inl ⟨rfl, hrec _ _ _ _ _ _ p4 (by omega) p1, p2 _ hf1, p2 _ hf2, ?_, ?_⟩⟩
          · rw [World.putObj_heap_same (Array.getElem?_eq_some_iff.1 p1).1, hre]; rfl
          · rw [World.putObj_heap_other hne]; exact hdm
        | exit id => obtain ⟨p1, F', p2, p3, p4⟩ := hq2; exact left (.exit id) w3 (by simp) (by rw [hre] at p1; exact p1) F' p2 p3 p4
        | ret => obtain ⟨p1, F', p2, p3, p4⟩ := hq2; exact left .ret w3 (by simp) (by rw [hre] at p1; exact p1) F' p2 p3 p4
        | _ => exact hq2.elim
      | _ => exact hq.elim
    · -- behind it
      rintro e W2 ⟨⟨v, rfl⟩, F', ⟨hi, hf1, hf2, hl, hd⟩ | ⟨j, hj, hi, hf1, hf2, hl, hd⟩⟩
      · have he := run_endLoop (P := P) hl (by rw [hre]; simp)
        refine ⟨none, _, by rw [hre] at he; exact he, ?_⟩
        exact hdone F' _ (hrec _ _ _ _ _ _ hi (by omega) hl) hf1 (by rw [World.putObj_heap_other hne]; exact hd)
      · have he := run_endLoop (P := P) hl (by rw [hre]; simp)
        refine ⟨some j.code, _, by rw [hre] at he; exact he, ?_⟩
        have hq := hdonex j F' _ hj (hrecx _ _ _ _ _ (.loop { rec .done (some j.code) with state := .exhausted }) hi (by omega) hl) hf1 (by rw [World.putObj_heap_other hne]; exact hd)
        rw [hre] at hq
        cases j with
        | go => exact absurd rfl hj
        | exit id => exact wpIn_exit hq
        | ret => exact wpIn_ret hq
/-! ### states on whose heap nothing lies -/
theorem Post.later {E : Eff} {F : Nat → Prop} {w : World} {v' : Value} {β' : Nat → Option Value} {F' : Nat → Prop} {w' : World} (p : Post [] 0 E noβ F w v' β' F' w') (hE : E.hw = []) : Later F w F' w' :=
  ⟨p.Fext, p.Flt, fun b hb => by
    rcases p.Fnew b hb with h | h | ⟨_, _, h, _⟩
    · exact .inl h
    · exact .inr h
    · rw [hE] at h; simp at h, fun b hb => p.frame b hb (by rw [hE]; simp), p.os, p.tape, p.output, p.size⟩
theorem RS.later {md : Bool} {st : S} {β : Nat → Option Value} {F F' : Nat → Prop} {a : Act} {w W : World} (h : RS (callCtxM md [] 0 noβ F W) st β F' a w) : Later F W F' w := by
  have r := h.rel
  have hM : ∀ b, ¬ (callCtxM md [] 0 noβ F W).M b := fun b ⟨p, hp, _⟩ => by simp at hp
  exact ⟨r.F0F, r.Flt, fun b hb => by
    rcases r.Fbnd b hb with h | h | h
    · exact .inl h
    · exact .inr h
    · exact absurd h (hM b), fun b hb => r.frame b hb (hM b), r.os, r.tape, r.output, r.size⟩
/-- What is known of clean temporaries, in a later world, as where a walk begins. -/
theorem RS.rebase {c : Ctx} {st : S} {β : Nat → Option Value} {F F' : Nat → Prop} {a : Act} {w W' : World} (h : RS c st β F a w) (hm : c.md = false) (hF : ∀ b, F b → F' b) (hK : Keeps F w W') (hlt : ∀ b, F' b → b < W'.heap.size) {env' : Env} (he : ∀ t g x, lk env' t = some (g, x) → g = none ∧ Clean x ∧ lk st.env t = some (none, x)) :
    RS (callCtxM false [] 0 noβ F' W') ⟨env', [], [], 0, st.nt⟩ noβ F' a W' := by
  have r := h.rel
  refine ⟨⟨fun t g x hx => ?_, fun id ob hx => by simp [lk] at hx, fun id ob v b hx => by simp [lk] at hx, fun id id' ob ob' v v' b hx => by simp [lk] at hx, hlt, fun b hb => .inl hb, fun b hb => hb, trivial, fun id v hv => (by cases hv), rfl, rfl, rfl, Nat.le_refl _, fun _ _ _ => rfl, ?_, fun id x hx => ?_, fun id x hid => (by cases hid), fun id hid => (by cases hid)⟩, h.nt, fun t g x hx => ?_⟩
  · obtain ⟨rfl, hc, hl⟩ := he t g x hx
    obtain ⟨v, h1, h2⟩ := r.env t none x hl
    exact ⟨v, h1, (Keeps.vr h2 (fun _ _ h => h) hF hK).clean hc⟩
  · rw [r.defers.none hm]; exact Marks.nil
  · have hx : (if id < 0 then noβ id else none) = some x := hx
    simp at hx
  · obtain ⟨hg, _⟩ := he t _ x hx
    cases hg
/-- A value is put. -/
theorem RS.val {c : Ctx} {env : Env} {nt : Nat} {F : Nat → Prop} {a : Act} {W : World} (h : RS (callCtxM false [] 0 noβ F W) ⟨env, [], [], 0, nt⟩ noβ F a W) {d : Nat} {v : Value} {x : AV} (hd : d < nt) (hv : VR noβ F W v x) :
    RS (callCtxM false [] 0 noβ F W) ⟨(d, none, x) :: env.filter (fun p => !Nat.beq p.1 d), [], [], 0, nt⟩ noβ F (a.put (some d) v) W := by
  have r := h.rel
  have hnt : nt = a.tmps.size := h.nt
  have hlk : ∀ (l : Env) t, lk (l.filter (fun p => !Nat.beq p.1 d)) t = if t = d then none else lk l t := by
    intro l t
    induction l with
    | nil => simp [lk]
    | cons p l ih =>
      obtain ⟨i, y⟩ := p
      by_cases hi : i = d
      · subst hi
        rw [List.filter_cons_of_neg (by simp [Nat.beq_refl]), ih, lk_cons]
        by_cases ht : t = i
        · rw [if_pos ht, if_pos ht]
        · rw [if_neg ht, if_neg ht, if_neg ht]
      · have hb : Nat.beq i d = false := by
          cases hb : Nat.beq i d with
          | false => rfl
          | true => exact absurd (Nat.eq_of_beq_eq_true hb) hi
        rw [List.filter_cons_of_pos (by simp [hb]), lk_cons, lk_cons, ih]
        by_cases ht : t = i
        · rw [if_pos ht, if_pos ht, if_neg (fun e => hi (ht ▸ e))]
        · rw [if_neg ht, if_neg ht]
  refine ⟨⟨fun t g x' hx => ?_, r.heap, r.own, r.sep, r.Flt, r.Fbnd, r.F0F, r.cls, r.dom, r.os, r.tape, r.output, r.size, r.frame, by rw [put_defers]; exact r.defers, r.Bext, r.Blow, r.n0δ⟩, by simp [Act.put]; exact hnt, fun t g x' hx => ?_⟩
  · rw [lk_cons] at hx
    split at hx
    · rename_i ht
      injection hx with hx
      injection hx with h1 h2
      subst h1; subst h2; subst ht
      exact ⟨v, by have hd' : t < a.tmps.size := by omega
                   simp [Act.put, hd'], hv⟩
    · rename_i ht
      rw [hlk, if_neg ht] at hx
      have he := r.env t g x' hx
      have hne : (a.put (some d) v).tmps[t]? = a.tmps[t]? := by simp [Act.put, Array.getElem?_setIfInBounds_ne (Ne.symm ht)]
      cases g with
      | none => obtain ⟨u, h1, h2⟩ := he; exact ⟨u, hne.trans h1, h2⟩
      | some g => exact absurd (h.gds t g x' hx) (by simp)
  · rw [lk_cons] at hx
    split at hx
    · injection hx with hx; injection hx with h1 _; cases h1
    · rename_i ht
      rw [hlk, if_neg ht] at hx
      exact absurd (h.gds t g x' hx) (by simp)
section
variable {P : Program} {tb : Tb} {orc : Orc} {c : Ctx}
/-- The first operations of a region, the others behind them. -/
theorem seqT_then {rn : Option Nat} (htb : TbOk P tb) (horc : OrcOk P orc c.C) {m : Bool} {ops : Array Oper} {Q : Exit → Act → World → Prop} {R : S → Prop} {l2 : List Oper}
    (hR : ∀ st' β' F' a' w', RS c st' β' F' a' w' → R st' → wpListIn (FrR rn) 0 P ops Q l2 a' w') : ∀ {l : List Oper} {st : S} {β : Nat → Option Value} {F : Nat → Prop} {a : Act} {w : World}, RS c st β F a w →
    (seqT O.real tb orc m (ops.toList.map (·.dst)) l st).sat R → wpListIn (FrR rn) 0 P ops Q (l ++ l2) a w
  | [], st, β, F, a, w, h, hs => hR _ _ _ _ _ h hs
  | x :: l, st, β, F, a, w, h, hs => by
    have hs' := bind_sat hs
    refine wpListIn_step fun K hK => ?_
    exact stepT_ok htb horc h (fun st' β' F' a' w' h' hr => hK _ _ (seqT_then htb horc hR h' hr)) hs'
end
end Go.Qv
/- A loop over a function, round by round, each by the evaluator. No condition. -/
set_option linter.unusedVariables false
set_option linter.unusedSimpArgs false
namespace Go.Qv
open Go.RowKit
section
variable {c : Ctx} {st : S} {β : Nat → Option Value} {F : Nat → Prop} {a : Act} {w : World}
/-- The world grows by what nobody names. -/
theorem RS.more (h : RS c st β F a w) (hC : c.C = fun _ => True) {F' : Nat → Prop} {W : World} (l : Later F w F' W) : RS c st β F' a W := by
  have r := h.rel
  have keepF : ∀ b, F b → W.heap[b]? = w.heap[b]? := fun b hb => l.same b (r.Flt b hb)
  have keep : ∀ (id : Nat) (v : Value) (b : Nat), β id = some v → blkOf v = some b → (∃ ob, lk st.heap id = some ob) → W.heap[b]? = w.heap[b]? := fun id v b hv hb ⟨ob, ho⟩ => l.same b ((r.heap id ob ho).lt hv hb)
  have mono : ∀ {v x}, VR β F w v x → VR β F' W v x := fun h => h.mono (fun _ _ h => h) l.Fext keepF
  refine ⟨⟨fun t g x hx => ?_, fun id ob hx => (r.heap id ob hx).mono (fun _ _ h => h) l.Fext keepF (fun x b hv hb => keep id x b hv hb ⟨ob, hx⟩), fun id ob v b ho hv hb => ?_, r.sep, l.Flt, fun b hb => ?_, fun b hb => l.Fext b (r.F0F b hb), by rw [hC]; trivial, r.dom, l.os.trans r.os, l.tape.trans r.tape, l.output.trans r.output, Nat.le_trans r.size l.size, fun b hb hM => (l.same b (Nat.lt_of_lt_of_le hb r.size)).trans (r.frame b hb hM), r.defers.mono l.Fext keepF, r.Bext, r.Blow, r.n0δ⟩, h.nt, h.gds⟩
  · have he := r.env t g x hx
    cases g with
    | none => obtain ⟨v, h1, h2⟩ := he; exact ⟨v, h1, mono h2⟩
    | some g => obtain ⟨d, b⟩ := g; exact ⟨fun hh => by obtain ⟨v, h1, h2⟩ := he.1 hh; exact ⟨v, h1, mono h2⟩, he.2⟩
  · obtain ⟨o1, o2⟩ := r.own id ob v b ho hv hb
    refine ⟨fun hf => ?_, o2⟩
    rcases l.Fnew b hf with h1 | h1
    · exact o1 h1
    · have := (r.heap id ob ho).lt hv hb; omega
  · rcases l.Fnew b hb with h1 | h1
    · exact r.Fbnd b h1
    · have := r.size; exact .inr (.inl (by omega))
theorem putLoop_cell {w : World} {l : Nat} {r : Loop} {o : Obj} (hl : w.heap[l]? = some (.loop r)) {A : Addr} {u : Value} (h : w.cell? A = some u) : (w.putObj l o).cell? A = some u := (Keeps.record (F := fun _ => True) o hl).cell A u trivial h
theorem putLoop_obj {w : World} {l : Nat} {r : Loop} {o' : Obj} (hl : w.heap[l]? = some (.loop r)) : ∀ (b : Nat) (o : Obj), w.heap[b]? = some o → (∀ x, o ≠ Obj.deferred x) → (∀ x, o ≠ Obj.loop x) → (w.putObj l o').heap[b]? = some o := fun b o hb _ hn => by
  have hne : b ≠ l := fun e => by rw [e, hl] at hb; injection hb with hb; exact hn _ hb.symm
  rw [World.putObj_heap_other hne]; exact hb
/-- A loop's record is written. -/
theorem RS.record (h : RS c st β F a w) (hC : c.C = fun _ => True) {l : Nat} {r : Loop} (o : Obj) (hl : w.heap[l]? = some (.loop r)) (h0 : c.w0.heap.size ≤ l) : RS c st β F a (w.putObj l o) := by
  have q := h.rel
  have hsize : (w.putObj l o).heap.size = w.heap.size := by simp [World.putObj]
  refine ⟨⟨fun t g x hx => ?_, fun id ob hx => (q.heap id ob hx).mono2 (fun A u hh => putLoop_cell hl hh) (putLoop_obj hl), q.own, q.sep, fun b hb => by rw [hsize]; exact q.Flt b hb, q.Fbnd, q.F0F, by rw [hC]; trivial, q.dom, q.os, q.tape, q.output, by rw [hsize]; exact q.size, fun b hb hM => ?_, ?_, q.Bext, q.Blow, q.n0δ⟩, h.nt, h.gds⟩
  · have he := q.env t g x hx
    cases g with
    | none => obtain ⟨v, h1, h2⟩ := he; exact ⟨v, h1, h2.mono2 fun A u hh => putLoop_cell hl hh⟩
    | some g => obtain ⟨d, b⟩ := g; exact ⟨fun hh => by obtain ⟨v, h1, h2⟩ := he.1 hh; exact ⟨v, h1, h2.mono2 fun A u hh => putLoop_cell hl hh⟩, he.2⟩
  · rw [World.putObj_heap_other (show b ≠ l by omega)]; exact q.frame b hb hM
  · obtain ⟨Ds, e1, e2, e3, e4⟩ := q.defers
    refine ⟨Ds, e1, e2, e3, fun D hD => ?_⟩
    obtain ⟨k1, k2, k3⟩ := e4 D hD
    have hne : D ≠ l := fun e => by rw [e, hl] at k3; cases k3
    exact ⟨k1, k2, by rw [World.putObj_heap_other hne]; exact k3⟩
/-- The same, within a round: where it began the record is as it is now. -/
theorem RS.record' {md : Bool} {hs : List (Nat × HObj)} {nx : Nat} {β0 : Nat → Option Value} {F0 : Nat → Prop} {W : World} (h : RS (callCtxM md hs nx β0 F0 W) st β F a w) {l : Nat} {r : Loop} (o : Obj) (hl : w.heap[l]? = some (.loop r)) : RS (callCtxM md hs nx β0 F0 (W.putObj l o)) st β F a (w.putObj l o) := by
  have q := h.rel
  have hsize : (w.putObj l o).heap.size = w.heap.size := by simp [World.putObj]
  have hsizeW : (W.putObj l o).heap.size = W.heap.size := by simp [World.putObj]
  refine ⟨⟨fun t g x hx => ?_, fun id ob hx => (q.heap id ob hx).mono2 (fun A u hh => putLoop_cell hl hh) (putLoop_obj hl), fun id ob v b h1 h2 h3 => ?_, q.sep, fun b hb => by rw [hsize]; exact q.Flt b hb, fun b hb => ?_, q.F0F, trivial, q.dom, q.os, q.tape, q.output, ?_, fun b hb hM => ?_, ?_, q.Bext, q.Blow, q.n0δ⟩, h.nt, h.gds⟩
  · have he := q.env t g x hx
    cases g with
    | none => obtain ⟨v, h1, h2⟩ := he; exact ⟨v, h1, h2.mono2 fun A u hh => putLoop_cell hl hh⟩
    | some g => obtain ⟨d, b⟩ := g; exact ⟨fun hh => by obtain ⟨v, h1, h2⟩ := he.1 hh; exact ⟨v, h1, h2.mono2 fun A u hh => putLoop_cell hl hh⟩, he.2⟩
  · have := q.own id ob v b h1 h2 h3
    exact ⟨this.1, by show (W.putObj l o).heap.size ≤ b ∨ _; rw [hsizeW]; exact this.2⟩
  · have := q.Fbnd b hb
    show _ ∨ (W.putObj l o).heap.size ≤ b ∨ _
    rw [hsizeW]; exact this
  · show (W.putObj l o).heap.size ≤ _; rw [hsizeW, hsize]; exact q.size
  · have hb' : b < W.heap.size := by rw [← hsizeW]; exact hb
    show _ = (W.putObj l o).heap[b]?
    by_cases e : b = l
    · subst e
      rw [World.putObj_heap_same (Array.getElem?_eq_some_iff.1 hl).1, World.putObj_heap_same hb']
    · rw [World.putObj_heap_other e, World.putObj_heap_other e]; exact q.frame b hb' hM
  · obtain ⟨Ds, e1, e2, e3, e4⟩ := q.defers
    refine ⟨Ds, e1, e2, e3, fun D hD => ?_⟩
    obtain ⟨k1, k2, k3⟩ := e4 D hD
    have hne : D ≠ l := fun e => by rw [e, hl] at k3; cases k3
    exact ⟨k1, by show (W.putObj l o).heap.size ≤ D; rw [hsizeW]; exact k2, by rw [World.putObj_heap_other hne]; exact k3⟩
theorem nodup_lk {l : List (Nat × HObj)} (h : nodupB (l.map (·.1)) = true) : ∀ p ∈ l, lk l p.1 = some p.2 := by
  have hd := nodupB_ok h
  clear h
  induction l with
  | nil => intro p hp; simp at hp
  | cons q l ih =>
    intro p hp
    obtain ⟨i, ob⟩ := q
    rw [lk_cons]
    simp only [List.map_cons, List.nodup_cons] at hd
    rcases List.mem_cons.1 hp with rfl | hp
    · rw [if_pos rfl]
    · have hm : p.1 ∈ l.map (·.1) := List.mem_map.2 ⟨p, hp, rfl⟩
      rw [if_neg (fun e => hd.1 (by rw [← e]; exact hm))]
      exact ih hd.2 p hp
theorem RS.pre (h : RS c st β F a w) (hnd : nodupB (st.heap.map (·.1)) = true) : Pre st.heap st.next β F w := by
  have r := h.rel
  have hl := nodup_lk hnd
  refine ⟨fun id h1 _ => ?_, r.Flt, fun p hp => ⟨r.heap _ _ (hl p hp), fun v b hv hb => (r.own _ _ v b (hl p hp) hv hb).1⟩, fun p hp q hq hne v v' b hv hv' hb hb' => r.sep _ _ _ _ v v' b (hl p hp) (hl q hq) hne hv hv' hb hb'⟩
  cases hb : β id with
  | none => rfl
  | some v => exact absurd (r.dom id v hb) (Nat.not_lt.2 h1)
/-- Where a round begins. -/
theorem RS.call (h : RS c st β F a w) {env' : Env} {tm' : Array Value} {nt' : Nat} (he : ∀ t g x, lk env' t = some (g, x) → g = none ∧ ∃ v, tm'[t]? = some v ∧ VR β F w v x) (hnt : nt' = tm'.size) :
    RS (callCtxM true st.heap st.next β F w) ⟨env', [], st.heap, st.next, nt'⟩ β F { tmps := tm', defers := [] } w := by
  have r := h.rel
  have hB : ∀ id x, β id = some x → id < st.next := fun id x hx => r.dom id x hx
  refine ⟨⟨fun t g x hx => ?_, r.heap, fun id ob v b ho hv hb => ⟨(r.own id ob v b ho hv hb).1, .inr ⟨(id, ob), lk_mem ho, v, hv, hb⟩⟩, r.sep, r.Flt, fun b hb => .inl hb, fun b hb => hb, trivial, r.dom, rfl, rfl, rfl, Nat.le_refl _, fun _ _ _ => rfl, Marks.nil, fun id x hx => ?_, fun id x hid hx => ?_, fun id hid => hid⟩, hnt, fun t g x hx => ?_⟩
  · obtain ⟨rfl, v, h1, h2⟩ := he t g x hx; exact ⟨v, h1, h2⟩
  · have hx : (if id < st.next then β id else none) = some x := hx
    split at hx
    · exact hx
    · cases hx
  · show (if id < st.next then β id else none) = some x
    rw [if_pos (hB id x hx)]; exact hx
  · obtain ⟨e, _⟩ := he t _ x hx; cases e
end
theorem map_mark_inj : ∀ {l r : List Nat}, l.map mark = r.map mark → l = r
  | [], [], _ => rfl
  | [], _ :: _, h => by simp at h
  | _ :: _, [], h => by simp at h
  | x :: l, y :: r, h => by
    simp only [List.map_cons, List.cons.injEq] at h
    have e : x = y := by have := h.1; unfold mark at this; injection this with h1; injection h1
    rw [e, map_mark_inj h.2]
/-! ### one round -/
def putPs : List (Nat × AV) → Env → Env
  | [], env => env
  | (t, x) :: l, env => (t, none, x) :: putPs l env
noncomputable def roundE (tb : Tb) (n0 : Nat) (tm : TS) (st : S) (j : Jp) (st2 : S) : T (List Lf × Jp) :=
  (fin tb st.next #[] st.heap st2).bind fun E => match Nat.ble E.new.length 64, matchS n0 tm (Qv.put st none none E) with | true, some r => .leaf (r, j) | _, _ => .stuck "form: round"
noncomputable def roundT (o : O) (tb : Tb) (orc : Orc) (asg body : Code) (n0 : Nat) (tm : TS) (ps : List (Nat × AV)) (st : S) : T (List Lf × Jp) :=
  (run o tb orc false [] 400 [.code asg] ⟨putPs ps st.env, [], st.heap, st.next, st.nt⟩).bind fun
    | .done st1 => (run o tb orc false [] 400 [.code body] st1).bind fun
      | .done st2 => roundE tb n0 tm st .go st2
      | .exit id st2 => roundE tb n0 tm st (.exit id) st2
      | .ret st2 => roundE tb n0 tm st .ret st2
      | _ => .stuck "body's end"
    | _ => .stuck "assignment's end"
/-- As it stands, not to be computed by the elaborator. -/
structure Sat {α : Type} (t : T α) (Q : α → Prop) : Prop where
  sat : t.sat Q
def ElV (els : Nat → List AV) : Nat → (Nat → Prop) → World → Array Value → Prop := fun k F W cs => cs.size = (els k).length ∧ ∀ (j : Nat) (v : Value) (x : AV), cs[j]? = some v → (els k)[j]? = some x → VR noβ F W v x
/-- What a function of a loop gives, by what it holds. -/
def EachOk (P : Program) (gf : FuncId) (ys : List AV) (N : Nat) (els : Nat → List AV) : Prop :=
  ∀ (F : Nat → Prop) (W : World) (cs : Array Value), (∀ b, F b → b < W.heap.size) → cs.size = ys.length → (∀ (j : Nat) (v : Value) (x : AV), cs[j]? = some v → ys[j]? = some x → VR noβ F W v x) → IterOk P gf cs N (ElV els) F W
def envClean (env : Env) : Bool := env.all fun p => match p.2.1 with | none => true | some _ => false
theorem lk_envClean {env : Env} (h : envClean env = true) : ∀ t g x, lk env t = some (g, x) → g = none := by
  intro t g x hx
  have := List.all_eq_true.1 h _ (lk_mem hx)
  simp only at this
  cases g with
  | none => rfl
  | some g => simp at this
section
variable {P : Program} {tb : Tb} {orc : Orc} {fns : FuncId → Option Func}
theorem each_ok (hm : P.follows .mixedOrders = true) (htb : TbOk P tb) (horc : OrcOk P orc (fun _ => True)) (hfn : FnsOk P fns) {c : Ctx} (hC : c.C = fun _ => True) (hB : ∀ id, c.n0 ≤ id → c.B0 id = none) (hmd : c.md = true)
    {g : Operand} {p0 p1 : Tmp} (hp : p0 ≠ p1) {asg body : Code} {tm : TS} {ρs : Nat → List Lf} {N : Nat} {els : Nat → List AV} (hels : ∀ k, (els k).length = 2) {gf : FuncId} {fng : Func} (hgf : fns gf = some fng) {ys : List AV}
    (hit : EachOk P gf ys N els)
    (hnd : ∀ k, nodupB ((tm.inst (ρs k)).heap.map (·.1)) = true) (hec : ∀ k, envClean (tm.inst (ρs k)).env = true) (hlt : ∀ k, ((tm.inst (ρs k)).heap.all fun p => Nat.blt p.1 (tm.inst (ρs k)).next) = true)
    (hnt : p0 < tm.nt ∧ p1 < tm.nt)
    {X : List Lf → Jp → Prop}
    {M : Nat} (hround : ∀ k x0 x1, k < N → k ≤ M → els k = [x0, x1] → Sat (roundT O.real tb orc asg body c.n0 tm [(p1, x1), (p0, x0)] (tm.inst (ρs k))) (fun p => (k < M ∧ p.2 = .go ∧ p.1 = ρs (k + 1)) ∨ (p.2 ≠ .go ∧ X p.1 p.2)))
    {Q : Exit → Act → World → Prop} (hQ : N ≤ M → ∀ β F a w, RS c (tm.inst (ρs N)) β F a w → Q .normal a w) (hX : ∀ r j, X r j → ∀ β F a w, RS c (tm.inst r) β F a w → Q j.ex a w)
    {β : Nat → Option Value} {F : Nat → Prop} {a : Act} {w : World} (h : RS c (tm.inst (ρs 0)) β F a w) (hvg : VR noβ F w (a.eval g) (.fn gf ys)) : wpR none P (.rangeFunc g #[p0, p1] asg body) Q a w := by
  obtain ⟨cs, hcs, hcl1, hcl2⟩ := hvg.fn_inv
  have hcsv : ∀ (j : Nat) (v : Value) (x : AV), cs[j]? = some v → ys[j]? = some x → VR noβ F w v x := hcl2
  obtain ⟨hf, hname, hbody⟩ := hfn gf fng hgf
  obtain ⟨bd, hbd⟩ := Option.isSome_iff_exists.1 hbody
  have r0 := h.rel
  refine range_law (gf := gf) (lb := cs) (N := N) (El := ElV els) (F := F) hcs (fun args w' => by simp [callFunc, Sem.run_bind, hf, hname, hbd]) (hit F w cs r0.Flt hcl1 hcsv) (fun k F W cs hE => by rw [hE.1, hels]; rfl) r0.Flt
    (fun k F' W => k ≤ M ∧ ∃ β', RS c (tm.inst (ρs k)) β' F' a W) (fun k F' W F'' W' ⟨hM, β', h1⟩ hl => ⟨hM, β', h1.more hC hl⟩) (fun k F' W ⟨_, β', h1⟩ => h1.rel.Flt) (fun k F' W l r o ⟨hM, β', h1⟩ hl hr => ⟨hM, β', h1.record hC o hr (Nat.le_trans r0.size hl)⟩)
    (fun j F' W => ∃ r, X r j ∧ ∃ β', RS c (tm.inst r) β' F' a W) (fun j F' W F'' W' ⟨r, hr, β', h1⟩ hl => ⟨r, hr, β', h1.more hC hl⟩) (fun j F' W ⟨r, hr, β', h1⟩ => h1.rel.Flt) (fun j F' W l r o ⟨ρ, hr, β', h1⟩ hl hro => ⟨ρ, hr, β', h1.record hC o hro (Nat.le_trans r0.size hl)⟩) ?_ ?_ ?_ ?_
  · -- the record and the mark are made
    intro W hW
    refine ⟨Nat.zero_le _, β, h.more hC ⟨fun b hb => .inl hb, ?_, ?_, ?_, ?_, ?_, ?_, ?_⟩⟩
    · have hs : W.heap.size = w.heap.size + 2 := by rw [hW, World.size_alloc, World.size_alloc]
      rintro b (hb | rfl | rfl)
      · have := r0.Flt b hb; omega
      · omega
      · omega
    · rintro b (hb | rfl | rfl)
      · exact .inl hb
      · exact .inr (Nat.le_refl _)
      · exact .inr (Nat.le_succ _)
    · intro b hb
      rw [hW]
      exact (Below.heap_alloc _ _ _ (by simp; omega)).trans (Below.heap_alloc _ _ _ hb)
    · rw [hW]; rfl
    · rw [hW]; rfl
    · rw [hW]; rfl
    · rw [hW, World.size_alloc, World.size_alloc]; omega
  · -- one round
    rintro rd bz k F2 W vs hk ⟨hM, β', h1⟩ ⟨hvs1, hvs2⟩ hFD hFl hl hd
    obtain ⟨x0, x1, hx⟩ : ∃ x0 x1, els k = [x0, x1] := by
      have := hels k
      match hE : els k with
      | [x0, x1] => exact ⟨x0, x1, rfl⟩
      | [] => rw [hE] at this; simp at this
      | [_] => rw [hE] at this; simp at this
      | _ :: _ :: _ :: _ => rw [hE] at this; simp at this
    rw [hx] at hvs1 hvs2
    obtain ⟨v0, v1, rfl⟩ : ∃ v0 v1, vs = #[v0, v1] := by
      match vs, hvs1 with
      | ⟨[v0, v1]⟩, _ => exact ⟨v0, v1, rfl⟩
      | ⟨[]⟩, h => simp at h
      | ⟨[_]⟩, h => simp at h
      | ⟨_ :: _ :: _ :: _⟩, h => simp at h
    have hv0 := hvs2 0 v0 x0 rfl rfl
    have hv1 := hvs2 1 v1 x1 rfl rfl
    generalize hst : tm.inst (ρs k) = st at h1
    have r1 := h1.rel
    have hst' : st.nt = tm.nt := by rw [← hst]; rfl
    have hround := (hround k x0 x1 hk hM hx).sat
    rw [hst] at hround
    have hnd := hnd k
    have hec := hec k
    have hlt := hlt k
    rw [hst] at hnd hec hlt
    have hlt : ∀ p ∈ st.heap, p.1 < st.next := fun p hp => blt_true (List.all_eq_true.1 hlt p hp)
    have hsz : a.tmps.size = st.nt := h1.nt.symm
    have hfold : (#[p0, p1].zip #[v0, v1]).foldl (fun t (p : Tmp × Value) => t.setIfInBounds p.1 p.2) a.tmps = (a.tmps.setIfInBounds p0 v0).setIfInBounds p1 v1 := by
      have hz : #[p0, p1].zip #[v0, v1] = #[(p0, v0), (p1, v1)] := by apply Array.ext'; simp
      rw [hz]; rfl
    have hl0 : p0 < a.tmps.size := by rw [hsz, hst']; exact hnt.1
    have hl1' : p1 < a.tmps.size := by rw [hsz, hst']; exact hnt.2
    have mono : ∀ {v x}, VR noβ F2 W v x → VR β' F2 W v x := fun h => h.mono (fun id u hu => by cases hu) (fun _ h => h) (fun _ _ => rfl)
    have hcall : RS (callCtxM true st.heap st.next β' F2 W) ⟨putPs [(p1, x1), (p0, x0)] st.env, [], st.heap, st.next, st.nt⟩ β' F2 { tmps := (a.tmps.setIfInBounds p0 v0).setIfInBounds p1 v1, defers := [] } W := by
      refine h1.call (fun t g x hx => ?_) (by simp [hsz])
      simp only [putPs] at hx
      rw [lk_cons] at hx
      split at hx
      · rename_i e
        injection hx with hx
        injection hx with e1 e2
        subst e1; subst e2; subst e
        exact ⟨rfl, v1, by rw [Array.getElem?_setIfInBounds_self_of_lt (by rw [Array.size_setIfInBounds]; exact hl1')], mono hv1⟩
      · rename_i hn1
        rw [lk_cons] at hx
        split at hx
        · rename_i e
          injection hx with hx
          injection hx with e1 e2
          subst e1; subst e2; subst e
          exact ⟨rfl, v0, by rw [Array.getElem?_setIfInBounds_ne (Ne.symm hn1), Array.getElem?_setIfInBounds_self_of_lt hl0], mono hv0⟩
        · rename_i hn0
          have hg := lk_envClean hec t g x hx
          subst hg
          obtain ⟨u, g1, g2⟩ := r1.env t none x hx
          exact ⟨rfl, u, by rw [Array.getElem?_setIfInBounds_ne (Ne.symm hn1), Array.getElem?_setIfInBounds_ne (Ne.symm hn0)]; exact g1, g2⟩
    rw [hfold]
    have hMl : ¬ (callCtxM true st.heap st.next β' F2 W).M (w.heap.size + 1) := by
      rintro ⟨p, hp, v, q1, q2⟩
      exact (r1.own _ _ v _ (nodup_lk hnd p hp) q1 q2).1 hFl
    have hlW : w.heap.size + 1 < W.heap.size := (Array.getElem?_eq_some_iff.1 hl).1
    have hw0l : c.w0.heap.size ≤ w.heap.size + 1 := by have := r0.size; omega
    unfold roundT at hround
    refine run_ok (rn := some (w.heap.size + 1)) (H := fun _ _ _ => False) (Q := Exit.then _ (fun _ _ _ => False)) hm htb horc 400 [.code asg] _ (sat_mono (fun s hs => ?_) (bind_sat hround)) _ _ _ _ hcall
    cases s with
    | done st1 =>
      intro β1 F1 a1 w1 h2
      have hl1 : w1.heap[w.heap.size + 1]? = some (.loop rd) := (h2.rel.frame _ hlW hMl).trans hl
      refine ⟨hl1, ?_⟩
      have h3 := h2.record' (.loop bz) hl1
      have ends : ∀ (j : Jp) (st2 : S), (roundE tb c.n0 tm st j st2).sat (fun p => (k < M ∧ p.2 = .go ∧ p.1 = ρs (k + 1)) ∨ (p.2 ≠ .go ∧ X p.1 p.2)) → ∀ β2 F2' a2 w2, RS (callCtxM true st.heap st.next β' F2 (W.putObj (w.heap.size + 1) (.loop bz))) st2 β2 F2' a2 w2 →
          RoundEnd (w.heap.size + 1) w.heap.size (.loop bz) F2 W (fun F' W => k + 1 ≤ M ∧ ∃ β', RS c (tm.inst (ρs (k + 1))) β' F' a W) (fun j F' W => ∃ r, X r j ∧ ∃ β', RS c (tm.inst r) β' F' a W) j.ex a2 w2 := by
        intro j st2 hs β2 F2' a2 w2 h4
        have hout := h1.record hC (.loop bz) hl hw0l
        have hpre := hout.pre hnd
        unfold roundE at hs
        have hfin := fin_ok (fn := { fng with results := #[] }) (R := fun _ w' => w'.heap[w.heap.size + 1]? = some (.loop bz) ∧ ∃ F', (∀ b, F2 b → F' b) ∧ Keeps F2 W w' ∧ ∃ r, ((k < M ∧ j = .go ∧ r = ρs (k + 1)) ∨ (j ≠ .go ∧ X r j)) ∧ ∃ β', RS c (tm.inst r) β' F' a w') htb hpre hlt h4 (sat_mono (fun E hE v' β3 F3 w3 p => by
          split at hE
          · rename_i r h8 hmt
            have h5 := hout.put (nodup_lk hnd) p (Nat.le_of_ble_eq_true h8) (dst := none) (g := none) rfl (by simp) rfl
            obtain ⟨β4, h6⟩ := matchS_ok hB h5 hmt
            have keepF : ∀ b, F2 b → w3.heap[b]? = (W.putObj (w.heap.size + 1) (.loop bz)).heap[b]? := fun b hb => p.frame b (hpre.hF b hb) (fun q hq x hx hbx => by
              obtain ⟨ob, hob⟩ := p.known q hq
              exact (hpre.hh _ hob).2 x b hx hbx hb)
            refine ⟨?_, F3, p.Fext, ?_, r, hE, β4, h6⟩
            · rw [keepF _ hFl, World.putObj_heap_same hlW]
            · exact (Keeps.record _ hl).trans (Keeps.of_blocks keepF) (fun _ h => h)
          · exact hE.elim) (bind_sat hs))
        obtain ⟨_, _, g1, F', g2, g3, r, g4, β4, g5⟩ := hfin
        cases j with
        | go =>
          rcases g4 with ⟨hkM, _, rfl⟩ | ⟨g4, _⟩
          · exact ⟨g1, F', g2, g3, hkM, β4, g5⟩
          · exact absurd rfl g4
        | exit id =>
          rcases g4 with ⟨_, g4, _⟩ | ⟨_, g4⟩
          · cases g4
          · exact ⟨g1, F', g2, g3, r, g4, β4, g5⟩
        | ret =>
          rcases g4 with ⟨_, g4, _⟩ | ⟨_, g4⟩
          · cases g4
          · exact ⟨g1, F', g2, g3, r, g4, β4, g5⟩
      refine run_ok (rn := some (w.heap.size + 1)) (H := fun _ _ _ => False) (Q := RoundEnd _ _ _ _ _ _ _) hm htb horc 400 [.code body] st1 (sat_mono (fun s hs => ?_) (bind_sat hs)) _ _ _ _ h3
      cases s with
      | done st2 => exact fun β2 F2' a2 w2 h4 => ends .go st2 hs β2 F2' a2 w2 h4
      | exit id st2 => exact fun β2 F2' a2 w2 h4 => ends (.exit id) st2 hs β2 F2' a2 w2 h4
      | ret st2 => exact fun β2 F2' a2 w2 h4 => ends .ret st2 hs β2 F2' a2 w2 h4
      | _ => exact hs.elim
    | _ => exact hs.elim
  all_goals
    have behind : ∀ (r : List Lf) F' W, (∃ β', RS c (tm.inst r) β' F' a W) → F' w.heap.size → W.heap[w.heap.size]? = some (.deferred (some [])) → ∃ β', RS c (tm.inst r) β' F' { a with defers := mark w.heap.size :: a.defers } W := by
      rintro r F' W ⟨β', h1⟩ hFD hD
      have r1 := h1.rel
      refine ⟨β', ⟨⟨fun t g x hx => r1.env t g x hx, r1.heap, r1.own, r1.sep, r1.Flt, r1.Fbnd, r1.F0F, r1.cls, r1.dom, r1.os, r1.tape, r1.output, r1.size, r1.frame, ?_, r1.Bext, r1.Blow, r1.n0δ⟩, h1.nt, h1.gds⟩⟩
      obtain ⟨Ds, e1, e2, e3, e4⟩ := r1.defers
      obtain ⟨Ds', f1, f2, f3, f4⟩ := r0.defers
      have hDD : w.heap.size ∉ Ds := by
        intro hm'
        have e : Ds = Ds' := by
          have := e1.symm.trans f1
          exact map_mark_inj this
        rw [e] at hm'
        obtain ⟨_, _, k3⟩ := f4 _ hm'
        have := (Array.getElem?_eq_some_iff.1 k3).1
        omega
      refine ⟨w.heap.size :: Ds, ?_, List.nodup_cons.2 ⟨hDD, e2⟩, fun hf => absurd (hmd.symm.trans hf) (by simp), fun D hD' => ?_⟩
      · simp only [List.map_cons]; rw [← e1]
      · rcases List.mem_cons.1 hD' with rfl | hD'
        · exact ⟨hFD, r0.size, hD⟩
        · exact e4 D hD'
  · intro F' W ⟨hM, h1⟩ hFD hD
    obtain ⟨β', h2⟩ := behind _ F' W h1 hFD hD
    exact hQ hM β' F' _ W h2
  · intro j F' W hj ⟨r, hr, h1⟩ hFD hD
    obtain ⟨β', h2⟩ := behind r F' W h1 hFD hD
    exact hX r j hr β' F' _ W h2
end
/-! ### a loop by what it does -/
def findRF (id : Nat) : Code → Option Code
  | .seq a b => (match findRF id a with | some l => some l | none => findRF id b)
  | .cond _ a b => (match findRF id a with | some l => some l | none => findRF id b)
  | .block _ a => findRF id a
  | .loop a => findRF id a
  | .rangeFunc g ps asg b => (match cid asg with
    | some n => (match Nat.beq n id with | true => some (.rangeFunc g ps asg b) | false => findRF id b)
    | none => findRF id b)
  | _ => none
def rfAt (fn : Func) (id : Nat) : Code := match findRF id (bodyOf fn) with | some c => c | none => .skip
def rfId : Code → Nat
  | .rangeFunc _ _ asg _ => (match cid asg with | some n => n | none => 0)
  | _ => 0
def rfF : Code → Operand | .rangeFunc g _ _ _ => g | _ => .const .nilFunc
def rfA : Code → Code | .rangeFunc _ _ asg _ => asg | _ => .skip
def rfB : Code → Code | .rangeFunc _ _ _ b => b | _ => .skip
def cleanF : AV → Bool
  | .fn _ l => l.all cleanA
  | _ => false
theorem cleanF_ok {y : AV} (h : cleanF y = true) : Clean y := by
  cases y with
  | fn f l => exact .fn _ _ (fun x hx => cleanA_ok (List.all_eq_true.1 h x hx))
  | _ => cases h
noncomputable def lpOf (nx : Nat) (fn : Func) (id : Nat) (tm : TS) (spec : AV → List Lf → T (List Lf × Jp)) (r : LP) : LP := fun cd st => match Nat.beq (rfId cd) id with
  | true => .req ⟨cd = rfAt fn id, Classical.propDecidable _⟩ (match val st.env [] (rfF cd), matchS nx tm st with
    | some y, some ρ => (match cleanF y with | true => (spec y ρ).bind fun p => .leaf (tm.inst p.1, p.2) | false => .stuck "rfunc: what it ranges over")
    | _, _ => .stuck "form: rfunc")
  | false => r cd st
theorem lpOf_ok {P : Program} {rn : Option Nat} {nx : Nat} {fn : Func} {id : Nat} {tm : TS} {spec : AV → List Lf → T (List Lf × Jp)} {r : LP} (hr : LpOk rn P nx r)
    (h : ∀ (c : Ctx), c.C = (fun _ => True) → (∀ id, c.n0 ≤ id → c.B0 id = none) → c.n0 = nx → c.md = true → ∀ (y : AV) (ρ : List Lf) (K : List Lf × Jp → Prop), (spec y ρ).sat K → ∀ (Q : Exit → Act → World → Prop), (∀ ρ' j, K (ρ', j) → ∀ β F a w, RS c (tm.inst ρ') β F a w → Q j.ex a w) → ∀ β F a w, RS c (tm.inst ρ) β F a w → VR noβ F w (a.eval (rfF (rfAt fn id))) y → wpR rn P (rfAt fn id) Q a w) :
    LpOk rn P nx (lpOf nx fn id tm spec r) := by
  intro c hC hB hn hmd cd st K Q hs hQ β F a w hrs
  unfold lpOf at hs
  split at hs
  · obtain ⟨e, hs⟩ := hs
    have e : cd = rfAt fn id := e
    subst e
    split at hs
    · rename_i y ρ hy hρ
      split at hs
      · rename_i hcl
        obtain ⟨β', h1⟩ := matchS_ok hB hrs (by rw [hn]; exact hρ)
        have hv := val_ok (hrs.he (T := fun _ => True)) (ch := []) (by simp) (fun _ _ => trivial) hy
        exact h c hC hB hn hmd y ρ _ (bind_sat hs) Q (fun ρ' j hρ' => hQ _ _ hρ') β' F a w h1 (hv.clean (cleanF_ok hcl))
      · exact hs.elim
    · exact hs.elim
  · exact hr c hC hB hn hmd cd st K Q hs hQ β F a w hrs
section
variable {P : Program} {F : Nat → Prop} {w : World}
/-- A function's walk in pieces, over loops that are known, as its contract. -/
theorem flow_pureL {lp : LP} (hlp : LpOk none P 0 lp) {tb : Tb} {orc : Orc} {fns : FuncId → Option Func} (hm : P.follows .mixedOrders = true) (htb : TbOk P tb) (horc : OrcOk P orc (fun _ => True)) (hfn : FnsOk P fns) {f : FuncId} {fn : Func} (hf : fns f = some fn)
    {cuts : List Cut} (hok : cutsOk cuts = true) {e0 : Nat} {c0 : Cut} (hc0 : findCut e0 cuts = some c0) (hpre : c0.pre = [.code (bodyOf fn)]) {xs ys : List AV} {ρ : List Lf} (hys : renL (renF (sig0 0) 5) xs = some ys)
    (hin : c0.tm.inst ρ = ⟨zipArgs 0 ys, [], [], 0, fn.ntmps⟩) (hnt : Nat.ble xs.length fn.ntmps = true)
    {cs : Array Value} {R : Value → World → Prop} (ha : Args F w cs xs) {K : AV → Prop} {n : Nat} (hfs : FS (stepL lp O.real tb orc fn.results [] 0 cuts) (fun E => ∃ y, resE E = some y ∧ K y) n (e0, ρ))
    (hK : ∀ y, K y → ∀ v' F' w', PPost F w y v' F' w' → R v' w') : Goes P f cs w R := by
  obtain ⟨hF, hlen, hvr⟩ := ha
  have hp := pre0 hF
  refine walk_goes (md := true) hfn hf hp hlen hvr hys (hs' := []) rfl hnt ?_
  have hfs' : FS (stepL lp O.real tb orc fn.results [] 0 cuts) (fun E => ∀ v' β' F' w', Post [] 0 E noβ F w v' β' F' w' → R v' w') n (e0, ρ) := FS.imp' (fun E ⟨y, h1, h2⟩ v' β' F' w' p => by
    obtain ⟨F'', q⟩ := resE_ok h1 p
    exact hK y h2 v' F'' w' q) hfs
  obtain ⟨c, h1, h2⟩ := flow_cutL (fn := fn) (R := R) hlp hm htb horc hp (fun p hp => by simp at hp) hok n _ hfs'
  rw [hc0] at h1
  injection h1 with h1
  subst h1
  intro β2 F2 a2 w2 h3
  rw [← hin] at h3
  have h4 := (h2 β2 F2 a2 w2 h3).post
  rw [hpre] at h4
  have e : PostI none P (HofC none P (Qx P fn R) cuts) (Qx P fn R) [.code (bodyOf fn)] = PostI none P (fun _ _ _ => False) (Qx P fn R) [.code (bodyOf fn)] := PostI_marks (by simp [marksOf])
  rw [e] at h4
  exact h4
end
end Go.Qv
/- A function that gives elements to a loop's body, one by one: by three short walks. No condition. -/
set_option linter.unusedVariables false
set_option linter.unusedSimpArgs false
namespace Go.Qv
open Go.RowKit

def pickE (st : S) (nt : Nat) (ts : List Nat) : Option (List AV) := match Nat.beq st.nt nt with | true => go ts | false => none
where go : List Nat → Option (List AV)
  | [] => some []
  | t :: r => match lk st.env t, go r with
    | some (none, x), some l => (match cleanA x with | true => some (x :: l) | false => none)
    | _, _ => none
def zipE : List Nat → List AV → Env
  | t :: ts, x :: l => (t, none, x) :: zipE ts l
  | _, _ => []
theorem pickE_ok {st : S} {nt : Nat} {ts : List Nat} {l : List AV} (h : pickE st nt ts = some l) : st.nt = nt ∧ ∀ t g x, lk (zipE ts l) t = some (g, x) → g = none ∧ Clean x ∧ lk st.env t = some (none, x) := by
  unfold pickE at h
  split at h
  · rename_i hb
    refine ⟨Nat.eq_of_beq_eq_true hb, ?_⟩
    have key : ∀ (ts : List Nat) (l : List AV), pickE.go st ts = some l → ∀ t g x, lk (zipE ts l) t = some (g, x) → g = none ∧ Clean x ∧ lk st.env t = some (none, x) := by
      intro ts
      induction ts with
      | nil => intro l h t g x hx; simp [zipE, lk] at hx
      | cons t ts ih =>
        intro l h t' g x hx
        unfold pickE.go at h
        split at h
        · rename_i y r h1 h2
          split at h
          · rename_i hc
            injection h with h
            subst h
            simp only [zipE] at hx
            rw [lk_cons] at hx
            split at hx
            · rename_i e
              injection hx with hx
              injection hx with e1 e2
              subst e1; subst e2; subst e
              exact ⟨rfl, cleanA_ok hc, h1⟩
            · exact ih _ h2 t' g x hx
          · cases h
        · cases h
    exact key ts l h
  · cases h
section
variable (o : O) (tb : Tb) (orc : Orc) (fn : Func)
noncomputable def eachA (l0 : List It) (xs : List AV) (ts : List Nat) : T (List AV) :=
  (run o tb orc false [] 400 [.code (bodyOf fn)] ⟨zipArgs 0 xs, [], [], 0, fn.ntmps⟩).bind fun
    | .loop b r st => .req ⟨.code (.loop b) :: r = l0, Classical.propDecidable _⟩ (match pickE st fn.ntmps ts with | some l => .leaf l | none => .stuck "each: what is kept")
    | _ => .stuck "each: the entry's end"
def regOps : List It → List Oper
  | .code (.region _ ops _) :: _ => ops.toList
  | _ => []
noncomputable def eachB (l0 l4 : List It) (bk : List Nat) (k4 : Nat) (env : Env) (ts : List Nat) : T (Option (List AV)) :=
  (run o tb orc false bk 400 (match l0 with | .code (.loop b) :: r => .code b :: .again 1 :: r | l => l) ⟨env, [], [], 0, fn.ntmps⟩).bind fun
    | .more l st => .req ⟨l = l4, Classical.propDecidable _⟩ ((seqT o tb orc false ((regOps l4).map (·.dst)) ((regOps l4).take k4) st).bind fun st' => match pickE st' fn.ntmps ts with | some l => .leaf (some l) | none => .stuck "each: what is given")
    | .done st => (fin tb 0 fn.results [] st).bind fun E => match E.hw with | [] => .leaf none | _ => .stuck "each: the end"
    | _ => .stuck "each: a round's first half"
noncomputable def eachC (l4 : List It) (k4 : Nat) (env : Env) (ts : List Nat) : T (List AV) :=
  (seqT o tb orc false ((regOps l4).map (·.dst)) ((regOps l4).drop (k4 + 1)) ⟨env, [], [], 0, fn.ntmps⟩).bind fun st =>
    (run o tb orc false [] 400 l4.tail (clr st)).bind fun
      | .again 1 st => (match pickE st fn.ntmps ts with | some l => .leaf l | none => .stuck "each: what is kept behind a round")
      | _ => .stuck "each: a round's second half"
noncomputable def eachD (l4 : List It) (k4 : Nat) (env : Env) : T Unit :=
  (seqT o tb orc false ((regOps l4).map (·.dst)) ((regOps l4).drop (k4 + 1)) ⟨env, [], [], 0, fn.ntmps⟩).bind fun st =>
    (run o tb orc false [] 400 l4.tail (clr st)).bind fun
      | .ret st => (fin tb 0 fn.results [] st).bind fun E => (match E.hw with | [] => .leaf () | _ => .stuck "each: the end")
      | _ => .stuck "each: a last round's second half"
end
theorem VR.raw_inv {β : Nat → Option Value} {F : Nat → Prop} {w : World} {v u : Value} (h : VR β F w v (.raw u)) : v = u := by cases h; rfl
section
variable {P : Program} {tb : Tb} {orc : Orc} {fns : FuncId → Option Func}
theorem iter_ok (hm : P.follows .mixedOrders = true) (htb : TbOk P tb) (horc : OrcOk P orc (fun _ => True)) (hfn : FnsOk P fns) {f : FuncId} {fn : Func} (hf : fns f = some fn) {b0 : Code} {i4 : Nat} {ops : Array Oper} {rest : List It} {o1 o2 o3 o4 o5 : Oper} {tt : Array TypeId}
    (h0 : codeAt fn 1 = [.code (.loop b0), .blk 0]) (h4 : codeAt fn 4 = .code (.region i4 ops false) :: rest) (hops : ops.toList = [o1, o2, o3, o4, o5]) (ho : o4.op = .call { callee := .value (.tmp 17), args := #[.tmp 18, .tmp 19], argTypes := tt }) (hod : o4.dst = some 20) (hog : o4.guard = none)
    {y1 : AV} (hy1 : cleanA y1 = true) (hren : renF (sig0 0) 5 y1 = some y1) (hnt : Nat.ble 21 fn.ntmps = true) {c : Int} {N : Nat} {els : Nat → List AV} (hels : ∀ k, (els k).length = 2)
    (hA : ∀ yv, (eachA O.real tb orc fn (codeAt fn 1) [.raw yv, y1] [0, 1, 7, 8]).sat (fun l => l = [.raw yv, y1, .int .i64 c, .int .i64 0]))
    (hB : ∀ yv (k : Nat), k ≤ N → (eachB O.real tb orc fn (codeAt fn 1) (codeAt fn 4) [4] 3 [(0, none, .raw yv), (1, none, y1), (7, none, .int .i64 c), (8, none, .int .i64 k)] [0, 1, 7, 8, 17, 18, 19]).sat
      (fun | none => k = N | some l => k < N ∧ l = [.raw yv, y1, .int .i64 c, .int .i64 k, .raw yv] ++ els k))
    (hC : ∀ yv (k : Nat), k < N → (eachC O.real tb orc fn (codeAt fn 4) 3 [(20, none, .bool true), (0, none, .raw yv), (1, none, y1), (7, none, .int .i64 c), (8, none, .int .i64 k)] [0, 1, 7, 8]).sat (fun l => l = [.raw yv, y1, .int .i64 c, .int .i64 ((k + 1 : Nat) : Int)]))
    (hD : ∀ yv (k : Nat), k < N → (eachD O.real tb orc fn (codeAt fn 4) 3 [(20, none, .bool false), (0, none, .raw yv), (1, none, y1), (7, none, .int .i64 c), (8, none, .int .i64 k)]).sat (fun _ => True)) :
    EachOk P f [y1] N els := by
  intro F0 w0 cs hF0 hsz hvr l J Jx hJl hJF hXl hXF hJr F W hF hK hj0
  obtain ⟨yv, hyv⟩ : ∃ yv, Value.func (.yield l) #[] #[] = yv := ⟨_, rfl⟩
  rw [hyv]
  have hnt' := Nat.le_of_ble_eq_true hnt
  have hsz1 : cs.size = 1 := hsz
  obtain ⟨v1, rfl⟩ : ∃ v1, cs = #[v1] := by
    match cs, hsz1 with
    | ⟨[v1]⟩, _ => exact ⟨v1, rfl⟩
    | ⟨[]⟩, h => simp at h
    | ⟨_ :: _ :: _⟩, h => simp at h
  have hv1 : VR noβ F W v1 y1 := Keeps.vr (hvr 0 v1 y1 rfl rfl) (fun _ _ h => h) hF hK
  obtain ⟨hf1, hf2, hf3⟩ := hfn f fn hf
  obtain ⟨bd, hbd⟩ := Option.isSome_iff_exists.1 hf3
  let R : Value → World → Prop := fun _ W' => ∃ F', J N F' W' ∨ Jx F' W'
  let Q : Exit → Act → World → Prop := bodyPostM (FrR none) 0 P fn fun e w'' => ∃ v, e = .returned v ∧ R v w''
  let Qr : Exit → Act → World → Prop := Exit.inBlock 0 Q
  let H' : Nat → Act → World → Prop := fun m => match m with | 1 => LoopGo none P b0 Qr | _ => fun _ _ => False
  -- rounds
  have main : ∀ n k, n + k = N → ∀ F W a, J k F W → RS (callCtxM false [] 0 noβ F W) ⟨zipE [0, 1, 7, 8] [.raw yv, y1, .int .i64 c, .int .i64 (k : Int)], [], [], 0, fn.ntmps⟩ noβ F a W → wpR none P b0 (Exit.then (LoopGo none P b0 Qr) Qr) a W := by
    intro n
    induction n using Nat.strongRecOn with
    | ind n ih =>
      intro k hk F W a hj hrs
      have hB' := hB yv k (by omega)
      unfold eachB at hB'
      rw [h0] at hB'
      refine run_ok (c := callCtxM false [] 0 noβ F W) (H := H') (Q := Q) hm htb horc 400 [.code b0, .again 1, .blk 0] _ (sat_mono (fun s hs => ?_) (bind_sat hB')) noβ F a W hrs
      cases s with
      | done st =>
        refine (fin_leaf (md := false) htb (pre0 (hJF k F W hj)) (fun p hp => by simp at hp) (fn := fn) (R := R) (H := H') (sat_mono (fun E hE v' β' F' w' p => ?_) (bind_sat hs))).2
        split at hE
        · rename_i hw
          have hE : k = N := hE
          exact ⟨F', .inl (hE ▸ hJl k F W F' w' hj (p.later hw))⟩
        · exact hE.elim
      | more l2 st =>
        obtain ⟨hl, hs⟩ := hs
        have hl : l2 = codeAt fn 4 := hl
        intro β2 F2 a2 w2 h2
        rw [hl, h4]
        show wpR none P (.region i4 ops false) (PostI none P H' Q rest) a2 w2
        rw [h4] at hs
        simp only [regOps, hops, List.take_succ_cons, List.take_zero] at hs
        refine wpIn_region_list ?_
        rw [hops]
        refine seqT_then (l := [o1, o2, o3]) (l2 := [o4, o5]) (orc := orc) (c := callCtxM false [] 0 noβ F W) htb horc (m := false) (R := fun st' => ∃ l, pickE st' fn.ntmps [0, 1, 7, 8, 17, 18, 19] = some l ∧ k < N ∧ l = [.raw yv, y1, .int .i64 c, .int .i64 k, .raw yv] ++ els k) ?_ h2 (by
          rw [hops]
          refine sat_mono (fun st' h => ?_) (bind_sat hs)
          split at h
          · rename_i l hl; exact ⟨l, hl, h⟩
          · exact h.elim)
        rintro st3 β3 F3 a3 w3 h3 ⟨lv, hpick, hkN, rfl⟩
        obtain ⟨hnt3, henv⟩ := pickE_ok hpick
        have hj3 : J k F3 w3 := hJl k F W F3 w3 hj h3.later
        obtain ⟨x0, x1, hx⟩ : ∃ x0 x1, els k = [x0, x1] := by
          have := hels k
          match hE : els k with
          | [x0, x1] => exact ⟨x0, x1, rfl⟩
          | [] => rw [hE] at this; simp at this
          | [_] => rw [hE] at this; simp at this
          | _ :: _ :: _ :: _ => rw [hE] at this; simp at this
        rw [hx] at henv
        have get : ∀ t x, lk (zipE [0, 1, 7, 8, 17, 18, 19] ([.raw yv, y1, .int .i64 c, .int .i64 k, .raw yv] ++ [x0, x1])) t = some (none, x) → VR noβ F3 w3 (a3.eval (.tmp t)) x := fun t x ht => by
          obtain ⟨_, hcx, hlx⟩ := henv t none x ht
          obtain ⟨v, g1, g2⟩ := h3.rel.env t none x hlx
          have : a3.eval (.tmp t) = v := by simp [Act.eval, Array.getD_eq_getD_getElem?, g1]
          rw [this]
          exact g2.clean hcx
        have e17 := (get 17 (.raw yv) rfl).raw_inv
        have v18 := get 18 x0 rfl
        have v19 := get 19 x1 rfl
        have hel : ElV els k F3 w3 #[a3.eval (.tmp 18), a3.eval (.tmp 19)] := ⟨by rw [hx]; rfl, fun j v x hv hxx => by
          rw [hx] at hxx
          match j, hv, hxx with
          | 0, hv, hxx => simp at hv hxx; subst hv; subst hxx; exact v18
          | 1, hv, hxx => simp at hv hxx; subst hv; subst hxx; exact v19
          | j + 2, hv, hxx => simp at hxx⟩
        obtain ⟨fy, ty, ay, by', hy1', hy2⟩ := hJr k F3 w3 _ hkN hj3 hel
        refine wpListIn_step fun K hKK => ?_
        rw [if_pos (wanted_none (ds := ops.toList.map (·.dst)) (by rw [hog]; rfl))]
        refine ⟨fun _ _ => trivial, ?_⟩
        have hrun : (execOp a3.eval o4).run P w3 = .ok (.round l fy ty ay by') w3 := by
          rw [← hyv] at e17
          simp [execOp, ho, resolve, e17, Deferred.ofValue, invoke, hy1']
        show o4.uponIn (FrR none) 0 P a3 K _ ((o4.semAt none a3.eval).run P w3)
        rw [Oper.semAt_none, hrun, Oper.uponIn_round]
        have henv5 : ∀ t g x, lk (zipE [0, 1, 7, 8] [.raw yv, y1, .int .i64 c, .int .i64 (k : Int)]) t = some (g, x) → g = none ∧ Clean x ∧ lk st3.env t = some (none, x) := (fun t g x ht => henv t g x (by
          simp only [zipE, lk_cons] at ht ⊢
          simp only [List.cons_append, List.nil_append, zipE, lk_cons]
          split at ht
          · rename_i e; rw [if_pos e]; exact ht
          · rename_i e; rw [if_neg e]
            split at ht
            · rename_i e; rw [if_pos e]; exact ht
            · rename_i e; rw [if_neg e]
              split at ht
              · rename_i e; rw [if_pos e]; exact ht
              · rename_i e; rw [if_neg e]
                split at ht
                · rename_i e; rw [if_pos e]; exact ht
                · simp [lk] at ht))
        refine ⟨fun h => by simp [FrR] at h, hy2.mono ?_⟩
        rintro e W' ⟨F', hF', hK', ⟨rfl, hj'⟩ | ⟨rfl, hx'⟩⟩
        case inr =>
          simp only
          refine hKK _ _ ?_
          rw [hod]
          have h5 : RS (callCtxM false [] 0 noβ F' W') ⟨zipE [0, 1, 7, 8] [.raw yv, y1, .int .i64 c, .int .i64 (k : Int)], [], [], 0, st3.nt⟩ noβ F' a3 W' := h3.rebase rfl hF' hK' (hXF F' W' hx') henv5
          rw [hnt3] at h5
          have h6 := h5.val (c := callCtxM false [] 0 noβ F' W') (d := 20) (v := .bool false) (x := .bool false) (by omega) (.bool false)
          have hD' := hD yv k hkN
          unfold eachD at hD'
          rw [h4] at hD'
          simp only [regOps, hops, List.drop_succ_cons, List.drop_zero, List.tail_cons] at hD'
          refine seqT_ok (l := [o5]) (c := callCtxM false [] 0 noβ F' W') htb horc (m := false) (R := _) ?_ h6 (by rw [hops]; exact bind_sat hD')
          intro st7 β7 F7 a7 w7 h7 hs7
          refine run_ok (c := callCtxM false [] 0 noβ F' W') (H := H') (Q := Q) hm htb horc 400 rest _ (sat_mono (fun s hs => ?_) (bind_sat hs7)) _ _ _ _ h7.clr
          cases s with
          | ret st =>
            refine (fin_leaf (md := false) htb (pre0 (hXF F' W' hx')) (fun p hp => by simp at hp) (fn := fn) (R := R) (H := H') (sat_mono (fun E hE v' β' F'' w' p => ?_) (bind_sat hs))).1
            split at hE
            · rename_i hw
              exact ⟨F'', .inr (hXl F' W' F'' w' hx' (p.later hw))⟩
            · exact hE.elim
          | again m st => match m, hs with | 0, hs => exact hs.elim | _ + 1, hs => exact hs.elim
          | _ => exact hs.elim
        simp only
        refine hKK _ _ ?_
        rw [hod]
        have h5 : RS (callCtxM false [] 0 noβ F' W') ⟨zipE [0, 1, 7, 8] [.raw yv, y1, .int .i64 c, .int .i64 (k : Int)], [], [], 0, st3.nt⟩ noβ F' a3 W' := h3.rebase rfl hF' hK' (hJF (k + 1) F' W' hj') henv5
        rw [hnt3] at h5
        have h6 := h5.val (c := callCtxM false [] 0 noβ F' W') (d := 20) (v := .bool true) (x := .bool true) (by omega) (.bool true)
        have hC' := hC yv k hkN
        unfold eachC at hC'
        rw [h4] at hC'
        simp only [regOps, hops, List.drop_succ_cons, List.drop_zero, List.tail_cons] at hC'
        refine seqT_ok (l := [o5]) (c := callCtxM false [] 0 noβ F' W') htb horc (m := false) (R := _) ?_ h6 (by rw [hops]; exact bind_sat hC')
        intro st7 β7 F7 a7 w7 h7 hs7
        refine run_ok (c := callCtxM false [] 0 noβ F' W') (H := H') (Q := Q) hm htb horc 400 rest _ (sat_mono (fun s hs => ?_) (bind_sat hs7)) _ _ _ _ h7.clr
        cases s with
        | again m st =>
          match m, hs with
          | 1, hs =>
            have hs : (match pickE st fn.ntmps [0, 1, 7, 8] with | some l => T.leaf l | none => T.stuck "each: what is kept behind a round").sat (fun l => l = ([.raw yv, y1, .int .i64 c, .int .i64 ((k + 1 : Nat) : Int)] : List AV)) := hs
            split at hs
            · rename_i lv hp
              have hs : lv = _ := hs
              subst hs
              obtain ⟨hnt8, henv8⟩ := pickE_ok hp
              intro β8 F8 a8 w8 h8
              show LoopGo none P b0 Qr a8 w8
              refine loopGo_of ?_
              have hj8 : J (k + 1) F8 w8 := hJl (k + 1) F' W' F8 w8 hj' h8.later
              have h9 := h8.rebase rfl (fun _ h => h) (Keeps.refl F8 w8) h8.rel.Flt henv8
              rw [hnt8] at h9
              exact ih (n - 1) (by omega) (k + 1) (by omega) F8 w8 a8 hj8 h9
            · exact hs.elim
          | 0, hs => exact hs.elim
          | _ + 2, hs => exact hs.elim
        | _ => exact hs.elim
      | _ => exact hs.elim
  have hg : Goes P f (#[yv] ++ #[v1]) W R := by
    refine walk_goes (md := false) (β := noβ) (hs := []) (hs' := []) (nx := 0) (xs := [.raw yv, y1]) (ys := [.raw yv, y1]) hfn hf (pre0 (hJF 0 F W hj0)) rfl ?_ ?_ rfl (Nat.ble_eq_true_of_le (by simp; omega)) ?_
    · intro j v x hv hx
      match j, hv, hx with
      | 0, hv, hx => simp at hv hx; subst hv; subst hx; exact .raw _ (by rw [← hyv]; rfl)
      | 1, hv, hx => simp at hv hx; subst hv; subst hx; exact hv1
      | j + 2, hv, hx => simp at hx
    · simp only [renL, hren]; rfl
    · intro β1 F1 a1 w1 hh1
      have hA' := hA yv
      unfold eachA at hA'
      refine run_ok (c := callCtxM false [] 0 noβ F W) (H := fun _ _ _ => False) (Q := Q) hm htb horc 400 [.code (bodyOf fn)] _ (sat_mono (fun s hs => ?_) (bind_sat hA')) β1 F1 a1 w1 hh1
      cases s with
      | loop b r st =>
        obtain ⟨e, hs⟩ := hs
        have e : It.code (.loop b) :: r = codeAt fn 1 := e
        split at hs
        · rename_i lv hp
          have hs : lv = _ := hs
          subst hs
          obtain ⟨hnt8, henv8⟩ := pickE_ok hp
          intro β8 F8 a8 w8 h8
          rw [e, h0]
          show wpR none P (.loop b0) Qr a8 w8
          refine wp_loop_of ?_
          have hj8 : J 0 F8 w8 := hJl 0 F W F8 w8 hj0 h8.later
          have h9 := h8.rebase rfl (fun _ h => h) (Keeps.refl F8 w8) h8.rel.Flt henv8
          rw [hnt8] at h9
          exact main N 0 (by omega) F8 w8 a8 hj8 h9
        · exact hs.elim
      | _ => exact hs.elim
  unfold Goes at hg
  have hgo : (callFunc f (#[yv] ++ #[v1])).run P W = .ok (.enter f (#[yv] ++ #[v1])) W := by
    simp [callFunc, Sem.run_bind, hf1, hf2, hbd]
  rw [hgo] at hg
  exact hg.mono fun e w'' ⟨v, hv, hR⟩ => ⟨⟨v, hv⟩, hR⟩
end
end Go.Qv
/- Loops over functions in a run from round to round; calls walked in place that have such. No condition. -/
set_option linter.unusedVariables false
set_option linter.unusedSimpArgs false
namespace Go.Qv
open Go.RowKit
noncomputable def roundF (tb : Tb) (st : S) (j : Jp) (st2 : S) : T (S × Jp) :=
  (fin tb st.next #[] st.heap st2).bind fun E => match Nat.ble E.new.length 64 with | true => .leaf (Qv.put st none none E, j) | false => .stuck "round: names"
noncomputable def roundS (o : O) (tb : Tb) (orc : Orc) (m : Bool) (asg body : Code) (ps : List (Nat × AV)) (st : S) : T (S × Jp) :=
  (run o tb orc m [] 400 [.code asg] ⟨putPs ps st.env, [], st.heap, st.next, st.nt⟩).bind fun
    | .done st1 => (run o tb orc m [] 400 [.code body] st1).bind fun
      | .done st2 => roundF tb st .go st2
      | .exit id st2 => roundF tb st (.exit id) st2
      | .ret st2 => roundF tb st .ret st2
      | _ => .stuck "body's end"
    | _ => .stuck "assignment's end"
section
variable {P : Program} {tb : Tb} {orc : Orc} {fns : FuncId → Option Func}
theorem each_okS (hm : P.follows .mixedOrders = true) (htb : TbOk P tb) (horc : OrcOk P orc (fun _ => True)) (hfn : FnsOk P fns) {c : Ctx} (hC : c.C = fun _ => True) (hmd : c.md = true)
    {g : Operand} {p0 p1 : Tmp} (hp : p0 ≠ p1) {asg body : Code} {m : Bool} {nt0 : Nat} {G : Nat → S → Prop} {N : Nat} {els : Nat → List AV} (hels : ∀ k, (els k).length = 2) {gf : FuncId} {fng : Func} (hgf : fns gf = some fng) {ys : List AV} (hit : EachOk P gf ys N els)
    (hG : ∀ k st, G k st → nodupB (st.heap.map (·.1)) = true ∧ envClean st.env = true ∧ (st.heap.all fun p => Nat.blt p.1 st.next) = true ∧ st.nt = nt0)
    (hnt : p0 < nt0 ∧ p1 < nt0) {X : S → Jp → Prop}
    (hround : ∀ k st x0 x1, k < N → G k st → els k = [x0, x1] → Sat (roundS O.real tb orc m asg body [(p1, x1), (p0, x0)] st) (fun p => (p.2 = .go ∧ G (k + 1) p.1) ∨ (p.2 ≠ .go ∧ X p.1 p.2)))
    {Q : Exit → Act → World → Prop} (hQ : ∀ st, G N st → ∀ β F a w, RS c st β F a w → Q .normal a w) (hX : ∀ st j, X st j → ∀ β F a w, RS c st β F a w → Q j.ex a w)
    {st0 : S} (hG0 : G 0 st0) {β : Nat → Option Value} {F : Nat → Prop} {a : Act} {w : World} (h : RS c st0 β F a w) (hvg : VR noβ F w (a.eval g) (.fn gf ys)) : wpR none P (.rangeFunc g #[p0, p1] asg body) Q a w := by
  obtain ⟨cs, hcs, hcl1, hcl2⟩ := hvg.fn_inv
  have hcsv : ∀ (j : Nat) (v : Value) (x : AV), cs[j]? = some v → ys[j]? = some x → VR noβ F w v x := hcl2
  obtain ⟨hf, hname, hbody⟩ := hfn gf fng hgf
  obtain ⟨bd, hbd⟩ := Option.isSome_iff_exists.1 hbody
  have r0 := h.rel
  refine range_law (gf := gf) (lb := cs) (N := N) (El := ElV els) (F := F) hcs (fun args w' => by simp [callFunc, Sem.run_bind, hf, hname, hbd]) (hit F w cs r0.Flt hcl1 hcsv) (fun k F W cs hE => by rw [hE.1, hels]; rfl) r0.Flt
    (fun k F' W => ∃ st, G k st ∧ ∃ β', RS c st β' F' a W) (fun k F' W F'' W' ⟨st, hg, β', h1⟩ hl => ⟨st, hg, β', h1.more hC hl⟩) (fun k F' W ⟨_, _, β', h1⟩ => h1.rel.Flt) (fun k F' W l r o ⟨st, hg, β', h1⟩ hl hr => ⟨st, hg, β', h1.record hC o hr (Nat.le_trans r0.size hl)⟩)
    (fun j F' W => ∃ r, X r j ∧ ∃ β', RS c r β' F' a W) (fun j F' W F'' W' ⟨r, hr, β', h1⟩ hl => ⟨r, hr, β', h1.more hC hl⟩) (fun j F' W ⟨r, hr, β', h1⟩ => h1.rel.Flt) (fun j F' W l r o ⟨ρ, hr, β', h1⟩ hl hro => ⟨ρ, hr, β', h1.record hC o hro (Nat.le_trans r0.size hl)⟩) ?_ ?_ ?_ ?_
  · -- the record and the mark are made
    intro W hW
    refine ⟨st0, hG0, β, h.more hC ⟨fun b hb => .inl hb, ?_, ?_, ?_, ?_, ?_, ?_, ?_⟩⟩
    · have hs : W.heap.size = w.heap.size + 2 := by rw [hW, World.size_alloc, World.size_alloc]
      rintro b (hb | rfl | rfl)
      · have := r0.Flt b hb; omega
      · omega
      · omega
    · rintro b (hb | rfl | rfl)
      · exact .inl hb
      · exact .inr (Nat.le_refl _)
      · exact .inr (Nat.le_succ _)
    · intro b hb
      rw [hW]
      exact (Below.heap_alloc _ _ _ (by simp; omega)).trans (Below.heap_alloc _ _ _ hb)
    · rw [hW]; rfl
    · rw [hW]; rfl
    · rw [hW]; rfl
    · rw [hW, World.size_alloc, World.size_alloc]; omega
  · -- one round
    rintro rd bz k F2 W vs hk ⟨st, hg, β', h1⟩ ⟨hvs1, hvs2⟩ hFD hFl hl hd
    obtain ⟨x0, x1, hx⟩ : ∃ x0 x1, els k = [x0, x1] := by
      have := hels k
      match hE : els k with
      | [x0, x1] => exact ⟨x0, x1, rfl⟩
      | [] => rw [hE] at this; simp at this
      | [_] => rw [hE] at this; simp at this
      | _ :: _ :: _ :: _ => rw [hE] at this; simp at this
    rw [hx] at hvs1 hvs2
    obtain ⟨v0, v1, rfl⟩ : ∃ v0 v1, vs = #[v0, v1] := by
      match vs, hvs1 with
      | ⟨[v0, v1]⟩, _ => exact ⟨v0, v1, rfl⟩
      | ⟨[]⟩, h => simp at h
      | ⟨[_]⟩, h => simp at h
      | ⟨_ :: _ :: _ :: _⟩, h => simp at h
    have hv0 := hvs2 0 v0 x0 rfl rfl
    have hv1 := hvs2 1 v1 x1 rfl rfl
    have r1 := h1.rel
    obtain ⟨hnd, hec, hlt, hst'⟩ := hG k st hg
    have hlt : ∀ p ∈ st.heap, p.1 < st.next := fun p hp => blt_true (List.all_eq_true.1 hlt p hp)
    have hround := (hround k st x0 x1 hk hg hx).sat
    have hsz : a.tmps.size = st.nt := h1.nt.symm
    have hfold : (#[p0, p1].zip #[v0, v1]).foldl (fun t (p : Tmp × Value) => t.setIfInBounds p.1 p.2) a.tmps = (a.tmps.setIfInBounds p0 v0).setIfInBounds p1 v1 := by
      have hz : #[p0, p1].zip #[v0, v1] = #[(p0, v0), (p1, v1)] := by apply Array.ext'; simp
      rw [hz]; rfl
    have hl0 : p0 < a.tmps.size := by rw [hsz, hst']; exact hnt.1
    have hl1' : p1 < a.tmps.size := by rw [hsz, hst']; exact hnt.2
    have mono : ∀ {v x}, VR noβ F2 W v x → VR β' F2 W v x := fun h => h.mono (fun id u hu => by cases hu) (fun _ h => h) (fun _ _ => rfl)
    have hcall : RS (callCtxM true st.heap st.next β' F2 W) ⟨putPs [(p1, x1), (p0, x0)] st.env, [], st.heap, st.next, st.nt⟩ β' F2 { tmps := (a.tmps.setIfInBounds p0 v0).setIfInBounds p1 v1, defers := [] } W := by
      refine h1.call (fun t g x hx => ?_) (by simp [hsz])
      simp only [putPs] at hx
      rw [lk_cons] at hx
      split at hx
      · rename_i e
        injection hx with hx
        injection hx with e1 e2
        subst e1; subst e2; subst e
        exact ⟨rfl, v1, by rw [Array.getElem?_setIfInBounds_self_of_lt (by rw [Array.size_setIfInBounds]; exact hl1')], mono hv1⟩
      · rename_i hn1
        rw [lk_cons] at hx
        split at hx
        · rename_i e
          injection hx with hx
          injection hx with e1 e2
          subst e1; subst e2; subst e
          exact ⟨rfl, v0, by rw [Array.getElem?_setIfInBounds_ne (Ne.symm hn1), Array.getElem?_setIfInBounds_self_of_lt hl0], mono hv0⟩
        · rename_i hn0
          have hg := lk_envClean hec t g x hx
          subst hg
          obtain ⟨u, g1, g2⟩ := r1.env t none x hx
          exact ⟨rfl, u, by rw [Array.getElem?_setIfInBounds_ne (Ne.symm hn1), Array.getElem?_setIfInBounds_ne (Ne.symm hn0)]; exact g1, g2⟩
    rw [hfold]
    have hMl : ¬ (callCtxM true st.heap st.next β' F2 W).M (w.heap.size + 1) := by
      rintro ⟨p, hp, v, q1, q2⟩
      exact (r1.own _ _ v _ (nodup_lk hnd p hp) q1 q2).1 hFl
    have hlW : w.heap.size + 1 < W.heap.size := (Array.getElem?_eq_some_iff.1 hl).1
    have hw0l : c.w0.heap.size ≤ w.heap.size + 1 := by have := r0.size; omega
    unfold roundS at hround
    refine run_ok (rn := some (w.heap.size + 1)) (H := fun _ _ _ => False) (Q := Exit.then _ (fun _ _ _ => False)) hm htb horc 400 [.code asg] _ (sat_mono (fun s hs => ?_) (bind_sat hround)) _ _ _ _ hcall
    cases s with
    | done st1 =>
      intro β1 F1 a1 w1 h2
      have hl1 : w1.heap[w.heap.size + 1]? = some (.loop rd) := (h2.rel.frame _ hlW hMl).trans hl
      refine ⟨hl1, ?_⟩
      have h3 := h2.record' (.loop bz) hl1
      have ends : ∀ (j : Jp) (st2 : S), (roundF tb st j st2).sat (fun p => (p.2 = .go ∧ G (k + 1) p.1) ∨ (p.2 ≠ .go ∧ X p.1 p.2)) → ∀ β2 F2' a2 w2, RS (callCtxM true st.heap st.next β' F2 (W.putObj (w.heap.size + 1) (.loop bz))) st2 β2 F2' a2 w2 →
          RoundEnd (w.heap.size + 1) w.heap.size (.loop bz) F2 W (fun F' W => ∃ st, G (k + 1) st ∧ ∃ β', RS c st β' F' a W) (fun j F' W => ∃ r, X r j ∧ ∃ β', RS c r β' F' a W) j.ex a2 w2 := by
        intro j st2 hs β2 F2' a2 w2 h4
        have hout := h1.record hC (.loop bz) hl hw0l
        have hpre := hout.pre hnd
        unfold roundF at hs
        have hfin := fin_ok (fn := { fng with results := #[] }) (R := fun _ w' => w'.heap[w.heap.size + 1]? = some (.loop bz) ∧ ∃ F', (∀ b, F2 b → F' b) ∧ Keeps F2 W w' ∧ ∃ r, ((j = .go ∧ G (k + 1) r) ∨ (j ≠ .go ∧ X r j)) ∧ ∃ β', RS c r β' F' a w') htb hpre hlt h4 (sat_mono (fun E hE v' β3 F3 w3 p => by
          split at hE
          · rename_i h8
            have h5 := hout.put (nodup_lk hnd) p (Nat.le_of_ble_eq_true h8) (dst := none) (g := none) rfl (by simp) rfl
            have keepF : ∀ b, F2 b → w3.heap[b]? = (W.putObj (w.heap.size + 1) (.loop bz)).heap[b]? := fun b hb => p.frame b (hpre.hF b hb) (fun q hq x hx hbx => by
              obtain ⟨ob, hob⟩ := p.known q hq
              exact (hpre.hh _ hob).2 x b hx hbx hb)
            refine ⟨?_, F3, p.Fext, ?_, _, hE, _, h5⟩
            · rw [keepF _ hFl, World.putObj_heap_same hlW]
            · exact (Keeps.record _ hl).trans (Keeps.of_blocks keepF) (fun _ h => h)
          · exact hE.elim) (bind_sat hs))
        obtain ⟨_, _, g1, F', g2, g3, r, g4, β4, g5⟩ := hfin
        cases j with
        | go =>
          rcases g4 with ⟨_, g4⟩ | ⟨g4, _⟩
          · exact ⟨g1, F', g2, g3, r, g4, β4, g5⟩
          · exact absurd rfl g4
        | exit id =>
          rcases g4 with ⟨g4, _⟩ | ⟨_, g4⟩
          · cases g4
          · exact ⟨g1, F', g2, g3, r, g4, β4, g5⟩
        | ret =>
          rcases g4 with ⟨g4, _⟩ | ⟨_, g4⟩
          · cases g4
          · exact ⟨g1, F', g2, g3, r, g4, β4, g5⟩
      refine run_ok (rn := some (w.heap.size + 1)) (H := fun _ _ _ => False) (Q := RoundEnd _ _ _ _ _ _ _) hm htb horc 400 [.code body] st1 (sat_mono (fun s hs => ?_) (bind_sat hs)) _ _ _ _ h3
      cases s with
      | done st2 => exact fun β2 F2' a2 w2 h4 => ends .go st2 hs β2 F2' a2 w2 h4
      | exit id st2 => exact fun β2 F2' a2 w2 h4 => ends (.exit id) st2 hs β2 F2' a2 w2 h4
      | ret st2 => exact fun β2 F2' a2 w2 h4 => ends .ret st2 hs β2 F2' a2 w2 h4
      | _ => exact hs.elim
    | _ => exact hs.elim
  all_goals
    have behind : ∀ (r : S) F' W, (∃ β', RS c r β' F' a W) → F' w.heap.size → W.heap[w.heap.size]? = some (.deferred (some [])) → ∃ β', RS c r β' F' { a with defers := mark w.heap.size :: a.defers } W := by
      rintro r F' W ⟨β', h1⟩ hFD hD
      have r1 := h1.rel
      refine ⟨β', ⟨⟨fun t g x hx => r1.env t g x hx, r1.heap, r1.own, r1.sep, r1.Flt, r1.Fbnd, r1.F0F, r1.cls, r1.dom, r1.os, r1.tape, r1.output, r1.size, r1.frame, ?_, r1.Bext, r1.Blow, r1.n0δ⟩, h1.nt, h1.gds⟩⟩
      obtain ⟨Ds, e1, e2, e3, e4⟩ := r1.defers
      obtain ⟨Ds', f1, f2, f3, f4⟩ := r0.defers
      have hDD : w.heap.size ∉ Ds := by
        intro hm'
        have e : Ds = Ds' := by
          have := e1.symm.trans f1
          exact map_mark_inj this
        rw [e] at hm'
        obtain ⟨_, _, k3⟩ := f4 _ hm'
        have := (Array.getElem?_eq_some_iff.1 k3).1
        omega
      refine ⟨w.heap.size :: Ds, ?_, List.nodup_cons.2 ⟨hDD, e2⟩, fun hf => absurd (hmd.symm.trans hf) (by simp), fun D hD' => ?_⟩
      · simp only [List.map_cons]; rw [← e1]
      · rcases List.mem_cons.1 hD' with rfl | hD'
        · exact ⟨hFD, r0.size, hD⟩
        · exact e4 D hD'
  · intro F' W ⟨st, hg, h1⟩ hFD hD
    obtain ⟨β', h2⟩ := behind st F' W h1 hFD hD
    exact hQ st hg β' F' _ W h2
  · intro j F' W hj ⟨r, hr, h1⟩ hFD hD
    obtain ⟨β', h2⟩ := behind r F' W h1 hFD hD
    exact hX r j hr β' F' _ W h2

def stOk (nt : Nat) (st : S) : Bool := nodupB (st.heap.map (·.1)) && envClean st.env && (st.heap.all fun p => Nat.blt p.1 st.next) && Nat.beq st.nt nt
/-- Round after round. -/
noncomputable def goEach (o : O) (tb : Tb) (orc : Orc) (m : Bool) (asg body : Code) (p0 p1 nt : Nat) (els : Nat → List AV) : Nat → Nat → S → T (S × Jp)
  | 0, _, st => (match stOk nt st with | true => .leaf (st, .go) | false => .stuck "loop: state")
  | n + 1, k, st => match stOk nt st, els k with
    | true, [x0, x1] => (roundS o tb orc m asg body [(p1, x1), (p0, x0)] st).bind fun p => match p.2 with
      | .go => goEach o tb orc m asg body p0 p1 nt els n (k + 1) p.1
      | j => .leaf (p.1, j)
    | _, _ => .stuck "loop: elements"
/-- The iterator whose loops are run, and where. -/
structure Itr where
  gf : FuncId
  dom : VT → DP
  cnt : VT → Nat
  els : VT → Nat → List AV
noncomputable def lpRun (I : Itr) (o : O) (tb : Tb) (orc : Orc) (m : Bool) : LP := fun cd st => match cd with
  | .rangeFunc g ps asg body => (match ps.toList, val st.env [] g with
    | [p0, p1], some (.fn gf [.rp [.int .i64 t, .sl (.i .i64 n), .sl (.s s), .sl (.v l)]]) =>
      (match Nat.beq gf I.gf && !Nat.beq p0 p1 && Nat.blt p0 st.nt && Nat.blt p1 st.nt with
      | true => .req (I.dom (.mk t n s l)) (goEach o tb orc m asg body p0 p1 st.nt (I.els (.mk t n s l)) (I.cnt (.mk t n s l)) 0 st)
      | false => .stuck "loop: function")
    | _, _ => .stuck "loop: what it ranges over")
  | _ => .stuck "loop: code"
def ItrOk (P : Program) (I : Itr) : Prop := (∀ v k, (I.els v k).length = 2) ∧ ∀ t n s l, (I.dom (.mk t n s l)).p → EachOk P I.gf [.rp [.int .i64 t, .sl (.i .i64 n), .sl (.s s), .sl (.v l)]] (I.cnt (.mk t n s l)) (I.els (.mk t n s l))
theorem lpRun_ok (hm : P.follows .mixedOrders = true) (htb : TbOk P tb) (horc : OrcOk P orc (fun _ => True)) (hfn : FnsOk P fns) {I : Itr} (hI : ItrOk P I) {fng : Func} (hgf : fns I.gf = some fng) {m : Bool} {nx : Nat} : LpOk none P nx (lpRun I O.real tb orc m) := by
  intro c hC hB hn hmd cd st K Q hs hQ β F a w hrs
  unfold lpRun at hs
  split at hs
  · rename_i g ps asg body
    split at hs
    · rename_i p0 p1 gf t n s l hps hv
      split at hs
      · rename_i hb
        obtain ⟨hd, hs⟩ := hs
        simp only [Bool.and_eq_true, Bool.not_eq_true'] at hb
        obtain ⟨⟨⟨h1, h2⟩, h3⟩, h4⟩ := hb
        have h1 := Nat.eq_of_beq_eq_true h1
        subst h1
        have hne : p0 ≠ p1 := fun e => by subst e; simp [Nat.beq_refl] at h2
        obtain rfl : ps = #[p0, p1] := by cases ps; simp at hps; subst hps; rfl
        have hvr := val_ok (hrs.he (T := fun _ => True)) (ch := []) (by simp) (fun _ _ => trivial) hv
        have hok : ∀ N k st', (goEach O.real tb orc m asg body p0 p1 st.nt (I.els (.mk t n s l)) N k st').sat K → stOk st.nt st' = true := by
          intro N k st' h
          cases N with
          | zero =>
            unfold goEach at h
            split at h
            · rename_i e; exact e
            · exact h.elim
          | succ N =>
            unfold goEach at h
            split at h
            · rename_i e _; exact e
            · exact h.elim
        refine each_okS hm htb horc hfn hC hmd (m := m) hne (nt0 := st.nt) (G := fun k st' => k ≤ I.cnt (.mk t n s l) ∧ (goEach O.real tb orc m asg body p0 p1 st.nt (I.els (.mk t n s l)) (I.cnt (.mk t n s l) - k) k st').sat K) (N := I.cnt (.mk t n s l)) (els := I.els (.mk t n s l)) (hI.1 _) hgf (hI.2 t n s l hd)
          (fun k st' hg => ?_) ⟨blt_true h3, blt_true h4⟩ (X := fun st' j => K (st', j)) (fun k st' x0 x1 hk hg hx => ⟨?_⟩) (fun st' hg β F a w h => ?_) (fun st' j hX => hQ _ _ hX) ⟨Nat.zero_le _, hs⟩ hrs (hvr.clean (.fn _ _ (fun x hx => by
            simp at hx; subst hx
            refine .rp _ (fun y hy => ?_)
            simp at hy
            rcases hy with rfl | rfl | rfl | rfl
            · exact .int _ _
            · exact .sl _ rfl
            · exact .sl _ rfl
            · exact .sl _ rfl)))
        · have := hok _ _ _ hg.2
          unfold stOk at this
          simp only [Bool.and_eq_true] at this
          exact ⟨this.1.1.1, this.1.1.2, this.1.2, Nat.eq_of_beq_eq_true this.2⟩
        · obtain ⟨hle, hg⟩ := hg
          obtain ⟨d, hd'⟩ : ∃ d, I.cnt (.mk t n s l) - k = d + 1 := ⟨I.cnt (.mk t n s l) - k - 1, by omega⟩
          rw [hd'] at hg
          unfold goEach at hg
          rw [hx] at hg
          split at hg
          · rename_i y0 y1 _ hy
            injection hy with e1 e2
            injection e2 with e2 e3
            subst e1; subst e2
            refine sat_mono (fun p hp => ?_) (bind_sat hg)
            split at hp
            · rename_i e
              refine .inl ⟨e, by omega, ?_⟩
              rw [show I.cnt (.mk t n s l) - (k + 1) = d by omega]
              exact hp
            · rename_i e
              exact .inr ⟨fun h => e h, hp⟩
          · exact hg.elim
        · obtain ⟨_, hg⟩ := hg
          rw [Nat.sub_self] at hg
          unfold goEach at hg
          split at hg
          · exact hQ _ _ hg β F a w h
          · exact hg.elim
      · exact hs.elim
    · exact hs.elim
  · exact hs.elim
/-! ### calls in place -/
noncomputable def endC (lp : LP) (go : List It → S → T Stop) (fn : S → T Eff) : Nat → Stop → T Eff
  | _, .ret st => fn st
  | _, .done st => fn st
  | k + 1, .rfunc g ps asg b r st => (lp (.rangeFunc g ps asg b) st).bind fun p => match p.2 with
    | .go => (go r p.1).bind (endC lp go fn k)
    | .exit id => (match unwind id r with | some r' => (go r' p.1).bind (endC lp go fn k) | none => .stuck "rfunc: exit")
    | .ret => fn p.1
  | _, _ => .stuck "exit"
noncomputable def inlL (I : Itr) (o : O) (tb : Tb) (fns : FuncId → Option Func) (sp : Orc) (known : FuncId → Bool) (md : FuncId → Bool) (fuel : Nat) : Nat → Orc
  | 0 => fun _ _ _ _ => .stuck "depth"
  | n + 1 => fun f nx xs hs => match known f with
    | true => sp f nx xs hs
    | false => match fns f with
      | none => .stuck "function"
      | some fn => match renL (renF (sig0 nx) 5) xs, renHs (sig0 nx) hs, Nat.ble xs.length fn.ntmps with
        | some ys, some hs', true => joinT nx (joinM o (md f) ((run o tb (inlL I o tb fns sp known md fuel n) (md f) [] fuel [.code (bodyOf fn)] ⟨zipArgs 0 ys, [], hs', nx, fn.ntmps⟩).bind
            (endC (lpRun I o tb (inlL I o tb fns sp known md fuel n) (md f)) (run o tb (inlL I o tb fns sp known md fuel n) (md f) [] fuel) (fin tb nx fn.results hs) 60)))
        | _, _, _ => .stuck "call: arguments"
theorem inlL_ok (hm : P.follows .mixedOrders = true) (htb : TbOk P tb) (hfn : FnsOk P fns) {I : Itr} (hI : ItrOk P I) {fng : Func} (hgf : fns I.gf = some fng) {sp : Orc} (hsp : OrcOk P sp (fun _ => True)) {known : FuncId → Bool} {md : FuncId → Bool} {fuel : Nat} :
    ∀ n, OrcOk P (inlL I O.real tb fns sp known md fuel n) (fun _ => True) := by
  intro n
  induction n with
  | zero => exact fun _ _ _ _ _ _ _ _ _ _ _ _ _ h => h.elim
  | succ n ih =>
    intro f nx xs hs β F w cs R hC hp hlen hvr h
    unfold inlL at h
    split at h
    · exact hsp f nx xs hs β F w cs R hC hp hlen hvr h
    · split at h
      · exact h.elim
      · rename_i fn hfn'
        split at h
        · rename_i ys hs' hys hhs' hnt
          have hlt := renHs_lt hhs'
          refine walk_goes (md := true) hfn hfn' hp hlen hvr hys hhs' hnt ?_
          have ends : ∀ k s, (endC (lpRun I O.real tb (inlL I O.real tb fns sp known md fuel n) (md f)) (run O.real tb (inlL I O.real tb fns sp known md fuel n) (md f) [] fuel) (fin tb nx fn.results hs) k s).sat (fun E => ∀ v' β' F' w', Post hs nx E β F w v' β' F' w' → R v' w') →
              Leaf none P (fun _ _ _ => False) (bodyPostM (FrR none) 0 P fn fun e w'' => ∃ v, e = .returned v ∧ R v w'') (callCtxM true hs nx β F w) s := by
            intro k
            induction k with
            | zero =>
              intro s hst
              cases s with
              | done st => exact (fin_leaf htb hp hlt hst).2
              | ret st => exact (fin_leaf htb hp hlt hst).1
              | exit id st => exact hst.elim
              | again n st => exact hst.elim
              | loop b r st => exact hst.elim
              | rfunc f ps asg b r st => exact hst.elim
              | more l st => exact hst.elim
            | succ k ihk =>
              intro s hst
              cases s with
              | done st => exact (fin_leaf htb hp hlt hst).2
              | ret st => exact (fin_leaf htb hp hlt hst).1
              | exit id st => exact hst.elim
              | again n st => exact hst.elim
              | loop b r st => exact hst.elim
              | more l st => exact hst.elim
              | rfunc g ps asg b r st =>
                intro β2 F2 a2 w2 hs2
                show wpR none P (.rangeFunc g ps asg b) (PostI none P (fun _ _ _ => False) _ r) a2 w2
                refine lpRun_ok (nx := nx) hm htb ih hfn hI hgf (callCtxM true hs nx β F w) rfl callCtx_B0 rfl rfl _ st _ _ (bind_sat hst) (fun st' j hst' β3 F3 a3 w3 h3 => ?_) β2 F2 a2 w2 hs2
                cases j with
                | go => exact run_ok hm htb ih fuel r st' (sat_mono (fun s hs => ihk s hs) (bind_sat hst')) β3 F3 a3 w3 h3
                | exit id =>
                  simp only at hst'
                  split at hst'
                  · rename_i r' hu
                    exact unwind_ok hu (run_ok hm htb ih fuel r' st' (sat_mono (fun s hs => ihk s hs) (bind_sat hst')) β3 F3 a3 w3 h3)
                  · exact hst'.elim
                | ret => exact unwind_ret ((fin_leaf (H := fun _ _ _ => False) htb hp hlt hst').1 β3 F3 a3 w3 h3)
          exact run_ok (H := fun _ _ _ => False) hm htb ih fuel _ _ (sat_mono (fun s hst => ends 60 s hst) (bind_sat (joinM_ok (joinT_ok hp h))))
        · exact h.elim
end
end Go.Qv
