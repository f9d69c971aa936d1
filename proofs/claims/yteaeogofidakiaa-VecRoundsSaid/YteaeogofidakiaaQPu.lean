/- Calls whose arguments are read only and whose answer nobody writes: contracts of such functions. No condition. -/
import Derived.Test.YteaeogofidakiaaQFl
import Derived.Test.YteaeogofidakiaaQY
set_option linter.unusedVariables false
set_option linter.unusedSimpArgs false
namespace Go.Qv
open Go.RowKit

/-- A value as one that nobody writes. -/
def argP (hs : List (Nat × HObj)) (x : AV) : Option AV :=
  match asV hs x with
  | some a => some (.agg a.cells)
  | none => match x with
    | .own id => (match lk hs id with
      | some (.arr _ c) => (match c.plain with | true => some (.sl c) | false => none)
      | _ => none)
    | x => (match cleanA x with | true => some x | false => none)
def argsP (hs : List (Nat × HObj)) : List AV → Option (List AV)
  | [] => some []
  | x :: l => match argP hs x, argsP hs l with | some y, some r => some (y :: r) | _, _ => none
def resP (new : List HObj) : AV → Option AV
  | .tup l => (match argsP (named 0 new) l with | some r => some (.tup r) | none => none)
  | x => argP (named 0 new) x
def resE : Eff → Option AV
  | ⟨x, [], [], new⟩ => resP new x
  | _ => none
def noβ : Nat → Option Value := fun _ => none
structure PPost (F : Nat → Prop) (w : World) (y : AV) (v' : Value) (F' : Nat → Prop) (w' : World) : Prop where
  vr : VR noβ F' w' v' y
  Fext : ∀ b, F b → F' b
  Flt : ∀ b, F' b → b < w'.heap.size
  Fnew : ∀ b, F' b → F b ∨ w.heap.size ≤ b
  frame : ∀ b, b < w.heap.size → w'.heap[b]? = w.heap[b]?
  os : w'.os = w.os
  tape : w'.tape = w.tape
  output : w'.output = w.output
  size : w.heap.size ≤ w'.heap.size
abbrev PS := FuncId → List AV → T AV
def Args (F : Nat → Prop) (w : World) (cs : Array Value) (xs : List AV) : Prop :=
  (∀ b, F b → b < w.heap.size) ∧ cs.size = xs.length ∧ ∀ (j : Nat) (v : Value) (x : AV), cs[j]? = some v → xs[j]? = some x → VR noβ F w v x
/-- One function's contract. -/
def Pure1 (P : Program) (f : FuncId) (s : List AV → T AV) : Prop :=
  ∀ (xs : List AV) (F : Nat → Prop) (w : World) (cs : Array Value) (R : Value → World → Prop), Args F w cs xs →
    (s xs).sat (fun y => ∀ v' F' w', PPost F w y v' F' w' → R v' w') → Goes P f cs w R
def PureOk (P : Program) (sp : PS) : Prop := ∀ f, Pure1 P f (sp f)
def PS.none : PS := fun _ _ => .stuck "contract"
def PS.also (f0 : FuncId) (s : List AV → T AV) (r : PS) : PS := fun f xs => match Nat.beq f f0 with | true => s xs | false => r f xs
theorem PureOk.none (P : Program) : PureOk P PS.none := fun _ _ _ _ _ _ _ h => h.elim
theorem PureOk.also {P : Program} {f0 : FuncId} {s : List AV → T AV} {r : PS} (h : Pure1 P f0 s) (hr : PureOk P r) : PureOk P (PS.also f0 s r) := by
  intro f xs F w cs R ha h1
  unfold PS.also at h1
  split at h1
  · rename_i hb; have := Nat.eq_of_beq_eq_true hb; subst this; exact h xs F w cs R ha h1
  · exact hr f xs F w cs R ha h1
def scalar1 : AV → Bool
  | .int _ _ => true | .bool _ => true | .str _ => true | _ => false
def scalars : List AV → Bool
  | [] => true
  | x :: l => match scalar1 x with | true => scalars l | false => false
def scalar : AV → Bool
  | .tup l => scalars l | x => scalar1 x
def pureOrc (sp : PS) : Orc := fun f nx xs hs =>
  match argsP hs xs with
  | some ys => (sp f ys).bind fun y => match scalar y with
    | true => .leaf ⟨y, [], [], []⟩
    | false => .leaf ⟨y, gone (xs.flatMap AV.owns), xs.flatMap AV.owns, []⟩
  | none => .stuck "contract: arguments"

theorem cells_clean (a : VT) : Clean (.agg a.cells) := by
  refine .agg _ (fun x hx => ?_)
  simp [VT.cells] at hx
  rcases hx with rfl | rfl | rfl | rfl
  · exact .int _ _
  · exact .sl _ rfl
  · exact .sl _ rfl
  · exact .sl _ rfl
section
variable {P : Program} {hs : List (Nat × HObj)} {nx : Nat} {β : Nat → Option Value} {F : Nat → Prop} {w : World}
theorem argP_ok {ids : List Nat} {x y : AV} {v : Value} (hO : ∀ p ∈ hs, OR β F w p.1 p.2) (h : argP hs x = some y) (hv : VR β F w v x) (hi : ∀ id ∈ x.owns, id ∈ ids) : VR noβ (FZ ids β F) w v y := by
  unfold argP at h
  split at h
  · rename_i a ha
    injection h with h
    subst h
    exact (asV_ok hO ha hv hi).clean (cells_clean a)
  · split at h
    · rename_i id
      split at h
      · rename_i e c hl
        split at h
        · rename_i hpl
          injection h with h
          subst h
          exact (own_sl (hO _ (lk_mem hl)) hv (hi _ (by simp [AV.owns, AV.owns1]))).clean (.sl _ hpl)
        · cases h
      · cases h
    · split at h
      · rename_i hc
        injection h with h
        subst h
        exact hv.fz.clean (cleanA_ok hc)
      · cases h
theorem clean_owns {x : AV} (h : clean1 x = true) : x.owns1 = [] := by
  cases x <;> first | rfl | (simp [clean1] at h)
theorem allC_owns : ∀ {l : List AV}, allC l = true → l.flatMap AV.owns1 = []
  | [], _ => rfl
  | x :: l, h => by
    unfold allC at h
    split at h
    · rename_i hc; simp only [List.flatMap_cons, clean_owns hc, allC_owns h, List.append_nil]
    · cases h
theorem argP_known {x y : AV} (h : argP hs x = some y) : ∀ id ∈ x.owns, ∃ ob, (id, ob) ∈ hs := by
  intro id hid
  unfold argP at h
  split at h
  · rename_i a ha; exact asV_known ha id hid
  · split at h
    · rename_i i
      simp [AV.owns, AV.owns1] at hid
      subst hid
      split at h
      · rename_i hl; exact ⟨_, lk_mem hl⟩
      · cases h
    · split at h
      · rename_i hc
        exfalso
        revert hid hc
        cases x with
        | agg l => intro hid hc; simp only [AV.owns] at hid; rw [allC_owns hc] at hid; simp at hid
        | own i => intro hid hc; simp [cleanA, clean1] at hc
        | _ => intro hid hc; simp [AV.owns, AV.owns1] at hid
      · cases h
theorem argsP_at : ∀ {xs ys : List AV}, argsP hs xs = some ys → ys.length = xs.length ∧ ∀ (j : Nat) (y : AV), ys[j]? = some y → ∃ x, xs[j]? = some x ∧ argP hs x = some y
  | [], ys, h => by simp [argsP] at h; subst h; simp
  | x :: l, ys, h => by
    unfold argsP at h
    split at h
    · rename_i y r h1 h2
      injection h with h
      subst h
      obtain ⟨a, b⟩ := argsP_at h2
      refine ⟨by simp [a], fun j z hj => ?_⟩
      cases j with
      | zero => simp at hj; subst hj; exact ⟨x, rfl, h1⟩
      | succ j => obtain ⟨x', c, d⟩ := b j z (by simpa using hj); exact ⟨x', by simpa using c, d⟩
    · cases h
theorem argsP_known : ∀ {xs ys : List AV}, argsP hs xs = some ys → ∀ id ∈ xs.flatMap AV.owns, ∃ ob, (id, ob) ∈ hs
  | [], ys, h, id, hid => by simp at hid
  | x :: l, ys, h, id, hid => by
    unfold argsP at h
    split at h
    · rename_i y r h1 h2
      simp only [List.flatMap_cons, List.mem_append] at hid
      rcases hid with hid | hid
      · exact argP_known h1 id hid
      · exact argsP_known h2 id hid
    · cases h
theorem scalar1_vr {β' : Nat → Option Value} {F' : Nat → Prop} {w' : World} {x : AV} {v : Value} (h : scalar1 x = true) (hv : VR β F w v x) : VR β' F' w' v x := by
  cases x <;> simp [scalar1] at h
  · cases hv; exact .int _ _
  · cases hv; exact .bool _
  · cases hv; exact .str _
theorem scalars_at : ∀ {l : List AV}, scalars l = true → ∀ x ∈ l, scalar1 x = true
  | [], _, x, h => by simp at h
  | y :: l, h, x, hx => by
    unfold scalars at h
    split at h
    · rename_i hc
      rcases List.mem_cons.1 hx with rfl | hx
      · exact hc
      · exact scalars_at h x hx
    · cases h
theorem scalar_vr {β' : Nat → Option Value} {F' : Nat → Prop} {w' : World} {x : AV} {v : Value} (h : scalar x = true) (hv : VR β F w v x) : VR β' F' w' v x := by
  cases x with
  | tup l =>
    cases hv with
    | tup cs _ h1 h2 => exact .tup _ _ h1 (fun j u y hu hy => scalar1_vr (scalars_at h y (List.mem_of_getElem? hy)) (h2 j u y hu hy))
  | _ => exact scalar1_vr h hv
theorem FZ_lt {ids : List Nat} (hp : Pre hs nx β F w) (hk : ∀ id ∈ ids, ∃ ob, (id, ob) ∈ hs) : ∀ b, FZ ids β F b → b < w.heap.size := by
  rintro b (h | ⟨id, hid, v, h1, h2⟩)
  · exact hp.hF b h
  · obtain ⟨ob, ho⟩ := hk id hid
    exact (hp.hh _ ho).1.lt h1 h2
theorem pureOrc_ok {sp : PS} (h0 : PureOk P sp) : OrcOk P (pureOrc sp) (fun _ => True) := by
  intro f nx xs hs β F w cs R _ hp hlen hvr h
  unfold pureOrc at h
  split at h
  · rename_i ys hys
    have hO : ∀ p ∈ hs, OR β F w p.1 p.2 := fun p h => (hp.hh p h).1
    obtain ⟨l1, l2⟩ := argsP_at hys
    have hk := argsP_known hys
    refine h0 f ys (FZ (xs.flatMap AV.owns) β F) w cs R ⟨FZ_lt hp hk, by omega, fun j v y hv hy => ?_⟩ (sat_mono (fun y hy => ?_) (bind_sat h))
    · obtain ⟨x, h1, h2⟩ := l2 j y hy
      refine argP_ok hO h2 (hvr j v x hv h1) (fun id hid => List.mem_flatMap.2 ⟨x, List.mem_of_getElem? h1, hid⟩)
    · intro v' F' w' p
      split at hy
      · rename_i hsc
        refine hy v' β F w' ⟨scalar_vr hsc p.vr, fun _ _ h => h, fun _ _ h => .inl h, fun _ h => h, fun b hb => Nat.lt_of_lt_of_le (hp.hF b hb) p.size, fun _ h => .inl h, fun _ _ h => by simp at h, fun _ _ h => by simp at h, fun _ _ _ h => by simp at h, fun _ _ _ _ _ h => by simp at h, fun _ h => by simp at h, fun _ _ h => by simp at h, fun b hb _ => p.frame b hb, p.os, p.tape, p.output, p.size⟩
      · refine hy v' β F' w' ⟨p.vr.mono (fun id x hx => by cases hx) (fun _ h => h) (fun _ _ => rfl), fun _ _ h => h, fun _ _ h => .inl h, fun b hb => p.Fext b (.inl hb), p.Flt, fun b hb => ?_, fun id ob hm => ?_, fun _ _ h => by simp at h, fun _ _ _ h => by simp at h, fun _ _ _ _ _ h => by simp at h, fun q hq => ?_, fun id ob hm => ?_, fun b hb _ => p.frame b hb, p.os, p.tape, p.output, p.size⟩
        · rcases p.Fnew b hb with (h | ⟨id, hid, x, h1, h2⟩) | h
          · exact .inl h
          · exact .inr (.inr ⟨id, hid, by simp only [gone, List.mem_map]; exact ⟨id, hid, rfl⟩, x, h1, h2⟩)
          · exact .inr (.inl h)
        · simp [gone] at hm
        · simp only [gone, List.mem_map] at hq
          obtain ⟨id, hid, rfl⟩ := hq
          exact hk id hid
        · simp [gone] at hm
  · exact h.elim
theorem named_mem : ∀ {l : List HObj} {n : Nat} {p : Nat × HObj}, p ∈ named n l → n ≤ p.1 ∧ p.1 < n + l.length ∧ l[p.1 - n]? = some p.2
  | [], n, p, h => by simp [named] at h
  | ob :: l, n, p, h => by
    simp only [named, List.mem_cons] at h
    rcases h with rfl | h
    · simp
    · obtain ⟨a, b, c⟩ := named_mem h
      refine ⟨by omega, by simp; omega, ?_⟩
      rw [show p.1 - n = (p.1 - (n + 1)) + 1 by omega]
      simpa using c
/-- What a walk answers, as a value that nobody writes. -/
theorem resE_ok {E : Eff} {y : AV} {v' : Value} {β' : Nat → Option Value} {F' : Nat → Prop} {w' : World} (h : resE E = some y) (p : Post [] 0 E noβ F w v' β' F' w') :
    ∃ F'', PPost F w y v' F'' w' := by
  unfold resE at h
  split at h
  · rename_i x new
    have hO : ∀ q ∈ named 0 new, OR β' F' w' q.1 q.2 := fun q hq => by
      obtain ⟨_, _, c⟩ := named_mem hq
      have := p.news q.1 q.2 (by simpa using c)
      simpa using this
    have hlt : ∀ {x y}, argP (named 0 new) x = some y → ∀ id ∈ x.owns, id ∈ List.range new.length := fun hx id hid => by
      obtain ⟨ob, ho⟩ := argP_known hx id hid
      obtain ⟨_, b, _⟩ := named_mem ho
      simp at b
      exact List.mem_range.2 b
    refine ⟨FZ (List.range new.length) β' F', ⟨?_, fun b hb => .inl (p.Fext b hb), ?_, ?_, fun b hb => p.frame b hb (by simp), p.os, p.tape, p.output, p.size⟩⟩
    · unfold resP at h
      split at h
      · rename_i l
        split at h
        · rename_i r hr
          injection h with h
          subst h
          obtain ⟨l1, l2⟩ := argsP_at hr
          have hv := p.vr
          cases hv with
          | tup cs _ h1 h2 =>
            refine .tup _ _ (by omega) (fun j u y hu hy => ?_)
            obtain ⟨x0, g1, g2⟩ := l2 j y hy
            exact argP_ok hO g2 (h2 j u x0 hu g1) (hlt g2)
        · cases h
      · exact argP_ok hO h p.vr (hlt h)
    · rintro b (h1 | ⟨id, hid, v, h1, h2⟩)
      · exact p.Flt b h1
      · have hid := List.mem_range.1 hid
        have := p.news id _ (List.getElem?_eq_getElem hid)
        exact this.lt (by simpa using h1) h2
    · rintro b (h1 | ⟨id, hid, v, h1, h2⟩)
      · rcases p.Fnew b h1 with h1 | h1 | ⟨i, hi, _⟩
        · exact .inl h1
        · exact .inr h1
        · simp at hi
      · have hid := List.mem_range.1 hid
        obtain ⟨_, h3⟩ := p.newb id v b hid (by simpa using h1) h2
        rcases h3 with h3 | ⟨i, hi, _⟩
        · exact .inr h3
        · simp at hi
  · cases h
theorem pre0 (hF : ∀ b, F b → b < w.heap.size) : Pre [] 0 noβ F w := ⟨fun _ _ _ => rfl, hF, fun _ h => by simp at h, fun _ h => by simp at h⟩
/-- A function's walk in pieces as its contract. -/
theorem flow_pure {tb : Tb} {orc : Orc} {fns : FuncId → Option Func} (hm : P.follows .mixedOrders = true) (htb : TbOk P tb) (horc : OrcOk P orc (fun _ => True)) (hfn : FnsOk P fns) {f : FuncId} {fn : Func} (hf : fns f = some fn)
    {cuts : List Cut} (hok : cutsOk cuts = true) {e0 : Nat} {c0 : Cut} (hc0 : findCut e0 cuts = some c0) (hpre : c0.pre = [.code (bodyOf fn)]) {xs ys : List AV} {ρ : List Lf} (hys : renL (renF (sig0 0) 5) xs = some ys)
    (hin : c0.tm.inst ρ = ⟨zipArgs 0 ys, [], [], 0, fn.ntmps⟩) (hnt : Nat.ble xs.length fn.ntmps = true)
    {cs : Array Value} {R : Value → World → Prop} (ha : Args F w cs xs) {K : AV → Prop} {n : Nat} (hfs : FS (stepX O.real tb orc fn.results [] 0 cuts) (fun E => ∃ y, resE E = some y ∧ K y) n (e0, ρ))
    (hK : ∀ y, K y → ∀ v' F' w', PPost F w y v' F' w' → R v' w') : Goes P f cs w R := by
  obtain ⟨hF, hlen, hvr⟩ := ha
  have hp := pre0 hF
  refine walk_goes hfn hf hp hlen hvr hys (hs' := []) rfl hnt ?_
  have hfs' : FS (stepX O.real tb orc fn.results [] 0 cuts) (fun E => ∀ v' β' F' w', Post [] 0 E noβ F w v' β' F' w' → R v' w') n (e0, ρ) := FS.imp (fun E ⟨y, h1, h2⟩ v' β' F' w' p => by
    obtain ⟨F'', q⟩ := resE_ok h1 p
    exact hK y h2 v' F'' w' q) hfs
  obtain ⟨c, h1, h2⟩ := flow_cut (fn := fn) (R := R) hm htb horc hp (fun p hp => by simp at hp) hok n _ hfs'
  rw [hc0] at h1
  injection h1 with h1
  subst h1
  intro β2 F2 a2 w2 h3
  rw [← hin] at h3
  have h4 := (h2 β2 F2 a2 w2 h3).post
  rw [hpre] at h4
  have e : PostI P (HofC P (Qx P fn R) cuts) (Qx P fn R) [.code (bodyOf fn)] = PostI P (fun _ _ _ => False) (Qx P fn R) [.code (bodyOf fn)] := PostI_marks (by simp [marksOf])
  rw [e] at h4
  exact h4
where
  FS.imp {step : Nat × List Lf → T Gt} {Q Q' : Eff → Prop} (hq : ∀ E, Q E → Q' E) : ∀ {n g}, FS step Q n g → FS step Q' n g
    | 0, _, h => h.elim
    | n + 1, g, h => by
      refine sat_mono (fun x hx => ?_) h
      cases x with
      | inl g' => exact FS.imp hq hx
      | inr E => exact hq E hx
end
end Go.Qv
