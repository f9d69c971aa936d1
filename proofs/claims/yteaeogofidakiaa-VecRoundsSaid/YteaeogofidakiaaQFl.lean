/- Walks in pieces: forms at the heads of loops and at pauses; what a piece leads to is a piece again, or the call's end. No condition. -/
import Derived.Test.YteaeogofidakiaaQTm
import Derived.Test.YteaeogofidakiaaQZ
set_option linter.unusedVariables false
set_option linter.unusedSimpArgs false
namespace Go.Qv
open Go.RowKit

/-- The first region of a body: by its number a piece is known. -/
def cid : Code → Option Nat
  | .region id _ _ => some id
  | .seq a b => match cid a with | some n => some n | none => cid b
  | .block _ a => cid a
  | .loop a => cid a
  | .cond _ a b => match cid a with | some n => some n | none => cid b
  | _ => none
def hid : List It → Nat
  | .code c :: r => (match cid c with | some n => n | none => hid r)
  | _ :: r => hid r
  | [] => 0
structure Cut where
  id : Nat
  tm : TS
  pre : List It
  bk : List Nat
def Cut.go (c : Cut) : List It := match c.pre with | .code (.loop b) :: r => .code b :: .again c.id :: r | l => l
def isLoop : List It → Bool
  | .code (.loop _) :: _ => true
  | _ => false
/-- The code at a loop (by the first region of its body) or a region, and what is to come behind it. -/
def findC (id : Nat) : Code → List It → Option (List It)
  | .seq a b, r => (match findC id a (.code b :: r) with | some l => some l | none => findC id b r)
  | .cond _ a b, r => (match findC id a r with | some l => some l | none => findC id b r)
  | .block i a, r => findC id a (.blk i :: r)
  | .loop a, r => (match cid a with
    | some n => (match Nat.beq n id with | true => some (.code (.loop a) :: r) | false => findC id a (.again n :: r))
    | none => none)
  | .region i ops d, r => (match Nat.beq i id with | true => some (.code (.region i ops d) :: r) | false => none)
  | _, _ => none
def codeAt (fn : Func) (id : Nat) : List It := match findC id (bodyOf fn) [] with | some l => l | none => []
def findCut (k : Nat) : List Cut → Option Cut
  | [] => none
  | c :: r => match Nat.beq k c.id with | true => some c | false => findCut k r
abbrev Gt := (Nat × List Lf) ⊕ Eff
noncomputable def goCut (cuts : List Cut) (nx : Nat) (l : List It) (st : S) : T Gt :=
  match findCut (hid l) cuts with
  | some c => .req ⟨l = c.pre, Classical.propDecidable _⟩ (match matchS nx c.tm st with | some r => .leaf (.inl (c.id, r)) | none => .stuck "form")
  | none => .stuck "piece"
noncomputable def endX (tb : Tb) (nx : Nat) (rs : Array ResultVar) (hs : List (Nat × HObj)) (cuts : List Cut) : Stop → T Gt
  | .more l st => goCut cuts nx l st
  | .loop b r st => goCut cuts nx (.code (.loop b) :: r) st
  | .again n st => match findCut n cuts with
    | some c => (match isLoop c.pre, matchS nx c.tm st with | true, some r => .leaf (.inl (c.id, r)) | _, _ => .stuck "form: again")
    | none => .stuck "piece: again"
  | .ret st => (fin tb nx rs hs st).bind fun E => .leaf (.inr E)
  | .done st => (fin tb nx rs hs st).bind fun E => .leaf (.inr E)
  | .exit _ _ => .stuck "exit"
  | .rfunc _ _ _ _ _ _ => .stuck "rfunc"
/-- One piece. -/
noncomputable def piece1 (o : O) (tb : Tb) (orc : Orc) (rs : Array ResultVar) (hs : List (Nat × HObj)) (nx : Nat) (cuts : List Cut) (c : Cut) (r : List Lf) : T Gt :=
  (run o tb orc false c.bk 400 c.go (c.tm.inst r)).bind (endX tb nx rs hs cuts)
/-- Piece after piece, n at most. -/
def FS (step : Nat × List Lf → T Gt) (Q : Eff → Prop) : Nat → Nat × List Lf → Prop
  | 0, _ => False
  | n + 1, g => (step g).sat fun | .inl g' => FS step Q n g' | .inr E => Q E
theorem FS.mono {step : Nat × List Lf → T Gt} {Q : Eff → Prop} : ∀ {n m : Nat} {g}, n ≤ m → FS step Q n g → FS step Q m g
  | 0, _, g, _, h => h.elim
  | n + 1, 0, g, hn, h => by omega
  | n + 1, m + 1, g, hn, h => by
    refine sat_mono (fun x hx => ?_) h
    cases x with
    | inl g' => exact FS.mono (by omega) hx
    | inr E => exact hx
noncomputable def stepX (o : O) (tb : Tb) (orc : Orc) (rs : Array ResultVar) (hs : List (Nat × HObj)) (nx : Nat) (cuts : List Cut) (g : Nat × List Lf) : T Gt :=
  match findCut g.1 cuts with
  | some c => piece1 o tb orc rs hs nx cuts c g.2
  | none => .stuck "step"

def marksOf : List It → List Nat
  | [] => []
  | .again n :: r => n :: marksOf r
  | _ :: r => marksOf r
def loopIds : List Cut → List Nat
  | [] => []
  | c :: r => match c.pre with | .code (.loop _) :: _ => c.id :: loopIds r | _ => loopIds r
def subB (a b : List Nat) : Bool := a.all fun x => mem x b
/-- Inner loops stand ahead of outer ones. -/
def cutsOk : List Cut → Bool
  | [] => true
  | c :: r => (match c.pre with
    | .code (.loop _) :: l => !mem c.id (loopIds r) && subB (marksOf l) (loopIds r)
    | l => true) && cutsOk r
/-- What the marks stand for. -/
def HofC (P : Program) (Q : Exit → Act → World → Prop) : List Cut → Nat → Act → World → Prop
  | [], _ => fun _ _ => False
  | c :: cs, m => match c.pre with
    | .code (.loop b) :: l => if m = c.id then LoopGo P b (PostI P (HofC P Q cs) Q l) else HofC P Q cs m
    | _ => HofC P Q cs m
theorem HofC_loop {P : Program} {Q : Exit → Act → World → Prop} {c : Cut} {b : Code} {l : List It} (hp : c.pre = .code (.loop b) :: l) (cs : List Cut) (m : Nat) :
    HofC P Q (c :: cs) m = if m = c.id then LoopGo P b (PostI P (HofC P Q cs) Q l) else HofC P Q cs m := by
  show (match c.pre with
    | .code (.loop b) :: l => if m = c.id then LoopGo P b (PostI P (HofC P Q cs) Q l) else HofC P Q cs m
    | _ => HofC P Q cs m) = _
  rw [hp]
theorem HofC_other {P : Program} {Q : Exit → Act → World → Prop} {c : Cut} (hp : ∀ b l, c.pre ≠ .code (.loop b) :: l) (cs : List Cut) (m : Nat) : HofC P Q (c :: cs) m = HofC P Q cs m := by
  show (match c.pre with
    | .code (.loop b) :: l => if m = c.id then LoopGo P b (PostI P (HofC P Q cs) Q l) else HofC P Q cs m
    | _ => HofC P Q cs m) = _
  split
  · rename_i b l h; exact absurd h (hp b l)
  · rfl
theorem mem_iff {n : Nat} : ∀ {l : List Nat}, mem n l = true ↔ n ∈ l
  | [] => by simp [mem]
  | m :: l => by
    unfold mem
    split
    · rename_i h; have := Nat.eq_of_beq_eq_true h; subst this; simp
    · rename_i h
      rw [mem_iff (l := l)]
      have : n ≠ m := fun e => by subst e; simp [Nat.beq_refl] at h
      simp [this]
theorem PostI_marks {P : Program} {H H' : Nat → Act → World → Prop} {Q : Exit → Act → World → Prop} : ∀ {l : List It}, (∀ n ∈ marksOf l, H n = H' n) → PostI P H Q l = PostI P H' Q l
  | [], _ => rfl
  | .code x :: r, h => by unfold PostI; rw [PostI_marks (l := r) h]
  | .blk id :: r, h => by unfold PostI; rw [PostI_marks (l := r) h]
  | .rep b :: r, h => by unfold PostI; rw [PostI_marks (l := r) h]
  | .again n :: r, h => by
    unfold PostI
    rw [PostI_marks (l := r) (fun m hm => h m (List.mem_cons_of_mem _ hm)), h n List.mem_cons_self]
theorem findCut_mem {k : Nat} {c : Cut} : ∀ {l : List Cut}, findCut k l = some c → c ∈ l ∧ c.id = k
  | [], h => by simp [findCut] at h
  | d :: r, h => by
    unfold findCut at h
    split at h
    · rename_i hb
      injection h with h
      subst h
      exact ⟨List.mem_cons_self, (Nat.eq_of_beq_eq_true hb).symm⟩
    · obtain ⟨a, b⟩ := findCut_mem h
      exact ⟨List.mem_cons_of_mem _ a, b⟩
section
variable {P : Program} {Q : Exit → Act → World → Prop}
theorem loopIds_mem {b : Code} {l : List It} {c : Cut} (hp : c.pre = .code (.loop b) :: l) : ∀ {cs : List Cut}, c ∈ cs → c.id ∈ loopIds cs
  | d :: cs, h => by
    unfold loopIds
    rcases List.mem_cons.1 h with rfl | h
    · rw [hp]; exact List.mem_cons_self
    · split
      · exact List.mem_cons_of_mem _ (loopIds_mem hp h)
      · exact loopIds_mem hp h
theorem cuts_marks {b : Code} {l : List It} {c : Cut} (hp : c.pre = .code (.loop b) :: l) : ∀ {cs : List Cut}, cutsOk cs = true → c ∈ cs → ∀ n ∈ marksOf l, n ∈ loopIds cs
  | d :: cs, hok, h, n, hn => by
    simp only [cutsOk, Bool.and_eq_true] at hok
    have up : ∀ {m}, m ∈ loopIds cs → m ∈ loopIds (d :: cs) := fun {m} hm => by
      unfold loopIds
      split
      · exact List.mem_cons_of_mem _ hm
      · exact hm
    rcases List.mem_cons.1 h with rfl | h
    · have hok1 := hok.1
      rw [hp] at hok1
      simp only [Bool.and_eq_true, Bool.not_eq_true'] at hok1
      have h2 := hok1.2
      unfold subB at h2
      rw [List.all_eq_true] at h2
      exact up (mem_iff.1 (h2 n hn))
    · exact up (cuts_marks hp hok.2 h n hn)
theorem fresh_head {d : Cut} {b : Code} {l : List It} {cs : List Cut} (hp : d.pre = .code (.loop b) :: l) (hok : cutsOk (d :: cs) = true) : d.id ∉ loopIds cs := by
  simp only [cutsOk, Bool.and_eq_true] at hok
  have h := hok.1
  rw [hp] at h
  simp only [Bool.and_eq_true, Bool.not_eq_true'] at h
  intro hm
  rw [mem_iff.2 hm] at h
  exact absurd h.1 (by simp)
/-- Marks of what stands further on are as they are there. -/
theorem HofC_tail {d : Cut} {cs : List Cut} (hok : cutsOk (d :: cs) = true) {n : Nat} (hn : n ∈ loopIds cs) : HofC P Q (d :: cs) n = HofC P Q cs n := by
  by_cases hp : ∃ b l, d.pre = .code (.loop b) :: l
  · obtain ⟨b, l, hp⟩ := hp
    rw [HofC_loop hp, if_neg (fun e : n = d.id => fresh_head hp hok (e ▸ hn))]
  · exact HofC_other (fun b l h => hp ⟨b, l, h⟩) cs n
theorem HofC_at {b : Code} {l : List It} {c : Cut} (hp : c.pre = .code (.loop b) :: l) : ∀ {cs : List Cut}, cutsOk cs = true → c ∈ cs → HofC P Q cs c.id = LoopGo P b (PostI P (HofC P Q cs) Q l)
  | d :: cs, hok, h => by
    have hok' := hok
    simp only [cutsOk, Bool.and_eq_true] at hok'
    rcases List.mem_cons.1 h with e | h
    · subst e
      have hin : ∀ n ∈ marksOf l, n ∈ loopIds cs := fun n hn => by
        have hok1 := hok'.1
        rw [hp] at hok1
        simp only [Bool.and_eq_true, Bool.not_eq_true'] at hok1
        have h2 := hok1.2
        unfold subB at h2
        rw [List.all_eq_true] at h2
        exact mem_iff.1 (h2 n hn)
      rw [HofC_loop hp, if_pos rfl, PostI_marks (H := HofC P Q cs) (H' := HofC P Q (c :: cs)) (fun n hn => (HofC_tail hok (hin n hn)).symm)]
    · rw [HofC_tail hok (loopIds_mem hp h), HofC_at hp hok'.2 h, PostI_marks (H := HofC P Q cs) (H' := HofC P Q (d :: cs)) (fun n hn => (HofC_tail hok (cuts_marks hp hok'.2 h n hn)).symm)]
end

section
variable {P : Program} {tb : Tb} {orc : Orc} {hs : List (Nat × HObj)} {nx : Nat} {β : Nat → Option Value} {F : Nat → Prop} {w : World} {fn : Func} {R : Value → World → Prop}
/-- What must hold at a cut. -/
def CutGo (P : Program) (H : Nat → Act → World → Prop) (Q : Exit → Act → World → Prop) (c : Cut) (a : Act) (w : World) : Prop :=
  match c.pre with
  | .code (.loop b) :: r => b.wp P (Exit.then (LoopGo P b (PostI P H Q r)) (PostI P H Q r)) a w
  | l => PostI P H Q l .normal a w
theorem CutGo.post {H : Nat → Act → World → Prop} {Q : Exit → Act → World → Prop} {c : Cut} {a : Act} {w : World} (h : CutGo P H Q c a w) : PostI P H Q c.pre .normal a w := by
  unfold CutGo at h
  split at h
  · rename_i b r hp
    rw [hp]
    exact wp_loop_of h
  · exact h
theorem flow_cut (hm : P.follows .mixedOrders = true) (htb : TbOk P tb) (horc : OrcOk P orc (fun _ => True)) (hp : Pre hs nx β F w) (hlt : ∀ p ∈ hs, p.1 < nx) {cuts : List Cut} (hok : cutsOk cuts = true) :
    ∀ n g, FS (stepX O.real tb orc fn.results hs nx cuts) (fun E => ∀ v' β' F' w', Post hs nx E β F w v' β' F' w' → R v' w') n g → ∃ c, findCut g.1 cuts = some c ∧
      ∀ β2 F2 a2 w2, RS (callCtx hs nx β F w) (c.tm.inst g.2) β2 F2 a2 w2 → CutGo P (HofC P (Qx P fn R) cuts) (Qx P fn R) c a2 w2 := by
  intro n
  induction n with
  | zero => intro g h; exact h.elim
  | succ n ih =>
    intro g h
    unfold FS stepX at h
    cases hc : findCut g.1 cuts with
    | none => rw [hc] at h; exact h.elim
    | some c =>
      rw [hc] at h
      refine ⟨c, rfl, ?_⟩
      obtain ⟨hcm, hcid⟩ := findCut_mem hc
      have key : AW P (HofC P (Qx P fn R) cuts) (Qx P fn R) (callCtx hs nx β F w) c.go (c.tm.inst g.2) := by
        refine run_ok hm htb horc 400 c.go _ (sat_mono (fun s hst => ?_) (bind_sat h))
        have cut : ∀ {l st}, (goCut cuts nx l st).sat (fun | .inl g' => FS (stepX O.real tb orc fn.results hs nx cuts) (fun E => ∀ v' β' F' w', Post hs nx E β F w v' β' F' w' → R v' w') n g' | .inr E => ∀ v' β' F' w', Post hs nx E β F w v' β' F' w' → R v' w') →
            AW P (HofC P (Qx P fn R) cuts) (Qx P fn R) (callCtx hs nx β F w) l st := by
          intro l st hst
          unfold goCut at hst
          split at hst
          · rename_i c' hc'
            obtain ⟨e, hst⟩ := hst
            have e : l = c'.pre := e
            split at hst
            · rename_i r hr
              obtain ⟨c2, h1, h2⟩ := ih _ hst
              simp only at h1
              have hid := (findCut_mem hc').2
              rw [hid, hc'] at h1
              injection h1 with h1
              subst h1
              intro β2 F2 a2 w2 hs2
              obtain ⟨β3, h3⟩ := matchS_ok callCtx_B0 hs2 hr
              rw [e]
              exact (h2 β3 F2 a2 w2 h3).post
            · exact hst.elim
          · exact hst.elim
        cases s with
        | done st => exact (fin_leaf htb hp hlt (sat_mono (fun _ h => h) (bind_sat hst))).2
        | ret st => exact (fin_leaf htb hp hlt (sat_mono (fun _ h => h) (bind_sat hst))).1
        | exit id st => exact hst.elim
        | rfunc f ps asg b r st => exact hst.elim
        | loop b r st => exact cut hst
        | more l st => exact cut hst
        | again m st =>
          simp only [endX] at hst
          split at hst
          · rename_i c' hc'
            split at hst
            · rename_i r hl hr
              obtain ⟨c2, h1, h2⟩ := ih _ hst
              simp only at h1
              obtain ⟨hm', hid⟩ := findCut_mem hc'
              rw [hid, hc'] at h1
              injection h1 with h1
              subst h1
              intro β2 F2 a2 w2 hs2
              obtain ⟨β3, h3⟩ := matchS_ok callCtx_B0 hs2 hr
              have h4 := h2 β3 F2 a2 w2 h3
              unfold isLoop at hl
              split at hl
              · rename_i b l hpre
                have e := HofC_at (P := P) (Q := Qx P fn R) hpre hok hm'
                unfold CutGo at h4
                rw [hpre] at h4
                rw [← hid, e]
                exact loopGo_of h4
              · cases hl
            · exact hst.elim
          · exact hst.elim
      intro β2 F2 a2 w2 h2
      have h3 := key β2 F2 a2 w2 h2
      unfold CutGo
      unfold Cut.go at h3
      split at h3
      · rename_i b r hpre
        have e := HofC_at (P := P) (Q := Qx P fn R) hpre hok hcm
        have h4 : b.wp P (PostI P (HofC P (Qx P fn R) cuts) (Qx P fn R) (.again c.id :: r)) a2 w2 := h3
        have h5 : PostI P (HofC P (Qx P fn R) cuts) (Qx P fn R) (.again c.id :: r) = Exit.then (HofC P (Qx P fn R) cuts c.id) (PostI P (HofC P (Qx P fn R) cuts) (Qx P fn R) r) := rfl
        rw [h5, e] at h4
        exact h4
      · exact h3
end
end Go.Qv
