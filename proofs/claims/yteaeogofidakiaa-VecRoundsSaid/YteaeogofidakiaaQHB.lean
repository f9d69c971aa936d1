/- Values that name no object. A new slice that nobody will write. No condition. -/
import Derived.Test.YteaeogofidakiaaQH
set_option linter.unusedVariables false
set_option linter.unusedSimpArgs false
namespace Go.Qv
open Go.RowKit

section
variable {β : Nat → Option Value} {F : Nat → Prop} {w : World}
inductive Clean : AV → Prop
  | int (k n) : Clean (.int k n)
  | bool (b) : Clean (.bool b)
  | str (b) : Clean (.str b)
  | nilp : Clean .nilp
  | nils : Clean .nils
  | sl (c) : c.plain = true → Clean (.sl c)
  | nilf : Clean .nilf
  | nili : Clean .nili
  | nilm : Clean .nilm
  | raw (v) : Clean (.raw v)
  | rp (l) : (∀ x ∈ l, Clean x) → Clean (.rp l)
  | agg (l) : (∀ x ∈ l, Clean x) → Clean (.agg l)
  | tup (l) : (∀ x ∈ l, Clean x) → Clean (.tup l)
  | fn (f l) : (∀ x ∈ l, Clean x) → Clean (.fn f l)
  | iface (t x) : Clean x → Clean (.iface t x)
theorem shapeFrom_clean (r : List AV) : ∀ (sh : List CK) (j : Nat), hasAny sh = false → ∀ x ∈ shapeFrom r j sh, Clean x
  | [], _, _, x, h => by simp [shapeFrom] at h
  | ck :: sh, j, hp, x, h => by
    simp only [shapeFrom, List.mem_cons] at h
    rcases h with rfl | h
    · cases ck <;> first | (simp [hasAny] at hp; done) | (constructor; done) | exact .sl _ rfl
    · exact shapeFrom_clean r sh _ (by cases ck <;> first | exact hp | (simp [hasAny] at hp; done)) x h
theorem LS.el_clean {c : LS} (h : c.ok) (hpl : c.plain = true) : ∀ e ∈ c.elems, ∀ x ∈ e, Clean x := by
  intro e he x hx
  cases c with
  | i k xs => simp only [LS.elems, List.mem_map] at he; obtain ⟨_, _, rfl⟩ := he; simp at hx; subst hx; constructor
  | s xs => simp only [LS.elems, List.mem_map] at he; obtain ⟨_, _, rfl⟩ := he; simp at hx; subst hx; constructor
  | v xs =>
    simp only [LS.elems, List.mem_map] at he
    obtain ⟨_, _, rfl⟩ := he
    simp [VT.cells] at hx
    rcases hx with rfl | rfl | rfl | rfl <;> first | (constructor; done) | exact .sl _ rfl
  | r sh xs => rw [h.2 e he] at hx; exact shapeFrom_clean _ _ _ (by simpa [LS.plain] using hpl) x hx
theorem VR.clean {β β' : Nat → Option Value} {v : Value} {x : AV} (h : VR β F w v x) (hx : Clean x) : VR β' F w v x := by
  induction h with
  | int => exact .int _ _
  | bool => exact .bool _
  | str => exact .str _
  | nilp => exact .nilp
  | ptr id off b o h => cases hx
  | ep id sz i off b n c h => cases hx
  | rp cs b o cv hf hc h1 _ ih => cases hx with | rp _ hx => exact .rp _ _ _ cv hf hc h1 (fun j x hj => ih j x hj (hx x (List.mem_of_getElem? hj)))
  | nils => exact .nils
  | sl0 c A cap h hk => exact .sl0 _ _ _ h hk
  | sl c b o n cap cv h1 h2 h3 h4 hf h5 hc _ ih => cases hx with | sl _ hpl => exact .sl _ _ _ _ _ cv h1 h2 h3 h4 hf h5 hc (fun i e j x he hj => ih i e j x he hj (LS.el_clean h5 hpl e (List.mem_of_getElem? he) x (List.mem_of_getElem? hj)))
  | own id v h hs => cases hx
  | fn f cs l h _ ih => cases hx with | fn _ _ hx => exact .fn _ _ _ h (fun j v x hv hj => ih j v x hv hj (hx x (List.mem_of_getElem? hj)))
  | nilf => exact .nilf
  | raw v h => exact .raw _ h
  | agg cs l h h2 _ ih => cases hx with | agg _ hx => exact .agg _ _ h h2 (fun j v x hv hj => ih j v x hv hj (hx x (List.mem_of_getElem? hj)))
  | tup cs l h _ ih => cases hx with | tup _ hx => exact .tup _ _ h (fun j v x hv hj => ih j v x hv hj (hx x (List.mem_of_getElem? hj)))
  | iface t v x _ ih => cases hx with | iface _ _ hx => exact .iface _ _ _ (ih hx)
  | nili => exact .nili
  | mp id r h => cases hx
  | nilm => exact .nilm
  | vw id sz lo b n c h1 h2 => cases hx
def clean1 : AV → Bool
  | .int _ _ => true | .bool _ => true | .str _ => true | .nilp => true | .nils => true | .sl c => c.plain | .nilf => true | .nili => true | .nilm => true | .raw _ => true
  | .fn _ [] => true | _ => false
def allC : List AV → Bool
  | [] => true
  | x :: l => match clean1 x with | true => allC l | false => false
def cleanA : AV → Bool
  | .agg l => allC l | .tup l => allC l | .rp l => allC l | .fn _ l => allC l | .iface _ x => clean1 x | x => clean1 x
theorem clean1_ok : ∀ {x : AV}, clean1 x = true → Clean x
  | .int _ _, _ => .int _ _
  | .bool _, _ => .bool _
  | .str _, _ => .str _
  | .nilp, _ => .nilp
  | .nils, _ => .nils
  | .sl _, h => .sl _ h
  | .nilf, _ => .nilf
  | .nili, _ => .nili
  | .nilm, _ => .nilm
  | .mp _, h => by simp [clean1] at h
  | .vw _ _ _, h => by simp [clean1] at h
  | .raw _, _ => .raw _
  | .fn _ [], _ => .fn _ _ (by simp)
  | .fn _ (_ :: _), h => by simp [clean1] at h
  | .ptr _ _, h => by simp [clean1] at h
  | .ep _ _ _ _, h => by simp [clean1] at h
  | .own _, h => by simp [clean1] at h
  | .rp _, h => by simp [clean1] at h
  | .agg _, h => by simp [clean1] at h
  | .tup _, h => by simp [clean1] at h
  | .iface _ _, h => by simp [clean1] at h
theorem allC_ok : ∀ {l : List AV}, allC l = true → ∀ x ∈ l, Clean x
  | [], _, x, h => by simp at h
  | y :: l, h, x, hx => by
    unfold allC at h
    split at h
    · rename_i hc
      rcases List.mem_cons.1 hx with rfl | hx
      · exact clean1_ok hc
      · exact allC_ok h x hx
    · cases h
theorem cleanA_ok {x : AV} (h : cleanA x = true) : Clean x := by
  unfold cleanA at h
  split at h
  · exact .agg _ (allC_ok h)
  · exact .tup _ (allC_ok h)
  · exact .rp _ (allC_ok h)
  · exact .fn _ _ (allC_ok h)
  · exact .iface _ _ (clean1_ok h)
  · exact clean1_ok h
end
section
variable {hs : List (Nat × HObj)} {nx : Nat} {β : Nat → Option Value} {F : Nat → Prop} {w : World}
/-- What is new is let go at once. -/
theorem Post.frz1 {hw : List (Nat × Option HObj)} {frz : List Nat} {e : TypeId} {c : LS} {v' : Value} {β' : Nat → Option Value} {F' : Nat → Prop} {w' : World} (p : Post hs nx ⟨.own nx, hw, frz, [.arr e c]⟩ β F w v' β' F' w')
    (hp : Pre hs nx β F w) (hc : c.plain = true) (hn : ∀ q ∈ hw, q.2 = none) (hf : ∀ id, (id, none) ∈ hw → id ∈ frz) : Post hs nx ⟨.sl c, hw, frz, []⟩ β F w v' β (FZ [nx] β' F') w' := by
  have hnew := p.news 0 _ rfl
  rw [Nat.add_zero] at hnew
  constructor
  · exact (own_sl hnew p.vr (by simp)).clean (.sl _ hc)
  · exact fun _ _ h => h
  · exact fun _ _ h => .inl h
  · exact fun b h => .inl (p.Fext b h)
  · rintro b (h | ⟨id, hid, v, h1, h2⟩)
    · exact p.Flt b h
    · simp at hid; subst hid; exact hnew.lt h1 h2
  · rintro b (h | ⟨id, hid, v, h1, h2⟩)
    · exact p.Fnew b h
    · simp at hid; subst hid
      obtain ⟨_, h3⟩ := p.newb 0 v b (by simp) (by simpa using h1) h2
      rcases h3 with h3 | ⟨i, hi, y, h4, h5⟩
      · exact .inr (.inl h3)
      · exact .inr (.inr ⟨i, hf i hi, hi, y, h4, h5⟩)
  · intro id ob hm
    have := hn _ hm
    cases this
  · intro j ob h; simp at h
  · intro j x b h; simp at h
  · intro j k x y b h; simp at h
  · exact p.known
  · exact p.nd
  · exact p.frame
  · exact p.os
  · exact p.tape
  · exact p.output
  · exact p.size
end
end Go.Qv
