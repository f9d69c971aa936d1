/- An argument of type V, as a tree: what the reading of an argument says of memory. -/
import Derived.Test.YtpbjikomdljphaaGreatQTmM
import Derived.ChangeArms
import Derived.ProofKit
set_option linter.unusedVariables false
set_option linter.unusedSimpArgs false
namespace Go.Qv
open Go.RowKit Go.ChangeShapes Go.WideShapes

/-- Whole numbers that are of their kind, strings and lists that are not too long. -/
inductive VT.Fine : VT → Prop
  | mk (t : Int) (n : List Int) (s : List ByteArray) (l : List VT) : (Lit.int .i64 t).wf = true → (∀ x ∈ n, (Lit.int .i64 x).wf = true) → (∀ x ∈ s, x.size ≤ maxLen) → (∀ x ∈ l, VT.Fine x) →
      n.length ≤ maxLen → s.length ≤ maxLen → l.length ≤ maxLen → VT.Fine (.mk t n s l)

theorem list_of {α : Type} {p : Nat → α → Prop} : ∀ (n : Nat), (∀ i, i < n → ∃ x, p i x) → ∃ l : List α, l.length = n ∧ ∀ i x, l[i]? = some x → p i x
  | 0, _ => ⟨[], rfl, fun i x h => by simp at h⟩
  | n + 1, h => by
    obtain ⟨l, h1, h2⟩ := list_of n (fun i hi => h i (by omega))
    obtain ⟨x, hx⟩ := h n (by omega)
    refine ⟨l ++ [x], by simp [h1], fun i y hy => ?_⟩
    rcases Nat.lt_or_ge i l.length with hi | hi
    · rw [List.getElem?_append_left hi] at hy; exact h2 i y hy
    · rw [List.getElem?_append_right hi] at hy
      have : i - l.length = 0 := by
        have := (List.getElem?_eq_some_iff.1 hy).1
        simp at this; omega
      rw [this] at hy
      simp at hy
      subst hy
      have : i = n := by omega
      subst this
      exact hx
section
variable {H : Type} {enc : TypeId × Value → H} {P : Program} {w : World} {base : Nat} {spare : Nat → Bool} {held : Bool}
theorem slice_open {α : Type} {t e : TypeId} {fuel : Nat} {cs : List Value} {x : DataW H × List MemPlace} (ht : P.underlying t = some (.slice e)) (p : List Value → α → Prop)
    (hel : ∀ m cs y, m < fuel → DataW.trod enc P w base spare held m e cs = some y → ∃ z, p cs z) (h : DataW.trod enc P w base spare held fuel t cs = some x) :
    cs = [.slice none 0 0] ∨ ∃ (a : Addr) (len cap : Nat) (l : List α), cs = [.slice (some a) len cap] ∧ len ≤ cap ∧ cap ≤ maxLen ∧ l.length = len ∧
      ∀ i z, l[i]? = some z → ∃ cs', w.cells? base (a.add (i * P.cellsOf e)) (P.cellsOf e) = some cs' ∧ p cs' z := by
  rcases DataW.trod_slice ht h with ⟨h0, _⟩ | ⟨a, len, cap, elems, rest, n, hn, rfl, _, hb, hl, hm, hlen, hel', _, _⟩
  · exact .inl h0
  · right
    obtain ⟨l, h1, h2⟩ := list_of (p := fun i z => ∃ cs', w.cells? base (a.add (i * P.cellsOf e)) (P.cellsOf e) = some cs' ∧ p cs' z) len (fun i hi => by
      have he := hel' i hi
      have hi' : i < elems.length := by omega
      rw [List.getElem?_eq_getElem hi', Option.bind_eq_some_iff] at he
      obtain ⟨cs', c1, c2⟩ := he
      obtain ⟨z, hz⟩ := hel n cs' _ (by omega) c2
      exact ⟨z, cs', c1, hz⟩)
    exact ⟨a, len, cap, l, rfl, hl, hm, h1, h2⟩
theorem spot_of {a : Addr} {v : Value} (h : w.cell? a = some v) : a = ⟨a.block, a.off, none⟩ ∧ a.block < w.heap.size := by
  have hs := World.cell?_spot h
  obtain ⟨b, o, s⟩ := a
  simp only at hs
  subst hs
  refine ⟨rfl, ?_⟩
  unfold World.cell? at h
  cases hg : w.heap[b]? with
  | some ob => exact (Array.getElem?_eq_some_iff.1 hg).1
  | none => simp [hg] at h
/-- A slice that is read, its elements as they read. -/
theorem sl_open {β : Nat → Option Value} {F : Nat → Prop} (hF : ∀ b, b < w.heap.size → F b) {a : Addr} {len cap : Nat} {c : LS} (hlen : c.len = len) (hcap : len ≤ cap) (hmax : cap ≤ maxLen) (hok : c.ok)
    (h : ∀ i el, c.elems[i]? = some el → ∃ cs, w.cells? base (a.add (i * c.sz)) c.sz = some cs ∧ ∀ (j : Nat) (x : AV), el[j]? = some x → ∃ v, cs[j]? = some v ∧ VR β F w v x) : VR β F w (.slice (some a) len cap) (.sl c) := by
  rcases Nat.eq_zero_or_pos len with h0 | h0
  · subst h0; exact .sl0 _ _ _ hlen hok
  · have hsz := LS.sz_pos hok
    have hell : c.elems.length = len := by rw [LS.elems_len]; exact hlen
    have h1 := h 0 _ (List.getElem?_eq_getElem (by omega))
    obtain ⟨cs0, k1, _⟩ := h1
    obtain ⟨_, k2, k3⟩ := World.cells?_some k1
    have hc0 := k3 0 hsz
    rw [List.getElem?_eq_getElem (by omega)] at hc0
    have haa : (a.add (0 * c.sz)).add 0 = a := by simp [Addr.add]
    rw [haa] at hc0
    obtain ⟨ha, hab⟩ := spot_of hc0
    rw [ha]
    have cellAt : ∀ i j, i < len → j < c.sz → ∀ cs, w.cells? base (a.add (i * c.sz)) c.sz = some cs → w.cell? ⟨a.block, a.off + (i * c.sz + j), none⟩ = cs[j]? := fun i j hi hj cs hcs => by
      obtain ⟨_, _, q3⟩ := World.cells?_some hcs
      have := q3 j hj
      rw [ha] at this
      rw [addr_add, addr_add, Nat.add_assoc] at this
      exact this
    refine .sl c _ _ _ _ (fun i j => (w.cell? ⟨a.block, a.off + (i * c.sz + j), none⟩).getD undef) hlen.symm h0 hcap hmax (hF _ hab) hok (fun i j hi hj => ?_) (fun i el j x he hx => ?_)
    · obtain ⟨cs, q1, _⟩ := h i _ (List.getElem?_eq_getElem (by omega))
      obtain ⟨_, q2, _⟩ := World.cells?_some q1
      rw [cellAt i j hi hj cs q1, List.getElem?_eq_getElem (by omega)]
      rfl
    · have hi : i < len := by have := (List.getElem?_eq_some_iff.1 he).1; omega
      obtain ⟨cs, q1, q2⟩ := h i el he
      obtain ⟨v, q3, q4⟩ := q2 j x hx
      have hj : j < c.sz := by rw [← LS.el_len hok el (List.mem_of_getElem? he)]; exact (List.getElem?_eq_some_iff.1 hx).1
      simp only [cellAt i j hi hj cs q1, q3, Option.getD_some]
      exact q4

/-- The types that a V is of. -/
structure VTypes (P : Program) (tV tInt tN tI tS tStr tL : TypeId) : Prop where
  uV : ∃ fs, P.underlying tV = some (.struct fs) ∧ fs.toList.map (fun f => (f.type, f.offset)) = [(tInt, 0), (tN, 1), (tS, 2), (tL, 3)]
  uInt : P.underlying tInt = some (.int .i64)
  uN : P.underlying tN = some (.slice tI)
  uI : P.underlying tI = some (.int .i64)
  uS : P.underlying tS = some (.slice tStr)
  uStr : P.underlying tStr = some .string
  uL : P.underlying tL = some (.slice tV)
  cV : P.cellsOf tV = 4
  cInt : P.cellsOf tInt = 1
  cN : P.cellsOf tN = 1
  cI : P.cellsOf tI = 1
  cS : P.cellsOf tS = 1
  cStr : P.cellsOf tStr = 1
  cL : P.cellsOf tL = 1

theorem open_V {tV tInt tN tI tS tStr tL : TypeId} (T : VTypes P tV tInt tN tI tS tStr tL) {β : Nat → Option Value} {F : Nat → Prop} (hF : ∀ b, b < w.heap.size → F b) :
    ∀ (fuel : Nat) (cs : List Value) (x : DataW H × List MemPlace), DataW.trod enc P w base spare held fuel tV cs = some x → ∃ v : VT, v.Fine ∧ cs.length = 4 ∧ ∀ (j : Nat) (c : Value) (y : AV), cs[j]? = some c → v.cells[j]? = some y → VR β F w c y := by
  intro fuel
  induction fuel using Nat.strongRecOn with
  | _ fuel ih =>
    intro cs x h
    obtain ⟨fs, hu, hfs⟩ := T.uV
    obtain ⟨xs, n, hn, rfl, hl, hlen, hf⟩ := DataW.trod_struct hu h
    rw [T.cV] at hl
    match cs, hl with
    | [c0, c1, c2, c3], _ =>
      have fld : ∀ (i : Nat) (t o : Nat), [(tInt, 0), (tN, 1), (tS, 2), (tL, 3)][i]? = some (t, o) → ∃ y, DataW.trod enc P w base spare held n t (([c0, c1, c2, c3].drop o).take (P.cellsOf t)) = some y := fun i t o hi => by
        rw [← hfs, List.getElem?_map] at hi
        obtain ⟨f, hf1, hf2⟩ := Option.map_eq_some_iff.1 hi
        injection hf2 with e1 e2
        subst e1; subst e2
        have hf' := hf i f (by simpa using hf1)
        have hi' : i < xs.length := by rw [hlen]; have := (List.getElem?_eq_some_iff.1 hf1).1; simpa using this
        rw [List.getElem?_eq_getElem hi'] at hf'
        exact ⟨_, hf'⟩
      obtain ⟨y0, h0⟩ := fld 0 _ _ rfl
      obtain ⟨y1, h1⟩ := fld 1 _ _ rfl
      obtain ⟨y2, h2⟩ := fld 2 _ _ rfl
      obtain ⟨y3, h3⟩ := fld 3 _ _ rfl
      rw [T.cInt] at h0
      rw [T.cN] at h1
      rw [T.cS] at h2
      rw [T.cL] at h3
      simp only [List.drop_zero, List.drop_succ_cons, List.take_succ_cons, List.take_zero] at h0 h1 h2 h3
      obtain ⟨t, e0, _, w0⟩ := DataW.trod_int T.uInt h0
      -- the numbers
      obtain ⟨ns, f1, g1, v1⟩ : ∃ ns : List Int, (∀ z ∈ ns, (Lit.int .i64 z).wf = true) ∧ ns.length ≤ maxLen ∧ VR β F w c1 (.sl (.i .i64 ns)) := by
        rcases slice_open (α := Int) T.uN (fun cs z => cs = [.int .i64 z] ∧ (Lit.int .i64 z).wf = true) (fun m cs y _ hy => by
            obtain ⟨z, a, _, b⟩ := DataW.trod_int T.uI hy; exact ⟨z, a, b⟩) h1 with e | ⟨a, len, cap, l, e, q1, q2, q3, q4⟩
        · injection e with e; subst e
          exact ⟨[], by simp, Nat.zero_le _, .sl0 _ _ _ rfl trivial⟩
        · injection e with e; subst e
          refine ⟨l, fun z hz => ?_, by omega, sl_open (base := base) hF q3 q1 q2 trivial (fun i el he => ?_)⟩
          · obtain ⟨i, hi, rfl⟩ := List.getElem_of_mem hz
            obtain ⟨_, _, _, hw⟩ := q4 i _ (List.getElem?_eq_getElem hi)
            exact hw
          · simp only [LS.elems, List.getElem?_map] at he
            obtain ⟨z, hz, rfl⟩ := Option.map_eq_some_iff.1 he
            obtain ⟨cs', k1, k2, _⟩ := q4 i z hz
            rw [T.cI] at k1
            refine ⟨cs', k1, fun j x hx => ?_⟩
            subst k2
            match j, hx with
            | 0, hx => simp at hx; subst hx; exact ⟨_, rfl, .int _ _⟩
      -- the texts
      obtain ⟨ss, f2, g2, v2⟩ : ∃ ss : List ByteArray, (∀ z ∈ ss, z.size ≤ maxLen) ∧ ss.length ≤ maxLen ∧ VR β F w c2 (.sl (.s ss)) := by
        rcases slice_open (α := ByteArray) T.uS (fun cs z => cs = [.string z] ∧ z.size ≤ maxLen) (fun m cs y _ hy => by
            obtain ⟨z, a, _, b⟩ := DataW.trod_string T.uStr hy; exact ⟨z, a, b⟩) h2 with e | ⟨a, len, cap, l, e, q1, q2, q3, q4⟩
        · injection e with e; subst e
          exact ⟨[], by simp, Nat.zero_le _, .sl0 _ _ _ rfl trivial⟩
        · injection e with e; subst e
          refine ⟨l, fun z hz => ?_, by omega, sl_open (base := base) hF q3 q1 q2 trivial (fun i el he => ?_)⟩
          · obtain ⟨i, hi, rfl⟩ := List.getElem_of_mem hz
            obtain ⟨_, _, _, hw⟩ := q4 i _ (List.getElem?_eq_getElem hi)
            exact hw
          · simp only [LS.elems, List.getElem?_map] at he
            obtain ⟨z, hz, rfl⟩ := Option.map_eq_some_iff.1 he
            obtain ⟨cs', k1, k2, _⟩ := q4 i z hz
            rw [T.cStr] at k1
            refine ⟨cs', k1, fun j x hx => ?_⟩
            subst k2
            match j, hx with
            | 0, hx => simp at hx; subst hx; exact ⟨_, rfl, .str _⟩
      -- the parts
      obtain ⟨ls, f3, g3, v3⟩ : ∃ ls : List VT, (∀ z ∈ ls, z.Fine) ∧ ls.length ≤ maxLen ∧ VR β F w c3 (.sl (.v ls)) := by
        rcases slice_open (α := VT) T.uL (fun cs (z : VT) => z.Fine ∧ cs.length = 4 ∧ ∀ (j : Nat) (c : Value) (y : AV), cs[j]? = some c → z.cells[j]? = some y → VR β F w c y) (fun m cs y hm hy => ih m (by omega) cs y hy) h3 with e | ⟨a, len, cap, l, e, q1, q2, q3, q4⟩
        · injection e with e; subst e
          exact ⟨[], by simp, Nat.zero_le _, .sl0 _ _ _ rfl trivial⟩
        · injection e with e; subst e
          refine ⟨l, fun z hz => ?_, by omega, sl_open (base := base) hF q3 q1 q2 trivial (fun i el he => ?_)⟩
          · obtain ⟨i, hi, rfl⟩ := List.getElem_of_mem hz
            obtain ⟨_, _, hw, _⟩ := q4 i _ (List.getElem?_eq_getElem hi)
            exact hw
          · simp only [LS.elems, List.getElem?_map] at he
            obtain ⟨z, hz, rfl⟩ := Option.map_eq_some_iff.1 he
            obtain ⟨cs', k1, _, k2, k3⟩ := q4 i z hz
            rw [T.cV] at k1
            refine ⟨cs', k1, fun j x hx => ?_⟩
            have hj : j < cs'.length := by have := (List.getElem?_eq_some_iff.1 hx).1; rw [k2]; simpa [VT.cells] using this
            exact ⟨cs'[j], List.getElem?_eq_getElem hj, k3 j _ x (List.getElem?_eq_getElem hj) hx⟩
      injection e0 with e0
      subst e0
      refine ⟨.mk t ns ss ls, .mk _ _ _ _ w0 f1 f2 f3 g1 g2 g3, rfl, fun j c y hc hy => ?_⟩
      match j, hc, hy with
      | 0, hc, hy => simp [VT.cells, VT.t] at hc hy; subst hc; subst hy; exact .int _ _
      | 1, hc, hy => simp [VT.cells, VT.n] at hc hy; subst hc; subst hy; exact v1
      | 2, hc, hy => simp [VT.cells, VT.s] at hc hy; subst hc; subst hy; exact v2
      | 3, hc, hy => simp [VT.cells, VT.l] at hc hy; subst hc; subst hy; exact v3
      | j + 4, hc, hy => simp at hc
end
end Go.Qv
