/- An argument of type V, as a tree whose size is bounded by what is read. No condition. -/
import Derived.Test.YtmeagbopnliddaaGreatQBv
import Derived.Test.YtmeagbopnliddaaGreatRows
set_option linter.unusedVariables false
set_option linter.unusedSimpArgs false
namespace Go.Qv
open Go.RowKit Go.ChangeShapes Go.WideShapes
open Go.Proofs.YtmeagbopnliddaaGreat.Rows (uptoBulk uptoBulkAll)

section
variable {H : Type} {enc : TypeId × Value → H} {P : Program} {w : World} {base : Nat} {spare : Nat → Bool} {held : Bool}
theorem sum_le {α β : Type} (g : α → Nat) (f : β → Nat) (sg : List α → Nat) (sf : List β → Nat) (hg0 : sg [] = 0) (hg : ∀ x l, sg (x :: l) = g x + sg l) (hf : ∀ x l, sf (x :: l) = f x + sf l) :
    ∀ (l : List α) (m : List β), l.length = m.length → (∀ (i : Nat) (x : α) (y : β), l[i]? = some x → m[i]? = some y → g x ≤ f y) → sg l ≤ sf m
  | [], [], _, _ => by omega
  | [], _ :: _, h, _ => by simp at h
  | _ :: _, [], h, _ => by simp at h
  | x :: l, y :: m, h, hh => by
    have h1 := hh 0 x y rfl rfl
    have h2 := sum_le g f sg sf hg0 hg hf l m (by simpa using h) (fun i a b ha hb => hh (i + 1) a b (by simpa using ha) (by simpa using hb))
    rw [hg, hf]; omega
theorem slice_openb {α : Type} {t e : TypeId} {fuel : Nat} {cs : List Value} {x : DataW H × List MemPlace} (ht : P.underlying t = some (.slice e)) (p : List Value → DataW H → α → Prop)
    (hel : ∀ m cs y, m < fuel → DataW.trod enc P w base spare held m e cs = some y → ∃ z, p cs y.1 z) (h : DataW.trod enc P w base spare held fuel t cs = some x) :
    cs = [.slice none 0 0] ∨ ∃ (a : Addr) (len cap : Nat) (l : List α) (es rs : List (DataW H)), cs = [.slice (some a) len cap] ∧ len ≤ cap ∧ cap ≤ maxLen ∧ l.length = len ∧ es.length = len ∧ x.1 = .slice es rs ∧
      ∀ i z, l[i]? = some z → ∃ cs' y, es[i]? = some y ∧ w.cells? base (a.add (i * P.cellsOf e)) (P.cellsOf e) = some cs' ∧ p cs' y z := by
  rcases DataW.trod_slice ht h with ⟨h0, _⟩ | ⟨a, len, cap, elems, rest, n, hn, rfl, hx, hb, hl, hm, hlen, hel', _, _⟩
  · exact .inl h0
  · right
    obtain ⟨l, h1, h2⟩ := list_of (p := fun i z => ∃ cs' y, (elems.map (·.1))[i]? = some y ∧ w.cells? base (a.add (i * P.cellsOf e)) (P.cellsOf e) = some cs' ∧ p cs' y z) len (fun i hi => by
      have he := hel' i hi
      have hi' : i < elems.length := by omega
      rw [List.getElem?_eq_getElem hi', Option.bind_eq_some_iff] at he
      obtain ⟨cs', c1, c2⟩ := he
      obtain ⟨z, hz⟩ := hel n cs' _ (by omega) c2
      exact ⟨z, cs', _, by rw [List.getElem?_map, List.getElem?_eq_getElem hi']; rfl, c1, hz⟩)
    exact ⟨a, len, cap, l, elems.map (·.1), rest.map (·.1), rfl, hl, hm, h1, by simpa using hlen, by rw [hx], h2⟩
theorem open_Vb {tV tInt tN tI tS tStr tL : TypeId} (T : VTypes P tV tInt tN tI tS tStr tL) {β : Nat → Option Value} {F : Nat → Prop} (hF : ∀ b, b < w.heap.size → F b) :
    ∀ (fuel : Nat) (cs : List Value) (x : DataW H × List MemPlace), DataW.trod enc P w base spare held fuel tV cs = some x → ∃ v : VT, v.Fine ∧ v.bk ≤ uptoBulk x.1 ∧ cs.length = 4 ∧ ∀ (j : Nat) (c : Value) (y : AV), cs[j]? = some c → v.cells[j]? = some y → VR β F w c y := by
  intro fuel
  induction fuel using Nat.strongRecOn with
  | _ fuel ih =>
    intro cs x h
    obtain ⟨fs, hu, hfs⟩ := T.uV
    obtain ⟨xs, n, hn, hxx, hl, hlen, hf⟩ := DataW.trod_struct hu h
    rw [T.cV] at hl
    match cs, hl with
    | [c0, c1, c2, c3], _ =>
      have fld : ∀ (i : Nat) (t o : Nat), [(tInt, 0), (tN, 1), (tS, 2), (tL, 3)][i]? = some (t, o) → ∃ y, xs[i]? = some y ∧ DataW.trod enc P w base spare held n t (([c0, c1, c2, c3].drop o).take (P.cellsOf t)) = some y := fun i t o hi => by
        rw [← hfs, List.getElem?_map] at hi
        obtain ⟨f, hf1, hf2⟩ := Option.map_eq_some_iff.1 hi
        injection hf2 with e1 e2
        subst e1; subst e2
        have hf' := hf i f (by simpa using hf1)
        have hi' : i < xs.length := by rw [hlen]; have := (List.getElem?_eq_some_iff.1 hf1).1; simpa using this
        rw [List.getElem?_eq_getElem hi'] at hf'
        exact ⟨_, List.getElem?_eq_getElem hi', hf'⟩
      obtain ⟨y0, q0', h0⟩ := fld 0 _ _ rfl
      obtain ⟨y1, q1', h1⟩ := fld 1 _ _ rfl
      obtain ⟨y2, q2', h2⟩ := fld 2 _ _ rfl
      obtain ⟨y3, q3', h3⟩ := fld 3 _ _ rfl
      rw [T.cInt] at h0
      rw [T.cN] at h1
      rw [T.cS] at h2
      rw [T.cL] at h3
      simp only [List.drop_zero, List.drop_succ_cons, List.take_succ_cons, List.take_zero] at h0 h1 h2 h3
      obtain ⟨t, e0, _, w0⟩ := DataW.trod_int T.uInt h0
      -- the numbers
      obtain ⟨ns, f1, g1, k1, v1⟩ : ∃ ns : List Int, (∀ z ∈ ns, (Lit.int .i64 z).wf = true) ∧ ns.length ≤ maxLen ∧ ns.length ≤ uptoBulk y1.1 ∧ VR β F w c1 (.sl (.i .i64 ns)) := by
        rcases slice_openb (α := Int) T.uN (fun cs y z => cs = [.int .i64 z] ∧ (Lit.int .i64 z).wf = true ∧ 1 ≤ uptoBulk y) (fun m cs y _ hy => by
            obtain ⟨z, a, c, b⟩ := DataW.trod_int T.uI hy; exact ⟨z, a, b, by rw [c]; simp [uptoBulk]⟩) h1 with e | ⟨a, len, cap, l, es, rs, e, q1, q2, q3, q5, q6, q4⟩
        · injection e with e; subst e
          exact ⟨[], by simp, Nat.zero_le _, Nat.zero_le _, .sl0 _ _ _ rfl trivial⟩
        · injection e with e; subst e
          refine ⟨l, fun z hz => ?_, by omega, ?_, sl_open (base := base) hF q3 q1 q2 trivial (fun i el he => ?_)⟩
          · obtain ⟨i, hi, rfl⟩ := List.getElem_of_mem hz
            obtain ⟨_, _, _, _, _, hw, _⟩ := q4 i _ (List.getElem?_eq_getElem hi)
            exact hw
          · rw [q6, uptoBulk]
            have := sum_le (fun _ : Int => 1) uptoBulk List.length uptoBulkAll rfl (fun x l => by simp; omega) (fun x l => by simp [uptoBulkAll]) l es (by omega) (fun i z y hz hy => by
              obtain ⟨_, y', h1, _, _, _, h2⟩ := q4 i z hz
              rw [hy] at h1; injection h1 with h1; subst h1; exact h2)
            omega
          · simp only [LS.elems, List.getElem?_map] at he
            obtain ⟨z, hz, rfl⟩ := Option.map_eq_some_iff.1 he
            obtain ⟨cs', _, _, k1, k2, _⟩ := q4 i z hz
            rw [T.cI] at k1
            refine ⟨cs', k1, fun j x hx => ?_⟩
            subst k2
            match j, hx with
            | 0, hx => simp at hx; subst hx; exact ⟨_, rfl, .int _ _⟩
      -- the texts
      obtain ⟨ss, f2, g2, k2, v2⟩ : ∃ ss : List ByteArray, (∀ z ∈ ss, z.size ≤ maxLen) ∧ ss.length ≤ maxLen ∧ strs ss ≤ uptoBulk y2.1 ∧ VR β F w c2 (.sl (.s ss)) := by
        rcases slice_openb (α := ByteArray) T.uS (fun cs y z => cs = [.string z] ∧ z.size ≤ maxLen ∧ z.size + 1 ≤ uptoBulk y) (fun m cs y _ hy => by
            obtain ⟨z, a, c, b⟩ := DataW.trod_string T.uStr hy; exact ⟨z, a, b, by rw [c]; simp [uptoBulk]⟩) h2 with e | ⟨a, len, cap, l, es, rs, e, q1, q2, q3, q5, q6, q4⟩
        · injection e with e; subst e
          exact ⟨[], by simp, Nat.zero_le _, Nat.zero_le _, .sl0 _ _ _ rfl trivial⟩
        · injection e with e; subst e
          refine ⟨l, fun z hz => ?_, by omega, ?_, sl_open (base := base) hF q3 q1 q2 trivial (fun i el he => ?_)⟩
          · obtain ⟨i, hi, rfl⟩ := List.getElem_of_mem hz
            obtain ⟨_, _, _, _, _, hw, _⟩ := q4 i _ (List.getElem?_eq_getElem hi)
            exact hw
          · rw [q6, uptoBulk]
            have := sum_le (fun z : ByteArray => z.size + 1) uptoBulk strs uptoBulkAll (by simp [strs]) (fun x l => by simp [strs]) (fun x l => by simp [uptoBulkAll]) l es (by omega) (fun i z y hz hy => by
              obtain ⟨_, y', h1, _, _, _, h2⟩ := q4 i z hz
              rw [hy] at h1; injection h1 with h1; subst h1; exact h2)
            omega
          · simp only [LS.elems, List.getElem?_map] at he
            obtain ⟨z, hz, rfl⟩ := Option.map_eq_some_iff.1 he
            obtain ⟨cs', _, _, k1, k2, _⟩ := q4 i z hz
            rw [T.cStr] at k1
            refine ⟨cs', k1, fun j x hx => ?_⟩
            subst k2
            match j, hx with
            | 0, hx => simp at hx; subst hx; exact ⟨_, rfl, .str _⟩
      -- the parts
      obtain ⟨ls, f3, g3, k3, v3⟩ : ∃ ls : List VT, (∀ z ∈ ls, z.Fine) ∧ ls.length ≤ maxLen ∧ bks ls ≤ uptoBulk y3.1 ∧ VR β F w c3 (.sl (.v ls)) := by
        rcases slice_openb (α := VT) T.uL (fun cs d (z : VT) => z.Fine ∧ z.bk ≤ uptoBulk d ∧ cs.length = 4 ∧ ∀ (j : Nat) (c : Value) (y : AV), cs[j]? = some c → z.cells[j]? = some y → VR β F w c y) (fun m cs y hm hy => ih m (by omega) cs y hy) h3 with e | ⟨a, len, cap, l, es, rs, e, q1, q2, q3, q5, q6, q4⟩
        · injection e with e; subst e
          exact ⟨[], by simp, Nat.zero_le _, Nat.zero_le _, .sl0 _ _ _ rfl trivial⟩
        · injection e with e; subst e
          refine ⟨l, fun z hz => ?_, by omega, ?_, sl_open (base := base) hF q3 q1 q2 trivial (fun i el he => ?_)⟩
          · obtain ⟨i, hi, rfl⟩ := List.getElem_of_mem hz
            obtain ⟨_, _, _, _, hw, _⟩ := q4 i _ (List.getElem?_eq_getElem hi)
            exact hw
          · rw [q6, uptoBulk]
            have := sum_le VT.bk uptoBulk bks uptoBulkAll (by simp [bks]) (fun x l => by simp [bks]) (fun x l => by simp [uptoBulkAll]) l es (by omega) (fun i z y hz hy => by
              obtain ⟨_, y', h1, _, _, h2, _⟩ := q4 i z hz
              rw [hy] at h1; injection h1 with h1; subst h1; exact h2)
            omega
          · simp only [LS.elems, List.getElem?_map] at he
            obtain ⟨z, hz, rfl⟩ := Option.map_eq_some_iff.1 he
            obtain ⟨cs', _, _, k1, _, _, k2, k3⟩ := q4 i z hz
            rw [T.cV] at k1
            refine ⟨cs', k1, fun j x hx => ?_⟩
            have hj : j < cs'.length := by have := (List.getElem?_eq_some_iff.1 hx).1; rw [k2]; simpa [VT.cells] using this
            exact ⟨cs'[j], List.getElem?_eq_getElem hj, k3 j _ x (List.getElem?_eq_getElem hj) hx⟩
      injection e0 with e0
      subst e0
      refine ⟨.mk t ns ss ls, .mk _ _ _ _ w0 f1 f2 f3 g1 g2 g3, ?_, rfl, fun j c y hc hy => ?_⟩
      · have e : ∃ y4, xs = y0 :: y1 :: y2 :: y3 :: y4 := by
          match xs, q0', q1', q2', q3' with
          | [], q, _, _, _ => simp at q
          | [_], _, q, _, _ => simp at q
          | [_, _], _, _, q, _ => simp at q
          | [_, _, _], _, _, _, q => simp at q
          | a :: b :: c :: d :: r, qa, qb, qc, qd => simp at qa qb qc qd; subst qa; subst qb; subst qc; subst qd; exact ⟨r, rfl⟩
        obtain ⟨y4, e⟩ := e
        rw [hxx, e]
        simp only [List.map_cons, uptoBulk, uptoBulkAll, VT.bk]
        omega
      match j, hc, hy with
      | 0, hc, hy => simp [VT.cells, VT.t] at hc hy; subst hc; subst hy; exact .int _ _
      | 1, hc, hy => simp [VT.cells, VT.n] at hc hy; subst hc; subst hy; exact v1
      | 2, hc, hy => simp [VT.cells, VT.s] at hc hy; subst hc; subst hy; exact v2
      | 3, hc, hy => simp [VT.cells, VT.l] at hc hy; subst hc; subst hy; exact v3
      | j + 4, hc, hy => simp at hc
end
end Go.Qv
