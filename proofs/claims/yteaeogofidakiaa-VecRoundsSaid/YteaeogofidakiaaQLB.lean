/- make([]int, n): a row of noughts. No condition. -/
import Derived.Test.YteaeogofidakiaaQLA
set_option linter.unusedVariables false
set_option linter.unusedSimpArgs false
namespace Go.Qv
open Go.RowKit
section
variable {P : Program} {hs : List (Nat × HObj)} {nx : Nat} {β : Nat → Option Value} {F : Nat → Prop} {w : World}
theorem isZero_ok {k : IntKind} {l : List AV} (h : isZero k l = true) : l = [.int k 0] := by
  unfold isZero at h
  split at h
  · simp only [Bool.and_eq_true, decide_eq_true_eq] at h
    rw [h.1, h.2]
  · cases h
theorem makeSlice_ok {t e : TypeId} {k k1 k2 : IntKind} {d dt : TyD} {n : Int} (hp : Pre hs nx β F w) (htt : tyOk P t dt = true) (hkt : dt.kd = .slice e (.i k)) (hte : tyOk P e d = true)
    (hd1 : d.size = 1) (hz0 : isZero k d.zero = true) (h0 : 0 ≤ n) (hb : n * (d.bytes : Int) ≤ 140737488355328) :
    ∃ w' v', (Instr.makeSlice t (.int k1 n) (.int k2 n)).run P w = .ok v' w' ∧ Post hs nx ⟨.own nx, [], [], [.arr e (.i k (List.replicate n.toNat 0))]⟩ β F w v' (βset β nx v') (FZ [] β F) w' := by
  obtain ⟨i, u, z, hi, hu, hs1, hb1, hs0, hb0, hk, hz, hzz, hzl⟩ := tyOk_parts hte
  have hkt' := kdIs htt
  rw [hkt] at hkt'
  simp only [KdIs] at hkt'
  obtain ⟨m, rfl⟩ := Int.eq_ofNat_of_zero_le h0
  have hmb : m * d.bytes ≤ 140737488355328 := by
    have : ((m * d.bytes : Nat) : Int) ≤ 140737488355328 := by rw [Int.natCast_mul]; exact hb
    omega
  have hm1 : m ≤ 140737488355328 := Nat.le_trans (Nat.le_mul_of_pos_right _ hb0) hmb
  have hzc : z.cells.toList = [.int k 0] := by
    rw [isZero_ok hz0] at hzz
    match hc : z.cells.toList, hzz with
    | [], hzz => simp [zoks] at hzz
    | _ :: _ :: _, hzz => simp [zoks] at hzz
    | [v], hzz =>
      simp only [zoks, Bool.and_true] at hzz
      have := zok_vr (β := β) (F := F) (w := w) hzz
      cases this
      rfl
  have hzs : z.cells = #[.int k 0] := by
    apply Array.ext'
    rw [hzc]
  let r : Array Value := Array.replicate m (.int k 0)
  have hr : r.toList = List.replicate m (.int k 0) := by simp [r]
  have wl : IntKind.i64.wrap (m : Int) = (m : Int) := by rw [IntKind.wrap_i64]; omega
  have n1 : ¬ (m : Int) < 0 := by omega
  have n2 : ¬ (281474976710656 < (i.bytes : Int) * (m : Int)) := by
    rw [hb1, ← Int.natCast_mul, Nat.mul_comm]; omega
  refine ⟨w.alloc (.cells r e), .slice (some ⟨w.heap.size, 0, none⟩) m m, ?_, ?_⟩
  · have fin : (newRow e r).run P w = .ok ⟨w.heap.size, 0, none⟩ (w.alloc (.cells r e)) := by simp [newRow]
    have hzv : (zeroValue e).run P w = .ok z w := by simp [zeroValue, typeInfo, hi, hz]
    have hti : (typeInfo e).run P w = .ok i w := by simp [typeInfo, hi]
    have hmap : ∀ zero : Array Value, (m = 0 → zero = #[]) → (m ≠ 0 → zero = #[.int k 0]) → (Array.range m).map (zero[· % zero.size]!) = r := by
      intro zero h1 h2
      by_cases hm : m = 0
      · subst hm; simp [r]
      · rw [h2 hm]
        apply Array.ext
        · simp [r]
        · intro j h3 h4
          simp [r, Nat.mod_one]
    simp only [Instr.makeSlice, Sem.run_bind, run_underlying hkt', Result.andThen_ok, asInt, asIntOf, hti, Sem.run_pure, wl, run_size hte]
    have n3 : ¬ (m : Int) < (m : Int) := by omega
    have n2' : ¬ ((2:Int) ^ 48 < (i.bytes : Int) * (m : Int)) := by simpa using n2
    simp only [n1, n2', n3, hd1, Nat.mul_one, Int.toNat_natCast, gt_iff_lt, decide_false, Bool.or_self, Bool.false_eq_true, if_false, or_self, Sem.run_bind, Sem.run_pure, Result.andThen_ok]
    have hask : ∀ x, (askRoom x).run P w = .ok () w := fun x => by simp [askRoom]
    simp only [hask, Result.andThen_ok, run_size hte, hd1, Nat.mul_one, Sem.run_bind]
    by_cases hm : m = 0
    · rw [if_pos hm]
      simp only [pure_bind]
      rw [hmap #[] (fun _ => rfl) (fun h => absurd hm h)]
      simp only [Sem.run_bind, fin, Result.andThen_ok, Sem.run_pure]
    · rw [if_neg hm]
      simp only [Sem.run_bind, hzv, Sem.run_pure, Result.andThen_ok]
      rw [hmap z.cells (fun h => absurd h hm) (fun _ => hzs)]
      simp only [fin, Result.andThen_ok, Sem.run_pure]
  · refine Post.arr (row := none) (cvs := r.toList) hp (by simp) (by simp) ⟨_, _, _, rfl⟩ ?_ ?_ (World.grownBy_alloc w _ _) (by simp) (fun b hb => ?_)
    · refine ⟨by rw [hr]; simp [LS.len, LS.sz], .inr ⟨w.heap.size, m, r, by simp [LS.len], Nat.zero_le _, heap_alloc_new w _, by simp [LS.len], ?_, ?_, ?_⟩⟩
      · unfold maxLen; omega
      · simp [r, LS.sz]
      · rw [List.take_of_length_le]; simp [r, LS.len, LS.sz]
    · rw [hr]
      refine ⟨by simp [LS.len, LS.sz], trivial, fun i el j x he hx => ?_⟩
      simp only [LS.elems, List.getElem?_map, Int.toNat_natCast] at he
      obtain ⟨y, hy, rfl⟩ := Option.map_eq_some_iff.1 he
      rw [List.getElem?_replicate] at hy
      split at hy
      · rename_i hlt
        injection hy with hy
        subst hy
        match j, hx with
        | 0, hx =>
          simp at hx; subst hx
          exact ⟨.int k 0, by simp [LS.sz, List.getElem?_replicate, hlt], .int _ _⟩
        | j + 1, hx => simp at hx
      · cases hy
    · simp [blkOf] at hb
      subst hb
      refine ⟨?_, .inl (Nat.le_refl _)⟩
      rintro (h' | ⟨id, hid, y, h4, h5⟩)
      · have := hp.hF _ h'; omega
      · simp at hid
end
end Go.Qv
