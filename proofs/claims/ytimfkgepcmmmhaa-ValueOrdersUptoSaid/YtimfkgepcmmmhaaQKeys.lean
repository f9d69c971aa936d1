/- The keys of the maps; the tables are as the program's own. -/
import Derived.Test.YtimfkgepcmmmhaaQTab
import Derived.Test.YtimfkgepcmmmhaaRows
import Derived.DeepKeys4
import Derived.StringKeys
import Derived.DeepKeys
import Derived.ProofKit
set_option linter.unusedVariables false
set_option linter.unusedSimpArgs false
set_option maxRecDepth 100000
namespace Go.Qv
open Go.Proofs
theorem laid : laidOutB Try.prog = true := by kernel_rfl
theorem k139 : WideMaps.KeyLaw Try.prog 139 := deep_law_laid laid (m := 2) (by decide) (of_decide_eq_true (by kernel_rfl)) (by kernel_rfl) (by kernel_rfl)
theorem kof139 (n : Int) (s : ByteArray) (hn : (Lit.int .i64 n).wf = true) (hs : s.size ≤ maxLen) : ∃ l, keyOf Try.prog 139 (.agg #[.int .i64 n, .string s]) = some l := by
  have h1 : Try.prog.keyType 139 = true := by kernel_rfl
  have h2 : Try.prog.types.size + 1 = 219 + 2 := by kernel_rfl
  have h3 : Try.prog.cellsOf 139 = 2 := by kernel_rfl
  have h4 : Try.prog.cellsOf 2 = 1 := by kernel_rfl
  have h5 : Try.prog.cellsOf 9 = 1 := by kernel_rfl
  have h6 : (Value.agg #[.int .i64 n, .string s]).formed Try.prog 139 = true := by
    simp [Value.formed, Try.underlying139, h3]
  have h7 : ∀ d, Try.prog.keyLits (d + 2) 139 [.int .i64 n, .string s] = some [.int .i64 n, .string s.data.toList] := by
    intro d
    simp only [Program.keyLits, Try.underlying139, h3, h4, h5]
    simp [Try.underlying2, Try.underlying9, hn, hs, h4, h5]
  simp only [keyOf, Try.underlying139, h1, h6, h2, Value.cells, h7, Bool.and_self, if_true]
  exact ⟨_, rfl⟩
/-- A key of an integer and a string. -/
theorem shape_is {x : AV} {v : Value} (h : keySh true [.int .i64, .str] x = true) (hv : kval x = some v) : ∃ n s, x = .agg [.int .i64 n, .str s] ∧ v = .agg #[.int .i64 n, .string s] := by
  unfold keySh at h
  split at h
  · rename_i ks l h1
    match l, h with
    | [a, b], h =>
      simp only [keyCks, Bool.and_eq_true] at h
      obtain ⟨h1, h2, _⟩ := h
      cases a <;> simp [keyCk] at h1
      cases b <;> simp [keyCk] at h2
      rename_i n s
      subst h1
      simp [kval, kvals, kval1] at hv
      exact ⟨_, _, rfl, hv.symm⟩
    | [], h => simp [keyCks] at h
    | [_], h => simp [keyCks] at h
    | _ :: _ :: _ :: _, h => simp [keyCks] at h
  · simp_all
  · cases h
theorem by139 : KeyedBy Try.prog 139 true [.int .i64, .str] := by
  refine ⟨Maps.Keyed.of_law k139, fun x v hsh hok hv => ?_⟩
  obtain ⟨n, s, rfl, rfl⟩ := shape_is hsh hv
  simp only [keyOk, keyOks, keyOk1, Bool.and_eq_true, and_true] at hok
  exact kof139 n s hok.1 (Nat.le_of_ble_eq_true hok.2)
theorem eq139 : EqBy Try.prog 139 [.int .i64, .str] := by
  intro w x y v u hx hy kx ky hv hu
  obtain ⟨K, of⟩ := by139
  obtain ⟨lx, hlx⟩ := of x v hx kx hv
  obtain ⟨ly, hly⟩ := of y u hy ky hu
  obtain ⟨r, h1, h2⟩ := run_equal_deep w (m := 2) (by decide) (by kernel_rfl) (by kernel_rfl) hlx hly
  have he : r = keyEq x y := by
    have h3 : lx = ly ↔ v = u := ⟨fun e => K.inj hlx (e ▸ hly), fun e => by subst e; rw [hlx] at hly; injection hly⟩
    have h4 := keyEq_ok hx hy hv hu
    rw [Bool.eq_iff_iff, h2, h3, h4]
  refine ⟨fun op ox oy => ?_, by rw [← he]; exact h1⟩
  obtain ⟨n, s, rfl, rfl⟩ := shape_is hx hv
  obtain ⟨n', s', rfl, rfl⟩ := shape_is hy hu
  unfold eqGuard
  cases op <;> simp
/-- A key of two strings. -/
theorem shape_ss {x : AV} {v : Value} (h : keySh true [.str, .str] x = true) (hv : kval x = some v) : ∃ a b, x = .agg [.str a, .str b] ∧ v = .agg #[.string a, .string b] := by
  unfold keySh at h
  split at h
  · rename_i ks l h1
    match l, h with
    | [a, b], h =>
      simp only [keyCks, Bool.and_eq_true] at h
      obtain ⟨h1, h2, _⟩ := h
      cases a <;> simp [keyCk] at h1
      cases b <;> simp [keyCk] at h2
      simp [kval, kvals, kval1] at hv
      exact ⟨_, _, rfl, hv.symm⟩
    | [], h => simp [keyCks] at h
    | [_], h => simp [keyCks] at h
    | _ :: _ :: _ :: _, h => simp [keyCks] at h
  · simp_all
  · cases h
theorem kof_ss {t : TypeId} (hu : Try.prog.underlying t = some (.array 2 9)) (h1 : Try.prog.keyType t = true) (h3 : Try.prog.cellsOf t = 2) (a b : ByteArray) (ha : a.size ≤ maxLen) (hb : b.size ≤ maxLen) : ∃ l, keyOf Try.prog t (.agg #[.string a, .string b]) = some l := by
  have h2 : Try.prog.types.size + 1 = 219 + 2 := by kernel_rfl
  have h5 : Try.prog.cellsOf 9 = 1 := by kernel_rfl
  have h6 : (Value.agg #[.string a, .string b]).formed Try.prog t = true := by
    simp [Value.formed, hu, h3]
  have h7 : ∀ d, Try.prog.keyLits (d + 2) t [.string a, .string b] = some [.string a.data.toList, .string b.data.toList] := by
    intro d
    simp only [Program.keyLits, hu, h3, h5]
    simp [Try.underlying9, ha, hb, h5, List.range_succ, List.range_zero]
  simp only [keyOf, hu, h1, h6, h2, Value.cells, h7, Bool.and_self, if_true]
  exact ⟨_, rfl⟩
theorem k119 : WideMaps.KeyLaw Try.prog 119 := deep_law_laid laid (m := 2) (by decide) (of_decide_eq_true (by kernel_rfl)) (by kernel_rfl) (by kernel_rfl)
theorem k60 : WideMaps.KeyLaw Try.prog 60 := deep_law_laid laid (m := 2) (by decide) (of_decide_eq_true (by kernel_rfl)) (by kernel_rfl) (by kernel_rfl)
theorem by_ss {t : TypeId} (hu : Try.prog.underlying t = some (.array 2 9)) (h1 : Try.prog.keyType t = true) (h3 : Try.prog.cellsOf t = 2) (K : WideMaps.KeyLaw Try.prog t) : KeyedBy Try.prog t true [.str, .str] := by
  refine ⟨Maps.Keyed.of_law K, fun x v hsh hok hv => ?_⟩
  obtain ⟨a, b, rfl, rfl⟩ := shape_ss hsh hv
  simp only [keyOk, keyOks, keyOk1, Bool.and_eq_true, and_true] at hok
  exact kof_ss hu h1 h3 a b (Nat.le_of_ble_eq_true hok.1) (Nat.le_of_ble_eq_true hok.2)
theorem eq_ss {t : TypeId} (hK : KeyedBy Try.prog t true [.str, .str]) (hk : Try.prog.keyTypeAt 2 t = true) (hw : (match Try.prog.underlying t with | some (.array _ _) | some (.struct _) => true | _ => false) = true) (hg : Try.prog.eqGuardType Try.prog.depth t = false) : EqBy Try.prog t [.str, .str] := by
  intro w x y v u hx hy kx ky hv hu
  obtain ⟨K, of⟩ := hK
  obtain ⟨lx, hlx⟩ := of x v hx kx hv
  obtain ⟨ly, hly⟩ := of y u hy ky hu
  obtain ⟨r, h1, h2⟩ := run_equal_deep w (m := 2) (by decide) hk hw hlx hly
  have he : r = keyEq x y := by
    have h3 : lx = ly ↔ v = u := ⟨fun e => K.inj hlx (e ▸ hly), fun e => by subst e; rw [hlx] at hly; injection hly⟩
    have h4 := keyEq_ok hx hy hv hu
    rw [Bool.eq_iff_iff, h2, h3, h4]
  refine ⟨fun op ox oy => ?_, by rw [← he]; exact h1⟩
  obtain ⟨a, b, rfl, rfl⟩ := shape_ss hx hv
  obtain ⟨a', b', rfl, rfl⟩ := shape_ss hy hu
  unfold eqGuard
  cases op <;> simp [hg]
theorem by119 : KeyedBy Try.prog 119 true [.str, .str] := by_ss Try.underlying119 (by kernel_rfl) (by kernel_rfl) k119
theorem eq119 : EqBy Try.prog 119 [.str, .str] := eq_ss by119 (by kernel_rfl) (by kernel_rfl) (by kernel_rfl)
theorem eq60 : EqBy Try.prog 60 [.str, .str] := eq_ss (by_ss Try.underlying60 (by kernel_rfl) (by kernel_rfl) k60) (by kernel_rfl) (by kernel_rfl) (by kernel_rfl)
theorem shape_s {x : AV} {v : Value} (h : keySh false [.str] x = true) (hv : kval x = some v) : ∃ a, x = .str a ∧ v = .string a := by
  cases x <;> simp [keySh, keyCk] at h
  simp [kval, kval1] at hv
  exact ⟨_, rfl, hv.symm⟩
theorem by9 : KeyedBy Try.prog 9 false [.str] := by
  refine ⟨Maps.Keyed.of_law (WideMaps.string_law Try.underlying9), fun x v hsh hok hv => ?_⟩
  obtain ⟨a, rfl, rfl⟩ := shape_s hsh hv
  simp only [keyOk, keyOk1] at hok
  exact ⟨_, WideMaps.keyOf_string_mk Try.underlying9 (Nat.le_of_ble_eq_true hok)⟩
theorem meth30 : MethOk Try.prog 30 "Column" 20 := by
  intro v w
  have h1 : ∃ n, Try.prog.types.size + Made.depth = n + 1 := ⟨319, by kernel_rfl⟩
  obtain ⟨n, hn⟩ := h1
  rw [hn]
  have hi : Try.prog.info? 30 = some Try.t30 := by kernel_rfl
  have hm : Try.t30.methods.find? (·.name == "Column") = some ⟨"Column", 39, #[], some (20, true)⟩ := by kernel_rfl
  simp [Go.method, Sem.run_bind, typeInfo, hi, hm, follow, receiverAt, run_underlying Try.underlying30, Place.get, Result.andThen]
def keyB (kt : TypeId) (ag : Bool) (ks : List CK) : Bool := (Nat.beq kt 139 && ag && decide (ks = [.int .i64, .str])) || (Nat.beq kt 119 && ag && decide (ks = [.str, .str])) || (Nat.beq kt 9 && !ag && decide (ks = [.str]))
theorem keyB_ok {kt : TypeId} {ag : Bool} {ks : List CK} (h : keyB kt ag ks = true) : KeyedBy Try.prog kt ag ks := by
  simp only [keyB, Bool.or_eq_true, Bool.and_eq_true, decide_eq_true_eq] at h
  rcases h with (⟨⟨h1, rfl⟩, rfl⟩ | ⟨⟨h1, rfl⟩, rfl⟩) | ⟨⟨h1, h2⟩, rfl⟩
  · rw [nbeq h1]; exact by139
  · rw [nbeq h1]; exact by119
  · rw [nbeq h1]; simp at h2; subst h2; exact by9
def eqB' (t : TypeId) (ks : List CK) : Bool := (Nat.beq t 139 && decide (ks = [.int .i64, .str])) || (Nat.beq t 119 && decide (ks = [.str, .str])) || (Nat.beq t 60 && decide (ks = [.str, .str]))
def msB (t : TypeId) : List (String × FuncId) → Bool
  | [] => true
  | (n, f) :: r => Nat.beq t 30 && decide (n = "Column") && Nat.beq f 20 && msB t r
theorem msB_ok {t : TypeId} : ∀ {l : List (String × FuncId)}, msB t l = true → ∀ p ∈ l, MethOk Try.prog t p.1 p.2
  | [], _, p, hp => by simp at hp
  | (n, f) :: r, h, p, hp => by
    simp only [msB, Bool.and_eq_true, decide_eq_true_eq] at h
    obtain ⟨⟨⟨h1, h2⟩, h3⟩, h4⟩ := h
    rcases List.mem_cons.1 hp with rfl | hp
    · simp only; rw [nbeq h1, h2, nbeq h3]; exact meth30
    · exact msB_ok h4 p hp
theorem tbOk : TbOk Try.prog tb := by
  refine ⟨fun t d h => BT.get_all (p := fun t d => tyOk Try.prog t d) (by kernel_rfl) h, fun t d kt et ag ks h hk => ?_, fun t d h hne => ?_, fun t d h p hp => ?_⟩
  · have := BT.get_all (p := fun t d => match d.kd with | .map kt _ ag ks => keyB kt ag ks | _ => true) (by kernel_rfl) h
    simp only [hk] at this
    exact keyB_ok this
  · have := BT.get_all (p := fun t d => match d.key with | [] => true | ks => eqB' t ks) (by kernel_rfl) h
    split at this
    · rename_i e; exact absurd e hne
    · simp only [eqB', Bool.or_eq_true, Bool.and_eq_true, decide_eq_true_eq] at this
      rcases this with (⟨a, b⟩ | ⟨a, b⟩) | ⟨a, b⟩
      · rw [b, nbeq a]; exact eq139
      · rw [b, nbeq a]; exact eq119
      · rw [b, nbeq a]; exact eq60
  · have := BT.get_all (p := fun t d => msB t d.ms) (by kernel_rfl) h
    exact msB_ok this p hp
theorem fnsOk : FnsOk Try.prog fns := by
  intro f fn h
  exact BT.get_allP fns_all h
end Go.Qv
