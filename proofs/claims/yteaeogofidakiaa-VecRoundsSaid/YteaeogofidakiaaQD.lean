/- One operation: what the evaluator says of it is what the machine does. -/
import Derived.Test.YteaeogofidakiaaQC
import Derived.Laws.CopyRow
import Derived.Laws.Strings
import Derived.WideLaws
import Derived.Maps.Keyed
set_option linter.unusedVariables false
set_option linter.unusedSimpArgs false
namespace Go.Qv
open Go.RowKit

def O.real : O where
  add k a b := k.wrap (a + b)
  sub k a b := k.wrap (a - b)
  mul k a b := k.wrap (a * b)
  neg k a := k.wrap (0 - a)
  conv k a := k.wrap a
  lt a b := decide (a < b)
  le a b := decide (a ≤ b)
  eq a b := a == b
  not b := !b
  and a b := a && b
  or a b := a || b
  sel a b c := if a then b else c
  beq a b := a == b
  seq a b := a.toList == b.toList
  slt a b := Op.bytesLess a.toList b.toList
  sadd a b := a ++ b
  slen s := (s.size : Int)
  sat_ s i := match s[i.toNat]? with | some b => (b.toNat : Int) | none => 0
  scut s a b := s.extract a.toNat b.toNat
  ilen l := (l.length : Int)
  blen l := (l.length : Int)
  vlen l := (l.length : Int)
  rlen l := (l.length : Int)
  iget l i := l.getD i.toNat 0
  bget l i := l.getD i.toNat ⟨#[]⟩
  vget l i := l.getD i.toNat default
  rget l i := l.getD i.toNat []
  iset l i x := l.set i.toNat x
  bset l i x := l.set i.toNat x
  vset l i x := l.set i.toNat x
  rset l i x := l.set i.toNat x
  iapp a b := a ++ b
  bapp a b := a ++ b
  vapp a b := a ++ b
  rapp a b := a ++ b
  icut l a b := (l.drop a.toNat).take (b - a).toNat
  bcut l a b := (l.drop a.toNat).take (b - a).toNat
  vcut l a b := (l.drop a.toNat).take (b - a).toNat
  rcut l a b := (l.drop a.toNat).take (b - a).toNat
  irep n := List.replicate n.toNat 0
  brep n := List.replicate n.toNat ⟨#[]⟩
  vrep n := List.replicate n.toNat default
  vt v := v.t
  vn v := v.n
  vs v := v.s
  vl v := v.l
  rInt := Qv.rInt
  rBool := Qv.rBool
  rStr := Qv.rStr
  rInts := Qv.rInts
  rStrs := Qv.rStrs
  rVs := Qv.rVs
  imax a b := if b > a then b else a
  imin a b := if b < a then b else a
  inb i n := DP.of (0 ≤ i ∧ i < n)
  sfit a b := DP.of (((a.size + b.size : Nat) : Int) ≤ 9223372036854775807)
  cutb l h n := DP.of (0 ≤ l ∧ l ≤ h ∧ h ≤ n)
  fit n m b := DP.of ((n + m) * (b : Int) ≤ 140737488355328)
  mkfit n b := DP.of (0 ≤ n ∧ n * (b : Int) ≤ 140737488355328)
  shr a b := a.fdiv (2 ^ b.toNat)
  shok k b := DP.of (0 ≤ b ∧ b.toNat ≤ k.bits)
  isel b x y := if b then x else y
  ssel b x y := if b then x else y
  shl k a b := k.wrap (a * 2 ^ b.toNat)
  quo k a b := k.wrap (a.tdiv b)
  rem a b := a.tmod b
  iand k a b := k.wrap (BitVec.ofInt k.bits a &&& BitVec.ofInt k.bits b).toNat
  ior k a b := k.wrap (BitVec.ofInt k.bits a ||| BitVec.ofInt k.bits b).toNat
  nz b := DP.of (b ≠ 0)

/-- A zero value's cell. -/
def zok : Value → AV → Bool
  | .int k n, .int k' n' => decide (k = k') && decide (n = n')
  | .bool b, .bool b' => b == b'
  | .string s, .str s' => s.data.toList == s'.data.toList
  | .pointer none, .nilp => true
  | .slice none 0 0, .nils => true
  | .nilFunc, .nilf => true
  | .nilIface, .nili => true
  | .map none, .nilm => true
  | _, _ => false
theorem zok_vr {β F w v x} (h : zok v x = true) : VR β F w v x := by
  unfold zok at h
  split at h <;> simp at h
  · obtain ⟨rfl, rfl⟩ := h; exact .int _ _
  · subst h; exact .bool _
  · rename_i s s'
    have : s = s' := by cases s; cases s'; simp at h; simpa using h
    subst this; exact .str _
  · exact .nilp
  · exact .nils
  · exact .nilf
  · exact .nili
  · exact .nilm
theorem zok_one {v x} (h : zok v x = true) : x.one = true ∧ v.oneCell' = true := by
  unfold zok at h
  split at h <;> simp at h <;> exact ⟨rfl, rfl⟩

def TypeDesc.isAgg : TypeDesc → Bool
  | .struct _ => true | .array _ _ => true | _ => false
def zoks : List Value → List AV → Bool
  | [], [] => true
  | v :: vs, x :: xs => zok v x && zoks vs xs
  | _, _ => false
theorem zoks_len : ∀ {vs : List Value} {xs : List AV}, zoks vs xs = true → vs.length = xs.length
  | [], [], _ => rfl
  | _ :: vs, _ :: xs, h => by simp [zoks] at h; simp [zoks_len h.2]
  | [], _ :: _, h => by simp [zoks] at h
  | _ :: _, [], h => by simp [zoks] at h
theorem zoks_at : ∀ {vs : List Value} {xs : List AV}, zoks vs xs = true → ∀ (j : Nat) (v : Value) (x : AV), vs[j]? = some v → xs[j]? = some x → zok v x = true
  | [], [], _, j, v, x, hv, _ => by simp at hv
  | v0 :: vs, x0 :: xs, h, 0, v, x, hv, hx => by simp [zoks] at h; simp at hv hx; subst hv; subst hx; exact h.1
  | v0 :: vs, x0 :: xs, h, j + 1, v, x, hv, hx => by simp [zoks] at h; simp at hv hx; exact zoks_at h.2 j v x hv hx
  | [], _ :: _, h, _, _, _, _, _ => by simp [zoks] at h
  | _ :: _, [], h, _, _, _, _, _ => by simp [zoks] at h
/-- Is a row of the table as the program's own? -/
def kdOk (P : Program) (d : TyD) : TypeDesc → Bool
  | .string => match d.kd with | .str => true | _ => false
  | .slice e => match d.kd with | .slice e' _ => Nat.beq e e' | _ => false
  | .struct fs => (match d.kd with | .struct => true | _ => false) && Nat.beq d.fs.length fs.size && (d.fs.zipIdx.all fun (x, j) => match fs[j]? with
      | some f => match P.info? f.type, P.underlying f.type with
        | some i, some u => Nat.beq f.offset x.1 && Nat.beq i.size x.2.1 && (TypeDesc.isAgg u == x.2.2) && !Nat.beq i.size 0 && Nat.ble (x.1 + x.2.1) d.size
        | _, _ => false
      | none => false)
  | .array n e => match d.kd with | .array n' e' => Nat.beq n n' && Nat.beq e e' | _ => false
  | .pointer e => match d.kd with | .ptr e' => Nat.beq e e' && (match P.info? e with | some i => !Nat.beq i.size 0 | none => false) | _ => false
  | .bool => match d.kd with | .bool => true | _ => false
  | .func _ _ _ => match d.kd with | .func => true | _ => false
  | .interface _ => match d.kd with | .iface => true | _ => false
  | .map k e => match d.kd with | .map k' e' _ _ => Nat.beq k k' && Nat.beq e e' | _ => false
  | .int k => match d.kd with | .int k' => decide (k = k') | .other => true | _ => false
  | _ => match d.kd with | .other => true | _ => false
def zAgg : Value → Bool
  | .agg _ => true | _ => false
def tyOk (P : Program) (t : TypeId) (d : TyD) : Bool :=
  match P.info? t, P.underlying t with
  | some i, some u => Nat.beq i.size d.size && Nat.beq i.bytes d.bytes && !Nat.beq d.size 0 && !Nat.beq d.bytes 0 && kdOk P d u &&
      (match i.zero with | some z => (zoks z.cells.toList d.zero && (zAgg z == d.kd.agg)) && Nat.beq d.zero.length d.size | none => false)
  | _, _ => false
/-- What is known of a key's type. -/
def KeyedBy (P : Program) (kt : TypeId) (ag : Bool) (ks : List CK) : Prop :=
  Go.Maps.Keyed P kt ∧ ∀ (x : AV) (v : Value), keySh ag ks x = true → keyOk x → kval x = some v → ∃ l, keyOf P kt v = some l
def EqBy (P : Program) (t : TypeId) (ks : List CK) : Prop :=
  ∀ (w : World) (x y : AV) (v u : Value), keySh true ks x = true → keySh true ks y = true → keyOk x → keyOk y → kval x = some v → kval y = some u →
    (∀ op ox oy, (eqGuard op t ox oy v u).run P w = .ok () w) ∧ (Op.equal t v u).run P w = .ok (keyEq x y) w
def MethOk (P : Program) (t : TypeId) (name : String) (f : FuncId) : Prop := ∀ (v : Value) (w : World), (Go.method (P.types.size + Made.depth) t v name).run P w = .ok (f, v) w
def TbOk (P : Program) (tb : Tb) : Prop := (∀ t d, tb t = some d → tyOk P t d = true) ∧ (∀ t d kt et ag ks, tb t = some d → d.kd = .map kt et ag ks → KeyedBy P kt ag ks) ∧ (∀ t d, tb t = some d → d.key ≠ [] → EqBy P t d.key) ∧ ∀ t d, tb t = some d → ∀ p ∈ d.ms, MethOk P t p.1 p.2

section
variable {P : Program}
theorem tyOk_parts {t : TypeId} {d : TyD} (h : tyOk P t d = true) : ∃ i u z, P.info? t = some i ∧ P.underlying t = some u ∧ i.size = d.size ∧ i.bytes = d.bytes ∧ 0 < d.size ∧ 0 < d.bytes ∧ kdOk P d u = true ∧
    i.zero = some z ∧ zoks z.cells.toList d.zero = true ∧ d.zero.length = d.size := by
  unfold tyOk at h
  split at h
  · rename_i i u hi hu
    simp only [Bool.and_eq_true, Nat.beq_eq, Bool.not_eq_true'] at h
    have nz : ∀ n : Nat, n.beq 0 = false → 0 < n := fun n hn => by cases n with | zero => simp [Nat.beq] at hn | succ n => omega
    obtain ⟨⟨⟨⟨⟨h1, h2⟩, h3⟩, h4⟩, h5⟩, h6⟩ := h
    split at h6
    · rename_i z hz
      simp only [Bool.and_eq_true, Nat.beq_eq] at h6
      exact ⟨i, u, z, hi, hu, h1, h2, nz _ h3, nz _ h4, h5, hz, h6.1.1, h6.2⟩
    · simp at h6
  · simp at h
theorem tyOk_zero {t : TypeId} {d : TyD} (h : tyOk P t d = true) : ∃ i z, P.info? t = some i ∧ i.zero = some z ∧ zoks z.cells.toList d.zero = true ∧ zAgg z = d.kd.agg := by
  unfold tyOk at h
  split at h
  · rename_i i u hi hu
    simp only [Bool.and_eq_true] at h
    obtain ⟨_, h6⟩ := h
    split at h6
    · rename_i z hz
      simp only [Bool.and_eq_true, beq_iff_eq] at h6
      exact ⟨i, z, hi, hz, h6.1.1, h6.1.2⟩
    · simp at h6
  · simp at h
end
end Go.Qv
