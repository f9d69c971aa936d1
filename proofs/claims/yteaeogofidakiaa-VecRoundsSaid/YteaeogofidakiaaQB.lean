/- The evaluator: one operation, a region, a body of code on an abstract state; what comes out is a tree of cases. Definitions alone. -/
import Derived.Test.YteaeogofidakiaaQA
set_option linter.unusedVariables false
namespace Go.Qv

/-- A condition that can be decided. -/
structure DP where
  p : Prop
  d : Decidable p
instance : CoeSort DP Prop := ⟨DP.p⟩
abbrev DP.of (p : Prop) [d : Decidable p] : DP := ⟨p, d⟩
abbrev DP.and (a b : DP) : DP := ⟨a.p ∧ b.p, @instDecidableAnd a.p b.p a.d b.d⟩
/-- The leaf operations: a variable in the statements that are evaluated, so that the evaluation does not open them. -/
structure O where
  add : IntKind → Int → Int → Int
  sub : IntKind → Int → Int → Int
  mul : IntKind → Int → Int → Int
  neg : IntKind → Int → Int
  conv : IntKind → Int → Int
  lt : Int → Int → Bool
  le : Int → Int → Bool
  eq : Int → Int → Bool
  not : Bool → Bool
  and : Bool → Bool → Bool
  or : Bool → Bool → Bool
  sel : Bool → Bool → Bool → Bool
  beq : Bool → Bool → Bool
  seq : ByteArray → ByteArray → Bool
  slt : ByteArray → ByteArray → Bool
  sadd : ByteArray → ByteArray → ByteArray
  slen : ByteArray → Int
  sat_ : ByteArray → Int → Int
  scut : ByteArray → Int → Int → ByteArray
  ilen : List Int → Int
  blen : List ByteArray → Int
  vlen : List VT → Int
  rlen : List (List AV) → Int
  iget : List Int → Int → Int
  bget : List ByteArray → Int → ByteArray
  vget : List VT → Int → VT
  rget : List (List AV) → Int → List AV
  iset : List Int → Int → Int → List Int
  bset : List ByteArray → Int → ByteArray → List ByteArray
  vset : List VT → Int → VT → List VT
  rset : List (List AV) → Int → List AV → List (List AV)
  iapp : List Int → List Int → List Int
  bapp : List ByteArray → List ByteArray → List ByteArray
  vapp : List VT → List VT → List VT
  rapp : List (List AV) → List (List AV) → List (List AV)
  icut : List Int → Int → Int → List Int
  bcut : List ByteArray → Int → Int → List ByteArray
  vcut : List VT → Int → Int → List VT
  rcut : List (List AV) → Int → Int → List (List AV)
  irep : Int → List Int
  brep : Int → List ByteArray
  vrep : Int → List VT
  vt : VT → Int
  vn : VT → List Int
  vs : VT → List ByteArray
  vl : VT → List VT
  rInt : List AV → Nat → Int
  rBool : List AV → Nat → Bool
  rStr : List AV → Nat → ByteArray
  rInts : List AV → Nat → List Int
  rStrs : List AV → Nat → List ByteArray
  rVs : List AV → Nat → List VT
  imax : Int → Int → Int
  imin : Int → Int → Int
  inb : Int → Int → DP
  sfit : ByteArray → ByteArray → DP
  cutb : Int → Int → Int → DP
  fit : Int → Int → Nat → DP
  mkfit : Int → Nat → DP
  shr : Int → Int → Int
  shok : IntKind → Int → DP
  isel : Bool → Int → Int → Int
  ssel : Bool → ByteArray → ByteArray → ByteArray
  shl : IntKind → Int → Int → Int
  quo : IntKind → Int → Int → Int
  rem : Int → Int → Int
  iand : IntKind → Int → Int → Int
  ior : IntKind → Int → Int → Int
  nz : Int → DP

/-- The kind of list that a slice type's elements make. -/
inductive LK where
  | i (k : IntKind) | s | v | r (sh : List CK)
inductive KD where
  | str | bool | func | iface | slice (e : TypeId) (k : LK) | struct | array (n : Nat) (e : TypeId) | ptr (e : TypeId) | map (k e : TypeId) (ag : Bool) (ks : List CK) | int (k : IntKind) | other
def KD.agg : KD → Bool
  | .struct => true | .array _ _ => true | _ => false
structure TyD where
  kd : KD
  size : Nat
  bytes : Nat
  zero : List AV
  fs : List (Nat × Nat × Bool)
  key : List CK
  cl : Bool
  ms : List (String × FuncId)
  fz : Bool

abbrev Tb := TypeId → Option TyD
abbrev Gd := Option (Nat × Bool)

inductive T (α : Type) where
  | leaf (a : α)
  | ite (b : Bool) (t e : T α)
  | both (p : Prop) (t : T α) (q : Prop) (e : T α)
  | req (p : DP) (t : T α)
  | stuck (why : String)
def T.bind {α β : Type} : T α → (α → T β) → T β
  | .leaf a, f => f a
  | .ite b t e, f => .ite b (t.bind f) (e.bind f)
  | .both p t q e, f => .both p (t.bind f) q (e.bind f)
  | .req p t, f => .req p (t.bind f)
  | .stuck y, _ => .stuck y
def T.sat {α : Type} : T α → (α → Prop) → Prop
  | .leaf a, Q => Q a
  | .ite b t e, Q => (b = true → t.sat Q) ∧ (b = false → e.sat Q)
  | .both p t q e, Q => (p → t.sat Q) ∧ (q → e.sat Q)
  | .req p t, Q => p.p ∧ t.sat Q
  | .stuck _, _ => False

structure Eff where
  v : AV
  hw : List (Nat × Option HObj)
  frz : List Nat
  new : List HObj

def mem (n : Nat) : List Nat → Bool
  | [] => false
  | m :: l => match Nat.beq n m with | true => true | false => mem n l
def lk {α : Type} : List (Nat × α) → Nat → Option α
  | [], _ => none
  | (j, v) :: l, i => match Nat.beq i j with | true => some v | false => lk l i

/-! ### lists -/
def LS.olen (o : O) : LS → Int
  | .i _ xs => o.ilen xs | .s xs => o.blen xs | .v xs => o.vlen xs | .r _ xs => o.rlen xs
def CK.oat (o : O) (r : List AV) (j : Nat) : CK → AV
  | .int k => .int k (o.rInt r j) | .bool => .bool (o.rBool r j) | .str => .str (o.rStr r j)
  | .ints k => .sl (.i k (o.rInts r j)) | .strs => .sl (.s (o.rStrs r j)) | .vs => .sl (.v (o.rVs r j)) | .any => rAny r j
def oshape (o : O) (r : List AV) : Nat → List CK → List AV
  | _, [] => []
  | j, ck :: sh => ck.oat o r j :: oshape o r (j + 1) sh
def ocells (o : O) (v : VT) : List AV := [.int .i64 (o.vt v), .sl (.i .i64 (o.vn v)), .sl (.s (o.vs v)), .sl (.v (o.vl v))]
/-- The cells of element i. -/
def LS.oget (o : O) (i : Int) : LS → List AV
  | .i k xs => [.int k (o.iget xs i)] | .s xs => [.str (o.bget xs i)] | .v xs => ocells o (o.vget xs i) | .r sh xs => oshape o (o.rget xs i) 0 sh
def LS.oapp (o : O) : LS → LS → Option LS
  | .i k xs, .i k' ys => (match decide (k' = k) with | true => some (.i k (o.iapp xs ys)) | false => none)
  | .s xs, .s ys => some (.s (o.bapp xs ys))
  | .v xs, .v ys => some (.v (o.vapp xs ys))
  | .r sh xs, .r sh' ys => (match decide (sh' = sh) with | true => some (.r sh (o.rapp xs ys)) | false => none)
  | _, _ => none
def LS.ocut (o : O) (a b : Int) : LS → LS
  | .i k xs => .i k (o.icut xs a b) | .s xs => .s (o.bcut xs a b) | .v xs => .v (o.vcut xs a b) | .r sh xs => .r sh (o.rcut xs a b)
/-- Numbers, texts, values out of a cell that may be a slice of the call's own; what is let go by that. -/
def cInts (hs : List (Nat × HObj)) (k : IntKind) : AV → Option (List Int)
  | .nils => some []
  | .sl (.i k' xs) => match decide (k' = k) with | true => some xs | false => none
  | .own id => match lk hs id with
    | some (.arr _ (.i k' xs)) => (match decide (k' = k) with | true => some xs | false => none)
    | _ => none
  | _ => none
def cStrs (hs : List (Nat × HObj)) : AV → Option (List ByteArray)
  | .nils => some []
  | .sl (.s xs) => some xs
  | .own id => match lk hs id with | some (.arr _ (.s xs)) => some xs | _ => none
  | _ => none
def cVs (hs : List (Nat × HObj)) : AV → Option (List VT)
  | .nils => some []
  | .sl (.v xs) => some xs
  | .own id => match lk hs id with | some (.arr _ (.v xs)) => some xs | _ => none
  | _ => none
def cRs (hs : List (Nat × HObj)) (sh : List CK) : AV → Option (List (List AV))
  | .nils => match sh with | [] => none | _ => some []
  | .sl (.r sh' xs) => match decide (sh' = sh) with | true => some xs | false => none
  | .own id => match lk hs id with
    | some (.arr _ (.r sh' xs)) => (match decide (sh' = sh) with | true => some xs | false => none)
    | _ => none
  | _ => none
/-- The objects that a value names. -/
def AV.ids1 : AV → List Nat
  | .own id => [id]
  | .ptr id _ => [id]
  | .ep id _ _ _ => [id]
  | .mp id => [id]
  | .vw id _ _ => [id]
  | .iface _ x => x.ids1
  | _ => []
def AV.ids : AV → List Nat
  | .agg l => l.flatMap AV.ids1
  | .fn _ l => l.flatMap AV.ids1
  | .tup l => l.flatMap AV.ids1
  | x => x.ids1
/-- The slices of the call's own among them. -/
def AV.owns1 : AV → List Nat
  | .own id => [id]
  | _ => []
def AV.owns : AV → List Nat
  | .agg l => l.flatMap AV.owns1
  | x => x.owns1
/-- A value as a tree. -/
def asV (hs : List (Nat × HObj)) : AV → Option VT
  | .agg [.int .i64 t, n, s, l] => match cInts hs .i64 n, cStrs hs s, cVs hs l with
    | some n, some s, some l => some (.mk t n s l)
    | _, _, _ => none
  | _ => none
def asCell (hs : List (Nat × HObj)) : CK → AV → Option AV
  | .int k', .int k n => match decide (k' = k) with | true => some (.int k n) | false => none
  | .bool, .bool b => some (.bool b)
  | .str, .str b => some (.str b)
  | .ints k, x => match cInts hs k x with | some l => some (.sl (.i k l)) | none => none
  | .strs, x => match cStrs hs x with | some l => some (.sl (.s l)) | none => none
  | .vs, x => match cVs hs x with | some l => some (.sl (.v l)) | none => none
  | .any, x => match x.one, x.owns1 with | true, [] => some x | _, _ => none
  | _, _ => none
def hasAny : List CK → Bool
  | [] => false
  | .any :: _ => true
  | _ :: l => hasAny l
def LS.plain : LS → Bool
  | .r sh _ => !hasAny sh | _ => true
def asRec (hs : List (Nat × HObj)) : List CK → List AV → Option (List AV)
  | [], [] => some []
  | ck :: sh, x :: xs => match asCell hs ck x, asRec hs sh xs with | some y, some ys => some (y :: ys) | _, _ => none
  | _, _ => none
/-- One element of a list. -/
def asEl (hs : List (Nat × HObj)) (c : LS) (x : AV) : Option LS :=
  match c, x with
  | .i k xs, .int k' n => (match decide (k' = k) with | true => some (.i k (xs ++ [n])) | false => none)
  | .s xs, .str n => some (.s (xs ++ [n]))
  | .v xs, x => (match asV hs x with | some n => some (.v (xs ++ [n])) | none => none)
  | .r sh xs, .agg cs => (match asRec hs sh cs with | some n => some (.r sh (xs ++ [n])) | none => none)
  | .r [ck] xs, x => (match asCell hs ck x with | some y => some (.r [ck] (xs ++ [[y]])) | none => none)
  | _, _ => none
/-- A list of elements as a list. -/
def asListFrom (hs : List (Nat × HObj)) (c : LS) : List AV → Option LS
  | [] => some c
  | x :: xs => match asEl hs c x with | some c' => asListFrom hs c' xs | none => none
def LK.nil : LK → LS
  | .i k => .i k [] | .s => .s [] | .v => .v [] | .r sh => .r sh []
def LK.good : LK → Bool
  | .r [] => false | _ => true
def asList (hs : List (Nat × HObj)) (k : LK) (xs : List AV) : Option LS :=
  match k.good with | true => asListFrom hs k.nil xs | false => none
def cLS (hs : List (Nat × HObj)) : LK → AV → Option LS
  | .i k, x => match cInts hs k x with | some l => some (.i k l) | none => none
  | .s, x => match cStrs hs x with | some l => some (.s l) | none => none
  | .v, x => match cVs hs x with | some l => some (.v l) | none => none
  | .r sh, x => match cRs hs sh x with | some l => some (.r sh l) | none => none
def LS.nilOf : LS → LS
  | .i k _ => .i k [] | .s _ => .s [] | .v _ => .v [] | .r sh _ => .r sh []
/-- Element i of a list replaced by a list's one element. -/
def LS.oset (o : O) (i : Int) : LS → LS → Option LS
  | .i k xs, .i k' [n] => (match decide (k' = k) with | true => some (.i k (o.iset xs i n)) | false => none)
  | .s xs, .s [n] => some (.s (o.bset xs i n))
  | .v xs, .v [n] => some (.v (o.vset xs i n))
  | .r sh xs, .r sh' [n] => (match decide (sh' = sh) with | true => some (.r sh (o.rset xs i n)) | false => none)
  | _, _ => none
def gone (ids : List Nat) : List (Nat × Option HObj) := ids.map fun i => (i, none)

def pure1 (x : AV) : T Eff := .leaf ⟨x, [], [], []⟩
def mkAgg (agg : Bool) (cs : List AV) : Option AV :=
  match agg with
  | true => some (.agg cs)
  | false => match cs with | [x] => some x | _ => none
def cellsOf : AV → List AV
  | .agg l => l
  | .tup _ => []
  | x => [x]
/-- Cells 'at' .. of a row replaced. -/
def putCells (l : List AV) (at_ : Nat) (xs : List AV) : List AV := l.take at_ ++ xs ++ l.drop (at_ + xs.length)
def setParts (fs : List (Nat × Nat × Bool)) : List AV → List (Nat × AV) → Option (List AV)
  | z, [] => some z
  | z, (i, x) :: r => match fs[i]? with
    | some (off, sz, _) => match Nat.beq (cellsOf x).length sz with | true => setParts fs (putCells z off (cellsOf x)) r | false => none
    | none => none

def cval1 : Value → Option AV
  | .int k n => some (.int k n) | .bool b => some (.bool b) | .string s => some (.str s)
  | .pointer none => some .nilp | .slice none 0 0 => some .nils | .nilFunc => some .nilf | .nilIface => some .nili | .map none => some .nilm | _ => none
def cvals : List Value → Option (List AV)
  | [] => some []
  | v :: l => match cval1 v, cvals l with | some x, some r => some (x :: r) | _, _ => none
def cval : Value → Option AV
  | .agg cs => match cvals cs.toList with | some l => some (.agg l) | none => none
  | v => cval1 v

/-! ### keys of maps -/
def keyCk : CK → AV → Bool
  | .int k, .int k' _ => decide (k = k') | .bool, .bool _ => true | .str, .str _ => true | _, _ => false
def keyCks : List CK → List AV → Bool
  | [], [] => true
  | c :: cs, x :: xs => keyCk c x && keyCks cs xs
  | _, _ => false
def keySh : Bool → List CK → AV → Bool
  | true, ks, .agg l => keyCks ks l
  | false, [c], x => keyCk c x
  | _, _, _ => false
def keyOk1 : AV → Bool
  | .int k n => (Lit.int k n).wf | .str s => Nat.ble s.size maxLen | _ => true
def keyOks : List AV → Bool
  | [] => true
  | x :: l => keyOk1 x && keyOks l
def keyOk : AV → Bool
  | .agg l => keyOks l | x => keyOk1 x
def bytesEq : List UInt8 → List UInt8 → Bool
  | [], [] => true
  | a :: l, b :: r => match Nat.beq a.toNat b.toNat with | true => bytesEq l r | false => false
  | _, _ => false
def keyEq1 : AV → AV → Bool
  | .int k a, .int k' b => decide (k = k') && decide (a = b) | .bool a, .bool b => a == b | .str a, .str b => bytesEq a.data.toList b.data.toList | _, _ => false
def keyEqs : List AV → List AV → Bool
  | [], [] => true
  | x :: l, y :: r => keyEq1 x y && keyEqs l r
  | _, _ => false
def keyEq : AV → AV → Bool
  | .agg l, .agg r => keyEqs l r | x, y => keyEq1 x y
def keysSh (ag : Bool) (ks : List CK) : List (AV × AV) → Bool
  | [] => true
  | (k, _) :: r => keySh ag ks k && keysSh ag ks r
def keysOk : List (AV × AV) → Bool
  | [] => true
  | (k, _) :: r => keyOk k && keysOk r
def findK (k : AV) : List (AV × AV) → Option AV
  | [] => none
  | (k', x) :: r => match keyEq k k' with | true => some x | false => findK k r
def setK (k x : AV) : List (AV × AV) → List (AV × AV)
  | [] => [(k, x)]
  | (k', y) :: r => match keyEq k k' with | true => (k, x) :: r | false => (k', y) :: setK k x r
def delK (k : AV) : List (AV × AV) → List (AV × AV)
  | [] => []
  | (k', y) :: r => match keyEq k k' with | true => r | false => (k', y) :: delK k r
/-- Where a key stands. -/
def idxK (k : AV) : List (AV × AV) → Nat → Option Nat
  | [], _ => none
  | (k', _) :: r, n => match keyEq k k' with | true => some n | false => idxK k r (n + 1)
def idxB (b : Int) : List Nat → Nat → Option Nat
  | [], _ => none
  | x :: r, n => match decide ((x : Int) = b) with | true => some n | false => idxB b r (n + 1)
def setB (bs : List Nat) (c : Nat) (k : AV) (ps : List (AV × AV)) : List Nat := match findK k ps with | some _ => bs | none => bs ++ [c]
def setC (c : Nat) (k : AV) (ps : List (AV × AV)) : Nat := match findK k ps with | some _ => c | none => c + 1
def delB (k : AV) (bs : List Nat) (ps : List (AV × AV)) : List Nat := match idxK k ps 0 with | some j => bs.eraseIdx j | none => bs
def LS.some1 : LS → Bool
  | .i _ (_ :: _) => true | .s (_ :: _) => true | .v (_ :: _) => true | .r _ (_ :: _) => true | _ => false
def pairT (ok : Bool) (x : AV) (b : Bool) : T Eff := match ok with | true => .leaf ⟨.tup [x, .bool b], [], [], []⟩ | false => .leaf ⟨x, [], [], []⟩

abbrev Orc := FuncId → Nat → List AV → List (Nat × HObj) → T Eff

def cmpInt (o : O) : BinOp → Int → Int → Option Bool
  | .lss, a, b => some (o.lt a b) | .gtr, a, b => some (o.lt b a) | .leq, a, b => some (o.le a b) | .geq, a, b => some (o.le b a)
  | .eql, a, b => some (o.eq a b) | .neq, a, b => some (o.not (o.eq a b)) | _, _, _ => none
def eqB (op : BinOp) (t f : T Eff) : T Eff :=
  match op with | .eql => t | .neq => f | _ => .stuck "bin: order"
def bin (o : O) (kd : Option TyD) (op : BinOp) (x y : AV) (hs : List (Nat × HObj)) : T Eff :=
  match x, y with
  | .int k a, .int k' b => match op with
    | .shr => .req (o.shok k b) (pure1 (.int k (o.shr a b)))
    | .shl => .req (o.shok k b) (pure1 (.int k (o.shl k a b)))
    | op => match decide (k = k') with
      | false => .stuck "bin: kinds"
      | true => match op with
        | .add => pure1 (.int k (o.add k a b)) | .sub => pure1 (.int k (o.sub k a b)) | .mul => pure1 (.int k (o.mul k a b))
        | .quo => .req (o.nz b) (pure1 (.int k (o.quo k a b))) | .rem => .req (o.nz b) (pure1 (.int k (o.rem a b)))
        | .and => pure1 (.int k (o.iand k a b)) | .or => pure1 (.int k (o.ior k a b))
        | op => match cmpInt o op a b with | some b => pure1 (.bool b) | none => .stuck "bin: int"
  | .str a, .str b => match op with
    | .eql => pure1 (.bool (o.seq a b)) | .neq => pure1 (.bool (o.not (o.seq a b))) | .lss => pure1 (.bool (o.slt a b)) | .gtr => pure1 (.bool (o.not (o.or (o.slt a b) (o.seq a b))))
    | .leq => pure1 (.bool (o.or (o.slt a b) (o.seq a b))) | .geq => pure1 (.bool (o.not (o.slt a b))) | .add => .req (o.sfit a b) (pure1 (.str (o.sadd a b)))
    | _ => .stuck "bin: str"
  | x, y => match kd, x, y with
    | some { kd := .bool, .. }, .bool a, .bool b => eqB op (pure1 (.bool (o.beq a b))) (pure1 (.bool (o.not (o.beq a b))))
    | some { kd := .ptr _, .. }, .nilp, .nilp => eqB op (pure1 (.bool true)) (pure1 (.bool false))
    | some { kd := .ptr e, .. }, .ptr i a, .ptr j b => (match Nat.beq i j with
      | true => (match Nat.beq a b with | true => eqB op (pure1 (.bool true)) (pure1 (.bool false)) | false => .stuck "bin: pointers")
      | false => (match lk hs i, lk hs j with | some (.cells _), some (.cells _) => eqB op (pure1 (.bool false)) (pure1 (.bool true)) | _, _ => .stuck "bin: pointers' objects"))
    | some { kd := .ptr _, .. }, .ptr _ _, .nilp => eqB op (pure1 (.bool false)) (pure1 (.bool true))
    | some { kd := .ptr _, .. }, .rp _, .nilp => eqB op (pure1 (.bool false)) (pure1 (.bool true))
    | some { kd := .slice _ _, .. }, .nils, .nils => eqB op (pure1 (.bool true)) (pure1 (.bool false))
    | some { kd := .slice _ _, cl := cl, .. }, .sl c, .nils => (match cl && c.some1 with
      | true => eqB op (pure1 (.bool false)) (pure1 (.bool true))
      | false => eqB op (.both (o.eq (c.olen o) 0 = true) (pure1 (.bool true)) True (pure1 (.bool false))) (.both (o.eq (c.olen o) 0 = true) (pure1 (.bool false)) True (pure1 (.bool true))))
    | some { kd := .slice _ _, .. }, .own id, .nils => (match lk hs id with
      | some (.arr _ c) => (match c.some1 with
        | true => eqB op (pure1 (.bool false)) (pure1 (.bool true))
        | false => eqB op (.both True (pure1 (.bool true)) True (pure1 (.bool false))) (.both True (pure1 (.bool false)) True (pure1 (.bool true))))
      | _ => .stuck "bin: own")
    | some { kd := .struct, key := ks, .. }, .agg a, .agg b => (match ks with
      | [] => .stuck "bin: struct"
      | _ => match keySh true ks (.agg a) && keySh true ks (.agg b) with
        | true => .req (DP.of (keyOk (.agg a) = true ∧ keyOk (.agg b) = true)) (eqB op (pure1 (.bool (keyEq (.agg a) (.agg b)))) (pure1 (.bool (!keyEq (.agg a) (.agg b)))))
        | false => .stuck "bin: struct cells")
    | some { kd := .array _ _, key := ks, .. }, .agg a, .agg b => (match ks with
      | [] => .stuck "bin: array"
      | _ => match keySh true ks (.agg a) && keySh true ks (.agg b) with
        | true => .req (DP.of (keyOk (.agg a) = true ∧ keyOk (.agg b) = true)) (eqB op (pure1 (.bool (keyEq (.agg a) (.agg b)))) (pure1 (.bool (!keyEq (.agg a) (.agg b)))))
        | false => .stuck "bin: array's cells")
    | some { kd := .map _ _ _ _, .. }, .nilm, .nilm => eqB op (pure1 (.bool true)) (pure1 (.bool false))
    | some { kd := .map _ _ _ _, .. }, .mp _, .nilm => eqB op (pure1 (.bool false)) (pure1 (.bool true))
    | some { kd := .func, .. }, .fn _ _, .nilf => eqB op (pure1 (.bool false)) (pure1 (.bool true))
    | some { kd := .func, .. }, .nilf, .nilf => eqB op (pure1 (.bool true)) (pure1 (.bool false))
    | some { kd := .iface, .. }, .iface _ _, .nili => eqB op (pure1 (.bool false)) (pure1 (.bool true))
    | _, _, _ => .stuck "bin"

def lookM (name : String) : List (String × FuncId) → Option FuncId
  | [] => none
  | (n, f) :: r => match decide (n = name) with | true => some f | false => lookM name r
def cutBounds (xs : List AV) (lo hi : Bool) (n : Int) : Option (AV × Int × Int) :=
  match xs, lo, hi with
  | [x, .int _ l, .int _ h], true, true => some (x, l, h)
  | [x, .int _ l], true, false => some (x, l, n)
  | [x, .int _ h], false, true => some (x, 0, h)
  | _, _, _ => none
def isZero (k : IntKind) : List AV → Bool
  | [.int k' z] => decide (k' = k) && decide (z = 0)
  | _ => false
/-- One operation, its operands known, the objects that they name at hand; 'next': the first name that is free. -/
def evo (o : O) (tb : Tb) (orc : Orc) (nx : Nat) (op : Op) (xs : List AV) (hs : List (Nat × HObj)) : T Eff :=
  match op with
  | .move _ | .assign _ => match xs with | [x] => pure1 x | _ => .stuck "move"
  | .binOp b t _ oy _ => match xs with
    | [.nili, .nili] => (match oy, tb t with
      | .const _, some { kd := .iface, .. } => eqB b (pure1 (.bool true)) (pure1 (.bool false))
      | _, _ => .stuck "bin: nil interfaces")
    | [x, y] => bin o (tb t) b x y hs
    | _ => .stuck "bin: operands"
  | .unOp u _ _ => match u, xs with
    | .not, [.bool b] => pure1 (.bool (o.not b))
    | .neg, [.int k n] => pure1 (.int k (o.neg k n))
    | _, _ => .stuck "un"
  | .alloc t => match tb t with | some d => .leaf ⟨.ptr nx 0, [], [], [.cells d.zero]⟩ | none => .stuck "alloc: type"
  | .box t _ => match xs, tb t with
    | [x], some d => match Nat.beq (cellsOf x).length d.size with | true => .leaf ⟨.ptr nx 0, [], [], [.cells (cellsOf x)]⟩ | false => .stuck "box: size"
    | _, _ => .stuck "box"
  | .fieldAddr s _ f => match xs, tb s with
    | [x], some { kd := .struct, fs := fs, .. } => match fs[f]? with
      | some (off, _, _) => match x with
        | .ptr id a => pure1 (.ptr id (a + off))
        | .ep id sz i a => pure1 (.ep id sz i (a + off))
        | .rp cs => match Nat.blt off cs.length with | true => pure1 (.rp (cs.drop off)) | false => .stuck "fieldAddr: rp"
        | _ => .stuck "fieldAddr: pointer"
      | none => .stuck "fieldAddr: field"
    | _, _ => .stuck "fieldAddr"
  | .nilCheck _ => match xs with
    | [.ptr id a] => pure1 (.ptr id a)
    | [.ep id sz i a] => pure1 (.ep id sz i a)
    | [.rp cs] => pure1 (.rp cs)
    | _ => .stuck "nilCheck"
  | .load t _ => match xs, tb t with
    | [x], some d =>
      let got (cs : List AV) : T Eff := match Nat.beq cs.length d.size, mkAgg d.kd.agg cs with | true, some v => pure1 v | _, _ => .stuck "load: cells"
      match x with
      | .ptr id a => match lk hs id with | some (.cells l) => got ((l.drop a).take d.size) | _ => .stuck "load: object"
      | .ep id sz i a => match lk hs id with
        | some (.arr _ c) => (match Nat.beq sz c.sz with | true => .req (o.inb i (c.olen o)) (got (((c.oget o i).drop a).take d.size)) | false => .stuck "load: ep")
        | _ => .stuck "load: array"
      | .rp cs => got (cs.take d.size)
      | _ => .stuck "load: pointer"
    | _, _ => .stuck "load"
  | .store t _ _ => match xs, tb t with
    | [.ptr id a, x], some d => match Nat.beq (cellsOf x).length d.size, lk hs id with
      | true, some (.cells l) => match Nat.ble (a + d.size) l.length with
        | true => .leaf ⟨.tup [], [(id, some (.cells (putCells l a (cellsOf x))))], [], []⟩
        | false => .stuck "store: range"
      | _, _ => .stuck "store: object"
    | [.ep id sz i 0, x], some d => match lk hs id with
      | some (.arr e c) => (match asEl hs c.nilOf x with
        | some c1 => (match c.oset o i c1, Nat.beq sz c.sz && Nat.beq d.size c.sz && !mem id x.owns with
          | some c', true => .req (o.inb i (c.olen o)) (.leaf ⟨.tup [], (id, some (.arr e c')) :: gone x.owns, x.owns, []⟩)
          | _, _ => .stuck "store: element")
        | none => .stuck "store: value")
      | _ => .stuck "store: array"
    | _, _ => .stuck "store"
  | .build t ps => match tb t with
    | some d => (match d.kd with
      | .array n e => (match tb e with
        | some de => (match Nat.ble (n * de.size) d.size, setParts ((List.range n).map fun i => (i * de.size, de.size, de.kd.agg)) d.zero ((ps.toList.map (·.1)).zip xs) with | true, some l => pure1 (.agg l) | _, _ => .stuck "build: array")
        | none => .stuck "build: elements")
      | .struct => (match setParts d.fs d.zero ((ps.toList.map (·.1)).zip xs) with | some l => pure1 (.agg l) | none => .stuck "build: parts")
      | _ => .stuck "build: kind")
    | none => .stuck "build"
  | .buildSlice t n ps => match tb t with
    | some { kd := .slice e k, fz := fz, .. } => match tb e, asList hs k xs with
      | some d, some c => (match Nat.beq xs.length n && ((ps.toList.map (·.1)) == List.range n) && Nat.beq d.size c.sz && Nat.ble (n * d.size) 16777216 with
        | true => (match fz && c.plain && c.some1 with
          | true => .leaf ⟨.sl c, gone (xs.flatMap AV.owns), xs.flatMap AV.owns, []⟩
          | false => .leaf ⟨.own nx, gone (xs.flatMap AV.owns), xs.flatMap AV.owns, [.arr e c]⟩)
        | false => .stuck "buildSlice: sizes")
      | _, _ => .stuck "buildSlice: parts"
    | _ => .stuck "buildSlice"
  | .field t _ f => match xs, tb t with
    | [.agg l], some { kd := .struct, fs := fs, .. } => match fs[f]? with
      | some (off, sz, ag) => (match Nat.ble (off + sz) l.length, mkAgg ag ((l.drop off).take sz) with | true, some v => pure1 v | _, _ => .stuck "field: cells")
      | none => .stuck "field: which"
    | _, _ => .stuck "field"
  | .extract _ i => match xs with
    | [.tup l] => match l[i]? with | some x => pure1 x | none => .stuck "extract: which"
    | _ => .stuck "extract"
  | .makeFunc (.func f) first cap => match Nat.beq first.size 0 with | true => pure1 (.fn f xs) | false => .stuck "makeFunc"
  | .indexAddr t _ _ => match tb t with
    | some { kd := .slice e k, .. } => match tb e, xs with
      | some d, [.sl c, .int _ i] => (match Nat.beq d.size c.sz with | true => .req (o.inb i (c.olen o)) (pure1 (.rp (c.oget o i))) | false => .stuck "indexAddr: size")
      | some d, [.own id, .int _ i] => (match lk hs id with
        | some (.arr _ c) => (match Nat.beq d.size c.sz with | true => .req (o.inb i (c.olen o)) (pure1 (.ep id c.sz i 0)) | false => .stuck "indexAddr: size")
        | _ => .stuck "indexAddr: array")
      | _, _ => .stuck "indexAddr: slice"
    | some { kd := .array n e, .. } => (match tb e, xs with
      | some d, [.ptr id a, .int _ i] => .req (o.inb i (n : Int)) (pure1 (.ptr id (a + i.toNat * d.size)))
      | _, _ => .stuck "indexAddr: array")
    | _ => .stuck "indexAddr"
  | .index t _ _ => match tb t, xs with
    | some { kd := .str, .. }, [.str s, .int _ i] => .req (o.inb i (o.slen s)) (pure1 (.int .u8 (o.sat_ s i)))
    | some { kd := .array n e, .. }, [.agg l, .int _ i] => (match tb e, l[i.toNat]? with
      | some d, some z => (match Nat.beq d.size 1 && !d.kd.agg with
        | true => .req (o.inb i (n : Int)) (pure1 z)
        | false => .stuck "index: cells")
      | _, _ => .stuck "index: array")
    | _, _ => .stuck "index"
  | .convert src dst _ => match tb src, tb dst, xs with
    | some _, some { kd := .int k, .. }, [.int _ n] => pure1 (.int k (o.conv k n))
    | _, _, _ => .stuck "convert"
  | .makeSlice t _ _ => match tb t, xs with
    | some { kd := .slice e (.i k), .. }, [.int _ n, .int _ c] => (match tb e with
      | some d => (match Nat.beq d.size 1 && isZero k d.zero with
        | true => .req (DP.of (n = c)) (.req (o.mkfit n d.bytes) (.leaf ⟨.own nx, [], [], [.arr e (.i k (o.irep n))]⟩))
        | false => .stuck "makeSlice: elements")
      | none => .stuck "makeSlice: type")
    | _, _ => .stuck "makeSlice"
  | .makeMap t rs => match rs, tb t with
    | none, some { kd := .map _ _ _ _, .. } => .leaf ⟨.mp nx, [], [], [.map 0 [] []]⟩
    | _, _ => .stuck "makeMap"
  | .lookup t _ _ ok => match tb t, xs with
    | some { kd := .map kt et ag ks, .. }, [.mp id, k] => match lk hs id, tb et with
      | some (.map _ _ ps), some d => (match keySh ag ks k && keysSh ag ks ps with
        | true => .req (DP.of (keyOk k = true ∧ keysOk ps = true)) (match findK k ps with
          | some x => pairT ok x true
          | none => match mkAgg d.kd.agg d.zero with | some z => pairT ok z false | none => .stuck "lookup: zero")
        | false => .stuck "lookup: keys")
      | _, _ => .stuck "lookup: object"
    | some { kd := .map kt et ag ks, .. }, [.nilm, k] => match tb et with
      | some d => (match keySh ag ks k, mkAgg d.kd.agg d.zero with
        | true, some z => .req (DP.of (keyOk k = true)) (pairT ok z false)
        | _, _ => .stuck "lookup: nil")
      | none => .stuck "lookup: elements"
    | _, _ => .stuck "lookup"
  | .mapUpdate t _ _ _ => match tb t, xs with
    | some { kd := .map kt et ag ks, .. }, [.mp id, k, x] => match lk hs id with
      | some (.map c bs ps) => (match keySh ag ks k && keysSh ag ks ps with
        | true => .req (DP.of (keyOk k = true ∧ keysOk ps = true)) (.leaf ⟨.tup [], [(id, some (.map (setC c k ps) (setB bs c k ps) (setK k x ps)))], [], []⟩)
        | false => .stuck "mapUpdate: keys")
      | _ => .stuck "mapUpdate: object"
    | _, _ => .stuck "mapUpdate"
  | .mapEntry t _ _ => match tb t, xs with
    | some { kd := .map kt et ag ks, .. }, [.mp id, k] => match lk hs id, tb et with
      | some (.map c bs ps), some d => (match keySh ag ks k && keysSh ag ks ps with
        | true => (match findK k ps, idxK k ps 0 with
          | some x, some j => (match bs[j]? with
            | some b => .req (DP.of (keyOk k = true ∧ keysOk ps = true)) (.leaf ⟨.tup [x, .int .i64 (b : Int)], [(id, some (.map c bs (setK k x ps)))], [], []⟩)
            | none => .stuck "mapEntry: born")
          | none, _ => (match mkAgg d.kd.agg d.zero with
            | some z => .req (DP.of (keyOk k = true ∧ keysOk ps = true)) (.leaf ⟨.tup [z, .int .i64 (c : Int)], [(id, some (.map (c + 1) (bs ++ [c]) (setK k z ps)))], [], []⟩)
            | none => .stuck "mapEntry: zero")
          | _, _ => .stuck "mapEntry: which")
        | false => .stuck "mapEntry: keys")
      | _, _ => .stuck "mapEntry: object"
    | _, _ => .stuck "mapEntry"
  | .entryStore t _ _ _ => match xs with
    | [.mp id, .int _ n, x] => match lk hs id with
      | some (.map c bs ps) => (match idxB n bs 0 with
        | some j => (match ps[j]? with
          | some (k, _) => .leaf ⟨.tup [], [(id, some (.map c bs (ps.set j (k, x))))], [], []⟩
          | none => .stuck "entryStore: which")
        | none => .stuck "entryStore: born")
      | _ => .stuck "entryStore: object"
    | _ => .stuck "entryStore"
  | .slice t _ lo hi mx =>
    match mx with
    | some _ => .stuck "slice: max"
    | none =>
      let bds (n : Int) : Option (AV × Int × Int) := cutBounds xs lo.isSome hi.isSome n
      match tb t, xs with
      | some { kd := .slice e k, .. }, .sl c :: _ => (match tb e, bds (c.olen o) with
        | some d, some (_, l, h) => (match Nat.beq d.size c.sz with | true => .req (o.cutb l h (c.olen o)) (pure1 (.sl (c.ocut o l h))) | false => .stuck "slice: size")
        | _, _ => .stuck "slice: bounds")
      | some { kd := .slice e k, .. }, .own id :: _ => (match lk hs id with
        | some (.arr e' c) => (match tb e, bds (c.olen o) with
          | some d, some (_, l, h) => (match Nat.beq d.size c.sz with
            | true => (match c.plain with
              | true => .req (o.cutb l h (c.olen o)) (.leaf ⟨.sl (c.ocut o l h), [(id, none)], [id], []⟩)
              | false => (match lo, c.some1 with
                | none, true => .req (o.cutb l h (c.olen o)) (.leaf ⟨.own nx, [(id, none)], [], [.arr e' (c.ocut o l h)]⟩)
                | some _, true => (match hi with
                  | none => .req (o.cutb l h (c.olen o)) (pure1 (.vw id c.sz l.toNat))
                  | some _ => .stuck "slice: view")
                | _, false => .stuck "slice: empty"))
            | false => .stuck "slice: size")
          | _, _ => .stuck "slice: bounds")
        | _ => .stuck "slice: array")
      | some { kd := .str, .. }, .str s :: _ => (match bds (o.slen s) with
        | some (_, l, h) => .req (o.cutb l h (o.slen s)) (pure1 (.str (o.scut s l h)))
        | none => .stuck "slice: bounds")
      | _, _ => .stuck "slice"
  | .makeInterface t _ => match tb t, xs with
    | some { kd := .iface, .. }, _ => .stuck "makeInterface"
    | some _, [x] => pure1 (.iface t x)
    | _, _ => .stuck "makeInterface"
  | .call c => match c.callee with
    | .builtin .len => match c.argTypes.toList with
      | [t] => match tb t, xs with
        | some { kd := .slice _ _, .. }, [.sl c] => pure1 (.int .i64 (c.olen o))
        | some { kd := .slice _ _, .. }, [.nils] => pure1 (.int .i64 0)
        | some { kd := .slice _ _, .. }, [.own id] => (match lk hs id with | some (.arr _ c) => pure1 (.int .i64 (c.olen o)) | _ => .stuck "len: array")
        | some { kd := .str, .. }, [.str s] => pure1 (.int .i64 (o.slen s))
        | _, _ => .stuck "len"
      | _ => .stuck "len: types"
    | .builtin .append => match c.argTypes.toList with
      | [t, t'] => match Nat.beq t t', tb t with
        | true, some { kd := .slice e k, .. } => match tb e, xs with
          | some d, [a, b] => match cLS hs k b with
            | some ys => (match Nat.beq d.size ys.sz, a with
              | true, .nils => .req (o.fit 0 (ys.olen o) d.bytes) (.leaf ⟨.own nx, [], [], [.arr e ys]⟩)
              | true, .own id => (match lk hs id with
                | some (.arr e' zs) => (match Nat.beq e e' && !mem id b.owns1, zs.oapp o ys with
                  | true, some c => .req (o.fit (zs.olen o) (ys.olen o) d.bytes) (.leaf ⟨.own nx, [(id, none)], [], [.arr e c]⟩)
                  | _, _ => .stuck "append: kinds")
                | _ => .stuck "append: array")
              | _, _ => .stuck "append: first")
            | none => .stuck "append: second"
          | _, _ => .stuck "append: operands"
        | _, _ => .stuck "append: type"
      | _ => .stuck "append: types"
    | .builtin .delete => match c.argTypes.toList with
      | t :: _ => (match tb t, xs with
        | some { kd := .map kt et ag ks, .. }, [.mp id, k] => (match lk hs id with
          | some (.map c bs ps) => (match keySh ag ks k && keysSh ag ks ps with
            | true => .req (DP.of (keyOk k = true ∧ keysOk ps = true)) (.leaf ⟨.tup [], [(id, some (.map c (delB k bs ps) (delK k ps)))], [], []⟩)
            | false => .stuck "delete: keys")
          | _ => .stuck "delete: object")
        | _, _ => .stuck "delete")
      | [] => .stuck "delete: types"
    | .builtin .clear => match c.argTypes.toList with
      | t :: _ => (match tb t, xs with
        | some { kd := .slice e _, .. }, [.vw id sz lo] => (match lk hs id, tb e, Nat.beq sz 1 with
          | some (.arr e' (.r [.any] ys)), some d, true => (match d.zero, d.kd.agg with
            | [.nilp], false => .leaf ⟨.tup [], [(id, some (.arr e' (.r [.any] (ys.take lo ++ List.replicate (ys.length - lo) [.nilp]))))], [], []⟩
            | _, _ => .stuck "clear: zero")
          | _, _, _ => .stuck "clear: object")
        | _, _ => .stuck "clear")
      | [] => .stuck "clear: types"
    | .builtin .max => match xs with | [.int k a, .int _ b] => pure1 (.int k (o.imax a b)) | _ => .stuck "max"
    | .builtin .min => match xs with | [.int k a, .int _ b] => pure1 (.int k (o.imin a b)) | _ => .stuck "min"
    | .value _ => match xs with
      | .fn f cap :: r => orc f nx (r ++ cap) hs
      | _ => .stuck "call: value"
    | .invoke _ name => match xs with
      | .iface t x :: r => (match tb t with
        | some d => (match lookM name d.ms with | some f => orc f nx (x :: r) hs | none => .stuck "invoke: method")
        | none => .stuck "invoke: type")
      | _ => .stuck "invoke"
    | _ => .stuck "call"
  | _ => .stuck "operation"

/-- The objects that an operation looks into. -/
def need (op : Op) (xs : List AV) : List Nat :=
  match op with
  | .store .. => (match xs with | .ptr id _ :: _ => [id] | _ => xs.flatMap AV.ids)
  | .load .. | .indexAddr .. | .slice .. | .lookup .. | .mapUpdate .. | .mapEntry .. | .entryStore .. => xs.flatMap AV.ids
  | .binOp .. => xs.flatMap AV.ids1
  | .buildSlice .. => xs.flatMap AV.owns
  | .call c => match c.callee with
    | .value _ => xs.flatMap AV.ids
    | .invoke _ _ => xs.flatMap AV.ids
    | .builtin .delete => xs.flatMap AV.ids
    | .builtin .clear => xs.flatMap AV.ids
    | _ => xs.flatMap AV.owns
  | _ => []
def HObj.ids : HObj → List Nat
  | .cells l => l.flatMap AV.ids
  | .arr _ (.r sh xs) => (match hasAny sh with | true => xs.flatMap fun e => e.flatMap AV.ids1 | false => [])
  | .arr _ _ => []
  | .map _ _ ps => ps.flatMap fun p => p.2.ids
def find (h : List (Nat × HObj)) : List Nat → List (Nat × HObj)
  | [] => []
  | i :: r => match lk h i with | some x => (i, x) :: find h r | none => find h r
/-- All objects that lead on from some names. -/
def reach (h : List (Nat × HObj)) : Nat → List Nat → List (Nat × HObj) → List (Nat × HObj)
  | 0, _, acc => acc
  | _ + 1, [], acc => acc
  | f + 1, i :: r, acc => match lk acc i with
    | some _ => reach h f r acc
    | none => match lk h i with
      | some ob => reach h f (r ++ ob.ids) (acc ++ [(i, ob)])
      | none => reach h f r acc
def gather (h : List (Nat × HObj)) (op : Op) (ids : List Nat) : List (Nat × HObj) :=
  match op with
  | .call _ => reach h 400 ids []
  | _ => find h ids


/-- The new objects, by their names. -/
def named : Nat → List HObj → List (Nat × HObj)
  | _, [] => []
  | n, ob :: r => (n, ob) :: named (n + 1) r
def upd (h : List (Nat × HObj)) : List (Nat × Option HObj) → List (Nat × HObj)
  | [] => h
  | (i, some ob) :: r => upd ((i, ob) :: h.filter fun p => !Nat.beq p.1 i) r
  | (i, none) :: r => upd (h.filter fun p => !Nat.beq p.1 i) r

/-! ### the same, as far as can be seen -/
def eqL {α : Type} (f : α → α → Bool) : List α → List α → Bool
  | [], [] => true
  | x :: l, y :: r => match f x y with | true => eqL f l r | false => false
  | _, _ => false
def eqI (a b : Int) : Bool := decide (a = b)
def eqBy (a b : ByteArray) : Bool := bytesEq a.data.toList b.data.toList
def eqV : Nat → VT → VT → Bool
  | 0, _, _ => false
  | f + 1, .mk t n s l, .mk t' n' s' l' => eqI t t' && eqL eqI n n' && eqL eqBy s s' && eqL (eqV f) l l'
def eqS (g : AV → AV → Bool) : LS → LS → Bool
  | .i k xs, .i k' ys => decide (k = k') && eqL eqI xs ys
  | .s xs, .s ys => eqL eqBy xs ys
  | .v xs, .v ys => eqL (eqV 20) xs ys
  | .r sh xs, .r sh' ys => decide (sh = sh') && eqL (eqL g) xs ys
  | _, _ => false
def eqA : Nat → AV → AV → Bool
  | 0, _, _ => false
  | f + 1, x, y => match x, y with
    | .int k a, .int k' b => decide (k = k') && eqI a b
    | .bool a, .bool b => a == b
    | .str a, .str b => eqBy a b
    | .nilp, .nilp => true
    | .ptr i o, .ptr i' o' => Nat.beq i i' && Nat.beq o o'
    | .nils, .nils => true
    | .sl c, .sl d => eqS (eqA f) c d
    | .own i, .own i' => Nat.beq i i'
    | .fn g l, .fn g' l' => Nat.beq g g' && eqL (eqA f) l l'
    | .nilf, .nilf => true
    | .agg l, .agg l' => eqL (eqA f) l l'
    | .iface t z, .iface t' z' => Nat.beq t t' && eqA f z z'
    | .nili, .nili => true
    | .mp i, .mp i' => Nat.beq i i'
    | .nilm, .nilm => true
    | _, _ => false
def eqP (a b : AV × AV) : Bool := eqA 4 a.1 b.1 && eqA 4 a.2 b.2
def sameOb : HObj → HObj → Bool
  | .cells l, .cells l' => eqL (eqA 5) l l'
  | .arr e c, .arr e' c' => Nat.beq e e' && eqS (eqA 4) c c'
  | .map c bs ps, .map c' bs' ps' => Nat.beq c c' && eqL Nat.beq bs bs' && eqL eqP ps ps'
  | _, _ => false
def soft1 (heap : List (Nat × HObj)) : Nat × Option HObj → Bool
  | (i, some ob) => match lk heap i with | some ob' => sameOb ob ob' | none => false
  | (_, none) => false
/-- An effect that leaves all as it stands. -/
def softOk (heap : List (Nat × HObj)) (E : Eff) : Bool := E.frz.isEmpty && E.new.isEmpty && E.hw.all (soft1 heap)

theorem eqL_ok {α : Type} {f : α → α → Bool} (hf : ∀ x y, f x y = true → x = y) : ∀ {l r : List α}, eqL f l r = true → l = r
  | [], [], _ => rfl
  | [], _ :: _, h => by simp [eqL] at h
  | _ :: _, [], h => by simp [eqL] at h
  | x :: l, y :: r, h => by
    simp only [eqL] at h
    split at h
    · rename_i h1; rw [hf x y h1, eqL_ok hf h]
    · cases h
theorem eqI_ok {a b : Int} (h : eqI a b = true) : a = b := of_decide_eq_true h
theorem bytesEq_eq : ∀ {a b : List UInt8}, bytesEq a b = true → a = b
  | [], [], _ => rfl
  | [], _ :: _, h => by simp [bytesEq] at h
  | _ :: _, [], h => by simp [bytesEq] at h
  | a :: l, b :: r, h => by
    simp only [bytesEq] at h
    split at h
    · rename_i h1
      rw [UInt8.toNat_inj.1 (Nat.eq_of_beq_eq_true h1), bytesEq_eq h]
    · cases h
theorem eqBy_ok {a b : ByteArray} (h : eqBy a b = true) : a = b := by
  have := bytesEq_eq h
  cases a; cases b; simp at this; rw [this]
theorem eqV_ok : ∀ {f : Nat} {x y : VT}, eqV f x y = true → x = y
  | 0, _, _, h => by simp [eqV] at h
  | f + 1, .mk t n s l, .mk t' n' s' l', h => by
    simp only [eqV, Bool.and_eq_true] at h
    obtain ⟨⟨⟨h1, h2⟩, h3⟩, h4⟩ := h
    rw [eqI_ok h1, eqL_ok (fun _ _ h => eqI_ok h) h2, eqL_ok (fun _ _ h => eqBy_ok h) h3, eqL_ok (fun _ _ h => eqV_ok h) h4]
theorem eqS_ok {g : AV → AV → Bool} (hg : ∀ x y, g x y = true → x = y) {c d : LS} (h : eqS g c d = true) : c = d := by
  unfold eqS at h
  split at h
  · simp only [Bool.and_eq_true, decide_eq_true_eq] at h; rw [h.1, eqL_ok (fun _ _ h => eqI_ok h) h.2]
  · rw [eqL_ok (fun _ _ h => eqBy_ok h) h]
  · rw [eqL_ok (fun _ _ h => eqV_ok h) h]
  · simp only [Bool.and_eq_true, decide_eq_true_eq] at h; rw [h.1, eqL_ok (fun _ _ h => eqL_ok hg h) h.2]
  · cases h
theorem nbeq {a b : Nat} (h : Nat.beq a b = true) : a = b := Nat.eq_of_beq_eq_true h
theorem eqA_ok : ∀ {f : Nat} {x y : AV}, eqA f x y = true → x = y
  | 0, _, _, h => by simp [eqA] at h
  | f + 1, x, y, h => by
    unfold eqA at h
    split at h
    · simp only [Bool.and_eq_true, decide_eq_true_eq] at h; rw [h.1, eqI_ok h.2]
    · simp at h; rw [h]
    · rw [eqBy_ok h]
    · rfl
    · simp only [Bool.and_eq_true] at h; rw [nbeq h.1, nbeq h.2]
    · rfl
    · rw [eqS_ok (fun _ _ h => eqA_ok h) h]
    · rw [nbeq h]
    · simp only [Bool.and_eq_true] at h; rw [nbeq h.1, eqL_ok (fun _ _ h => eqA_ok h) h.2]
    · rfl
    · rw [eqL_ok (fun _ _ h => eqA_ok h) h]
    · simp only [Bool.and_eq_true] at h; rw [nbeq h.1, eqA_ok h.2]
    · rfl
    · rw [nbeq h]
    · rfl
    · cases h
theorem eqP_ok {a b : AV × AV} (h : eqP a b = true) : a = b := by
  simp only [eqP, Bool.and_eq_true] at h
  exact Prod.ext (eqA_ok h.1) (eqA_ok h.2)
theorem sameOb_ok {a b : HObj} (h : sameOb a b = true) : a = b := by
  unfold sameOb at h
  split at h
  · rw [eqL_ok (fun _ _ h => eqA_ok h) h]
  · simp only [Bool.and_eq_true] at h; rw [nbeq h.1, eqS_ok (fun _ _ h => eqA_ok h) h.2]
  · simp only [Bool.and_eq_true] at h; rw [nbeq h.1.1, eqL_ok (fun _ _ h => nbeq h) h.1.2, eqL_ok (fun _ _ h => eqP_ok h) h.2]
  · cases h
theorem softOk_ok {heap : List (Nat × HObj)} {E : Eff} (h : softOk heap E = true) : E.frz = [] ∧ E.new = [] ∧ ∀ p ∈ E.hw, p.2 = lk heap p.1 := by
  simp only [softOk, Bool.and_eq_true, List.isEmpty_iff, List.all_eq_true] at h
  refine ⟨h.1.1, h.1.2, fun p hp => ?_⟩
  have := h.2 p hp
  obtain ⟨i, o⟩ := p
  cases o with
  | none => simp [soft1] at this
  | some ob =>
    simp only [soft1] at this
    split at this
    · rename_i ob' hl; rw [sameOb_ok this]; exact hl.symm
    · cases this
end Go.Qv
