/- The evaluator, second part: guards, regions, code. Definitions alone. -/
import Derived.Test.YteaeogofidakiaaQB
set_option linter.unusedVariables false
namespace Go.Qv

structure S where
  env : List (Nat × Gd × AV)
  gds : List Nat
  heap : List (Nat × HObj)
  next : Nat
  nt : Nat

abbrev Env := List (Nat × Gd × AV)
def gmem (n : Nat) (b : Bool) : List (Nat × Bool) → Bool
  | [] => false
  | (m, c) :: l => match Nat.beq n m && (b == c) with | true => true | false => gmem n b l
/-- What holds where a guard holds: it, the guard of the operation that made it, and so on. -/
def chain (env : Env) : Nat → Gd → List (Nat × Bool)
  | _, none => []
  | 0, some g => [g]
  | f + 1, some g => g :: (match lk env g.1 with | some (g', _) => chain env f g' | none => [])
def okGd (ch : List (Nat × Bool)) : Gd → Bool
  | none => true
  | some (d, b) => gmem d b ch
def val (env : Env) (ch : List (Nat × Bool)) : Operand → Option AV
  | .tmp t => match lk env t with
    | some (g, x) => (match okGd ch g with | true => some x | false => none)
    | none => none
  | .const v => cval v
  | .func f => some (.fn f [])
  | .global _ => none
def vals (env : Env) (ch : List (Nat × Bool)) : List Operand → Option (List AV)
  | [] => some []
  | x :: l => match val env ch x, vals env ch l with | some y, some ys => some (y :: ys) | _, _ => none
def pcs (env : Env) : Nat → Gd → Option (List (Bool × Bool))
  | _, none => some []
  | 0, some _ => none
  | f + 1, some (d, b) => match lk env d with
    | some (g, .bool x) => (match pcs env f g with | some l => some ((x, b) :: l) | none => none)
    | _ => none
def DP.when (x b : Bool) (q : DP) : DP := ⟨x = b → q.p, match decEq x b with
    | .isTrue h => (match q.d with | .isTrue hq => .isTrue (fun _ => hq) | .isFalse hn => .isFalse (fun f => hn (f h)))
    | .isFalse h => .isTrue (fun e => absurd e h)⟩
def imp : List (Bool × Bool) → DP → DP
  | [], p => p
  | (x, b) :: l, p => DP.when x b (imp l p)

def pickT (o : O) (m : Bool) (env : Env) (ch : List (Nat × Bool)) (c a b : Operand) : T Eff :=
  match c, val env ch c with
  | .tmp d, some (.bool x) => match m with
    | true => (match x with
      | true => (match val env ch a with | some y => pure1 y | none => .stuck "pick: first")
      | false => (match val env ch b with | some y => pure1 y | none => .stuck "pick: second"))
    | false => match a, val env (chain env 8 (some (d, true)) ++ ch) a, b, val env (chain env 8 (some (d, false)) ++ ch) b with
    | .const (.bool true), _, _, some (.bool y) => pure1 (.bool (o.or x y))
    | _, some (.bool y), .const (.bool false), _ => pure1 (.bool (o.and x y))
    | _, some (.bool y), _, some (.bool z) => pure1 (.bool (o.sel x y z))
    | _, _, _, _ => .stuck "pick: arms"
  | _, _ => .stuck "pick"
def isPick : Op → Bool
  | .pick .. => true
  | _ => false
def rdOf (env : Env) (ch : List (Nat × Bool)) (op : Op) : List Nat :=
  (op.operands.toList.filterMap fun x => match x with | .tmp t => some t | _ => none) ++ ch.map (·.1) ++ (match op with | .pick (.tmp d) _ _ => (chain env 8 (some (d, true))).map (·.1) | _ => [])
def opT (o : O) (tb : Tb) (orc : Orc) (m : Bool) (st : S) (ch : List (Nat × Bool)) (op : Op) : T Eff :=
  match op with
  | .pick c a b => pickT o m st.env ch c a b
  | op => match vals st.env ch op.operands.toList with
    | some xs => evo o tb orc st.next op xs (gather st.heap op (need op xs))
    | none => .stuck "operand"

def T.lin {α : Type} : T α → Option (DP × α)
  | .leaf a => some (DP.of True, a)
  | .req p t => match t.lin with | some (q, a) => some (p.and q, a) | none => none
  | _ => none
def putEnv (env : Env) (g : Gd) (x : AV) : Option Nat → Env
  | some d => (d, g, x) :: env
  | none => env
def dstOk (st : S) : Option Nat → Bool
  | some d => Nat.blt d st.nt && !mem d st.gds
  | none => true
def addGd (l : List Nat) : Gd → List Nat
  | none => l
  | some (d, _) => match mem d l with | true => l | false => d :: l
def put (st : S) (dst : Option Nat) (g : Gd) (E : Eff) : S :=
  { env := putEnv st.env g E.v dst, gds := addGd st.gds g, heap := named st.next E.new ++ upd st.heap E.hw, next := st.next + 64, nt := st.nt }
/-- A guard by the temporary that it looks at. -/
def gdOf (ds : List (Option Nat)) : Option (Nat × Bool) → Option Gd
  | none => some none
  | some (j, b) => match ds[j]? with | some (some d) => some (some (d, b)) | _ => none
def eqO (a b : Option Nat) : Bool := match a, b with | some x, some y => Nat.beq x y | _, _ => false
def gdDst (dst : Option Nat) : Gd → Bool
  | none => false
  | some (d, _) => eqO dst (some d)
/-- Does a guard hold? In a closed state it's known. -/
def known (env : Env) : Nat → Nat × Bool → Option Bool
  | 0, _ => none
  | f + 1, (d, b) => match lk env d with
    | some (none, .bool x) => some (match x with | true => b | false => !b)
    | some (some g, _) => (match known env f g with | some false => some false | _ => none)
    | _ => none
def kn (m : Bool) (env : Env) : Gd → Option Bool
  | none => none
  | some g => match m with | true => known env 12 g | false => none
def noE : Eff := ⟨.nilp, [], [], []⟩
def stepT (o : O) (tb : Tb) (orc : Orc) (m : Bool) (ds : List (Option Nat)) (st : S) (x : Oper) : T S :=
  match dstOk st x.dst, gdOf ds x.guard with
  | true, some none => (opT o tb orc m st [] x.op).bind fun E => match Nat.ble E.new.length 64 with | true => .leaf (put st x.dst none E) | false => .stuck "new"
  | true, some (some g) => match kn m st.env (some g) with
    | some true => (opT o tb orc m st [] x.op).bind fun E => match Nat.ble E.new.length 64 with | true => .leaf (put st x.dst none E) | false => .stuck "new"
    | some false => (match gdDst x.dst (some g) with | false => .leaf (put st x.dst (some g) noE) | true => .stuck "guard")
    | none => match gdDst x.dst (some g), pcs st.env 12 (some g), (opT o tb orc m st (chain st.env 12 (some g)) x.op).lin with
      | false, some pc, some (q, E) => (.req (DP.of (softOk st.heap E = true)) (.req (imp pc q) (.leaf (put st x.dst (some g) E))))
      | _, _, _ => .stuck (match (opT o tb orc m st (chain st.env 12 (some g)) x.op) with | .stuck y => y | _ => x.pos)
  | _, _ => .stuck "dst"
def seqT (o : O) (tb : Tb) (orc : Orc) (m : Bool) (ds : List (Option Nat)) : List Oper → S → T S
  | [], st => .leaf st
  | x :: l, st => (stepT o tb orc m ds st x).bind (seqT o tb orc m ds l)
def isGd : Gd → Bool
  | none => false
  | some _ => true
def gts : Env → List Nat
  | [] => []
  | (d, g, _) :: l => match isGd g with | true => d :: gts l | false => gts l
/-- Behind a region: nothing is known under a guard any more. -/
def clr (st : S) : S :=
  match st.gds with
  | [] => st
  | _ => let z := gts st.env; { st with env := st.env.filter (fun p => !isGd p.2.1 && !mem p.1 z), gds := [] }

/-! ### a region that draws its order -/
structure Fp where
  rd : List Nat
  d : Option Nat
  hr : List Nat
  hw : List Nat
def meets (a b : List Nat) : Bool := a.any fun x => mem x b
def memO (a : Option Nat) (l : List Nat) : Bool := match a with | some x => mem x l | none => false
def conf (a b : Fp) : Bool := memO a.d b.rd || eqO a.d b.d || memO b.d a.rd || meets a.hw b.hr || meets a.hw b.hw || meets b.hw a.hr
/-- What leads to operation i: bits. -/
def ancOf (acc : List Nat) (x : Oper) : Nat :=
  x.after.toList.foldl (fun s e => match Region.binds .any e with | true => s ||| 2 ^ e.on ||| acc.getD e.on 0 | false => s) 0
def ancs : List Nat → List Oper → List Nat
  | acc, [] => acc
  | acc, x :: l => ancs (acc ++ [ancOf acc x]) l
def okPairs (j : Nat) (b : Fp) (an : Nat) : Nat → List Fp → Bool
  | _, [] => true
  | i, a :: l => (!conf a b || an.testBit i) && okPairs j b an (i + 1) l
def okAll : Nat → List Fp → List Fp → List Nat → Bool
  | _, _, [], _ => true
  | j, done, b :: l, an :: r => okPairs j b an 0 done && okAll (j + 1) (done ++ [b]) l r
  | _, _, _, [] => false
structure Rec where
  x : Oper
  g : Gd
  E : Eff
  st : S
  fp : Fp
def effOk (st : S) (g : Gd) (E : Eff) : Bool :=
  match g with | none => Nat.ble E.new.length 64 | some _ => softOk st.heap E
def hsOf (st : S) (ch : List (Nat × Bool)) (op : Op) : List Nat :=
  match vals st.env ch op.operands.toList with | some xs => (gather st.heap op (need op xs)).map (·.1) | none => []
def recT (o : O) (tb : Tb) (orc : Orc) (m : Bool) (ds : List (Option Nat)) (st : S) (x : Oper) : Option (DP × Rec × S) :=
  match dstOk st x.dst, gdOf ds x.guard with
  | true, some g => match kn m st.env g with
    | some true => (match (opT o tb orc m st [] x.op).lin with
      | some (q, E) => (match Nat.ble E.new.length 64 with
        | true => some (q, ⟨x, none, E, st, ⟨rdOf st.env (chain st.env 12 g) x.op, x.dst, hsOf st [] x.op, E.hw.map (·.1) ++ (named st.next E.new).map (·.1)⟩⟩, put st x.dst none E)
        | false => none)
      | none => none)
    | some false => (match gdDst x.dst g with
      | false => some (DP.of True, ⟨x, g, noE, st, ⟨rdOf st.env (chain st.env 12 g) x.op, x.dst, [], []⟩⟩, put st x.dst g noE)
      | true => none)
    | none =>
      match gdDst x.dst g, pcs st.env 12 g, (opT o tb orc m st (chain st.env 12 g) x.op).lin with
      | false, some pc, some (q, E) =>
        some ((DP.of (effOk st g E = true)).and (imp pc q), ⟨x, g, E, st, ⟨rdOf st.env (chain st.env 12 g) x.op, x.dst, hsOf st (chain st.env 12 g) x.op, E.hw.map (·.1) ++ (named st.next E.new).map (·.1)⟩⟩, put st x.dst g E)
      | _, _, _ => none
  | _, _ => none
def recs (o : O) (tb : Tb) (orc : Orc) (m : Bool) (ds : List (Option Nat)) : List Oper → S → Option (DP × List Rec × S)
  | [], st => some (DP.of True, [], st)
  | x :: l, st => match recT o tb orc m ds st x with
    | some (p, r, st') => (match recs o tb orc m ds l st' with | some (q, rs, st'') => some (p.and q, r :: rs, st'') | none => none)
    | none => none
def ordOk : Nat → List Oper → Bool
  | _, [] => true
  | j, x :: l => (x.after.toList.all fun e => !Region.binds .any e || Nat.blt e.on j) && ordOk (j + 1) l
def whyT {α : Type} : T α → String
  | .leaf _ => "leaf" | .ite _ _ _ => "ite" | .both _ _ _ _ => "both" | .req _ t => whyT t | .stuck y => y
def whyR (o : O) (tb : Tb) (orc : Orc) (m : Bool) (ds : List (Option Nat)) : List Oper → S → String
  | [], _ => "?"
  | x :: l, st => match recT o tb orc m ds st x with
    | some (_, _, st') => whyR o tb orc m ds l st'
    | none => match gdOf ds x.guard with
      | some g => (match (opT o tb orc m st (chain st.env 12 g) x.op) with | .stuck y => y | _ => x.pos)
      | none => x.pos
def drawT (o : O) (tb : Tb) (orc : Orc) (m : Bool) (ops : List Oper) (st : S) : T S :=
  match st.gds, recs o tb orc m (ops.map (·.dst)) ops st with
  | [], some (q, rs, st') => (match okAll 0 [] (rs.map (·.fp)) (ancs [] ops) && ordOk 0 ops with | true => .req q (.leaf st') | false => .stuck "draws: conflict")
  | [], none => .stuck (whyR o tb orc m (ops.map (·.dst)) ops st)
  | _, _ => .stuck "draws: guards"

/-! ### code -/
inductive It where
  | code (c : Code)
  | blk (id : Nat)
  | again (n : Nat)
  | rep (c : Code)
inductive Stop where
  | done (st : S)
  | ret (st : S)
  | exit (id : Nat) (st : S)
  | again (n : Nat) (st : S)
  | loop (b : Code) (r : List It) (st : S)
  | rfunc (f : Operand) (ps : Array Tmp) (asg b : Code) (r : List It) (st : S)
  | more (l : List It) (st : S)
def unwind (id : Nat) : List It → Option (List It)
  | [] => none
  | .blk i :: r => match Nat.beq id i with | true => some r | false => unwind id r
  | _ :: r => unwind id r
def run (o : O) (tb : Tb) (orc : Orc) (m : Bool) (bk : List Nat) : Nat → List It → S → T Stop
  | 0, _, _ => .stuck "fuel"
  | _ + 1, [], st => .leaf (.done st)
  | f + 1, .again n :: r, st => .leaf (.again n st)
  | f + 1, .rep b :: r, st => run o tb orc m bk f (.code b :: .rep b :: r) st
  | f + 1, .blk _ :: r, st => run o tb orc m bk f r st
  | f + 1, .code c :: r, st => match c with
    | .skip => run o tb orc m bk f r st
    | .region id ops d => match mem id bk, d with
      | true, d => .leaf (.more (.code (.region id ops d) :: r) st)
      | false, true => (drawT o tb orc m ops.toList st).bind fun st => run o tb orc m bk f r (clr st)
      | false, false => (seqT o tb orc m (ops.toList.map (·.dst)) ops.toList st).bind fun st => run o tb orc m bk f r (clr st)
    | .seq a b => run o tb orc m bk f (.code a :: .code b :: r) st
    | .cond c a b => match val st.env [] c with
      | some (.bool x) => (match m with
        | false => .ite x (run o tb orc m bk f (.code a :: r) st) (run o tb orc m bk f (.code b :: r) st)
        | true => match x with | true => run o tb orc m bk f (.code a :: r) st | false => run o tb orc m bk f (.code b :: r) st)
      | _ => .stuck "cond"
    | .block id a => run o tb orc m bk f (.code a :: .blk id :: r) st
    | .loop a => (match m with | false => .leaf (.loop a r st) | true => run o tb orc m bk f (.code a :: .rep a :: r) st)
    | .rangeFunc g ps asg b => .leaf (.rfunc g ps asg b r st)
    | .exit id => match unwind id r with | some r' => run o tb orc m bk f r' st | none => .leaf (.exit id st)
    | .ret => .leaf (.ret st)
    | _ => .stuck "code"
def bodyOf (f : Func) : Code := match f.body with | some c => c | none => .skip
end Go.Qv
