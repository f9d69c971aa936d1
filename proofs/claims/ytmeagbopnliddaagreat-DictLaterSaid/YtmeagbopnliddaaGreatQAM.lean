/- Values of the abstract state, and what it means that memory holds them: a value's relation, an object's relation; both live on while the blocks that they lean on stay as they are. No condition. -/
import Derived.Maps.AppendAt
import Derived.Orders
import Derived.Below
import Derived.Laws.CopyRow
import Derived.Laws.Strings
import Derived.WideLaws
import Derived.Maps.Keyed
import Derived.Laws.Entries
set_option linter.unusedVariables false
namespace Go.Qv
open Go.RowKit

/-- A value of the program's, as a tree. -/
inductive VT where
  | mk (t : Int) (n : List Int) (s : List ByteArray) (l : List VT)
def VT.t : VT → Int | .mk t _ _ _ => t
def VT.n : VT → List Int | .mk _ n _ _ => n
def VT.s : VT → List ByteArray | .mk _ _ s _ => s
def VT.l : VT → List VT | .mk _ _ _ l => l
theorem VT.eta (v : VT) : VT.mk v.t v.n v.s v.l = v := by cases v; rfl
instance : Inhabited VT := ⟨.mk 0 [] [] []⟩

/-- The kinds of the cells of a record. -/
inductive CK where
  | int (k : IntKind) | bool | str | ints (k : IntKind) | strs | vs | any
  deriving DecidableEq

mutual
inductive AV where
  | int (k : IntKind) (n : Int)
  | bool (b : Bool)
  | str (s : ByteArray)
  | nilp
  | ptr (id off : Nat)
  | ep (id sz : Nat) (i : Int) (off : Nat)
  | rp (cs : List AV)
  | nils
  | sl (c : LS)
  | own (id : Nat)
  | fn (f : FuncId) (cap : List AV)
  | nilf
  | raw (v : Value)
  | agg (l : List AV)
  | tup (l : List AV)
  | iface (t : TypeId) (x : AV)
  | nili
  | mp (id : Nat)
  | nilm
  | vw (id sz lo : Nat)
inductive LS where
  | i (k : IntKind) (xs : List Int)
  | s (xs : List ByteArray)
  | v (xs : List VT)
  | r (sh : List CK) (xs : List (List AV))
end
instance : Inhabited AV := ⟨.nilp⟩

def VT.cells (v : VT) : List AV := [.int .i64 v.t, .sl (.i .i64 v.n), .sl (.s v.s), .sl (.v v.l)]
def LS.len : LS → Nat
  | .i _ xs => xs.length | .s xs => xs.length | .v xs => xs.length | .r _ xs => xs.length
def LS.sz : LS → Nat
  | .i _ _ => 1 | .s _ => 1 | .v _ => 4 | .r sh _ => sh.length
def LS.elems : LS → List (List AV)
  | .i k xs => xs.map fun n => [.int k n]
  | .s xs => xs.map fun b => [.str b]
  | .v xs => xs.map VT.cells
  | .r _ xs => xs
/-- One cell. -/
def AV.one : AV → Bool
  | .agg _ => false | .tup _ => false | _ => true
def rInt (r : List AV) (j : Nat) : Int := match r[j]? with | some (.int _ n) => n | _ => 0
def rBool (r : List AV) (j : Nat) : Bool := match r[j]? with | some (.bool b) => b | _ => false
def rStr (r : List AV) (j : Nat) : ByteArray := match r[j]? with | some (.str b) => b | _ => ⟨#[]⟩
def rInts (r : List AV) (j : Nat) : List Int := match r[j]? with | some (.sl (.i _ l)) => l | _ => []
def rStrs (r : List AV) (j : Nat) : List ByteArray := match r[j]? with | some (.sl (.s l)) => l | _ => []
def rVs (r : List AV) (j : Nat) : List VT := match r[j]? with | some (.sl (.v l)) => l | _ => []
def rAny (r : List AV) (j : Nat) : AV := match r[j]? with | some x => (match x.one with | true => x | false => .nilp) | none => .nilp
theorem rAny_one (r : List AV) (j : Nat) : (rAny r j).one = true := by
  unfold rAny
  split
  · split
    · assumption
    · rfl
  · rfl
def CK.at (r : List AV) (j : Nat) : CK → AV
  | .int k => .int k (rInt r j) | .bool => .bool (rBool r j) | .str => .str (rStr r j)
  | .ints k => .sl (.i k (rInts r j)) | .strs => .sl (.s (rStrs r j)) | .vs => .sl (.v (rVs r j)) | .any => rAny r j
def shapeFrom (r : List AV) : Nat → List CK → List AV
  | _, [] => []
  | j, ck :: sh => ck.at r j :: shapeFrom r (j + 1) sh
theorem shapeFrom_length (r : List AV) : ∀ (sh : List CK) (j : Nat), (shapeFrom r j sh).length = sh.length
  | [], _ => rfl
  | _ :: sh, j => by simp [shapeFrom, shapeFrom_length r sh]
theorem shapeFrom_one (r : List AV) : ∀ (sh : List CK) (j : Nat), ∀ x ∈ shapeFrom r j sh, x.one = true
  | [], _, x, h => by simp [shapeFrom] at h
  | ck :: sh, j, x, h => by
    simp only [shapeFrom, List.mem_cons] at h
    rcases h with rfl | h
    · cases ck <;> first | rfl | exact rAny_one _ _
    · exact shapeFrom_one r sh _ x h
/-- Of a list of records: each is of the shape. -/
def LS.ok : LS → Prop
  | .r sh xs => 0 < sh.length ∧ ∀ e ∈ xs, e = shapeFrom e 0 sh
  | _ => True
theorem LS.elems_len (c : LS) : c.elems.length = c.len := by cases c <;> simp [LS.elems, LS.len]

theorem LS.el_len {c : LS} (h : c.ok) : ∀ e ∈ c.elems, e.length = c.sz := by
  intro e he
  cases c with
  | i k xs => simp only [LS.elems, List.mem_map] at he; obtain ⟨_, _, rfl⟩ := he; rfl
  | s xs => simp only [LS.elems, List.mem_map] at he; obtain ⟨_, _, rfl⟩ := he; rfl
  | v xs => simp only [LS.elems, List.mem_map] at he; obtain ⟨_, _, rfl⟩ := he; rfl
  | r sh xs => have := h.2 e he; rw [this, shapeFrom_length]; rfl
theorem LS.el_one {c : LS} (h : c.ok) : ∀ e ∈ c.elems, ∀ x ∈ e, x.one = true := by
  intro e he x hx
  cases c with
  | i k xs => simp only [LS.elems, List.mem_map] at he; obtain ⟨_, _, rfl⟩ := he; simp at hx; subst hx; rfl
  | s xs => simp only [LS.elems, List.mem_map] at he; obtain ⟨_, _, rfl⟩ := he; simp at hx; subst hx; rfl
  | v xs =>
    simp only [LS.elems, List.mem_map] at he
    obtain ⟨_, _, rfl⟩ := he
    simp [VT.cells] at hx
    rcases hx with rfl | rfl | rfl | rfl <;> rfl
  | r sh xs => rw [h.2 e he] at hx; exact shapeFrom_one _ _ _ x hx
theorem LS.sz_pos {c : LS} (h : c.ok) : 0 < c.sz := by
  cases c with
  | r sh xs => exact h.1
  | _ => simp [LS.sz]

inductive VR (β : Nat → Option Value) (F : Nat → Prop) (w : World) : Value → AV → Prop
  | int (k n) : VR β F w (.int k n) (.int k n)
  | bool (b) : VR β F w (.bool b) (.bool b)
  | str (s) : VR β F w (.string s) (.str s)
  | nilp : VR β F w (.pointer none) .nilp
  | ptr (id off b o : Nat) : β id = some (.pointer (some ⟨b, o, none⟩)) → VR β F w (.pointer (some ⟨b, o + off, none⟩)) (.ptr id off)
  | ep (id sz : Nat) (i : Int) (off b n c : Nat) : β id = some (.slice (some ⟨b, 0, none⟩) n c) → VR β F w (.pointer (some ⟨b, i.toNat * sz + off, none⟩)) (.ep id sz i off)
  | rp (cs : List AV) (b o : Nat) (cv : Nat → Value) : F b → (∀ j, j < cs.length → w.cell? ⟨b, o + j, none⟩ = some (cv j)) →
      (∀ (j : Nat) (x : AV), cs[j]? = some x → x.one = true) → (∀ (j : Nat) (x : AV), cs[j]? = some x → VR β F w (cv j) x) → VR β F w (.pointer (some ⟨b, o, none⟩)) (.rp cs)
  | nils : VR β F w (.slice none 0 0) .nils
  | sl0 (c : LS) (A : Option Addr) (cap : Nat) : c.len = 0 → c.ok → VR β F w (.slice A 0 cap) (.sl c)
  | sl (c : LS) (b o n cap : Nat) (cv : Nat → Nat → Value) : n = c.len → 0 < n → n ≤ cap → cap ≤ maxLen → F b → c.ok →
      (∀ i j, i < n → j < c.sz → w.cell? ⟨b, o + (i * c.sz + j), none⟩ = some (cv i j)) →
      (∀ (i : Nat) (e : List AV) (j : Nat) (x : AV), c.elems[i]? = some e → e[j]? = some x → VR β F w (cv i j) x) → VR β F w (.slice (some ⟨b, o, none⟩) n cap) (.sl c)
  | own (id : Nat) (v : Value) : β id = some v → (∃ A n c, v = .slice A n c) → VR β F w v (.own id)
  | fn (f : FuncId) (cs : Array Value) (l : List AV) : cs.size = l.length → (∀ (j : Nat) (v : Value) (x : AV), cs[j]? = some v → l[j]? = some x → VR β F w v x) → VR β F w (.func (.func f) #[] cs) (.fn f l)
  | nilf : VR β F w .nilFunc .nilf
  | raw (v : Value) : v.oneCell' = true → VR β F w v (.raw v)
  | agg (cs : Array Value) (l : List AV) : cs.size = l.length → (∀ x ∈ l, x.one = true) → (∀ (j : Nat) (v : Value) (x : AV), cs[j]? = some v → l[j]? = some x → VR β F w v x) → VR β F w (.agg cs) (.agg l)
  | tup (cs : Array Value) (l : List AV) : cs.size = l.length → (∀ (j : Nat) (v : Value) (x : AV), cs[j]? = some v → l[j]? = some x → VR β F w v x) → VR β F w (.tuple cs) (.tup l)
  | iface (t : TypeId) (v : Value) (x : AV) : VR β F w v x → VR β F w (.iface t v) (.iface t x)
  | nili : VR β F w .nilIface .nili
  | mp (id r : Nat) : β id = some (.map (some r)) → VR β F w (.map (some r)) (.mp id)
  | nilm : VR β F w (.map none) .nilm
  | vw (id sz lo b n c : Nat) : β id = some (.slice (some ⟨b, 0, none⟩) n c) → lo ≤ n → VR β F w (.slice (if c = lo then some ⟨b, 0, none⟩ else some ⟨b, lo * sz, none⟩) (n - lo) (c - lo)) (.vw id sz lo)

theorem VR.mono {β β' : Nat → Option Value} {F F' : Nat → Prop} {w w' : World} {v : Value} {x : AV} (h : VR β F w v x)
    (hβ : ∀ id u, β id = some u → β' id = some u) (hF : ∀ b, F b → F' b) (hw : ∀ b, F b → w'.heap[b]? = w.heap[b]?) : VR β' F' w' v x := by
  induction h with
  | int => exact .int _ _
  | bool => exact .bool _
  | str => exact .str _
  | nilp => exact .nilp
  | ptr id off b o h => exact .ptr _ _ _ _ (hβ _ _ h)
  | ep id sz i off b n c h => exact .ep _ _ _ _ _ _ _ (hβ _ _ h)
  | rp cs b o cv hf hc h1 _ ih => exact .rp _ _ _ cv (hF _ hf) (fun j hj => (World.cell?_of_block (w := w) (hw b hf)).trans (hc j hj)) h1 ih
  | nils => exact .nils
  | sl0 c A cap h hk => exact .sl0 _ _ _ h hk
  | sl c b o n cap cv h1 h2 h3 h4 hf h5 hc _ ih => exact .sl _ _ _ _ _ cv h1 h2 h3 h4 (hF _ hf) h5 (fun i j hi hj => (World.cell?_of_block (w := w) (hw b hf)).trans (hc i j hi hj)) ih
  | own id v h hs => exact .own _ _ (hβ _ _ h) hs
  | fn f cs l h _ ih => exact .fn _ _ _ h ih
  | nilf => exact .nilf
  | raw v h => exact .raw _ h
  | agg cs l h h2 _ ih => exact .agg _ _ h h2 ih
  | tup cs l h _ ih => exact .tup _ _ h ih
  | iface t v x _ ih => exact .iface _ _ _ ih
  | nili => exact .nili
  | mp id r h => exact .mp _ _ (hβ _ _ h)
  | nilm => exact .nilm
  | vw id sz lo b n c h1 h2 => exact .vw _ _ _ _ _ _ (hβ _ _ h1) h2

theorem VR.one {β F w v x} (h : VR β F w v x) (hx : x.one = true) : v.oneCell' = true := by
  cases h <;> first | rfl | (simp [AV.one] at hx; done) | skip
  · rename_i id h hs
    obtain ⟨A, n, c, rfl⟩ := hs
    rfl
  · assumption

/-- An object of the call's own. -/
inductive HObj where
  | cells (l : List AV)
  | arr (e : TypeId) (c : LS)
  | map (c : Nat) (bs : List Nat) (ps : List (AV × AV))
  | sset (l : List ByteArray)
/-- A set of texts as pairs. -/
def sps (l : List ByteArray) : List (AV × AV) := l.map fun s => (.str s, .bool true)
/-- A key's value. -/
def kval1 : AV → Option Value
  | .int k n => some (.int k n) | .bool b => some (.bool b) | .str s => some (.string s) | _ => none
def kvals : List AV → Option (List Value)
  | [] => some []
  | x :: l => match kval1 x, kvals l with | some v, some r => some (v :: r) | _, _ => none
def kval : AV → Option Value
  | .agg l => match kvals l with | some r => some (.agg r.toArray) | none => none
  | x => kval1 x
/-- The block of a value that leads to one. -/
def blkOf : Value → Option Nat
  | .pointer (some a) => some a.block
  | .slice (some a) _ _ => some a.block
  | .map (some r) => some r
  | _ => none
def OR (β : Nat → Option Value) (F : Nat → Prop) (w : World) (id : Nat) : HObj → Prop
  | .cells l => ∃ b o cur e, β id = some (.pointer (some ⟨b, o, none⟩)) ∧ w.heap[b]? = some (.cells cur e (0, 0)) ∧ o + l.length ≤ cur.size ∧
      ∀ j x, l[j]? = some x → x.one = true ∧ ∃ v, cur[o + j]? = some v ∧ VR β F w v x
  | .arr e c => ∃ v cvs, β id = some v ∧ w.ownsRow 0 e c.sz v c.len cvs ∧ c.ok ∧
      ∀ i el j x, c.elems[i]? = some el → el[j]? = some x → ∃ u, cvs[i * c.sz + j]? = some u ∧ VR β F w u x
  | .map c bs ps => ∃ r es, β id = some (.map (some r)) ∧ w.heap[r]? = some (.map es c) ∧ es.toList.map (·.born) = bs ∧ es.toList.Pairwise (fun a b => a.key ≠ b.key) ∧ es.size = ps.length ∧
      ∀ (j : Nat) (k x : AV), ps[j]? = some (k, x) → ∃ e, es[j]? = some e ∧ kval k = some e.key ∧ VR β F w e.val x
  | .sset l => ∃ c bs r es, β id = some (.map (some r)) ∧ w.heap[r]? = some (.map es c) ∧ es.toList.map (·.born) = bs ∧ es.toList.Pairwise (fun a b => a.key ≠ b.key) ∧ es.size = (sps l).length ∧
      ∀ (j : Nat) (k x : AV), (sps l)[j]? = some (k, x) → ∃ e, es[j]? = some e ∧ kval k = some e.key ∧ VR β F w e.val x
theorem OR.sset_iff {β : Nat → Option Value} {F : Nat → Prop} {w : World} {id : Nat} {l : List ByteArray} : OR β F w id (.sset l) ↔ ∃ c bs, OR β F w id (.map c bs (sps l)) := Iff.rfl

theorem ownsRow_block {w w' : World} {base : Nat} {e : TypeId} {size : Nat} {v : Value} {n : Nat} {xs : List Value} (h : w.ownsRow base e size v n xs)
    (hb : ∀ b, blkOf v = some b → w'.heap[b]? = w.heap[b]?) : w'.ownsRow base e size v n xs := by
  refine ⟨h.1, ?_⟩
  rcases h.2 with h2 | ⟨g, cap, cur, rfl, h1, h2, h3⟩
  · exact .inl h2
  · exact .inr ⟨g, cap, cur, rfl, h1, by rw [hb g rfl]; exact h2, h3⟩

theorem OR.mono {β β' : Nat → Option Value} {F F' : Nat → Prop} {w w' : World} {id : Nat} {ob : HObj} (h : OR β F w id ob)
    (hβ : ∀ id u, β id = some u → β' id = some u) (hF : ∀ b, F b → F' b) (hw : ∀ b, F b → w'.heap[b]? = w.heap[b]?)
    (hb : ∀ v b, β id = some v → blkOf v = some b → w'.heap[b]? = w.heap[b]?) : OR β' F' w' id ob := by
  cases ob with
  | cells l =>
    obtain ⟨b, o, cur, e, h1, h2, h3, h4⟩ := h
    refine ⟨b, o, cur, e, hβ _ _ h1, (hb _ b h1 rfl).trans h2, h3, fun j x hx => ?_⟩
    obtain ⟨h5, v, h6, h7⟩ := h4 j x hx
    exact ⟨h5, v, h6, h7.mono hβ hF hw⟩
  | arr e c =>
    obtain ⟨v, cvs, h1, h2, h3, h4⟩ := h
    refine ⟨v, cvs, hβ _ _ h1, ownsRow_block h2 (fun b hv => hb v b h1 hv), h3, fun i el j x he hx => ?_⟩
    obtain ⟨u, h6, h7⟩ := h4 i el j x he hx
    exact ⟨u, h6, h7.mono hβ hF hw⟩
  | map c bs ps =>
    obtain ⟨r, es, h1, h2, hbs, h0, h3, h4⟩ := h
    refine ⟨r, es, hβ _ _ h1, (hb _ r h1 rfl).trans h2, hbs, h0, h3, fun j k x hj => ?_⟩
    obtain ⟨e, h5, h6, h7⟩ := h4 j k x hj
    exact ⟨e, h5, h6, h7.mono hβ hF hw⟩
  | sset l =>
    obtain ⟨c, bs, r, es, h1, h2, hbs, h0, h3, h4⟩ := h
    refine ⟨c, bs, r, es, hβ _ _ h1, (hb _ r h1 rfl).trans h2, hbs, h0, h3, fun j k x hj => ?_⟩
    obtain ⟨e, h5, h6, h7⟩ := h4 j k x hj
    exact ⟨e, h5, h6, h7.mono hβ hF hw⟩

/-- Whatever leads to a block leads to one that is there. -/
theorem OR.lt {β F w id ob} (h : OR β F w id ob) {v b} (hv : β id = some v) (hb : blkOf v = some b) : b < w.heap.size := by
  cases ob with
  | cells l =>
    obtain ⟨b', o, cur, e, h1, h2, _⟩ := h
    rw [hv] at h1
    injection h1 with h1
    subst h1
    simp [blkOf] at hb
    subst hb
    exact (Array.getElem?_eq_some_iff.1 h2).1
  | arr e c =>
    obtain ⟨v', cvs, h1, h2, _⟩ := h
    rw [hv] at h1
    injection h1 with h1
    subst h1
    rcases h2.2 with ⟨rfl, _⟩ | ⟨g, cap, cur, rfl, _, hg, _⟩
    · simp [blkOf] at hb
    · simp [blkOf] at hb
      subst hb
      exact (Array.getElem?_eq_some_iff.1 hg).1
  | map c bs ps =>
    obtain ⟨r, es, h1, h2, _⟩ := h
    rw [hv] at h1
    injection h1 with h1
    subst h1
    simp [blkOf] at hb
    subst hb
    exact (Array.getElem?_eq_some_iff.1 h2).1
  | sset l =>
    obtain ⟨c, bs, r, es, h1, h2, _⟩ := h
    rw [hv] at h1
    injection h1 with h1
    subst h1
    simp [blkOf] at hb
    subst hb
    exact (Array.getElem?_eq_some_iff.1 h2).1
end Go.Qv
/- The evaluator: one operation, a region, a body of code on an abstract state; what comes out is a tree of cases. Definitions alone. -/
set_option linter.unusedVariables false
namespace Go.Qv

/-- A condition that can be decided. -/
structure DP where
  p : Prop
  d : Decidable p
instance : CoeSort DP Prop := ⟨DP.p⟩
abbrev DP.of (p : Prop) [d : Decidable p] : DP := ⟨p, d⟩
abbrev DP.and (a b : DP) : DP := ⟨a.p ∧ b.p, @instDecidableAnd a.p b.p a.d b.d⟩
/-- The leaf operations: a variable in the statements that are evaluated, so that the evaluation does not open them. -/
structure O where
  add : IntKind → Int → Int → Int
  sub : IntKind → Int → Int → Int
  mul : IntKind → Int → Int → Int
  neg : IntKind → Int → Int
  conv : IntKind → Int → Int
  lt : Int → Int → Bool
  le : Int → Int → Bool
  eq : Int → Int → Bool
  not : Bool → Bool
  and : Bool → Bool → Bool
  or : Bool → Bool → Bool
  sel : Bool → Bool → Bool → Bool
  beq : Bool → Bool → Bool
  seq : ByteArray → ByteArray → Bool
  slt : ByteArray → ByteArray → Bool
  sadd : ByteArray → ByteArray → ByteArray
  slen : ByteArray → Int
  sat_ : ByteArray → Int → Int
  scut : ByteArray → Int → Int → ByteArray
  ilen : List Int → Int
  blen : List ByteArray → Int
  vlen : List VT → Int
  rlen : List (List AV) → Int
  iget : List Int → Int → Int
  bget : List ByteArray → Int → ByteArray
  vget : List VT → Int → VT
  rget : List (List AV) → Int → List AV
  iset : List Int → Int → Int → List Int
  bset : List ByteArray → Int → ByteArray → List ByteArray
  vset : List VT → Int → VT → List VT
  rset : List (List AV) → Int → List AV → List (List AV)
  iapp : List Int → List Int → List Int
  bapp : List ByteArray → List ByteArray → List ByteArray
  vapp : List VT → List VT → List VT
  rapp : List (List AV) → List (List AV) → List (List AV)
  icut : List Int → Int → Int → List Int
  bcut : List ByteArray → Int → Int → List ByteArray
  vcut : List VT → Int → Int → List VT
  rcut : List (List AV) → Int → Int → List (List AV)
  irep : Int → List Int
  brep : Int → List ByteArray
  vrep : Int → List VT
  vt : VT → Int
  vn : VT → List Int
  vs : VT → List ByteArray
  vl : VT → List VT
  rInt : List AV → Nat → Int
  rBool : List AV → Nat → Bool
  rStr : List AV → Nat → ByteArray
  rInts : List AV → Nat → List Int
  rStrs : List AV → Nat → List ByteArray
  rVs : List AV → Nat → List VT
  imax : Int → Int → Int
  imin : Int → Int → Int
  inb : Int → Int → DP
  sfit : ByteArray → ByteArray → DP
  cutb : Int → Int → Int → DP
  fit : Int → Int → Nat → DP
  mkfit : Int → Nat → DP
  shr : Int → Int → Int
  shok : IntKind → Int → DP
  isel : Bool → Int → Int → Int
  ssel : Bool → ByteArray → ByteArray → ByteArray
  shl : IntKind → Int → Int → Int
  quo : IntKind → Int → Int → Int
  rem : Int → Int → Int
  iand : IntKind → Int → Int → Int
  ior : IntKind → Int → Int → Int
  nz : Int → DP
  smem : ByteArray → List ByteArray → Bool
  sins : ByteArray → List ByteArray → List ByteArray
  ixor : IntKind → Int → Int → Int
  bts : List Int → ByteArray
  stb : ByteArray → List Int

/-- The kind of list that a slice type's elements make. -/
inductive LK where
  | i (k : IntKind) | s | v | r (sh : List CK)
inductive KD where
  | str | bool | func | iface | slice (e : TypeId) (k : LK) | struct | array (n : Nat) (e : TypeId) | ptr (e : TypeId) | map (k e : TypeId) (ag : Bool) (ks : List CK) | int (k : IntKind) | other
def KD.agg : KD → Bool
  | .struct => true | .array _ _ => true | _ => false
structure TyD where
  kd : KD
  size : Nat
  bytes : Nat
  zero : List AV
  fs : List (Nat × Nat × Bool)
  key : List CK
  cl : Bool
  ms : List (String × FuncId)
  fz : Bool

abbrev Tb := TypeId → Option TyD
abbrev Gd := Option (Nat × Bool)

inductive T (α : Type) where
  | leaf (a : α)
  | ite (b : Bool) (t e : T α)
  | both (p : Prop) (t : T α) (q : Prop) (e : T α)
  | req (p : DP) (t : T α)
  | stuck (why : String)
def T.bind {α β : Type} : T α → (α → T β) → T β
  | .leaf a, f => f a
  | .ite b t e, f => .ite b (t.bind f) (e.bind f)
  | .both p t q e, f => .both p (t.bind f) q (e.bind f)
  | .req p t, f => .req p (t.bind f)
  | .stuck y, _ => .stuck y
def T.sat {α : Type} : T α → (α → Prop) → Prop
  | .leaf a, Q => Q a
  | .ite b t e, Q => (b = true → t.sat Q) ∧ (b = false → e.sat Q)
  | .both p t q e, Q => (p → t.sat Q) ∧ (q → e.sat Q)
  | .req p t, Q => p.p ∧ t.sat Q
  | .stuck _, _ => False

structure Eff where
  v : AV
  hw : List (Nat × Option HObj)
  frz : List Nat
  new : List HObj

def mem (n : Nat) : List Nat → Bool
  | [] => false
  | m :: l => match Nat.beq n m with | true => true | false => mem n l
def lk {α : Type} : List (Nat × α) → Nat → Option α
  | [], _ => none
  | (j, v) :: l, i => match Nat.beq i j with | true => some v | false => lk l i

/-! ### lists -/
def LS.olen (o : O) : LS → Int
  | .i _ xs => o.ilen xs | .s xs => o.blen xs | .v xs => o.vlen xs | .r _ xs => o.rlen xs
def CK.oat (o : O) (r : List AV) (j : Nat) : CK → AV
  | .int k => .int k (o.rInt r j) | .bool => .bool (o.rBool r j) | .str => .str (o.rStr r j)
  | .ints k => .sl (.i k (o.rInts r j)) | .strs => .sl (.s (o.rStrs r j)) | .vs => .sl (.v (o.rVs r j)) | .any => rAny r j
def oshape (o : O) (r : List AV) : Nat → List CK → List AV
  | _, [] => []
  | j, ck :: sh => ck.oat o r j :: oshape o r (j + 1) sh
def ocells (o : O) (v : VT) : List AV := [.int .i64 (o.vt v), .sl (.i .i64 (o.vn v)), .sl (.s (o.vs v)), .sl (.v (o.vl v))]
/-- The cells of element i. -/
def LS.oget (o : O) (i : Int) : LS → List AV
  | .i k xs => [.int k (o.iget xs i)] | .s xs => [.str (o.bget xs i)] | .v xs => ocells o (o.vget xs i) | .r sh xs => oshape o (o.rget xs i) 0 sh
def LS.oapp (o : O) : LS → LS → Option LS
  | .i k xs, .i k' ys => (match decide (k' = k) with | true => some (.i k (o.iapp xs ys)) | false => none)
  | .s xs, .s ys => some (.s (o.bapp xs ys))
  | .v xs, .v ys => some (.v (o.vapp xs ys))
  | .r sh xs, .r sh' ys => (match decide (sh' = sh) with | true => some (.r sh (o.rapp xs ys)) | false => none)
  | _, _ => none
def LS.ocut (o : O) (a b : Int) : LS → LS
  | .i k xs => .i k (o.icut xs a b) | .s xs => .s (o.bcut xs a b) | .v xs => .v (o.vcut xs a b) | .r sh xs => .r sh (o.rcut xs a b)
/-- Numbers, texts, values out of a cell that may be a slice of the call's own; what is let go by that. -/
def cInts (hs : List (Nat × HObj)) (k : IntKind) : AV → Option (List Int)
  | .nils => some []
  | .sl (.i k' xs) => match decide (k' = k) with | true => some xs | false => none
  | .own id => match lk hs id with
    | some (.arr _ (.i k' xs)) => (match decide (k' = k) with | true => some xs | false => none)
    | _ => none
  | _ => none
def cStrs (hs : List (Nat × HObj)) : AV → Option (List ByteArray)
  | .nils => some []
  | .sl (.s xs) => some xs
  | .own id => match lk hs id with | some (.arr _ (.s xs)) => some xs | _ => none
  | _ => none
def cVs (hs : List (Nat × HObj)) : AV → Option (List VT)
  | .nils => some []
  | .sl (.v xs) => some xs
  | .own id => match lk hs id with | some (.arr _ (.v xs)) => some xs | _ => none
  | _ => none
def cRs (hs : List (Nat × HObj)) (sh : List CK) : AV → Option (List (List AV))
  | .nils => match sh with | [] => none | _ => some []
  | .sl (.r sh' xs) => match decide (sh' = sh) with | true => some xs | false => none
  | .own id => match lk hs id with
    | some (.arr _ (.r sh' xs)) => (match decide (sh' = sh) with | true => some xs | false => none)
    | _ => none
  | _ => none
/-- The objects that a value names. -/
def AV.ids1 : AV → List Nat
  | .own id => [id]
  | .ptr id _ => [id]
  | .ep id _ _ _ => [id]
  | .mp id => [id]
  | .vw id _ _ => [id]
  | .iface _ x => x.ids1
  | _ => []
def AV.ids : AV → List Nat
  | .agg l => l.flatMap AV.ids1
  | .fn _ l => l.flatMap AV.ids1
  | .tup l => l.flatMap AV.ids1
  | x => x.ids1
/-- The slices of the call's own among them. -/
def AV.owns1 : AV → List Nat
  | .own id => [id]
  | _ => []
def AV.owns : AV → List Nat
  | .agg l => l.flatMap AV.owns1
  | x => x.owns1
/-- A value as a tree. -/
def asV (hs : List (Nat × HObj)) : AV → Option VT
  | .agg [.int .i64 t, n, s, l] => match cInts hs .i64 n, cStrs hs s, cVs hs l with
    | some n, some s, some l => some (.mk t n s l)
    | _, _, _ => none
  | _ => none
def asCell (hs : List (Nat × HObj)) : CK → AV → Option AV
  | .int k', .int k n => match decide (k' = k) with | true => some (.int k n) | false => none
  | .bool, .bool b => some (.bool b)
  | .str, .str b => some (.str b)
  | .ints k, x => match cInts hs k x with | some l => some (.sl (.i k l)) | none => none
  | .strs, x => match cStrs hs x with | some l => some (.sl (.s l)) | none => none
  | .vs, x => match cVs hs x with | some l => some (.sl (.v l)) | none => none
  | .any, x => match x.one, x.owns1 with | true, [] => some x | _, _ => none
  | _, _ => none
def hasAny : List CK → Bool
  | [] => false
  | .any :: _ => true
  | _ :: l => hasAny l
def LS.plain : LS → Bool
  | .r sh _ => !hasAny sh | _ => true
def asRec (hs : List (Nat × HObj)) : List CK → List AV → Option (List AV)
  | [], [] => some []
  | ck :: sh, x :: xs => match asCell hs ck x, asRec hs sh xs with | some y, some ys => some (y :: ys) | _, _ => none
  | _, _ => none
/-- One element of a list. -/
def asEl (hs : List (Nat × HObj)) (c : LS) (x : AV) : Option LS :=
  match c, x with
  | .i k xs, .int k' n => (match decide (k' = k) with | true => some (.i k (xs ++ [n])) | false => none)
  | .s xs, .str n => some (.s (xs ++ [n]))
  | .v xs, x => (match asV hs x with | some n => some (.v (xs ++ [n])) | none => none)
  | .r sh xs, .agg cs => (match asRec hs sh cs with | some n => some (.r sh (xs ++ [n])) | none => none)
  | .r [ck] xs, x => (match asCell hs ck x with | some y => some (.r [ck] (xs ++ [[y]])) | none => none)
  | _, _ => none
/-- A list of elements as a list. -/
def asListFrom (hs : List (Nat × HObj)) (c : LS) : List AV → Option LS
  | [] => some c
  | x :: xs => match asEl hs c x with | some c' => asListFrom hs c' xs | none => none
def LK.nil : LK → LS
  | .i k => .i k [] | .s => .s [] | .v => .v [] | .r sh => .r sh []
def LK.good : LK → Bool
  | .r [] => false | _ => true
def asList (hs : List (Nat × HObj)) (k : LK) (xs : List AV) : Option LS :=
  match k.good with | true => asListFrom hs k.nil xs | false => none
def cLS (hs : List (Nat × HObj)) : LK → AV → Option LS
  | .i k, x => match cInts hs k x with | some l => some (.i k l) | none => none
  | .s, x => match cStrs hs x with | some l => some (.s l) | none => none
  | .v, x => match cVs hs x with | some l => some (.v l) | none => none
  | .r sh, x => match cRs hs sh x with | some l => some (.r sh l) | none => none
/-- The same; where a list of lists is not plain, a list of whatever has one cell. -/
def anyK : LK → LK
  | .r [.ints _] => .r [.any] | k => k
def cLA (hs : List (Nat × HObj)) (k : LK) (x : AV) : Option LS :=
  match cLS hs k x with | some c => some c | none => cLS hs (anyK k) x
def hasNils : List AV → Bool
  | [] => false | .nils :: _ => true | .own _ :: _ => true | _ :: l => hasNils l
/-- A literal of lists of the call's own: they stay its own. -/
def hasNil0 : List AV → Bool
  | [] => false | .nils :: _ => true | _ :: l => hasNil0 l
def ownLit (k : LK) (xs : List AV) : Bool :=
  match k with | .r [.ints .u8] => hasNils xs | .r [.ints _] => hasNil0 xs | _ => false
def LS.nilOf : LS → LS
  | .i k _ => .i k [] | .s _ => .s [] | .v _ => .v [] | .r sh _ => .r sh []
/-- Element i of a list replaced by a list's one element. -/
def LS.oset (o : O) (i : Int) : LS → LS → Option LS
  | .i k xs, .i k' [n] => (match decide (k' = k) with | true => some (.i k (o.iset xs i n)) | false => none)
  | .s xs, .s [n] => some (.s (o.bset xs i n))
  | .v xs, .v [n] => some (.v (o.vset xs i n))
  | .r sh xs, .r sh' [n] => (match decide (sh' = sh) with | true => some (.r sh (o.rset xs i n)) | false => none)
  | _, _ => none
def gone (ids : List Nat) : List (Nat × Option HObj) := ids.map fun i => (i, none)

def pure1 (x : AV) : T Eff := .leaf ⟨x, [], [], []⟩
def mkAgg (agg : Bool) (cs : List AV) : Option AV :=
  match agg with
  | true => some (.agg cs)
  | false => match cs with | [x] => some x | _ => none
def cellsOf : AV → List AV
  | .agg l => l
  | .tup _ => []
  | x => [x]
/-- Cells 'at' .. of a row replaced. -/
def putCells (l : List AV) (at_ : Nat) (xs : List AV) : List AV := l.take at_ ++ xs ++ l.drop (at_ + xs.length)
def setParts (fs : List (Nat × Nat × Bool)) : List AV → List (Nat × AV) → Option (List AV)
  | z, [] => some z
  | z, (i, x) :: r => match fs[i]? with
    | some (off, sz, _) => match Nat.beq (cellsOf x).length sz with | true => setParts fs (putCells z off (cellsOf x)) r | false => none
    | none => none

def cval1 : Value → Option AV
  | .int k n => some (.int k n) | .bool b => some (.bool b) | .string s => some (.str s)
  | .pointer none => some .nilp | .slice none 0 0 => some .nils | .nilFunc => some .nilf | .nilIface => some .nili | .map none => some .nilm | _ => none
def cvals : List Value → Option (List AV)
  | [] => some []
  | v :: l => match cval1 v, cvals l with | some x, some r => some (x :: r) | _, _ => none
def cval : Value → Option AV
  | .agg cs => match cvals cs.toList with | some l => some (.agg l) | none => none
  | v => cval1 v

/-! ### keys of maps -/
def keyCk : CK → AV → Bool
  | .int k, .int k' _ => decide (k = k') | .bool, .bool _ => true | .str, .str _ => true | _, _ => false
def keyCks : List CK → List AV → Bool
  | [], [] => true
  | c :: cs, x :: xs => keyCk c x && keyCks cs xs
  | _, _ => false
def keySh : Bool → List CK → AV → Bool
  | true, ks, .agg l => keyCks ks l
  | false, [c], x => keyCk c x
  | _, _, _ => false
def keyOk1 : AV → Bool
  | .int k n => (Lit.int k n).wf | .str s => Nat.ble s.size maxLen | _ => true
def keyOks : List AV → Bool
  | [] => true
  | x :: l => keyOk1 x && keyOks l
def keyOk : AV → Bool
  | .agg l => keyOks l | x => keyOk1 x
def bytesEq : List UInt8 → List UInt8 → Bool
  | [], [] => true
  | a :: l, b :: r => match Nat.beq a.toNat b.toNat with | true => bytesEq l r | false => false
  | _, _ => false
def keyEq1 : AV → AV → Bool
  | .int k a, .int k' b => decide (k = k') && decide (a = b) | .bool a, .bool b => a == b | .str a, .str b => bytesEq a.data.toList b.data.toList | _, _ => false
def keyEqs : List AV → List AV → Bool
  | [], [] => true
  | x :: l, y :: r => keyEq1 x y && keyEqs l r
  | _, _ => false
def keyEq : AV → AV → Bool
  | .agg l, .agg r => keyEqs l r | x, y => keyEq1 x y
def keysSh (ag : Bool) (ks : List CK) : List (AV × AV) → Bool
  | [] => true
  | (k, _) :: r => keySh ag ks k && keysSh ag ks r
def keysOk : List (AV × AV) → Bool
  | [] => true
  | (k, _) :: r => keyOk k && keysOk r
def findK (k : AV) : List (AV × AV) → Option AV
  | [] => none
  | (k', x) :: r => match keyEq k k' with | true => some x | false => findK k r
def setK (k x : AV) : List (AV × AV) → List (AV × AV)
  | [] => [(k, x)]
  | (k', y) :: r => match keyEq k k' with | true => (k, x) :: r | false => (k', y) :: setK k x r
def delK (k : AV) : List (AV × AV) → List (AV × AV)
  | [] => []
  | (k', y) :: r => match keyEq k k' with | true => r | false => (k', y) :: delK k r
/-- Where a key stands. -/
def idxK (k : AV) : List (AV × AV) → Nat → Option Nat
  | [], _ => none
  | (k', _) :: r, n => match keyEq k k' with | true => some n | false => idxK k r (n + 1)
def idxB (b : Int) : List Nat → Nat → Option Nat
  | [], _ => none
  | x :: r, n => match decide ((x : Int) = b) with | true => some n | false => idxB b r (n + 1)
def setB (bs : List Nat) (c : Nat) (k : AV) (ps : List (AV × AV)) : List Nat := match findK k ps with | some _ => bs | none => bs ++ [c]
def setC (c : Nat) (k : AV) (ps : List (AV × AV)) : Nat := match findK k ps with | some _ => c | none => c + 1
def delB (k : AV) (bs : List Nat) (ps : List (AV × AV)) : List Nat := match idxK k ps 0 with | some j => bs.eraseIdx j | none => bs
def LS.some1 : LS → Bool
  | .i _ (_ :: _) => true | .s (_ :: _) => true | .v (_ :: _) => true | .r _ (_ :: _) => true | _ => false
def pairT (ok : Bool) (x : AV) (b : Bool) : T Eff := match ok with | true => .leaf ⟨.tup [x, .bool b], [], [], []⟩ | false => .leaf ⟨x, [], [], []⟩

abbrev Orc := FuncId → Nat → List AV → List (Nat × HObj) → T Eff

def cmpInt (o : O) : BinOp → Int → Int → Option Bool
  | .lss, a, b => some (o.lt a b) | .gtr, a, b => some (o.lt b a) | .leq, a, b => some (o.le a b) | .geq, a, b => some (o.le b a)
  | .eql, a, b => some (o.eq a b) | .neq, a, b => some (o.not (o.eq a b)) | _, _, _ => none
def eqB (op : BinOp) (t f : T Eff) : T Eff :=
  match op with | .eql => t | .neq => f | _ => .stuck "bin: order"
def bin (o : O) (kd : Option TyD) (op : BinOp) (x y : AV) (hs : List (Nat × HObj)) : T Eff :=
  match x, y with
  | .int k a, .int k' b => match op with
    | .shr => .req (o.shok k b) (pure1 (.int k (o.shr a b)))
    | .shl => .req (o.shok k b) (pure1 (.int k (o.shl k a b)))
    | op => match decide (k = k') with
      | false => .stuck "bin: kinds"
      | true => match op with
        | .add => pure1 (.int k (o.add k a b)) | .sub => pure1 (.int k (o.sub k a b)) | .mul => pure1 (.int k (o.mul k a b))
        | .quo => .req (o.nz b) (pure1 (.int k (o.quo k a b))) | .rem => .req (o.nz b) (pure1 (.int k (o.rem a b)))
        | .and => pure1 (.int k (o.iand k a b)) | .or => pure1 (.int k (o.ior k a b)) | .xor => pure1 (.int k (o.ixor k a b))
        | op => match cmpInt o op a b with | some b => pure1 (.bool b) | none => .stuck "bin: int"
  | .str a, .str b => match op with
    | .eql => pure1 (.bool (o.seq a b)) | .neq => pure1 (.bool (o.not (o.seq a b))) | .lss => pure1 (.bool (o.slt a b)) | .gtr => pure1 (.bool (o.not (o.or (o.slt a b) (o.seq a b))))
    | .leq => pure1 (.bool (o.or (o.slt a b) (o.seq a b))) | .geq => pure1 (.bool (o.not (o.slt a b))) | .add => .req (o.sfit a b) (pure1 (.str (o.sadd a b)))
    | _ => .stuck "bin: str"
  | x, y => match kd, x, y with
    | some { kd := .bool, .. }, .bool a, .bool b => eqB op (pure1 (.bool (o.beq a b))) (pure1 (.bool (o.not (o.beq a b))))
    | some { kd := .ptr _, .. }, .nilp, .nilp => eqB op (pure1 (.bool true)) (pure1 (.bool false))
    | some { kd := .ptr e, .. }, .ptr i a, .ptr j b => (match Nat.beq i j with
      | true => (match Nat.beq a b with | true => eqB op (pure1 (.bool true)) (pure1 (.bool false)) | false => .stuck "bin: pointers")
      | false => (match lk hs i, lk hs j with | some (.cells _), some (.cells _) => eqB op (pure1 (.bool false)) (pure1 (.bool true)) | _, _ => .stuck "bin: pointers' objects"))
    | some { kd := .ptr _, .. }, .ptr _ _, .nilp => eqB op (pure1 (.bool false)) (pure1 (.bool true))
    | some { kd := .ptr _, .. }, .rp _, .nilp => eqB op (pure1 (.bool false)) (pure1 (.bool true))
    | some { kd := .slice _ _, .. }, .nils, .nils => eqB op (pure1 (.bool true)) (pure1 (.bool false))
    | some { kd := .slice _ _, cl := cl, fz := fz, .. }, .sl c, .nils => (match cl && c.some1 with
      | true => eqB op (pure1 (.bool false)) (pure1 (.bool true))
      | false => (match !cl && fz with
        | true => .req (DP.of (o.lt 0 (c.olen o) = true)) (eqB op (pure1 (.bool false)) (pure1 (.bool true)))
        | false => eqB op (.both (o.eq (c.olen o) 0 = true) (pure1 (.bool true)) True (pure1 (.bool false))) (.both (o.eq (c.olen o) 0 = true) (pure1 (.bool false)) True (pure1 (.bool true)))))
    | some { kd := .slice _ _, .. }, .own id, .nils => (match lk hs id with
      | some (.arr _ c) => (match c.some1 with
        | true => eqB op (pure1 (.bool false)) (pure1 (.bool true))
        | false => eqB op (.both True (pure1 (.bool true)) True (pure1 (.bool false))) (.both True (pure1 (.bool false)) True (pure1 (.bool true))))
      | _ => .stuck "bin: own")
    | some { kd := .struct, key := ks, .. }, .agg a, .agg b => (match ks with
      | [] => .stuck "bin: struct"
      | _ => match keySh true ks (.agg a) && keySh true ks (.agg b) with
        | true => .req (DP.of (keyOk (.agg a) = true ∧ keyOk (.agg b) = true)) (eqB op (pure1 (.bool (keyEq (.agg a) (.agg b)))) (pure1 (.bool (!keyEq (.agg a) (.agg b)))))
        | false => .stuck "bin: struct cells")
    | some { kd := .array _ _, key := ks, .. }, .agg a, .agg b => (match ks with
      | [] => .stuck "bin: array"
      | _ => match keySh true ks (.agg a) && keySh true ks (.agg b) with
        | true => .req (DP.of (keyOk (.agg a) = true ∧ keyOk (.agg b) = true)) (eqB op (pure1 (.bool (keyEq (.agg a) (.agg b)))) (pure1 (.bool (!keyEq (.agg a) (.agg b)))))
        | false => .stuck "bin: array's cells")
    | some { kd := .map _ _ _ _, .. }, .nilm, .nilm => eqB op (pure1 (.bool true)) (pure1 (.bool false))
    | some { kd := .map _ _ _ _, .. }, .mp _, .nilm => eqB op (pure1 (.bool false)) (pure1 (.bool true))
    | some { kd := .func, .. }, .fn _ _, .nilf => eqB op (pure1 (.bool false)) (pure1 (.bool true))
    | some { kd := .func, .. }, .nilf, .nilf => eqB op (pure1 (.bool true)) (pure1 (.bool false))
    | some { kd := .iface, .. }, .iface _ _, .nili => eqB op (pure1 (.bool false)) (pure1 (.bool true))
    | _, _, _ => .stuck "bin"

def lookM (name : String) : List (String × FuncId) → Option FuncId
  | [] => none
  | (n, f) :: r => match decide (n = name) with | true => some f | false => lookM name r
def cutBounds (xs : List AV) (lo hi : Bool) (n : Int) : Option (AV × Int × Int) :=
  match xs, lo, hi with
  | [x, .int _ l, .int _ h], true, true => some (x, l, h)
  | [x, .int _ l], true, false => some (x, l, n)
  | [x, .int _ h], false, true => some (x, 0, h)
  | _, _, _ => none
def isZero (k : IntKind) : List AV → Bool
  | [.int k' z] => decide (k' = k) && decide (z = 0)
  | _ => false
/-- Records that are values, whose parts may be slices of the call's own. -/
def vsh : List CK := [.int .i64, .any, .any, .any]
def zV : List AV := [.int .i64 0, .nils, .nils, .nils]
def isZV : List AV → Bool
  | [.int .i64 z, .nils, .nils, .nils] => decide (z = 0)
  | _ => false
def anyAt (sh : List CK) (j : Nat) : Bool := match sh[j]? with | some .any => true | _ => false
/-- Is it a map from texts to bools? -/
def strSet (tb : Tb) (et : TypeId) (ag : Bool) (ks : List CK) : Bool :=
  match ag, ks, tb et with
  | false, [.str], some d => (match mkAgg d.kd.agg d.zero with | some (.bool false) => true | _ => false)
  | _, _, _ => false
/-- One operation, its operands known, the objects that they name at hand; 'next': the first name that is free. -/
def evo (o : O) (tb : Tb) (orc : Orc) (nx : Nat) (op : Op) (xs : List AV) (hs : List (Nat × HObj)) : T Eff :=
  match op with
  | .move _ | .assign _ => match xs with | [x] => pure1 x | _ => .stuck "move"
  | .binOp b t _ oy _ => match xs with
    | [.nili, .nili] => (match oy, tb t with
      | .const _, some { kd := .iface, .. } => eqB b (pure1 (.bool true)) (pure1 (.bool false))
      | _, _ => .stuck "bin: nil interfaces")
    | [x, y] => bin o (tb t) b x y hs
    | _ => .stuck "bin: operands"
  | .unOp u _ _ => match u, xs with
    | .not, [.bool b] => pure1 (.bool (o.not b))
    | .neg, [.int k n] => pure1 (.int k (o.neg k n))
    | .xor, [.int k n] => pure1 (.int k (o.ixor k (match k.signed with | true => -1 | false => k.max) n))
    | _, _ => .stuck "un"
  | .alloc t => match tb t with | some d => .leaf ⟨.ptr nx 0, [], [], [.cells d.zero]⟩ | none => .stuck "alloc: type"
  | .box t _ => match xs, tb t with
    | [x], some d => match Nat.beq (cellsOf x).length d.size with | true => .leaf ⟨.ptr nx 0, [], [], [.cells (cellsOf x)]⟩ | false => .stuck "box: size"
    | _, _ => .stuck "box"
  | .fieldAddr s _ f => match xs, tb s with
    | [x], some { kd := .struct, fs := fs, .. } => match fs[f]? with
      | some (off, _, _) => match x with
        | .ptr id a => pure1 (.ptr id (a + off))
        | .ep id sz i a => pure1 (.ep id sz i (a + off))
        | .rp cs => match Nat.blt off cs.length with | true => pure1 (.rp (cs.drop off)) | false => .stuck "fieldAddr: rp"
        | _ => .stuck "fieldAddr: pointer"
      | none => .stuck "fieldAddr: field"
    | _, _ => .stuck "fieldAddr"
  | .nilCheck _ => match xs with
    | [.ptr id a] => pure1 (.ptr id a)
    | [.ep id sz i a] => pure1 (.ep id sz i a)
    | [.rp cs] => pure1 (.rp cs)
    | _ => .stuck "nilCheck"
  | .load t _ => match xs, tb t with
    | [x], some d =>
      let got (cs : List AV) : T Eff := match Nat.beq cs.length d.size, mkAgg d.kd.agg cs with | true, some v => pure1 v | _, _ => .stuck "load: cells"
      match x with
      | .ptr id a => match lk hs id with | some (.cells l) => got ((l.drop a).take d.size) | _ => .stuck "load: object"
      | .ep id sz i a => match lk hs id with
        | some (.arr _ c) => (match Nat.beq sz c.sz with | true => .req (o.inb i (c.olen o)) (got (((c.oget o i).drop a).take d.size)) | false => .stuck "load: ep")
        | _ => .stuck "load: array"
      | .rp cs => got (cs.take d.size)
      | _ => .stuck "load: pointer"
    | _, _ => .stuck "load"
  | .store t _ _ => match xs, tb t with
    | [.ptr id a, x], some d => match Nat.beq (cellsOf x).length d.size, lk hs id with
      | true, some (.cells l) => match Nat.ble (a + d.size) l.length with
        | true => .leaf ⟨.tup [], [(id, some (.cells (putCells l a (cellsOf x))))], [], []⟩
        | false => .stuck "store: range"
      | _, _ => .stuck "store: object"
    | [.ep id sz i 0, x], some d => match lk hs id with
      | some (.arr e c) => (match asEl hs c.nilOf x with
        | some c1 => (match c.oset o i c1, Nat.beq sz c.sz && Nat.beq d.size c.sz && !mem id x.owns with
          | some c', true => .req (o.inb i (c.olen o)) (.leaf ⟨.tup [], (id, some (.arr e c')) :: gone x.owns, x.owns, []⟩)
          | _, _ => .stuck "store: element")
        | none => (match c, x with
          | .r [.any] ys, .own id' => (match (LS.r [.any] ys).oset o i (.r [.any] [[.own id']]), Nat.beq sz 1 && Nat.beq d.size 1 with
            | some c', true => .req (o.inb i ((LS.r [.any] ys).olen o)) (.leaf ⟨.tup [], [(id, some (.arr e c'))], [], []⟩)
            | _, _ => .stuck "store: own element")
          | _, _ => .stuck "store: value"))
      | _ => .stuck "store: array"
    | [.ep id sz i (a + 1), x], some d => (match lk hs id with
      | some (.arr e (.r sh ys)) => (match Nat.beq sz sh.length && Nat.beq d.size 1 && anyAt sh (a + 1) && x.one with
        | true => .req (o.inb i (o.rlen ys)) (.leaf ⟨.tup [], [(id, some (.arr e (.r sh (o.rset ys i ((o.rget ys i).set (a + 1) x)))))], [], []⟩)
        | false => .stuck "store: part of an element")
      | _ => .stuck "store: parts")
    | _, _ => .stuck "store"
  | .build t ps => match tb t with
    | some d => (match d.kd with
      | .array n e => (match tb e with
        | some de => (match Nat.ble (n * de.size) d.size, setParts ((List.range n).map fun i => (i * de.size, de.size, de.kd.agg)) d.zero ((ps.toList.map (·.1)).zip xs) with | true, some l => pure1 (.agg l) | _, _ => .stuck "build: array")
        | none => .stuck "build: elements")
      | .struct => (match setParts d.fs d.zero ((ps.toList.map (·.1)).zip xs) with | some l => pure1 (.agg l) | none => .stuck "build: parts")
      | _ => .stuck "build: kind")
    | none => .stuck "build"
  | .buildSlice t n ps => match tb t with
    | some { kd := .slice e k, fz := fz, .. } => match ownLit k xs with
     | true => (match tb e, Nat.beq xs.length n && ((ps.toList.map (·.1)) == List.range n) && Nat.ble n 16777216 && xs.all AV.one with
      | some d, true => (match Nat.beq d.size 1 with
        | true => .leaf ⟨.own nx, [], [], [.arr e (.r [.any] (xs.map fun x => [x]))]⟩
        | false => .stuck "buildSlice: own sizes")
      | _, _ => .stuck "buildSlice: own parts")
     | false => match tb e, asList hs k xs with
      | some d, some c => (match Nat.beq xs.length n && ((ps.toList.map (·.1)) == List.range n) && Nat.beq d.size c.sz && Nat.ble (n * d.size) 16777216 with
        | true => (match fz && c.plain && c.some1 with
          | true => .leaf ⟨.sl c, gone (xs.flatMap AV.owns), xs.flatMap AV.owns, []⟩
          | false => .leaf ⟨.own nx, gone (xs.flatMap AV.owns), xs.flatMap AV.owns, [.arr e c]⟩)
        | false => .stuck "buildSlice: sizes")
      | _, _ => .stuck "buildSlice: parts"
    | _ => .stuck "buildSlice"
  | .field t _ f => match xs, tb t with
    | [.agg l], some { kd := .struct, fs := fs, .. } => match fs[f]? with
      | some (off, sz, ag) => (match Nat.ble (off + sz) l.length, mkAgg ag ((l.drop off).take sz) with | true, some v => pure1 v | _, _ => .stuck "field: cells")
      | none => .stuck "field: which"
    | _, _ => .stuck "field"
  | .extract _ i => match xs with
    | [.tup l] => match l[i]? with | some x => pure1 x | none => .stuck "extract: which"
    | _ => .stuck "extract"
  | .makeFunc (.func f) first cap => match Nat.beq first.size 0 with | true => pure1 (.fn f xs) | false => .stuck "makeFunc"
  | .indexAddr t _ _ => match tb t with
    | some { kd := .slice e k, .. } => match tb e, xs with
      | some d, [.sl c, .int _ i] => (match Nat.beq d.size c.sz with | true => .req (o.inb i (c.olen o)) (pure1 (.rp (c.oget o i))) | false => .stuck "indexAddr: size")
      | some d, [.own id, .int _ i] => (match lk hs id with
        | some (.arr _ c) => (match Nat.beq d.size c.sz with | true => .req (o.inb i (c.olen o)) (pure1 (.ep id c.sz i 0)) | false => .stuck "indexAddr: size")
        | _ => .stuck "indexAddr: array")
      | _, _ => .stuck "indexAddr: slice"
    | some { kd := .array n e, .. } => (match tb e, xs with
      | some d, [.ptr id a, .int _ i] => .req (o.inb i (n : Int)) (pure1 (.ptr id (a + i.toNat * d.size)))
      | _, _ => .stuck "indexAddr: array")
    | _ => .stuck "indexAddr"
  | .index t _ _ => match tb t, xs with
    | some { kd := .str, .. }, [.str s, .int _ i] => .req (o.inb i (o.slen s)) (pure1 (.int .u8 (o.sat_ s i)))
    | some { kd := .array n e, .. }, [.agg l, .int _ i] => (match tb e, l[i.toNat]? with
      | some d, some z => (match Nat.beq d.size 1 && !d.kd.agg with
        | true => .req (o.inb i (n : Int)) (pure1 z)
        | false => .stuck "index: cells")
      | _, _ => .stuck "index: array")
    | _, _ => .stuck "index"
  | .convert src dst _ => match tb src, tb dst, xs with
    | some _, some { kd := .int k, .. }, [.int _ n] => pure1 (.int k (o.conv k n))
    | some { kd := .slice e _, .. }, some { kd := .str, .. }, [x] => (match tb e, cInts hs .u8 x with
      | some { kd := .int .u8, .. }, some l => pure1 (.str (o.bts l))
      | _, _ => .stuck "convert: bytes")
    | _, _, _ => .stuck "convert"
  | .makeSlice t _ _ => match tb t, xs with
    | some { kd := .slice e (.i k), .. }, [.int _ n, .int _ c] => (match tb e with
      | some d => (match Nat.beq d.size 1 && isZero k d.zero with
        | true => .req (DP.of (n = c)) (.req (o.mkfit n d.bytes) (.leaf ⟨.own nx, [], [], [.arr e (.i k (o.irep n))]⟩))
        | false => .stuck "makeSlice: elements")
      | none => .stuck "makeSlice: type")
    | some { kd := .slice e .v, .. }, [.int _ n, .int _ c] => (match tb e with
      | some d => (match Nat.beq d.size 4 && isZV d.zero with
        | true => .req (DP.of (n = c)) (.req (o.mkfit n d.bytes) (.leaf ⟨.own nx, [], [], [.arr e (.r vsh (List.replicate n.toNat zV))]⟩))
        | false => .stuck "makeSlice: values")
      | none => .stuck "makeSlice: type of values")
    | _, _ => .stuck "makeSlice"
  | .makeMap t rs => match rs, tb t with
    | none, some { kd := .map _ et ag ks, .. } => (match strSet tb et ag ks with
      | true => .leaf ⟨.mp nx, [], [], [.sset []]⟩
      | false => .leaf ⟨.mp nx, [], [], [.map 0 [] []]⟩)
    | _, _ => .stuck "makeMap"
  | .lookup t _ _ ok => match tb t, xs with
    | some { kd := .map kt et ag ks, .. }, [.mp id, k] => match lk hs id, tb et with
      | some (.map _ _ ps), some d => (match keySh ag ks k && keysSh ag ks ps with
        | true => .req (DP.of (keyOk k = true ∧ keysOk ps = true)) (match findK k ps with
          | some x => pairT ok x true
          | none => match mkAgg d.kd.agg d.zero with | some z => pairT ok z false | none => .stuck "lookup: zero")
        | false => .stuck "lookup: keys")
      | some (.sset l), some d => (match strSet tb et ag ks, k, ok with
        | true, .str s, false => .req (DP.of (keyOk (.str s) = true ∧ keysOk (sps l) = true)) (pure1 (.bool (o.smem s l)))
        | _, _, _ => .stuck "lookup: set")
      | _, _ => .stuck "lookup: object"
    | some { kd := .map kt et ag ks, .. }, [.nilm, k] => match tb et with
      | some d => (match keySh ag ks k, mkAgg d.kd.agg d.zero with
        | true, some z => .req (DP.of (keyOk k = true)) (pairT ok z false)
        | _, _ => .stuck "lookup: nil")
      | none => .stuck "lookup: elements"
    | _, _ => .stuck "lookup"
  | .mapUpdate t _ _ _ => match tb t, xs with
    | some { kd := .map kt et ag ks, .. }, [.mp id, k, x] => match lk hs id with
      | some (.map c bs ps) => (match keySh ag ks k && keysSh ag ks ps with
        | true => .req (DP.of (keyOk k = true ∧ keysOk ps = true)) (.leaf ⟨.tup [], [(id, some (.map (setC c k ps) (setB bs c k ps) (setK k x ps)))], [], []⟩)
        | false => .stuck "mapUpdate: keys")
      | some (.sset l) => (match strSet tb et ag ks, k, x with
        | true, .str s, .bool true => .req (DP.of (keyOk (.str s) = true ∧ keysOk (sps l) = true)) (.leaf ⟨.tup [], [(id, some (.sset (o.sins s l)))], [], []⟩)
        | _, _, _ => .stuck "mapUpdate: set")
      | _ => .stuck "mapUpdate: object"
    | _, _ => .stuck "mapUpdate"
  | .mapEntry t _ _ => match tb t, xs with
    | some { kd := .map kt et ag ks, .. }, [.mp id, k] => match lk hs id, tb et with
      | some (.map c bs ps), some d => (match keySh ag ks k && keysSh ag ks ps with
        | true => (match findK k ps, idxK k ps 0 with
          | some x, some j => (match bs[j]? with
            | some b => .req (DP.of (keyOk k = true ∧ keysOk ps = true)) (.leaf ⟨.tup [x, .int .i64 (b : Int)], [(id, some (.map c bs (setK k x ps)))], [], []⟩)
            | none => .stuck "mapEntry: born")
          | none, _ => (match mkAgg d.kd.agg d.zero with
            | some z => .req (DP.of (keyOk k = true ∧ keysOk ps = true)) (.leaf ⟨.tup [z, .int .i64 (c : Int)], [(id, some (.map (c + 1) (bs ++ [c]) (setK k z ps)))], [], []⟩)
            | none => .stuck "mapEntry: zero")
          | _, _ => .stuck "mapEntry: which")
        | false => .stuck "mapEntry: keys")
      | _, _ => .stuck "mapEntry: object"
    | _, _ => .stuck "mapEntry"
  | .entryStore t _ _ _ => match xs with
    | [.mp id, .int _ n, x] => match lk hs id with
      | some (.map c bs ps) => (match idxB n bs 0 with
        | some j => (match ps[j]? with
          | some (k, _) => .leaf ⟨.tup [], [(id, some (.map c bs (ps.set j (k, x))))], [], []⟩
          | none => .stuck "entryStore: which")
        | none => .stuck "entryStore: born")
      | _ => .stuck "entryStore: object"
    | _ => .stuck "entryStore"
  | .slice t _ lo hi mx =>
    match mx with
    | some _ => .stuck "slice: max"
    | none =>
      let bds (n : Int) : Option (AV × Int × Int) := cutBounds xs lo.isSome hi.isSome n
      match tb t, xs with
      | some { kd := .slice e k, .. }, .sl c :: _ => (match tb e, bds (c.olen o) with
        | some d, some (_, l, h) => (match Nat.beq d.size c.sz with | true => .req (o.cutb l h (c.olen o)) (pure1 (.sl (c.ocut o l h))) | false => .stuck "slice: size")
        | _, _ => .stuck "slice: bounds")
      | some { kd := .slice e k, .. }, .own id :: _ => (match lk hs id with
        | some (.arr e' c) => (match tb e, bds (c.olen o) with
          | some d, some (_, l, h) => (match Nat.beq d.size c.sz with
            | true => (match c.plain with
              | true => .req (o.cutb l h (c.olen o)) (.leaf ⟨.sl (c.ocut o l h), [(id, none)], [id], []⟩)
              | false => (match lo, c.some1 with
                | none, true => .req (o.cutb l h (c.olen o)) (.leaf ⟨.own nx, [(id, none)], [], [.arr e' (c.ocut o l h)]⟩)
                | some _, true => (match hi with
                  | none => .req (o.cutb l h (c.olen o)) (pure1 (.vw id c.sz l.toNat))
                  | some _ => .stuck "slice: view")
                | _, false => .stuck "slice: empty"))
            | false => .stuck "slice: size")
          | _, _ => .stuck "slice: bounds")
        | _ => .stuck "slice: array")
      | some { kd := .str, .. }, .str s :: _ => (match bds (o.slen s) with
        | some (_, l, h) => .req (o.cutb l h (o.slen s)) (pure1 (.str (o.scut s l h)))
        | none => .stuck "slice: bounds")
      | _, _ => .stuck "slice"
  | .makeInterface t _ => match tb t, xs with
    | some { kd := .iface, .. }, _ => .stuck "makeInterface"
    | some _, [x] => pure1 (.iface t x)
    | _, _ => .stuck "makeInterface"
  | .call c => match c.callee with
    | .builtin .len => match c.argTypes.toList with
      | [t] => match tb t, xs with
        | some { kd := .slice _ _, .. }, [.sl c] => pure1 (.int .i64 (c.olen o))
        | some { kd := .slice _ _, .. }, [.nils] => pure1 (.int .i64 0)
        | some { kd := .slice _ _, .. }, [.own id] => (match lk hs id with | some (.arr _ c) => pure1 (.int .i64 (c.olen o)) | _ => .stuck "len: array")
        | some { kd := .str, .. }, [.str s] => pure1 (.int .i64 (o.slen s))
        | _, _ => .stuck "len"
      | _ => .stuck "len: types"
    | .builtin .append => match c.argTypes.toList with
      | [t, t'] => match Nat.beq t t', tb t with
        | true, some { kd := .slice e k, .. } => match tb e, xs with
          | some d, [a, b] => match cLA hs k b with
            | some ys => (match Nat.beq d.size ys.sz, a with
              | true, .nils => .req (o.fit 0 (ys.olen o) d.bytes) (.leaf ⟨.own nx, [], [], [.arr e ys]⟩)
              | true, .own id => (match lk hs id with
                | some (.arr e' zs) => (match Nat.beq e e' && !mem id b.owns1, zs.oapp o ys with
                  | true, some c => .req (o.fit (zs.olen o) (ys.olen o) d.bytes) (.leaf ⟨.own nx, [(id, none)], [], [.arr e c]⟩)
                  | _, _ => .stuck "append: kinds")
                | _ => .stuck "append: array")
              | _, _ => .stuck "append: first")
            | none => .stuck "append: second"
          | _, _ => .stuck "append: operands"
        | false, some { kd := .slice e (.i .u8), .. } => (match tb t', tb e, xs with
          | some { kd := .str, .. }, some d, [a, .str s] => (match Nat.beq d.size 1, a with
            | true, .nils => .req (o.fit 0 (o.slen s) d.bytes) (.leaf ⟨.own nx, [], [], [.arr e (.i .u8 (o.stb s))]⟩)
            | true, .own id => (match lk hs id with
              | some (.arr e' (.i .u8 zs)) => (match Nat.beq e e' with
                | true => .req (o.fit (o.ilen zs) (o.slen s) d.bytes) (.leaf ⟨.own nx, [(id, none)], [], [.arr e (.i .u8 (o.iapp zs (o.stb s)))]⟩)
                | false => .stuck "append: text's kind")
              | _ => .stuck "append: text's array")
            | _, _ => .stuck "append: text's first")
          | _, _, _ => .stuck "append: text")
        | _, _ => .stuck "append: type"
      | _ => .stuck "append: types"
    | .builtin .delete => match c.argTypes.toList with
      | t :: _ => (match tb t, xs with
        | some { kd := .map kt et ag ks, .. }, [.mp id, k] => (match lk hs id with
          | some (.map c bs ps) => (match keySh ag ks k && keysSh ag ks ps with
            | true => .req (DP.of (keyOk k = true ∧ keysOk ps = true)) (.leaf ⟨.tup [], [(id, some (.map c (delB k bs ps) (delK k ps)))], [], []⟩)
            | false => .stuck "delete: keys")
          | _ => .stuck "delete: object")
        | _, _ => .stuck "delete")
      | [] => .stuck "delete: types"
    | .builtin .clear => match c.argTypes.toList with
      | t :: _ => (match tb t, xs with
        | some { kd := .slice e _, .. }, [.vw id sz lo] => (match lk hs id, tb e, Nat.beq sz 1 with
          | some (.arr e' (.r [.any] ys)), some d, true => (match d.zero, d.kd.agg with
            | [.nilp], false => .leaf ⟨.tup [], [(id, some (.arr e' (.r [.any] (ys.take lo ++ List.replicate (ys.length - lo) [.nilp]))))], [], []⟩
            | _, _ => .stuck "clear: zero")
          | _, _, _ => .stuck "clear: object")
        | _, _ => .stuck "clear")
      | [] => .stuck "clear: types"
    | .builtin .max => match xs with | [.int k a, .int _ b] => pure1 (.int k (o.imax a b)) | _ => .stuck "max"
    | .builtin .min => match xs with | [.int k a, .int _ b] => pure1 (.int k (o.imin a b)) | _ => .stuck "min"
    | .value _ => match xs with
      | .fn f cap :: r => orc f nx (r ++ cap) hs
      | _ => .stuck "call: value"
    | .invoke _ name => match xs with
      | .iface t x :: r => (match tb t with
        | some d => (match lookM name d.ms with | some f => orc f nx (x :: r) hs | none => .stuck "invoke: method")
        | none => .stuck "invoke: type")
      | _ => .stuck "invoke"
    | _ => .stuck "call"
  | _ => .stuck "operation"

/-- The objects that an operation looks into. -/
def need (op : Op) (xs : List AV) : List Nat :=
  match op with
  | .store .. => (match xs with | .ptr id _ :: _ => [id] | _ => xs.flatMap AV.ids)
  | .load .. | .indexAddr .. | .slice .. | .lookup .. | .mapUpdate .. | .mapEntry .. | .entryStore .. => xs.flatMap AV.ids
  | .binOp .. => xs.flatMap AV.ids1
  | .convert .. => xs.flatMap AV.owns
  | .buildSlice .. => xs.flatMap AV.owns
  | .call c => match c.callee with
    | .value _ => xs.flatMap AV.ids
    | .invoke _ _ => xs.flatMap AV.ids
    | .builtin .delete => xs.flatMap AV.ids
    | .builtin .clear => xs.flatMap AV.ids
    | _ => xs.flatMap AV.owns
  | _ => []
def HObj.ids : HObj → List Nat
  | .cells l => l.flatMap AV.ids
  | .arr _ (.r sh xs) => (match hasAny sh with | true => xs.flatMap fun e => e.flatMap AV.ids1 | false => [])
  | .arr _ _ => []
  | .map _ _ ps => ps.flatMap fun p => p.2.ids
  | .sset _ => []
def find (h : List (Nat × HObj)) : List Nat → List (Nat × HObj)
  | [] => []
  | i :: r => match lk h i with | some x => (i, x) :: find h r | none => find h r
/-- All objects that lead on from some names. -/
def reach (h : List (Nat × HObj)) : Nat → List Nat → List (Nat × HObj) → List (Nat × HObj)
  | 0, _, acc => acc
  | _ + 1, [], acc => acc
  | f + 1, i :: r, acc => match lk acc i with
    | some _ => reach h f r acc
    | none => match lk h i with
      | some ob => reach h f (r ++ ob.ids) (acc ++ [(i, ob)])
      | none => reach h f r acc
def gather (h : List (Nat × HObj)) (op : Op) (ids : List Nat) : List (Nat × HObj) :=
  match op with
  | .call _ => reach h 400 ids []
  | _ => find h ids


/-- The new objects, by their names. -/
def named : Nat → List HObj → List (Nat × HObj)
  | _, [] => []
  | n, ob :: r => (n, ob) :: named (n + 1) r
def upd (h : List (Nat × HObj)) : List (Nat × Option HObj) → List (Nat × HObj)
  | [] => h
  | (i, some ob) :: r => upd ((i, ob) :: h.filter fun p => !Nat.beq p.1 i) r
  | (i, none) :: r => upd (h.filter fun p => !Nat.beq p.1 i) r

/-! ### the same, as far as can be seen -/
def eqL {α : Type} (f : α → α → Bool) : List α → List α → Bool
  | [], [] => true
  | x :: l, y :: r => match f x y with | true => eqL f l r | false => false
  | _, _ => false
def eqI (a b : Int) : Bool := decide (a = b)
def eqBy (a b : ByteArray) : Bool := bytesEq a.data.toList b.data.toList
def eqV : Nat → VT → VT → Bool
  | 0, _, _ => false
  | f + 1, .mk t n s l, .mk t' n' s' l' => eqI t t' && eqL eqI n n' && eqL eqBy s s' && eqL (eqV f) l l'
def eqS (g : AV → AV → Bool) : LS → LS → Bool
  | .i k xs, .i k' ys => decide (k = k') && eqL eqI xs ys
  | .s xs, .s ys => eqL eqBy xs ys
  | .v xs, .v ys => eqL (eqV 20) xs ys
  | .r sh xs, .r sh' ys => decide (sh = sh') && eqL (eqL g) xs ys
  | _, _ => false
def eqA : Nat → AV → AV → Bool
  | 0, _, _ => false
  | f + 1, x, y => match x, y with
    | .int k a, .int k' b => decide (k = k') && eqI a b
    | .bool a, .bool b => a == b
    | .str a, .str b => eqBy a b
    | .nilp, .nilp => true
    | .ptr i o, .ptr i' o' => Nat.beq i i' && Nat.beq o o'
    | .nils, .nils => true
    | .sl c, .sl d => eqS (eqA f) c d
    | .own i, .own i' => Nat.beq i i'
    | .fn g l, .fn g' l' => Nat.beq g g' && eqL (eqA f) l l'
    | .nilf, .nilf => true
    | .agg l, .agg l' => eqL (eqA f) l l'
    | .iface t z, .iface t' z' => Nat.beq t t' && eqA f z z'
    | .nili, .nili => true
    | .mp i, .mp i' => Nat.beq i i'
    | .nilm, .nilm => true
    | _, _ => false
def eqP (a b : AV × AV) : Bool := eqA 4 a.1 b.1 && eqA 4 a.2 b.2
def sameOb : HObj → HObj → Bool
  | .cells l, .cells l' => eqL (eqA 5) l l'
  | .arr e c, .arr e' c' => Nat.beq e e' && eqS (eqA 4) c c'
  | .map c bs ps, .map c' bs' ps' => Nat.beq c c' && eqL Nat.beq bs bs' && eqL eqP ps ps'
  | .sset l, .sset l' => eqL eqBy l l'
  | _, _ => false
def soft1 (heap : List (Nat × HObj)) : Nat × Option HObj → Bool
  | (i, some ob) => match lk heap i with | some ob' => sameOb ob ob' | none => false
  | (_, none) => false
/-- An effect that leaves all as it stands. -/
def softOk (heap : List (Nat × HObj)) (E : Eff) : Bool := E.frz.isEmpty && E.new.isEmpty && E.hw.all (soft1 heap)

theorem eqL_ok {α : Type} {f : α → α → Bool} (hf : ∀ x y, f x y = true → x = y) : ∀ {l r : List α}, eqL f l r = true → l = r
  | [], [], _ => rfl
  | [], _ :: _, h => by simp [eqL] at h
  | _ :: _, [], h => by simp [eqL] at h
  | x :: l, y :: r, h => by
    simp only [eqL] at h
    split at h
    · rename_i h1; rw [hf x y h1, eqL_ok hf h]
    · cases h
theorem eqI_ok {a b : Int} (h : eqI a b = true) : a = b := of_decide_eq_true h
theorem bytesEq_eq : ∀ {a b : List UInt8}, bytesEq a b = true → a = b
  | [], [], _ => rfl
  | [], _ :: _, h => by simp [bytesEq] at h
  | _ :: _, [], h => by simp [bytesEq] at h
  | a :: l, b :: r, h => by
    simp only [bytesEq] at h
    split at h
    · rename_i h1
      rw [UInt8.toNat_inj.1 (Nat.eq_of_beq_eq_true h1), bytesEq_eq h]
    · cases h
theorem eqBy_ok {a b : ByteArray} (h : eqBy a b = true) : a = b := by
  have := bytesEq_eq h
  cases a; cases b; simp at this; rw [this]
theorem eqV_ok : ∀ {f : Nat} {x y : VT}, eqV f x y = true → x = y
  | 0, _, _, h => by simp [eqV] at h
  | f + 1, .mk t n s l, .mk t' n' s' l', h => by
    simp only [eqV, Bool.and_eq_true] at h
    obtain ⟨⟨⟨h1, h2⟩, h3⟩, h4⟩ := h
    rw [eqI_ok h1, eqL_ok (fun _ _ h => eqI_ok h) h2, eqL_ok (fun _ _ h => eqBy_ok h) h3, eqL_ok (fun _ _ h => eqV_ok h) h4]
theorem eqS_ok {g : AV → AV → Bool} (hg : ∀ x y, g x y = true → x = y) {c d : LS} (h : eqS g c d = true) : c = d := by
  unfold eqS at h
  split at h
  · simp only [Bool.and_eq_true, decide_eq_true_eq] at h; rw [h.1, eqL_ok (fun _ _ h => eqI_ok h) h.2]
  · rw [eqL_ok (fun _ _ h => eqBy_ok h) h]
  · rw [eqL_ok (fun _ _ h => eqV_ok h) h]
  · simp only [Bool.and_eq_true, decide_eq_true_eq] at h; rw [h.1, eqL_ok (fun _ _ h => eqL_ok hg h) h.2]
  · cases h
theorem nbeq {a b : Nat} (h : Nat.beq a b = true) : a = b := Nat.eq_of_beq_eq_true h
theorem eqA_ok : ∀ {f : Nat} {x y : AV}, eqA f x y = true → x = y
  | 0, _, _, h => by simp [eqA] at h
  | f + 1, x, y, h => by
    unfold eqA at h
    split at h
    · simp only [Bool.and_eq_true, decide_eq_true_eq] at h; rw [h.1, eqI_ok h.2]
    · simp at h; rw [h]
    · rw [eqBy_ok h]
    · rfl
    · simp only [Bool.and_eq_true] at h; rw [nbeq h.1, nbeq h.2]
    · rfl
    · rw [eqS_ok (fun _ _ h => eqA_ok h) h]
    · rw [nbeq h]
    · simp only [Bool.and_eq_true] at h; rw [nbeq h.1, eqL_ok (fun _ _ h => eqA_ok h) h.2]
    · rfl
    · rw [eqL_ok (fun _ _ h => eqA_ok h) h]
    · simp only [Bool.and_eq_true] at h; rw [nbeq h.1, eqA_ok h.2]
    · rfl
    · rw [nbeq h]
    · rfl
    · cases h
theorem eqP_ok {a b : AV × AV} (h : eqP a b = true) : a = b := by
  simp only [eqP, Bool.and_eq_true] at h
  exact Prod.ext (eqA_ok h.1) (eqA_ok h.2)
theorem sameOb_ok {a b : HObj} (h : sameOb a b = true) : a = b := by
  unfold sameOb at h
  split at h
  · rw [eqL_ok (fun _ _ h => eqA_ok h) h]
  · simp only [Bool.and_eq_true] at h; rw [nbeq h.1, eqS_ok (fun _ _ h => eqA_ok h) h.2]
  · simp only [Bool.and_eq_true] at h; rw [nbeq h.1.1, eqL_ok (fun _ _ h => nbeq h) h.1.2, eqL_ok (fun _ _ h => eqP_ok h) h.2]
  · rw [eqL_ok (fun _ _ h => eqBy_ok h) h]
  · cases h
theorem softOk_ok {heap : List (Nat × HObj)} {E : Eff} (h : softOk heap E = true) : E.frz = [] ∧ E.new = [] ∧ ∀ p ∈ E.hw, p.2 = lk heap p.1 := by
  simp only [softOk, Bool.and_eq_true, List.isEmpty_iff, List.all_eq_true] at h
  refine ⟨h.1.1, h.1.2, fun p hp => ?_⟩
  have := h.2 p hp
  obtain ⟨i, o⟩ := p
  cases o with
  | none => simp [soft1] at this
  | some ob =>
    simp only [soft1] at this
    split at this
    · rename_i ob' hl; rw [sameOb_ok this]; exact hl.symm
    · cases this
end Go.Qv
/- The evaluator, second part: guards, regions, code. Definitions alone. -/
set_option linter.unusedVariables false
namespace Go.Qv

structure S where
  env : List (Nat × Gd × AV)
  gds : List Nat
  heap : List (Nat × HObj)
  next : Nat
  nt : Nat

abbrev Env := List (Nat × Gd × AV)
def gmem (n : Nat) (b : Bool) : List (Nat × Bool) → Bool
  | [] => false
  | (m, c) :: l => match Nat.beq n m && (b == c) with | true => true | false => gmem n b l
/-- What holds where a guard holds: it, the guard of the operation that made it, and so on. -/
def chain (env : Env) : Nat → Gd → List (Nat × Bool)
  | _, none => []
  | 0, some g => [g]
  | f + 1, some g => g :: (match lk env g.1 with | some (g', _) => chain env f g' | none => [])
def okGd (ch : List (Nat × Bool)) : Gd → Bool
  | none => true
  | some (d, b) => gmem d b ch
def val (env : Env) (ch : List (Nat × Bool)) : Operand → Option AV
  | .tmp t => match lk env t with
    | some (g, x) => (match okGd ch g with | true => some x | false => none)
    | none => none
  | .const v => cval v
  | .func f => some (.fn f [])
  | .global _ => none
def vals (env : Env) (ch : List (Nat × Bool)) : List Operand → Option (List AV)
  | [] => some []
  | x :: l => match val env ch x, vals env ch l with | some y, some ys => some (y :: ys) | _, _ => none
def pcs (env : Env) : Nat → Gd → Option (List (Bool × Bool))
  | _, none => some []
  | 0, some _ => none
  | f + 1, some (d, b) => match lk env d with
    | some (g, .bool x) => (match pcs env f g with | some l => some ((x, b) :: l) | none => none)
    | _ => none
def DP.when (x b : Bool) (q : DP) : DP := ⟨x = b → q.p, match decEq x b with
    | .isTrue h => (match q.d with | .isTrue hq => .isTrue (fun _ => hq) | .isFalse hn => .isFalse (fun f => hn (f h)))
    | .isFalse h => .isTrue (fun e => absurd e h)⟩
def imp : List (Bool × Bool) → DP → DP
  | [], p => p
  | (x, b) :: l, p => DP.when x b (imp l p)

def pickT (o : O) (m : Bool) (env : Env) (ch : List (Nat × Bool)) (c a b : Operand) : T Eff :=
  match c, val env ch c with
  | .tmp d, some (.bool x) => match m with
    | true => (match x with
      | true => (match val env ch a with | some y => pure1 y | none => .stuck "pick: first")
      | false => (match val env ch b with | some y => pure1 y | none => .stuck "pick: second"))
    | false => match a, val env (chain env 8 (some (d, true)) ++ ch) a, b, val env (chain env 8 (some (d, false)) ++ ch) b with
    | .const (.bool true), _, _, some (.bool y) => pure1 (.bool (o.or x y))
    | _, some (.bool y), .const (.bool false), _ => pure1 (.bool (o.and x y))
    | _, some (.bool y), _, some (.bool z) => pure1 (.bool (o.sel x y z))
    | _, _, _, _ => .stuck "pick: arms"
  | _, _ => .stuck "pick"
def rdOf (env : Env) (ch : List (Nat × Bool)) (op : Op) : List Nat :=
  (op.operands.toList.filterMap fun x => match x with | .tmp t => some t | _ => none) ++ ch.map (·.1) ++ (match op with | .pick (.tmp d) _ _ => (chain env 8 (some (d, true))).map (·.1) | _ => [])
def opT (o : O) (tb : Tb) (orc : Orc) (m : Bool) (st : S) (ch : List (Nat × Bool)) (op : Op) : T Eff :=
  match op with
  | .pick c a b => pickT o m st.env ch c a b
  | op => match vals st.env ch op.operands.toList with
    | some xs => evo o tb orc st.next op xs (gather st.heap op (need op xs))
    | none => .stuck "operand"

def T.lin {α : Type} : T α → Option (DP × α)
  | .leaf a => some (DP.of True, a)
  | .req p t => match t.lin with | some (q, a) => some (p.and q, a) | none => none
  | _ => none
def putEnv (env : Env) (g : Gd) (x : AV) : Option Nat → Env
  | some d => (d, g, x) :: env
  | none => env
def dstOk (st : S) : Option Nat → Bool
  | some d => Nat.blt d st.nt && !mem d st.gds
  | none => true
def addGd (l : List Nat) : Gd → List Nat
  | none => l
  | some (d, _) => match mem d l with | true => l | false => d :: l
def put (st : S) (dst : Option Nat) (g : Gd) (E : Eff) : S :=
  { env := putEnv st.env g E.v dst, gds := addGd st.gds g, heap := named st.next E.new ++ upd st.heap E.hw, next := st.next + 64, nt := st.nt }
/-- A guard by the temporary that it looks at. -/
def gdOf (ds : List (Option Nat)) : Option (Nat × Bool) → Option Gd
  | none => some none
  | some (j, b) => match ds[j]? with | some (some d) => some (some (d, b)) | _ => none
def eqO (a b : Option Nat) : Bool := match a, b with | some x, some y => Nat.beq x y | _, _ => false
def gdDst (dst : Option Nat) : Gd → Bool
  | none => false
  | some (d, _) => eqO dst (some d)
/-- Does a guard hold? In a closed state it's known. -/
def known (env : Env) : Nat → Nat × Bool → Option Bool
  | 0, _ => none
  | f + 1, (d, b) => match lk env d with
    | some (none, .bool x) => some (match x with | true => b | false => !b)
    | some (some g, _) => (match known env f g with | some false => some false | _ => none)
    | _ => none
def kn (m : Bool) (env : Env) : Gd → Option Bool
  | none => none
  | some g => match m with | true => known env 12 g | false => none
def noE : Eff := ⟨.nilp, [], [], []⟩
def stepT (o : O) (tb : Tb) (orc : Orc) (m : Bool) (ds : List (Option Nat)) (st : S) (x : Oper) : T S :=
  match dstOk st x.dst, gdOf ds x.guard with
  | true, some none => (opT o tb orc m st [] x.op).bind fun E => match Nat.ble E.new.length 64 with | true => .leaf (put st x.dst none E) | false => .stuck "new"
  | true, some (some g) => match kn m st.env (some g) with
    | some true => (opT o tb orc m st [] x.op).bind fun E => match Nat.ble E.new.length 64 with | true => .leaf (put st x.dst none E) | false => .stuck "new"
    | some false => (match gdDst x.dst (some g) with | false => .leaf (put st x.dst (some g) noE) | true => .stuck "guard")
    | none => match gdDst x.dst (some g), pcs st.env 12 (some g), (opT o tb orc m st (chain st.env 12 (some g)) x.op).lin with
      | false, some pc, some (q, E) => (.req (DP.of (softOk st.heap E = true)) (.req (imp pc q) (.leaf (put st x.dst (some g) E))))
      | _, _, _ => .stuck (match (opT o tb orc m st (chain st.env 12 (some g)) x.op) with | .stuck y => y | _ => x.pos)
  | _, _ => .stuck "dst"
def seqT (o : O) (tb : Tb) (orc : Orc) (m : Bool) (ds : List (Option Nat)) : List Oper → S → T S
  | [], st => .leaf st
  | x :: l, st => (stepT o tb orc m ds st x).bind (seqT o tb orc m ds l)
def isGd : Gd → Bool
  | none => false
  | some _ => true
def gts : Env → List Nat
  | [] => []
  | (d, g, _) :: l => match isGd g with | true => d :: gts l | false => gts l
/-- Behind a region: nothing is known under a guard any more. -/
def clr (st : S) : S :=
  match st.gds with
  | [] => st
  | _ => let z := gts st.env; { st with env := st.env.filter (fun p => !isGd p.2.1 && !mem p.1 z), gds := [] }

/-! ### a region that draws its order -/
structure Fp where
  rd : List Nat
  d : Option Nat
  hr : List Nat
  hw : List Nat
def meets (a b : List Nat) : Bool := a.any fun x => mem x b
def memO (a : Option Nat) (l : List Nat) : Bool := match a with | some x => mem x l | none => false
def conf (a b : Fp) : Bool := memO a.d b.rd || eqO a.d b.d || memO b.d a.rd || meets a.hw b.hr || meets a.hw b.hw || meets b.hw a.hr
/-- What leads to operation i: bits. -/
def ancOf (acc : List Nat) (x : Oper) : Nat :=
  x.after.toList.foldl (fun s e => match Region.binds .any e with | true => s ||| 2 ^ e.on ||| acc.getD e.on 0 | false => s) 0
def ancs : List Nat → List Oper → List Nat
  | acc, [] => acc
  | acc, x :: l => ancs (acc ++ [ancOf acc x]) l
def okPairs (j : Nat) (b : Fp) (an : Nat) : Nat → List Fp → Bool
  | _, [] => true
  | i, a :: l => (!conf a b || an.testBit i) && okPairs j b an (i + 1) l
def okAll : Nat → List Fp → List Fp → List Nat → Bool
  | _, _, [], _ => true
  | j, done, b :: l, an :: r => okPairs j b an 0 done && okAll (j + 1) (done ++ [b]) l r
  | _, _, _, [] => false
structure Rec where
  x : Oper
  g : Gd
  E : Eff
  st : S
  fp : Fp
def effOk (st : S) (g : Gd) (E : Eff) : Bool :=
  match g with | none => Nat.ble E.new.length 64 | some _ => softOk st.heap E
def hsOf (st : S) (ch : List (Nat × Bool)) (op : Op) : List Nat :=
  match vals st.env ch op.operands.toList with | some xs => (gather st.heap op (need op xs)).map (·.1) | none => []
def recT (o : O) (tb : Tb) (orc : Orc) (m : Bool) (ds : List (Option Nat)) (st : S) (x : Oper) : Option (DP × Rec × S) :=
  match dstOk st x.dst, gdOf ds x.guard with
  | true, some g => match kn m st.env g with
    | some true => (match (opT o tb orc m st [] x.op).lin with
      | some (q, E) => (match Nat.ble E.new.length 64 with
        | true => some (q, ⟨x, none, E, st, ⟨rdOf st.env (chain st.env 12 g) x.op, x.dst, hsOf st [] x.op, E.hw.map (·.1) ++ (named st.next E.new).map (·.1)⟩⟩, put st x.dst none E)
        | false => none)
      | none => none)
    | some false => (match gdDst x.dst g with
      | false => some (DP.of True, ⟨x, g, noE, st, ⟨rdOf st.env (chain st.env 12 g) x.op, x.dst, [], []⟩⟩, put st x.dst g noE)
      | true => none)
    | none =>
      match gdDst x.dst g, pcs st.env 12 g, (opT o tb orc m st (chain st.env 12 g) x.op).lin with
      | false, some pc, some (q, E) =>
        some ((DP.of (effOk st g E = true)).and (imp pc q), ⟨x, g, E, st, ⟨rdOf st.env (chain st.env 12 g) x.op, x.dst, hsOf st (chain st.env 12 g) x.op, E.hw.map (·.1) ++ (named st.next E.new).map (·.1)⟩⟩, put st x.dst g E)
      | _, _, _ => none
  | _, _ => none
def recs (o : O) (tb : Tb) (orc : Orc) (m : Bool) (ds : List (Option Nat)) : List Oper → S → Option (DP × List Rec × S)
  | [], st => some (DP.of True, [], st)
  | x :: l, st => match recT o tb orc m ds st x with
    | some (p, r, st') => (match recs o tb orc m ds l st' with | some (q, rs, st'') => some (p.and q, r :: rs, st'') | none => none)
    | none => none
def ordOk : Nat → List Oper → Bool
  | _, [] => true
  | j, x :: l => (x.after.toList.all fun e => !Region.binds .any e || Nat.blt e.on j) && ordOk (j + 1) l
def whyR (o : O) (tb : Tb) (orc : Orc) (m : Bool) (ds : List (Option Nat)) : List Oper → S → String
  | [], _ => "?"
  | x :: l, st => match recT o tb orc m ds st x with
    | some (_, _, st') => whyR o tb orc m ds l st'
    | none => match gdOf ds x.guard with
      | some g => (match (opT o tb orc m st (chain st.env 12 g) x.op) with | .stuck y => y | _ => x.pos)
      | none => x.pos
def drawT (o : O) (tb : Tb) (orc : Orc) (m : Bool) (ops : List Oper) (st : S) : T S :=
  match st.gds, recs o tb orc m (ops.map (·.dst)) ops st with
  | [], some (q, rs, st') => (match okAll 0 [] (rs.map (·.fp)) (ancs [] ops) && ordOk 0 ops with | true => .req q (.leaf st') | false => .stuck "draws: conflict")
  | [], none => .stuck (whyR o tb orc m (ops.map (·.dst)) ops st)
  | _, _ => .stuck "draws: guards"

/-! ### code -/
inductive It where
  | code (c : Code)
  | blk (id : Nat)
  | again (n : Nat)
  | rep (c : Code)
inductive Stop where
  | done (st : S)
  | ret (st : S)
  | exit (id : Nat) (st : S)
  | again (n : Nat) (st : S)
  | loop (b : Code) (r : List It) (st : S)
  | rfunc (f : Operand) (ps : Array Tmp) (asg b : Code) (r : List It) (st : S)
  | more (l : List It) (st : S)
def unwind (id : Nat) : List It → Option (List It)
  | [] => none
  | .blk i :: r => match Nat.beq id i with | true => some r | false => unwind id r
  | _ :: r => unwind id r
def run (o : O) (tb : Tb) (orc : Orc) (m : Bool) (bk : List Nat) : Nat → List It → S → T Stop
  | 0, _, _ => .stuck "fuel"
  | _ + 1, [], st => .leaf (.done st)
  | f + 1, .again n :: r, st => .leaf (.again n st)
  | f + 1, .rep b :: r, st => run o tb orc m bk f (.code b :: .rep b :: r) st
  | f + 1, .blk _ :: r, st => run o tb orc m bk f r st
  | f + 1, .code c :: r, st => match c with
    | .skip => run o tb orc m bk f r st
    | .region id ops d => match mem id bk, d with
      | true, d => .leaf (.more (.code (.region id ops d) :: r) st)
      | false, true => (drawT o tb orc m ops.toList st).bind fun st => run o tb orc m bk f r (clr st)
      | false, false => (seqT o tb orc m (ops.toList.map (·.dst)) ops.toList st).bind fun st => run o tb orc m bk f r (clr st)
    | .seq a b => run o tb orc m bk f (.code a :: .code b :: r) st
    | .cond c a b => match val st.env [] c with
      | some (.bool x) => (match m with
        | false => .ite x (run o tb orc m bk f (.code a :: r) st) (run o tb orc m bk f (.code b :: r) st)
        | true => match x with | true => run o tb orc m bk f (.code a :: r) st | false => run o tb orc m bk f (.code b :: r) st)
      | _ => .stuck "cond"
    | .block id a => run o tb orc m bk f (.code a :: .blk id :: r) st
    | .loop a => (match m with | false => .leaf (.loop a r st) | true => run o tb orc m bk f (.code a :: .rep a :: r) st)
    | .rangeFunc g ps asg b => .leaf (.rfunc g ps asg b r st)
    | .exit id => match unwind id r with | some r' => run o tb orc m bk f r' st | none => .leaf (.exit id st)
    | .ret => .leaf (.ret st)
    | _ => .stuck "code"
def bodyOf (f : Func) : Code := match f.body with | some c => c | none => .skip
end Go.Qv
/- One operation: what the evaluator says of it is what the machine does. -/
set_option linter.unusedVariables false
set_option linter.unusedSimpArgs false
namespace Go.Qv
open Go.RowKit

def O.real : O where
  add k a b := k.wrap (a + b)
  sub k a b := k.wrap (a - b)
  mul k a b := k.wrap (a * b)
  neg k a := k.wrap (0 - a)
  conv k a := k.wrap a
  lt a b := decide (a < b)
  le a b := decide (a ≤ b)
  eq a b := a == b
  not b := !b
  and a b := a && b
  or a b := a || b
  sel a b c := if a then b else c
  beq a b := a == b
  seq a b := a.toList == b.toList
  slt a b := Op.bytesLess a.toList b.toList
  sadd a b := a ++ b
  slen s := (s.size : Int)
  sat_ s i := match s[i.toNat]? with | some b => (b.toNat : Int) | none => 0
  scut s a b := s.extract a.toNat b.toNat
  ilen l := (l.length : Int)
  blen l := (l.length : Int)
  vlen l := (l.length : Int)
  rlen l := (l.length : Int)
  iget l i := l.getD i.toNat 0
  bget l i := l.getD i.toNat ⟨#[]⟩
  vget l i := l.getD i.toNat default
  rget l i := l.getD i.toNat []
  iset l i x := l.set i.toNat x
  bset l i x := l.set i.toNat x
  vset l i x := l.set i.toNat x
  rset l i x := l.set i.toNat x
  iapp a b := a ++ b
  bapp a b := a ++ b
  vapp a b := a ++ b
  rapp a b := a ++ b
  icut l a b := (l.drop a.toNat).take (b - a).toNat
  bcut l a b := (l.drop a.toNat).take (b - a).toNat
  vcut l a b := (l.drop a.toNat).take (b - a).toNat
  rcut l a b := (l.drop a.toNat).take (b - a).toNat
  irep n := List.replicate n.toNat 0
  brep n := List.replicate n.toNat ⟨#[]⟩
  vrep n := List.replicate n.toNat default
  vt v := v.t
  vn v := v.n
  vs v := v.s
  vl v := v.l
  rInt := Qv.rInt
  rBool := Qv.rBool
  rStr := Qv.rStr
  rInts := Qv.rInts
  rStrs := Qv.rStrs
  rVs := Qv.rVs
  imax a b := if b > a then b else a
  imin a b := if b < a then b else a
  inb i n := DP.of (0 ≤ i ∧ i < n)
  sfit a b := DP.of (((a.size + b.size : Nat) : Int) ≤ 9223372036854775807)
  cutb l h n := DP.of (0 ≤ l ∧ l ≤ h ∧ h ≤ n)
  fit n m b := DP.of ((n + m) * (b : Int) ≤ 140737488355328)
  mkfit n b := DP.of (0 ≤ n ∧ n * (b : Int) ≤ 140737488355328)
  shr a b := a.fdiv (2 ^ b.toNat)
  shok k b := DP.of (0 ≤ b ∧ b.toNat ≤ k.bits)
  isel b x y := if b then x else y
  ssel b x y := if b then x else y
  shl k a b := k.wrap (a * 2 ^ b.toNat)
  quo k a b := k.wrap (a.tdiv b)
  rem a b := a.tmod b
  iand k a b := k.wrap (BitVec.ofInt k.bits a &&& BitVec.ofInt k.bits b).toNat
  ior k a b := k.wrap (BitVec.ofInt k.bits a ||| BitVec.ofInt k.bits b).toNat
  nz b := DP.of (b ≠ 0)
  smem s l := (findK (.str s) (sps l)).isSome
  sins s l := match findK (.str s) (sps l) with | some _ => l | none => l ++ [s]
  ixor k a b := k.wrap (BitVec.ofInt k.bits a ^^^ BitVec.ofInt k.bits b).toNat
  bts l := l.foldl (fun r n => r.push (UInt8.ofNat n.toNat)) ByteArray.empty
  stb s := s.data.toList.map fun b => (b.toNat : Int)

/-- A zero value's cell. -/
def zok : Value → AV → Bool
  | .int k n, .int k' n' => decide (k = k') && decide (n = n')
  | .bool b, .bool b' => b == b'
  | .string s, .str s' => s.data.toList == s'.data.toList
  | .pointer none, .nilp => true
  | .slice none 0 0, .nils => true
  | .nilFunc, .nilf => true
  | .nilIface, .nili => true
  | .map none, .nilm => true
  | _, _ => false
theorem zok_vr {β F w v x} (h : zok v x = true) : VR β F w v x := by
  unfold zok at h
  split at h <;> simp at h
  · obtain ⟨rfl, rfl⟩ := h; exact .int _ _
  · subst h; exact .bool _
  · rename_i s s'
    have : s = s' := by cases s; cases s'; simp at h; simpa using h
    subst this; exact .str _
  · exact .nilp
  · exact .nils
  · exact .nilf
  · exact .nili
  · exact .nilm
theorem zok_one {v x} (h : zok v x = true) : x.one = true ∧ v.oneCell' = true := by
  unfold zok at h
  split at h <;> simp at h <;> exact ⟨rfl, rfl⟩

def TypeDesc.isAgg : TypeDesc → Bool
  | .struct _ => true | .array _ _ => true | _ => false
def zoks : List Value → List AV → Bool
  | [], [] => true
  | v :: vs, x :: xs => zok v x && zoks vs xs
  | _, _ => false
theorem zoks_len : ∀ {vs : List Value} {xs : List AV}, zoks vs xs = true → vs.length = xs.length
  | [], [], _ => rfl
  | _ :: vs, _ :: xs, h => by simp [zoks] at h; simp [zoks_len h.2]
  | [], _ :: _, h => by simp [zoks] at h
  | _ :: _, [], h => by simp [zoks] at h
theorem zoks_at : ∀ {vs : List Value} {xs : List AV}, zoks vs xs = true → ∀ (j : Nat) (v : Value) (x : AV), vs[j]? = some v → xs[j]? = some x → zok v x = true
  | [], [], _, j, v, x, hv, _ => by simp at hv
  | v0 :: vs, x0 :: xs, h, 0, v, x, hv, hx => by simp [zoks] at h; simp at hv hx; subst hv; subst hx; exact h.1
  | v0 :: vs, x0 :: xs, h, j + 1, v, x, hv, hx => by simp [zoks] at h; simp at hv hx; exact zoks_at h.2 j v x hv hx
  | [], _ :: _, h, _, _, _, _, _ => by simp [zoks] at h
  | _ :: _, [], h, _, _, _, _, _ => by simp [zoks] at h
/-- Is a row of the table as the program's own? -/
def kdOk (P : Program) (d : TyD) : TypeDesc → Bool
  | .string => match d.kd with | .str => true | _ => false
  | .slice e => match d.kd with | .slice e' _ => Nat.beq e e' | _ => false
  | .struct fs => (match d.kd with | .struct => true | _ => false) && Nat.beq d.fs.length fs.size && (d.fs.zipIdx.all fun (x, j) => match fs[j]? with
      | some f => match P.info? f.type, P.underlying f.type with
        | some i, some u => Nat.beq f.offset x.1 && Nat.beq i.size x.2.1 && (TypeDesc.isAgg u == x.2.2) && !Nat.beq i.size 0 && Nat.ble (x.1 + x.2.1) d.size
        | _, _ => false
      | none => false)
  | .array n e => match d.kd with | .array n' e' => Nat.beq n n' && Nat.beq e e' | _ => false
  | .pointer e => match d.kd with | .ptr e' => Nat.beq e e' && (match P.info? e with | some i => !Nat.beq i.size 0 | none => false) | _ => false
  | .bool => match d.kd with | .bool => true | _ => false
  | .func _ _ _ => match d.kd with | .func => true | _ => false
  | .interface _ => match d.kd with | .iface => true | _ => false
  | .map k e => match d.kd with | .map k' e' _ _ => Nat.beq k k' && Nat.beq e e' | _ => false
  | .int k => match d.kd with | .int k' => decide (k = k') | .other => true | _ => false
  | _ => match d.kd with | .other => true | _ => false
def zAgg : Value → Bool
  | .agg _ => true | _ => false
def tyOk (P : Program) (t : TypeId) (d : TyD) : Bool :=
  match P.info? t, P.underlying t with
  | some i, some u => Nat.beq i.size d.size && Nat.beq i.bytes d.bytes && !Nat.beq d.size 0 && !Nat.beq d.bytes 0 && kdOk P d u &&
      (match i.zero with | some z => (zoks z.cells.toList d.zero && (zAgg z == d.kd.agg)) && Nat.beq d.zero.length d.size | none => false)
  | _, _ => false
/-- What is known of a key's type. -/
def KeyedBy (P : Program) (kt : TypeId) (ag : Bool) (ks : List CK) : Prop :=
  Go.Maps.Keyed P kt ∧ ∀ (x : AV) (v : Value), keySh ag ks x = true → keyOk x → kval x = some v → ∃ l, keyOf P kt v = some l
def EqBy (P : Program) (t : TypeId) (ks : List CK) : Prop :=
  ∀ (w : World) (x y : AV) (v u : Value), keySh true ks x = true → keySh true ks y = true → keyOk x → keyOk y → kval x = some v → kval y = some u →
    (∀ op ox oy, (eqGuard op t ox oy v u).run P w = .ok () w) ∧ (Op.equal t v u).run P w = .ok (keyEq x y) w
def MethOk (P : Program) (t : TypeId) (name : String) (f : FuncId) : Prop := ∀ (v : Value) (w : World), (Go.method (P.types.size + Made.depth) t v name).run P w = .ok (f, v) w
def TbOk (P : Program) (tb : Tb) : Prop := (∀ t d, tb t = some d → tyOk P t d = true) ∧ (∀ t d kt et ag ks, tb t = some d → d.kd = .map kt et ag ks → KeyedBy P kt ag ks) ∧ (∀ t d, tb t = some d → d.key ≠ [] → EqBy P t d.key) ∧ ∀ t d, tb t = some d → ∀ p ∈ d.ms, MethOk P t p.1 p.2

section
variable {P : Program}
theorem tyOk_parts {t : TypeId} {d : TyD} (h : tyOk P t d = true) : ∃ i u z, P.info? t = some i ∧ P.underlying t = some u ∧ i.size = d.size ∧ i.bytes = d.bytes ∧ 0 < d.size ∧ 0 < d.bytes ∧ kdOk P d u = true ∧
    i.zero = some z ∧ zoks z.cells.toList d.zero = true ∧ d.zero.length = d.size := by
  unfold tyOk at h
  split at h
  · rename_i i u hi hu
    simp only [Bool.and_eq_true, Nat.beq_eq, Bool.not_eq_true'] at h
    have nz : ∀ n : Nat, n.beq 0 = false → 0 < n := fun n hn => by cases n with | zero => simp [Nat.beq] at hn | succ n => omega
    obtain ⟨⟨⟨⟨⟨h1, h2⟩, h3⟩, h4⟩, h5⟩, h6⟩ := h
    split at h6
    · rename_i z hz
      simp only [Bool.and_eq_true, Nat.beq_eq] at h6
      exact ⟨i, u, z, hi, hu, h1, h2, nz _ h3, nz _ h4, h5, hz, h6.1.1, h6.2⟩
    · simp at h6
  · simp at h
theorem tyOk_zero {t : TypeId} {d : TyD} (h : tyOk P t d = true) : ∃ i z, P.info? t = some i ∧ i.zero = some z ∧ zoks z.cells.toList d.zero = true ∧ zAgg z = d.kd.agg := by
  unfold tyOk at h
  split at h
  · rename_i i u hi hu
    simp only [Bool.and_eq_true] at h
    obtain ⟨_, h6⟩ := h
    split at h6
    · rename_i z hz
      simp only [Bool.and_eq_true, beq_iff_eq] at h6
      exact ⟨i, z, hi, hz, h6.1.1, h6.1.2⟩
    · simp at h6
  · simp at h
end
end Go.Qv
/- What an operation leaves behind; the operations one by one. -/
set_option linter.unusedVariables false
set_option linter.unusedSimpArgs false
namespace Go.Qv
open Go.RowKit

structure Post (hs : List (Nat × HObj)) (nx : Nat) (E : Eff) (β : Nat → Option Value) (F : Nat → Prop) (w : World) (v' : Value) (β' : Nat → Option Value) (F' : Nat → Prop) (w' : World) : Prop where
  vr : VR β' F' w' v' E.v
  βext : ∀ id x, β id = some x → β' id = some x
  βnew : ∀ id x, β' id = some x → β id = some x ∨ (nx ≤ id ∧ id < nx + E.new.length)
  Fext : ∀ b, F b → F' b
  Flt : ∀ b, F' b → b < w'.heap.size
  Fnew : ∀ b, F' b → F b ∨ w.heap.size ≤ b ∨ ∃ id ∈ E.frz, (id, none) ∈ E.hw ∧ ∃ x, β id = some x ∧ blkOf x = some b
  live : ∀ id ob, (id, some ob) ∈ E.hw → OR β' F' w' id ob
  news : ∀ j ob, E.new[j]? = some ob → OR β' F' w' (nx + j) ob
  newb : ∀ j x b, j < E.new.length → β' (nx + j) = some x → blkOf x = some b → ¬ F' b ∧ (w.heap.size ≤ b ∨ ∃ id, (id, none) ∈ E.hw ∧ ∃ y, β id = some y ∧ blkOf y = some b)
  newsep : ∀ j k x y b, j < E.new.length → k < E.new.length → j ≠ k → β' (nx + j) = some x → β' (nx + k) = some y → blkOf x = some b → blkOf y = some b → False
  known : ∀ p ∈ E.hw, ∃ ob, (p.1, ob) ∈ hs
  nd : ∀ id ob, (id, some ob) ∈ E.hw → (id, none) ∉ E.hw
  frame : ∀ b, b < w.heap.size → (∀ p ∈ E.hw, ∀ x, β p.1 = some x → blkOf x ≠ some b) → w'.heap[b]? = w.heap[b]?
  os : w'.os = w.os
  tape : w'.tape = w.tape
  output : w'.output = w.output
  size : w.heap.size ≤ w'.heap.size

structure Pre (hs : List (Nat × HObj)) (nx : Nat) (β : Nat → Option Value) (F : Nat → Prop) (w : World) : Prop where
  hn : ∀ id, nx ≤ id → id < nx + 64 → β id = none
  hF : ∀ b, F b → b < w.heap.size
  hh : ∀ p ∈ hs, OR β F w p.1 p.2 ∧ ∀ v b, β p.1 = some v → blkOf v = some b → ¬ F b
  hsep : ∀ p ∈ hs, ∀ q ∈ hs, p.1 ≠ q.1 → ∀ x y b, β p.1 = some x → β q.1 = some y → blkOf x = some b → blkOf y = some b → False

theorem lk_mem {α : Type} : ∀ {l : List (Nat × α)} {i : Nat} {x : α}, lk l i = some x → (i, x) ∈ l
  | [], i, x, h => by simp [lk] at h
  | (j, y) :: l, i, x, h => by
    unfold lk at h
    split at h
    · rename_i he
      have := Nat.eq_of_beq_eq_true he
      subst this
      injection h with h
      subst h
      exact List.mem_cons_self
    · exact List.mem_cons_of_mem _ (lk_mem h)

section
variable {P : Program} {hs : List (Nat × HObj)} {nx : Nat} {β : Nat → Option Value} {F : Nat → Prop} {w : World}
theorem Post.pure (hp : Pre hs nx β F w) {v : Value} {x : AV} (h : VR β F w v x) : Post hs nx ⟨x, [], [], []⟩ β F w v β F w where
  vr := h
  βext _ _ h := h
  βnew _ _ h := .inl h
  Fext _ h := h
  Flt := hp.hF
  Fnew _ h := .inl h
  live _ _ h := by simp at h
  news _ _ h := by simp at h
  newb _ _ _ h := by simp at h
  newsep _ _ _ _ _ h := by simp at h
  known _ h := by simp at h
  nd _ _ h := by simp at h
  frame _ _ _ := rfl
  os := rfl
  tape := rfl
  output := rfl
  size := Nat.le_refl _

def βset (β : Nat → Option Value) (n : Nat) (v : Value) : Nat → Option Value := fun id => if id = n then some v else β id
theorem βset_self (β : Nat → Option Value) (n : Nat) (v : Value) : βset β n v n = some v := by simp [βset]
theorem βset_ext (hn : ∀ id, nx ≤ id → id < nx + 64 → β id = none) (v : Value) : ∀ id x, β id = some x → βset β nx v id = some x := by
  intro id x h
  unfold βset
  split
  · rename_i e; subst e; rw [hn id (Nat.le_refl _) (by omega)] at h; cases h
  · exact h
theorem alloc_keeps (w : World) (ob : Obj) {b : Nat} (h : b < w.heap.size) : (w.alloc ob).heap[b]? = w.heap[b]? := Below.heap_alloc w ob b h
theorem addr_add (b o n : Nat) : (⟨b, o, none⟩ : Addr).add n = ⟨b, o + n, none⟩ := by
  unfold Addr.add; split <;> simp_all

/-- A new variable. -/
theorem Post.alloc (hp : Pre hs nx β F w) (cur : Array Value) (e : TypeId) (l : List AV) (hl : l.length ≤ cur.size)
    (h : ∀ (j : Nat) (x : AV), l[j]? = some x → x.one = true ∧ ∃ v, cur[j]? = some v ∧ VR β F w v x) :
    Post hs nx ⟨.ptr nx 0, [], [], [.cells l]⟩ β F w (.pointer (some ⟨w.heap.size, 0, none⟩)) (βset β nx (.pointer (some ⟨w.heap.size, 0, none⟩))) F (w.alloc (.cells cur e)) where
  vr := .ptr nx 0 w.heap.size 0 (βset_self _ _ _)
  βext := βset_ext hp.hn _
  βnew id x hx := by
    unfold βset at hx
    split at hx
    · rename_i e; subst e; exact .inr ⟨Nat.le_refl _, by simp⟩
    · exact .inl hx
  Fext _ h := h
  Flt b hb := by have := hp.hF b hb; simp; omega
  Fnew _ h := .inl h
  live _ _ h := by simp at h
  news j ob hj := by
    match j, hj with
    | 0, hj =>
      simp at hj
      subst hj
      refine ⟨w.heap.size, 0, cur, e, βset_self _ _ _, heap_alloc_new w _, by simpa using hl, fun j x hx => ?_⟩
      obtain ⟨h1, v, h2, h3⟩ := h j x hx
      exact ⟨h1, v, by simpa using h2, h3.mono (βset_ext hp.hn _) (fun _ h => h) (fun b hb => alloc_keeps w _ (hp.hF b hb))⟩
  newb j x b hj hx hb := by
    have : j = 0 := by simpa using hj
    subst this
    rw [Nat.add_zero, βset_self] at hx
    injection hx with hx
    subst hx
    simp [blkOf] at hb
    subst hb
    exact ⟨fun h => by have := hp.hF _ h; omega, .inl (Nat.le_refl _)⟩
  newsep j k x y b hj hk hne := by
    have : j = 0 := by simpa using hj
    have : k = 0 := by simpa using hk
    omega
  known _ h := by simp at h
  nd _ _ h := by simp at h
  frame b hb _ := alloc_keeps w _ hb
  os := rfl
  tape := rfl
  output := rfl
  size := by simp
end
end Go.Qv
