/- Values of the abstract state, and what it means that memory holds them: a value's relation, an object's relation; both live on while the blocks that they lean on stay as they are. No condition. -/
import Derived.Maps.AppendAt
import Derived.Orders
import Derived.Below
set_option linter.unusedVariables false
namespace Go.Qv
open Go.RowKit

/-- A value of the program's, as a tree. -/
inductive VT where
  | mk (t : Int) (n : List Int) (s : List ByteArray) (l : List VT)
def VT.t : VT → Int | .mk t _ _ _ => t
def VT.n : VT → List Int | .mk _ n _ _ => n
def VT.s : VT → List ByteArray | .mk _ _ s _ => s
def VT.l : VT → List VT | .mk _ _ _ l => l
theorem VT.eta (v : VT) : VT.mk v.t v.n v.s v.l = v := by cases v; rfl
instance : Inhabited VT := ⟨.mk 0 [] [] []⟩

/-- The kinds of the cells of a record. -/
inductive CK where
  | int (k : IntKind) | bool | str | ints (k : IntKind) | strs | vs | any
  deriving DecidableEq

mutual
inductive AV where
  | int (k : IntKind) (n : Int)
  | bool (b : Bool)
  | str (s : ByteArray)
  | nilp
  | ptr (id off : Nat)
  | ep (id sz : Nat) (i : Int) (off : Nat)
  | rp (cs : List AV)
  | nils
  | sl (c : LS)
  | own (id : Nat)
  | fn (f : FuncId) (cap : List AV)
  | nilf
  | raw (v : Value)
  | agg (l : List AV)
  | tup (l : List AV)
  | iface (t : TypeId) (x : AV)
  | nili
  | mp (id : Nat)
  | nilm
  | vw (id sz lo : Nat)
inductive LS where
  | i (k : IntKind) (xs : List Int)
  | s (xs : List ByteArray)
  | v (xs : List VT)
  | r (sh : List CK) (xs : List (List AV))
end
instance : Inhabited AV := ⟨.nilp⟩

def VT.cells (v : VT) : List AV := [.int .i64 v.t, .sl (.i .i64 v.n), .sl (.s v.s), .sl (.v v.l)]
def LS.len : LS → Nat
  | .i _ xs => xs.length | .s xs => xs.length | .v xs => xs.length | .r _ xs => xs.length
def LS.sz : LS → Nat
  | .i _ _ => 1 | .s _ => 1 | .v _ => 4 | .r sh _ => sh.length
def LS.elems : LS → List (List AV)
  | .i k xs => xs.map fun n => [.int k n]
  | .s xs => xs.map fun b => [.str b]
  | .v xs => xs.map VT.cells
  | .r _ xs => xs
/-- One cell. -/
def AV.one : AV → Bool
  | .agg _ => false | .tup _ => false | _ => true
def rInt (r : List AV) (j : Nat) : Int := match r[j]? with | some (.int _ n) => n | _ => 0
def rBool (r : List AV) (j : Nat) : Bool := match r[j]? with | some (.bool b) => b | _ => false
def rStr (r : List AV) (j : Nat) : ByteArray := match r[j]? with | some (.str b) => b | _ => ⟨#[]⟩
def rInts (r : List AV) (j : Nat) : List Int := match r[j]? with | some (.sl (.i _ l)) => l | _ => []
def rStrs (r : List AV) (j : Nat) : List ByteArray := match r[j]? with | some (.sl (.s l)) => l | _ => []
def rVs (r : List AV) (j : Nat) : List VT := match r[j]? with | some (.sl (.v l)) => l | _ => []
def rAny (r : List AV) (j : Nat) : AV := match r[j]? with | some x => (match x.one with | true => x | false => .nilp) | none => .nilp
theorem rAny_one (r : List AV) (j : Nat) : (rAny r j).one = true := by
  unfold rAny
  split
  · split
    · assumption
    · rfl
  · rfl
def CK.at (r : List AV) (j : Nat) : CK → AV
  | .int k => .int k (rInt r j) | .bool => .bool (rBool r j) | .str => .str (rStr r j)
  | .ints k => .sl (.i k (rInts r j)) | .strs => .sl (.s (rStrs r j)) | .vs => .sl (.v (rVs r j)) | .any => rAny r j
def shapeFrom (r : List AV) : Nat → List CK → List AV
  | _, [] => []
  | j, ck :: sh => ck.at r j :: shapeFrom r (j + 1) sh
theorem shapeFrom_length (r : List AV) : ∀ (sh : List CK) (j : Nat), (shapeFrom r j sh).length = sh.length
  | [], _ => rfl
  | _ :: sh, j => by simp [shapeFrom, shapeFrom_length r sh]
theorem shapeFrom_one (r : List AV) : ∀ (sh : List CK) (j : Nat), ∀ x ∈ shapeFrom r j sh, x.one = true
  | [], _, x, h => by simp [shapeFrom] at h
  | ck :: sh, j, x, h => by
    simp only [shapeFrom, List.mem_cons] at h
    rcases h with rfl | h
    · cases ck <;> first | rfl | exact rAny_one _ _
    · exact shapeFrom_one r sh _ x h
/-- Of a list of records: each is of the shape. -/
def LS.ok : LS → Prop
  | .r sh xs => 0 < sh.length ∧ ∀ e ∈ xs, e = shapeFrom e 0 sh
  | _ => True
theorem LS.elems_len (c : LS) : c.elems.length = c.len := by cases c <;> simp [LS.elems, LS.len]

theorem LS.el_len {c : LS} (h : c.ok) : ∀ e ∈ c.elems, e.length = c.sz := by
  intro e he
  cases c with
  | i k xs => simp only [LS.elems, List.mem_map] at he; obtain ⟨_, _, rfl⟩ := he; rfl
  | s xs => simp only [LS.elems, List.mem_map] at he; obtain ⟨_, _, rfl⟩ := he; rfl
  | v xs => simp only [LS.elems, List.mem_map] at he; obtain ⟨_, _, rfl⟩ := he; rfl
  | r sh xs => have := h.2 e he; rw [this, shapeFrom_length]; rfl
theorem LS.el_one {c : LS} (h : c.ok) : ∀ e ∈ c.elems, ∀ x ∈ e, x.one = true := by
  intro e he x hx
  cases c with
  | i k xs => simp only [LS.elems, List.mem_map] at he; obtain ⟨_, _, rfl⟩ := he; simp at hx; subst hx; rfl
  | s xs => simp only [LS.elems, List.mem_map] at he; obtain ⟨_, _, rfl⟩ := he; simp at hx; subst hx; rfl
  | v xs =>
    simp only [LS.elems, List.mem_map] at he
    obtain ⟨_, _, rfl⟩ := he
    simp [VT.cells] at hx
    rcases hx with rfl | rfl | rfl | rfl <;> rfl
  | r sh xs => rw [h.2 e he] at hx; exact shapeFrom_one _ _ _ x hx
theorem LS.sz_pos {c : LS} (h : c.ok) : 0 < c.sz := by
  cases c with
  | r sh xs => exact h.1
  | _ => simp [LS.sz]

inductive VR (β : Nat → Option Value) (F : Nat → Prop) (w : World) : Value → AV → Prop
  | int (k n) : VR β F w (.int k n) (.int k n)
  | bool (b) : VR β F w (.bool b) (.bool b)
  | str (s) : VR β F w (.string s) (.str s)
  | nilp : VR β F w (.pointer none) .nilp
  | ptr (id off b o : Nat) : β id = some (.pointer (some ⟨b, o, none⟩)) → VR β F w (.pointer (some ⟨b, o + off, none⟩)) (.ptr id off)
  | ep (id sz : Nat) (i : Int) (off b n c : Nat) : β id = some (.slice (some ⟨b, 0, none⟩) n c) → VR β F w (.pointer (some ⟨b, i.toNat * sz + off, none⟩)) (.ep id sz i off)
  | rp (cs : List AV) (b o : Nat) (cv : Nat → Value) : F b → (∀ j, j < cs.length → w.cell? ⟨b, o + j, none⟩ = some (cv j)) →
      (∀ (j : Nat) (x : AV), cs[j]? = some x → x.one = true) → (∀ (j : Nat) (x : AV), cs[j]? = some x → VR β F w (cv j) x) → VR β F w (.pointer (some ⟨b, o, none⟩)) (.rp cs)
  | nils : VR β F w (.slice none 0 0) .nils
  | sl0 (c : LS) (A : Option Addr) (cap : Nat) : c.len = 0 → c.ok → VR β F w (.slice A 0 cap) (.sl c)
  | sl (c : LS) (b o n cap : Nat) (cv : Nat → Nat → Value) : n = c.len → 0 < n → n ≤ cap → cap ≤ maxLen → F b → c.ok →
      (∀ i j, i < n → j < c.sz → w.cell? ⟨b, o + (i * c.sz + j), none⟩ = some (cv i j)) →
      (∀ (i : Nat) (e : List AV) (j : Nat) (x : AV), c.elems[i]? = some e → e[j]? = some x → VR β F w (cv i j) x) → VR β F w (.slice (some ⟨b, o, none⟩) n cap) (.sl c)
  | own (id : Nat) (v : Value) : β id = some v → (∃ A n c, v = .slice A n c) → VR β F w v (.own id)
  | fn (f : FuncId) (cs : Array Value) (l : List AV) : cs.size = l.length → (∀ (j : Nat) (v : Value) (x : AV), cs[j]? = some v → l[j]? = some x → VR β F w v x) → VR β F w (.func (.func f) #[] cs) (.fn f l)
  | nilf : VR β F w .nilFunc .nilf
  | raw (v : Value) : v.oneCell' = true → VR β F w v (.raw v)
  | agg (cs : Array Value) (l : List AV) : cs.size = l.length → (∀ x ∈ l, x.one = true) → (∀ (j : Nat) (v : Value) (x : AV), cs[j]? = some v → l[j]? = some x → VR β F w v x) → VR β F w (.agg cs) (.agg l)
  | tup (cs : Array Value) (l : List AV) : cs.size = l.length → (∀ (j : Nat) (v : Value) (x : AV), cs[j]? = some v → l[j]? = some x → VR β F w v x) → VR β F w (.tuple cs) (.tup l)
  | iface (t : TypeId) (v : Value) (x : AV) : VR β F w v x → VR β F w (.iface t v) (.iface t x)
  | nili : VR β F w .nilIface .nili
  | mp (id r : Nat) : β id = some (.map (some r)) → VR β F w (.map (some r)) (.mp id)
  | nilm : VR β F w (.map none) .nilm
  | vw (id sz lo b n c : Nat) : β id = some (.slice (some ⟨b, 0, none⟩) n c) → lo ≤ n → VR β F w (.slice (if c = lo then some ⟨b, 0, none⟩ else some ⟨b, lo * sz, none⟩) (n - lo) (c - lo)) (.vw id sz lo)

theorem VR.mono {β β' : Nat → Option Value} {F F' : Nat → Prop} {w w' : World} {v : Value} {x : AV} (h : VR β F w v x)
    (hβ : ∀ id u, β id = some u → β' id = some u) (hF : ∀ b, F b → F' b) (hw : ∀ b, F b → w'.heap[b]? = w.heap[b]?) : VR β' F' w' v x := by
  induction h with
  | int => exact .int _ _
  | bool => exact .bool _
  | str => exact .str _
  | nilp => exact .nilp
  | ptr id off b o h => exact .ptr _ _ _ _ (hβ _ _ h)
  | ep id sz i off b n c h => exact .ep _ _ _ _ _ _ _ (hβ _ _ h)
  | rp cs b o cv hf hc h1 _ ih => exact .rp _ _ _ cv (hF _ hf) (fun j hj => (World.cell?_of_block (w := w) (hw b hf)).trans (hc j hj)) h1 ih
  | nils => exact .nils
  | sl0 c A cap h hk => exact .sl0 _ _ _ h hk
  | sl c b o n cap cv h1 h2 h3 h4 hf h5 hc _ ih => exact .sl _ _ _ _ _ cv h1 h2 h3 h4 (hF _ hf) h5 (fun i j hi hj => (World.cell?_of_block (w := w) (hw b hf)).trans (hc i j hi hj)) ih
  | own id v h hs => exact .own _ _ (hβ _ _ h) hs
  | fn f cs l h _ ih => exact .fn _ _ _ h ih
  | nilf => exact .nilf
  | raw v h => exact .raw _ h
  | agg cs l h h2 _ ih => exact .agg _ _ h h2 ih
  | tup cs l h _ ih => exact .tup _ _ h ih
  | iface t v x _ ih => exact .iface _ _ _ ih
  | nili => exact .nili
  | mp id r h => exact .mp _ _ (hβ _ _ h)
  | nilm => exact .nilm
  | vw id sz lo b n c h1 h2 => exact .vw _ _ _ _ _ _ (hβ _ _ h1) h2

theorem VR.one {β F w v x} (h : VR β F w v x) (hx : x.one = true) : v.oneCell' = true := by
  cases h <;> first | rfl | (simp [AV.one] at hx; done) | skip
  · rename_i id h hs
    obtain ⟨A, n, c, rfl⟩ := hs
    rfl
  · assumption

/-- An object of the call's own. -/
inductive HObj where
  | cells (l : List AV)
  | arr (e : TypeId) (c : LS)
  | map (c : Nat) (bs : List Nat) (ps : List (AV × AV))
/-- A key's value. -/
def kval1 : AV → Option Value
  | .int k n => some (.int k n) | .bool b => some (.bool b) | .str s => some (.string s) | _ => none
def kvals : List AV → Option (List Value)
  | [] => some []
  | x :: l => match kval1 x, kvals l with | some v, some r => some (v :: r) | _, _ => none
def kval : AV → Option Value
  | .agg l => match kvals l with | some r => some (.agg r.toArray) | none => none
  | x => kval1 x
/-- The block of a value that leads to one. -/
def blkOf : Value → Option Nat
  | .pointer (some a) => some a.block
  | .slice (some a) _ _ => some a.block
  | .map (some r) => some r
  | _ => none
def OR (β : Nat → Option Value) (F : Nat → Prop) (w : World) (id : Nat) : HObj → Prop
  | .cells l => ∃ b o cur e, β id = some (.pointer (some ⟨b, o, none⟩)) ∧ w.heap[b]? = some (.cells cur e (0, 0)) ∧ o + l.length ≤ cur.size ∧
      ∀ j x, l[j]? = some x → x.one = true ∧ ∃ v, cur[o + j]? = some v ∧ VR β F w v x
  | .arr e c => ∃ v cvs, β id = some v ∧ w.ownsRow 0 e c.sz v c.len cvs ∧ c.ok ∧
      ∀ i el j x, c.elems[i]? = some el → el[j]? = some x → ∃ u, cvs[i * c.sz + j]? = some u ∧ VR β F w u x
  | .map c bs ps => ∃ r es, β id = some (.map (some r)) ∧ w.heap[r]? = some (.map es c) ∧ es.toList.map (·.born) = bs ∧ es.toList.Pairwise (fun a b => a.key ≠ b.key) ∧ es.size = ps.length ∧
      ∀ (j : Nat) (k x : AV), ps[j]? = some (k, x) → ∃ e, es[j]? = some e ∧ kval k = some e.key ∧ VR β F w e.val x

theorem ownsRow_block {w w' : World} {base : Nat} {e : TypeId} {size : Nat} {v : Value} {n : Nat} {xs : List Value} (h : w.ownsRow base e size v n xs)
    (hb : ∀ b, blkOf v = some b → w'.heap[b]? = w.heap[b]?) : w'.ownsRow base e size v n xs := by
  refine ⟨h.1, ?_⟩
  rcases h.2 with h2 | ⟨g, cap, cur, rfl, h1, h2, h3⟩
  · exact .inl h2
  · exact .inr ⟨g, cap, cur, rfl, h1, by rw [hb g rfl]; exact h2, h3⟩

theorem OR.mono {β β' : Nat → Option Value} {F F' : Nat → Prop} {w w' : World} {id : Nat} {ob : HObj} (h : OR β F w id ob)
    (hβ : ∀ id u, β id = some u → β' id = some u) (hF : ∀ b, F b → F' b) (hw : ∀ b, F b → w'.heap[b]? = w.heap[b]?)
    (hb : ∀ v b, β id = some v → blkOf v = some b → w'.heap[b]? = w.heap[b]?) : OR β' F' w' id ob := by
  cases ob with
  | cells l =>
    obtain ⟨b, o, cur, e, h1, h2, h3, h4⟩ := h
    refine ⟨b, o, cur, e, hβ _ _ h1, (hb _ b h1 rfl).trans h2, h3, fun j x hx => ?_⟩
    obtain ⟨h5, v, h6, h7⟩ := h4 j x hx
    exact ⟨h5, v, h6, h7.mono hβ hF hw⟩
  | arr e c =>
    obtain ⟨v, cvs, h1, h2, h3, h4⟩ := h
    refine ⟨v, cvs, hβ _ _ h1, ownsRow_block h2 (fun b hv => hb v b h1 hv), h3, fun i el j x he hx => ?_⟩
    obtain ⟨u, h6, h7⟩ := h4 i el j x he hx
    exact ⟨u, h6, h7.mono hβ hF hw⟩
  | map c bs ps =>
    obtain ⟨r, es, h1, h2, hbs, h0, h3, h4⟩ := h
    refine ⟨r, es, hβ _ _ h1, (hb _ r h1 rfl).trans h2, hbs, h0, h3, fun j k x hj => ?_⟩
    obtain ⟨e, h5, h6, h7⟩ := h4 j k x hj
    exact ⟨e, h5, h6, h7.mono hβ hF hw⟩

/-- Whatever leads to a block leads to one that is there. -/
theorem OR.lt {β F w id ob} (h : OR β F w id ob) {v b} (hv : β id = some v) (hb : blkOf v = some b) : b < w.heap.size := by
  cases ob with
  | cells l =>
    obtain ⟨b', o, cur, e, h1, h2, _⟩ := h
    rw [hv] at h1
    injection h1 with h1
    subst h1
    simp [blkOf] at hb
    subst hb
    exact (Array.getElem?_eq_some_iff.1 h2).1
  | arr e c =>
    obtain ⟨v', cvs, h1, h2, _⟩ := h
    rw [hv] at h1
    injection h1 with h1
    subst h1
    rcases h2.2 with ⟨rfl, _⟩ | ⟨g, cap, cur, rfl, _, hg, _⟩
    · simp [blkOf] at hb
    · simp [blkOf] at hb
      subst hb
      exact (Array.getElem?_eq_some_iff.1 hg).1
  | map c bs ps =>
    obtain ⟨r, es, h1, h2, _⟩ := h
    rw [hv] at h1
    injection h1 with h1
    subst h1
    simp [blkOf] at hb
    subst hb
    exact (Array.getElem?_eq_some_iff.1 h2).1
end Go.Qv
