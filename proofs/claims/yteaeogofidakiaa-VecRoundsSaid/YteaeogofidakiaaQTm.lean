/- Forms of states with holes: a state is matched against a form, what stands in the holes is handed back. No condition. -/
import Derived.Test.YteaeogofidakiaaQT
set_option linter.unusedVariables false
set_option linter.unusedSimpArgs false
namespace Go.Qv
open Go.RowKit

/-- What may stand in a hole. -/
inductive Lf where
  | int (n : Int) | bool (b : Bool) | str (s : ByteArray) | is (l : List Int) | ss (l : List ByteArray) | vs (l : List VT) | rs (l : List (List AV))
def Lf.gi : Lf → Int | .int n => n | _ => 0
def Lf.gb : Lf → Bool | .bool b => b | _ => false
def Lf.gs : Lf → ByteArray | .str s => s | _ => ⟨#[]⟩
def Lf.gis : Lf → List Int | .is l => l | _ => []
def Lf.gss : Lf → List ByteArray | .ss l => l | _ => []
def Lf.gvs : Lf → List VT | .vs l => l | _ => []
def Lf.grs : Lf → List (List AV) | .rs l => l | _ => []
def hdL : List Lf → Lf | x :: _ => x | [] => .int 0
def LK.ls : LK → Lf → LS
  | .i k, x => .i k x.gis | .s, x => .s x.gss | .v, x => .v x.gvs | .r sh, x => .r sh x.grs
/-- One cell's form. -/
inductive T1 where
  | int (k : IntKind) | bool | str | sl (k : LK) | fix (x : AV) | own (id : Nat) | ptr (id off : Nat) | mp (id : Nat) | ep (id sz off : Nat)
inductive TA where
  | one (x : T1) | agg (l : List T1) | tup (l : List T1) | rp (l : List T1) | fn (f : FuncId) (l : List T1) | iface (t : TypeId) (x : T1)
inductive TO where
  | cells (l : List T1) | arr (e : TypeId) (k : LK) | map (c : Nat) (bs : List Nat) (ps : List (AV × TA))
structure TS where
  env : List (Nat × TA)
  heap : List (Nat × TO)
  next : Nat
  nt : Nat

/-! ### a form filled -/
def T1.inst : T1 → List Lf → AV × List Lf
  | .int k, r => (.int k (hdL r).gi, r.tail)
  | .bool, r => (.bool (hdL r).gb, r.tail)
  | .str, r => (.str (hdL r).gs, r.tail)
  | .sl k, r => (.sl (k.ls (hdL r)), r.tail)
  | .fix x, r => (x, r)
  | .own id, r => (.own id, r)
  | .ptr id off, r => (.ptr id off, r)
  | .mp id, r => (.mp id, r)
  | .ep id sz off, r => (.ep id sz (hdL r).gi off, r.tail)
def instL : List T1 → List Lf → List AV × List Lf
  | [], r => ([], r)
  | x :: l, r => ((x.inst r).1 :: (instL l (x.inst r).2).1, (instL l (x.inst r).2).2)
def TA.inst : TA → List Lf → AV × List Lf
  | .one x, r => x.inst r
  | .agg l, r => (.agg (instL l r).1, (instL l r).2)
  | .tup l, r => (.tup (instL l r).1, (instL l r).2)
  | .rp l, r => (.rp (instL l r).1, (instL l r).2)
  | .fn f l, r => (.fn f (instL l r).1, (instL l r).2)
  | .iface t x, r => (.iface t (x.inst r).1, (x.inst r).2)
def instPs : List (AV × TA) → List Lf → List (AV × AV) × List Lf
  | [], r => ([], r)
  | (k, x) :: l, r => ((k, (x.inst r).1) :: (instPs l (x.inst r).2).1, (instPs l (x.inst r).2).2)
def TO.inst : TO → List Lf → HObj × List Lf
  | .cells l, r => (.cells (instL l r).1, (instL l r).2)
  | .arr e k, r => (.arr e (k.ls (hdL r)), r.tail)
  | .map c bs ps, r => (.map c bs (instPs ps r).1, (instPs ps r).2)
def instEnv : List (Nat × TA) → List Lf → Env × List Lf
  | [], r => ([], r)
  | (t, x) :: l, r => ((t, none, (x.inst r).1) :: (instEnv l (x.inst r).2).1, (instEnv l (x.inst r).2).2)
def instHeap : List (Nat × TO) → List Lf → List (Nat × HObj)
  | [], _ => []
  | (i, x) :: l, r => (i, (x.inst r).1) :: instHeap l (x.inst r).2
def TS.inst (s : TS) (r : List Lf) : S := ⟨(instEnv s.env r).1, [], instHeap s.heap (instEnv s.env r).2, s.next, s.nt⟩

/-! ### a state matched -/
def fixOk : AV → Bool
  | .int _ _ => true | .bool _ => true | .str _ => true | .nilp => true | .nils => true | .nilf => true | .nili => true | .nilm => true | .fn _ [] => true | _ => false
def mLS : LK → LS → Option Lf
  | .i k, .i k' xs => (match decide (k = k') with | true => some (.is xs) | false => none)
  | .s, .s xs => some (.ss xs)
  | .v, .v xs => some (.vs xs)
  | .r sh, .r sh' xs => (match decide (sh = sh'), hasAny sh with | true, false => some (.rs xs) | _, _ => none)
  | _, _ => none
def mLS0 : LK → Option Lf
  | .i _ => some (.is []) | .s => some (.ss []) | .v => some (.vs []) | .r (_ :: _) => some (.rs []) | .r [] => none
def m1 (σ : Rho) : T1 → AV → Option (List Lf × Rho)
  | .int k, .int k' n => (match decide (k = k') with | true => some ([.int n], σ) | false => none)
  | .bool, .bool b => some ([.bool b], σ)
  | .str, .str s => some ([.str s], σ)
  | .sl k, .sl c => (match mLS k c with | some x => some ([x], σ) | none => none)
  | .sl k, .nils => (match mLS0 k with | some x => some ([x], σ) | none => none)
  | .fix x, y => (match fixOk x && eqA 2 x y with | true => some ([], σ) | false => none)
  | .own id, .own id' => (match bindR σ id (some id') with | some σ' => some ([], σ') | none => none)
  | .own id, .nils => (match bindR σ id none with | some σ' => some ([], σ') | none => none)
  | .ptr id off, .ptr id' off' => (match Nat.beq off off', bindR σ id (some id') with | true, some σ' => some ([], σ') | _, _ => none)
  | .mp id, .mp id' => (match bindR σ id (some id') with | some σ' => some ([], σ') | none => none)
  | .ep id sz off, .ep id' sz' i off' => (match Nat.beq off off' && Nat.beq sz sz', bindR σ id (some id') with | true, some σ' => some ([.int i], σ') | _, _ => none)
  | _, _ => none
def mL (σ : Rho) : List T1 → List AV → Option (List Lf × Rho)
  | [], [] => some ([], σ)
  | x :: l, y :: m => match m1 σ x y with
    | some (a, σ1) => (match mL σ1 l m with | some (b, σ2) => some (a ++ b, σ2) | none => none)
    | none => none
  | _, _ => none
def mA (σ : Rho) : TA → AV → Option (List Lf × Rho)
  | .one x, y => m1 σ x y
  | .agg l, .agg m => mL σ l m
  | .tup l, .tup m => mL σ l m
  | .rp l, .rp m => mL σ l m
  | .fn f l, .fn g m => (match Nat.beq f g with | true => mL σ l m | false => none)
  | .iface t x, .iface t' y => (match Nat.beq t t' with | true => m1 σ x y | false => none)
  | _, _ => none
def mPs (σ : Rho) : List (AV × TA) → List (AV × AV) → Option (List Lf × Rho)
  | [], [] => some ([], σ)
  | (k, x) :: l, (k', y) :: m => match eqA 4 k k', mA σ x y with
    | true, some (a, σ1) => (match mPs σ1 l m with | some (b, σ2) => some (a ++ b, σ2) | none => none)
    | _, _ => none
  | _, _ => none
def mO (σ : Rho) : TO → HObj → Option (List Lf × Rho)
  | .cells l, .cells m => mL σ l m
  | .arr e k, .arr e' c => (match Nat.beq e e', mLS k c with | true, some x => some ([x], σ) | _, _ => none)
  | .map c bs ps, .map c' bs' ps' => (match Nat.beq c c' && eqL Nat.beq bs bs' with | true => mPs σ ps ps' | false => none)
  | _, _ => none
def mEnv (σ : Rho) (env : Env) : List (Nat × TA) → Option (List Lf × Rho)
  | [] => some ([], σ)
  | (t, x) :: l => match lk env t with
    | some (none, y) => (match mA σ x y with
      | some (a, σ1) => (match mEnv σ1 env l with | some (b, σ2) => some (a ++ b, σ2) | none => none)
      | none => none)
    | _ => none
def mHeap (σ : Rho) (heap : List (Nat × HObj)) : List (Nat × TO) → Option (List Lf × Rho)
  | [] => some ([], σ)
  | (i, x) :: l => match lk σ i with
    | some (some t) => (match lk heap t with
      | some ob => (match mO σ x ob with
        | some (a, σ1) => (match mHeap σ1 heap l with | some (b, σ2) => some (a ++ b, σ2) | none => none)
        | none => none)
      | none => none)
    | some none => (match x with
      | .arr _ k => (match mLS0 k, mHeap σ heap l with | some a, some (b, σ2) => some (a :: b, σ2) | _, _ => none)
      | _ => none)
    | none => none
def rhoT (n0 : Nat) : List (Nat × TO) → Rho
  | [] => []
  | (i, _) :: r => match Nat.blt i n0 with | true => (i, some i) :: rhoT n0 r | false => rhoT n0 r
def matchS (n0 : Nat) (s : TS) (st : S) : Option (List Lf) :=
  match Nat.beq s.nt st.nt, mEnv (rhoT n0 s.heap) st.env s.env with
  | true, some (a, σ) => (match mHeap σ st.heap s.heap with
    | some (b, σ') => (match keysLt s.next σ' && fixB n0 σ' && Nat.ble n0 s.next with | true => some (a ++ b) | false => none)
    | none => none)
  | _, _ => none

/-! ### what is matched is an instance -/
theorem fixOk_u1 {σ : Rho} {x : AV} (h : fixOk x = true) : ∃ p, u1 σ x x = some (σ, p) ∧ p := by
  unfold fixOk at h
  split at h <;> first | exact ⟨_, rfl, rfl⟩ | exact ⟨_, rfl, trivial⟩ | (refine ⟨True, ?_, trivial⟩; simp [u1]; done) | (refine ⟨_, by simp [u1]; rfl, ?_⟩; trivial) | cases h
theorem mLS_ok {k : LK} {c : LS} {x : Lf} (h : mLS k c = some x) : k.ls x = c ∧ ∃ p, uLS c c = some p ∧ p := by
  unfold mLS at h
  split at h
  · split at h
    · rename_i e; injection h with h; subst h
      have := of_decide_eq_true e; subst this
      exact ⟨rfl, True, by simp [uLS, LK.ls, Lf.gis], trivial⟩
    · cases h
  · injection h with h; subst h; exact ⟨rfl, _, rfl, rfl⟩
  · injection h with h; subst h; exact ⟨rfl, _, rfl, rfl⟩
  · split at h
    · rename_i e ha; injection h with h; subst h
      have := of_decide_eq_true e; subst this
      exact ⟨rfl, True, by simp [uLS, ha], trivial⟩
    · cases h
  · cases h
theorem mLS0_ok {k : LK} {x : Lf} (h : mLS0 k = some x) : (k.ls x).good = true ∧ (k.ls x).empty := by
  unfold mLS0 at h
  split at h <;> first | (injection h with h; subst h; exact ⟨rfl, rfl⟩) | cases h
theorem m1_ok {σ σ' : Rho} {t : T1} {x : AV} {a : List Lf} (h : m1 σ t x = some (a, σ')) (rest : List Lf) : (t.inst (a ++ rest)).2 = rest ∧ ∃ p, u1 σ (t.inst (a ++ rest)).1 x = some (σ', p) ∧ p := by
  unfold m1 at h
  split at h
  · split at h
    · rename_i e; injection h with h; injection h with h1 h2; subst h1; subst h2
      have := of_decide_eq_true e; subst this
      exact ⟨rfl, True, by simp [T1.inst, u1, hdL, Lf.gi], trivial⟩
    · cases h
  · injection h with h; injection h with h1 h2; subst h1; subst h2; exact ⟨rfl, _, rfl, rfl⟩
  · injection h with h; injection h with h1 h2; subst h1; subst h2; exact ⟨rfl, _, rfl, rfl⟩
  · split at h
    · rename_i y hy; injection h with h; injection h with h1 h2; subst h1; subst h2
      obtain ⟨e, p, e2, hp⟩ := mLS_ok hy
      refine ⟨rfl, p, ?_, hp⟩
      show u1 σ (.sl (LK.ls _ y)) _ = _
      rw [e]; simp [u1, e2]
    · cases h
  · split at h
    · rename_i y hy; injection h with h; injection h with h1 h2; subst h1; subst h2
      obtain ⟨e, hp⟩ := mLS0_ok hy
      refine ⟨rfl, _, ?_, hp⟩
      show u1 σ (.sl (LK.ls _ y)) .nils = _
      simp [u1, e]
    · cases h
  · split at h
    · rename_i e; injection h with h; injection h with h1 h2; subst h1; subst h2
      simp only [Bool.and_eq_true] at e
      have := eqA_ok e.2; subst this
      obtain ⟨p, e2, hp⟩ := fixOk_u1 (σ := σ) e.1
      exact ⟨rfl, p, e2, hp⟩
    · cases h
  · split at h
    · rename_i s hs; injection h with h; injection h with h1 h2; subst h1; subst h2
      exact ⟨rfl, True, by simp [T1.inst, u1, hs], trivial⟩
    · cases h
  · split at h
    · rename_i s hs; injection h with h; injection h with h1 h2; subst h1; subst h2
      exact ⟨rfl, True, by simp [T1.inst, u1, hs], trivial⟩
    · cases h
  · split at h
    · rename_i s e hs; injection h with h; injection h with h1 h2; subst h1; subst h2
      exact ⟨rfl, True, by simp [T1.inst, u1, hs, e], trivial⟩
    · cases h
  · split at h
    · rename_i s hs; injection h with h; injection h with h1 h2; subst h1; subst h2
      exact ⟨rfl, True, by simp [T1.inst, u1, hs], trivial⟩
    · cases h
  · split at h
    · rename_i s e hs; injection h with h; injection h with h1 h2; subst h1; subst h2
      exact ⟨rfl, True, by simp [T1.inst, u1, hs, e, hdL, Lf.gi], trivial⟩
    · cases h
  · cases h
theorem mL_ok : ∀ {σ σ' : Rho} {t : List T1} {x : List AV} {a : List Lf}, mL σ t x = some (a, σ') → ∀ rest, (instL t (a ++ rest)).2 = rest ∧ ∃ p, uL σ (instL t (a ++ rest)).1 x = some (σ', p) ∧ p
  | σ, σ', [], [], a, h, rest => by
    injection h with h; injection h with h1 h2; subst h1; subst h2; exact ⟨rfl, _, rfl, trivial⟩
  | σ, σ', t :: l, y :: m, a, h, rest => by
    unfold mL at h
    split at h
    · rename_i a1 σ1 h1
      split at h
      · rename_i b σ2 h2
        injection h with h; injection h with h3 h4; subst h3; subst h4
        rw [List.append_assoc]
        obtain ⟨e1, p, e2, hp⟩ := m1_ok h1 (b ++ rest)
        obtain ⟨e3, q, e4, hq⟩ := mL_ok h2 rest
        refine ⟨by simp only [instL]; rw [e1, e3], p ∧ q, ?_, hp, hq⟩
        simp only [instL, uL, e2, e1, e4]
      · cases h
    · cases h
  | σ, σ', [], _ :: _, a, h, rest => by simp [mL] at h
  | σ, σ', _ :: _, [], a, h, rest => by simp [mL] at h
theorem uA_of_u1 {σ : Rho} {x y : AV} {r : Rho × Prop} (h : u1 σ x y = some r) : uA σ x y = some r := by
  unfold uA
  split
  · simp [u1] at h
  · simp [u1] at h
  · simp [u1] at h
  · unfold u1 at h
    split at h <;> simp_all [uL]
  · simp [u1] at h
  · exact h
theorem mA_ok {σ σ' : Rho} {t : TA} {x : AV} {a : List Lf} (h : mA σ t x = some (a, σ')) (rest : List Lf) : (t.inst (a ++ rest)).2 = rest ∧ ∃ p, uA σ (t.inst (a ++ rest)).1 x = some (σ', p) ∧ p := by
  unfold mA at h
  split at h
  · obtain ⟨e, p, e1, hp⟩ := m1_ok h rest
    exact ⟨e, p, uA_of_u1 e1, hp⟩
  · obtain ⟨e, p, e1, hp⟩ := mL_ok h rest; exact ⟨e, p, e1, hp⟩
  · obtain ⟨e, p, e1, hp⟩ := mL_ok h rest; exact ⟨e, p, e1, hp⟩
  · obtain ⟨e, p, e1, hp⟩ := mL_ok h rest; exact ⟨e, p, e1, hp⟩
  · split at h
    · rename_i hb; obtain ⟨e, p, e1, hp⟩ := mL_ok h rest
      refine ⟨e, p, ?_, hp⟩
      simp only [TA.inst, uA, hb, e1]
    · cases h
  · split at h
    · rename_i hb; obtain ⟨e, p, e1, hp⟩ := m1_ok h rest
      refine ⟨e, p, ?_, hp⟩
      simp only [TA.inst, uA, hb, e1]
    · cases h
  · cases h
theorem mPs_ok : ∀ {σ σ' : Rho} {t : List (AV × TA)} {x : List (AV × AV)} {a : List Lf}, mPs σ t x = some (a, σ') → ∀ rest, (instPs t (a ++ rest)).2 = rest ∧ ∃ p, uPs σ (instPs t (a ++ rest)).1 x = some (σ', p) ∧ p
  | σ, σ', [], [], a, h, rest => by
    injection h with h; injection h with h1 h2; subst h1; subst h2; exact ⟨rfl, _, rfl, trivial⟩
  | σ, σ', (k, t) :: l, (k', y) :: m, a, h, rest => by
    unfold mPs at h
    split at h
    · rename_i a1 σ1 hk h1
      split at h
      · rename_i b σ2 h2
        injection h with h; injection h with h3 h4; subst h3; subst h4
        rw [List.append_assoc]
        have := eqA_ok hk; subst this
        obtain ⟨e1, p, e2, hp⟩ := mA_ok h1 (b ++ rest)
        obtain ⟨e3, q, e4, hq⟩ := mPs_ok h2 rest
        refine ⟨by simp only [instPs]; rw [e1, e3], k = k ∧ p ∧ q, ?_, rfl, hp, hq⟩
        simp only [instPs, uPs, e2, e1, e4]
      · cases h
    · cases h
  | σ, σ', [], _ :: _, a, h, rest => by simp [mPs] at h
  | σ, σ', _ :: _, [], a, h, rest => by simp [mPs] at h
theorem mO_ok {σ σ' : Rho} {t : TO} {x : HObj} {a : List Lf} (h : mO σ t x = some (a, σ')) (rest : List Lf) : (t.inst (a ++ rest)).2 = rest ∧ ∃ p, uOb σ (t.inst (a ++ rest)).1 x = some (σ', p) ∧ p := by
  unfold mO at h
  split at h
  · obtain ⟨e, p, e1, hp⟩ := mL_ok h rest; exact ⟨e, p, e1, hp⟩
  · split at h
    · rename_i y hb hy
      injection h with h; injection h with h1 h2; subst h1; subst h2
      obtain ⟨e, p, e2, hp⟩ := mLS_ok hy
      refine ⟨rfl, p, ?_, hp⟩
      show uOb σ (.arr _ (LK.ls _ y)) _ = _
      rw [e]; simp only [uOb, hb, e2]
    · cases h
  · split at h
    · rename_i hb
      simp only [Bool.and_eq_true] at hb
      have h1 := nbeq hb.1
      have h2 := eqL_ok (fun _ _ h => nbeq h) hb.2
      subst h1; subst h2
      obtain ⟨e, p, e1, hp⟩ := mPs_ok h rest
      rename_i c bs ps ps' _
      refine ⟨e, (c = c ∧ bs = bs) ∧ p, ?_, ⟨⟨rfl, rfl⟩, hp⟩⟩
      simp only [TO.inst, uOb, e1]
    · cases h
  · cases h
theorem mEnv_ok {env : Env} : ∀ {σ σ' : Rho} {t : List (Nat × TA)} {a : List Lf}, mEnv σ env t = some (a, σ') → ∀ rest, (instEnv t (a ++ rest)).2 = rest ∧ ∃ p, uEnv σ env (instEnv t (a ++ rest)).1 = some (σ', p) ∧ p
  | σ, σ', [], a, h, rest => by
    injection h with h; injection h with h1 h2; subst h1; subst h2; exact ⟨rfl, _, rfl, trivial⟩
  | σ, σ', (t, x) :: l, a, h, rest => by
    unfold mEnv at h
    split at h
    · rename_i y hl
      split at h
      · rename_i a1 σ1 h1
        split at h
        · rename_i b σ2 h2
          injection h with h; injection h with h3 h4; subst h3; subst h4
          rw [List.append_assoc]
          obtain ⟨e1, p, e2, hp⟩ := mA_ok h1 (b ++ rest)
          obtain ⟨e3, q, e4, hq⟩ := mEnv_ok h2 rest
          refine ⟨by simp only [instEnv]; rw [e1, e3], p ∧ q, ?_, hp, hq⟩
          simp only [instEnv, uEnv, hl, e2, e1, e4]
        · cases h
      · cases h
    · cases h
theorem mHeap_ok {heap : List (Nat × HObj)} : ∀ {σ σ' : Rho} {t : List (Nat × TO)} {a : List Lf}, mHeap σ heap t = some (a, σ') → ∃ p, uHeap σ heap (instHeap t a) = some (σ', p) ∧ p
  | σ, σ', [], a, h => by
    injection h with h; injection h with h1 h2; subst h1; subst h2; exact ⟨_, rfl, trivial⟩
  | σ, σ', (i, x) :: l, a, h => by
    unfold mHeap at h
    split at h
    · rename_i t ht
      split at h
      · rename_i ob hob
        split at h
        · rename_i a1 σ1 h1
          split at h
          · rename_i b σ2 h2
            injection h with h; injection h with h3 h4; subst h3; subst h4
            obtain ⟨e1, p, e2, hp⟩ := mO_ok h1 b
            obtain ⟨q, e4, hq⟩ := mHeap_ok h2
            refine ⟨p ∧ q, ?_, hp, hq⟩
            simp only [instHeap, uHeap, ht, hob, e2, e1, e4]
          · cases h
        · cases h
      · cases h
    · rename_i ht
      split at h
      · rename_i e k
        split at h
        · rename_i a1 b σ2 h1 h2
          injection h with h; injection h with h3 h4; subst h3; subst h4
          obtain ⟨e1, hp⟩ := mLS0_ok h1
          obtain ⟨q, e4, hq⟩ := mHeap_ok h2
          refine ⟨(k.ls a1).empty ∧ q, ?_, hp, hq⟩
          simp only [instHeap, TO.inst, hdL, List.tail_cons, uHeap, ht, e1, e4]
        · cases h
      · cases h
    · cases h
theorem rhoT_eq (n0 : Nat) : ∀ (t : List (Nat × TO)) (a : List Lf), rhoT n0 t = rho0 n0 (instHeap t a)
  | [], a => rfl
  | (i, x) :: l, a => by
    simp only [rhoT, instHeap, rho0]
    rw [rhoT_eq n0 l (x.inst a).2]
    cases Nat.blt i n0 <;> rfl
theorem matchS_sub {n0 : Nat} {s : TS} {st : S} {r : List Lf} (h : matchS n0 s st = some r) : (subN n0 (s.inst r) st).sat fun _ => True := by
  unfold matchS at h
  split at h
  · rename_i a σ hn he
    split at h
    · rename_i b σ' hh
      split at h
      · rename_i hk
        injection h with h
        subst h
        obtain ⟨e1, p, e2, hp⟩ := mEnv_ok he b
        obtain ⟨q, e4, hq⟩ := mHeap_ok hh
        unfold subN
        have e5 : (s.inst (a ++ b)).env = (instEnv s.env (a ++ b)).1 := rfl
        have e6 : (s.inst (a ++ b)).heap = instHeap s.heap b := by show instHeap s.heap (instEnv s.env (a ++ b)).2 = _; rw [e1]
        have e7 : (s.inst (a ++ b)).nt = s.nt := rfl
        have e8 : (s.inst (a ++ b)).gds = [] := rfl
        have e9 : (s.inst (a ++ b)).next = s.next := rfl
        rw [e5, e6, e7, e8, e9, ← rhoT_eq n0 s.heap b, e2, hn]
        simp only [e4, hk]
        exact ⟨⟨hp, hq⟩, trivial⟩
      · cases h
    · cases h
  · cases h
theorem matchS_ok {c : Ctx} (hB : ∀ id, c.n0 ≤ id → c.B0 id = none) {s : TS} {st : S} {r : List Lf} {β F a w} (h : RS c st β F a w) (hm : matchS c.n0 s st = some r) : ∃ β', RS c (s.inst r) β' F a w :=
  (subN_ok hB h (matchS_sub hm)).2
end Go.Qv
