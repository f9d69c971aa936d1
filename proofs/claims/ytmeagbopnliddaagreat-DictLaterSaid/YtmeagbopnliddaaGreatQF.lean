/- The operations, one by one: what the machine's run of each comes to. -/
import Derived.Test.YtmeagbopnliddaaGreatQAM
import Derived.Laws.Bits
import Derived.LaidEql
import Derived.WalkSpells
set_option linter.unusedVariables false
set_option linter.unusedSimpArgs false
namespace Go.Qv
open Go.RowKit
section
variable {P : Program} {tb : Tb} {hs : List (Nat × HObj)} {nx : Nat} {β : Nat → Option Value} {F : Nat → Prop} {w : World}

theorem wp_val {x : Oper} {a : Act} {w w' : World} {K : Act → World → Prop} {Q : Exit → Act → World → Prop} {v : Value}
    (h : (execOp a.eval x).run P w = .ok (.value v) w') (hk : K (a.put x.dst v) w') : x.wp P a w K Q := by
  unfold Oper.wp; rw [h]; exact hk

def KdIs (P : Program) (t : TypeId) : KD → Prop
  | .bool => P.underlying t = some .bool
  | .ptr e => P.underlying t = some (.pointer e)
  | .slice e _ => P.underlying t = some (.slice e)
  | .func => ∃ a b c, P.underlying t = some (.func a b c)
  | .iface => ∃ m, P.underlying t = some (.interface m)
  | .str => P.underlying t = some .string
  | .struct => ∃ fs, P.underlying t = some (.struct fs)
  | .array n e => P.underlying t = some (.array n e)
  | .map k e _ _ => P.underlying t = some (.map k e)
  | .int k => P.underlying t = some (.int k)
  | .other => ∃ u, P.underlying t = some u ∧ TypeDesc.isAgg u = false
theorem kdIs {t : TypeId} {d : TyD} (h : tyOk P t d = true) : KdIs P t d.kd := by
  obtain ⟨i, u, z, hi, hu, h1, h2, h3, h4, h5, h6, h7, h8⟩ := tyOk_parts h
  unfold kdOk at h5
  unfold KdIs
  rw [hu]
  cases u <;> simp only at h5 <;> (split at h5 <;> first | (simp at h5; done) | skip) <;> (rename_i hk; simp only [hk]) <;>
    first | rfl | exact ⟨_, rfl, rfl⟩ | exact ⟨_, _, _, rfl⟩ | exact ⟨_, rfl⟩ | (simp [Nat.beq_eq] at h5; simp [h5]; done) | skip
  all_goals first | (simp only [Bool.and_eq_true] at h5; have := nbeq h5.1; subst this; rfl) | (simp [Nat.beq_eq] at h5; obtain ⟨rfl, rfl⟩ := h5; rfl) | (simp [Nat.beq_eq] at h5; subst h5; rfl) | skip
theorem eqB_sat {op : BinOp} {t f : T Eff} {Q : Eff → Prop} (h : (eqB op t f).sat Q) : (op = .eql ∧ t.sat Q) ∨ (op = .neq ∧ f.sat Q) := by
  unfold eqB at h
  split at h
  · exact .inl ⟨rfl, h⟩
  · exact .inr ⟨rfl, h⟩
  · exact h.elim
theorem run_eqg (op : BinOp) (t : TypeId) (ox oy : Operand) (v u : Value) (hv : ∀ cs, v ≠ .agg cs) (hn : v ≠ .nilIface) (w : World) : (eqGuard op t ox oy v u).run P w = .ok () w := by
  unfold eqGuard
  cases op <;> simp <;> (split <;> first | simp_all | rfl)
/-- '==' and '!=' of two values that Op.equal compares. -/
theorem run_eq2 {op : BinOp} {t : TypeId} {ox oy : Operand} {v u : Value} {b : Bool} (hop : op = .eql ∨ op = .neq) (hv : ∀ cs, v ≠ .agg cs) (hn : v ≠ .nilIface)
    (hi : ∀ k n, v ≠ .int k n) (hs : ∀ s, v ≠ .string s) (hf : ∀ k n, v ≠ .float k n) (hc : ∀ k n m, v ≠ .complex k n m) (he : (Op.equal t v u).run P w = .ok b w) :
    ((do eqGuard op t ox oy v u; binOp op t v u) : Sem Value).run P w = .ok (.bool (if op = .eql then b else !b)) w := by
  simp only [Sem.run_bind, run_eqg op t ox oy v u hv hn w, Result.andThen_ok]
  rcases hop with rfl | rfl
  · unfold binOp
    split <;> first | simp_all | skip
    all_goals simp [Sem.run_bind, he]
  · unfold binOp
    split <;> first | simp_all | skip
    all_goals simp [Sem.run_bind, he]
theorem run_eq3 {op : BinOp} {t : TypeId} {ox oy : Operand} {v u : Value} {b : Bool} (hop : op = .eql ∨ op = .neq) (hg : (eqGuard op t ox oy v u).run P w = .ok () w)
    (hi : ∀ k n, v ≠ .int k n) (hs : ∀ s, v ≠ .string s) (hf : ∀ k n, v ≠ .float k n) (hc : ∀ k n m, v ≠ .complex k n m) (he : (Op.equal t v u).run P w = .ok b w) :
    ((do eqGuard op t ox oy v u; binOp op t v u) : Sem Value).run P w = .ok (.bool (if op = .eql then b else !b)) w := by
  simp only [Sem.run_bind, hg, Result.andThen_ok]
  rcases hop with rfl | rfl
  · unfold binOp
    split <;> first | simp_all | skip
    all_goals simp [Sem.run_bind, he]
  · unfold binOp
    split <;> first | simp_all | skip
    all_goals simp [Sem.run_bind, he]
theorem LS.some1_len {c : LS} (h : c.some1 = true) : 0 < c.len := by
  unfold LS.some1 at h
  split at h <;> first | (cases h; done) | (simp [LS.len])
theorem eqv_nilm {t k e : TypeId} (hk : P.underlying t = some (.map k e)) (r : Option Nat) : (Op.equal t (.map r) (.map none)).run P w = .ok r.isNone w := by
  unfold Op.equal Op.maxDepth Op.equalIn; cases r <;> simp [run_underlying hk]
theorem ptr_info {t e : TypeId} {d : TyD} (h : tyOk P t d = true) (hk : d.kd = .ptr e) : ∃ i, P.info? e = some i ∧ i.size ≠ 0 := by
  obtain ⟨i, u, z, hi, hu, h1, h2, h3, h4, h5, h6, h7, h8⟩ := tyOk_parts h
  unfold kdOk at h5
  rw [hk] at h5
  cases u <;> simp only at h5 <;> first | (cases h5; done) | skip
  all_goals first | (simp at h5; done) | skip
  rename_i e'
  simp only [Bool.and_eq_true] at h5
  have := nbeq h5.1
  subst this
  have h9 := h5.2
  split at h9
  · rename_i j hj
    refine ⟨j, hj, fun e0 => ?_⟩
    rw [e0] at h9
    simp [Nat.beq_refl] at h9
  · cases h9
theorem eqv_ptrs {t e : TypeId} (hk : P.underlying t = some (.pointer e)) {a b : Addr} {r : Bool} (h : (a = b ∧ r = true) ∨ (a.block ≠ b.block ∧ r = false ∧ ∃ ca ta cb tb', w.heap[a.block]? = some (.cells ca ta (0, 0)) ∧ w.heap[b.block]? = some (.cells cb tb' (0, 0)))) (hte : ∃ i, P.info? e = some i ∧ i.size ≠ 0) : (Op.equal t (.pointer (some a)) (.pointer (some b))).run P w = .ok r w := by
  obtain ⟨i, h1, h2⟩ := hte
  unfold Op.equal Op.maxDepth Op.equalIn
  rcases h with ⟨rfl, rfl⟩ | ⟨hne, rfl, ca, ta, cb, tb', ha, hb⟩
  · simp [run_underlying hk, sizeOf, typeInfo, h1, h2, run_sameAddr_same]
  · simp [run_underlying hk, sizeOf, typeInfo, h1, h2, run_sameAddr_other w (fun e => hne (by rw [e])) ha hb]
theorem agg_val {v : Value} {l : List AV} {ks : List CK} (h : VR β F w v (.agg l)) (hs : keyCks ks l = true) : kval (.agg l) = some v := by
  cases h with
  | agg cs l hl h1 h2 =>
    have : ∀ (ks : List CK) (l : List AV) (vs : List Value), keyCks ks l = true → vs.length = l.length → (∀ (j : Nat) (v : Value) (x : AV), vs[j]? = some v → l[j]? = some x → VR β F w v x) → kvals l = some vs := by
      intro ks
      induction ks with
      | nil => intro l vs h hl _; cases l with
        | nil => cases vs with | nil => rfl | cons => simp at hl
        | cons => simp [keyCks] at h
      | cons c cs ih => intro l vs h hl hv; cases l with
        | nil => simp [keyCks] at h
        | cons x xs => cases vs with
          | nil => simp at hl
          | cons v vs =>
            simp only [keyCks, Bool.and_eq_true] at h
            have h0 := hv 0 v x rfl rfl
            have h1 : kval1 x = some v := by
              have hc := h.1
              unfold keyCk at hc
              split at hc <;> first | (cases hc; done) | (cases h0; rfl)
            simp only [kvals, h1, ih xs vs h.2 (by simpa using hl) (fun j v x a b => hv (j + 1) v x a b)]
    have := this ks l cs.toList hs (by simpa using hl) (fun j v x a b => h2 j v x (by simpa using a) b)
    simp [kval, this]
theorem eqv_bool {t : TypeId} (hk : P.underlying t = some .bool) (a b : Bool) : (Op.equal t (.bool a) (.bool b)).run P w = .ok (a == b) w := by
  unfold Op.equal Op.maxDepth Op.equalIn; simp [run_underlying hk]
theorem eqv_ptr {t e : TypeId} (hk : P.underlying t = some (.pointer e)) (a : Option Addr) : (Op.equal t (.pointer a) (.pointer none)).run P w = .ok a.isNone w := by
  unfold Op.equal Op.maxDepth Op.equalIn; cases a <;> simp [run_underlying hk]
theorem eqv_slice {t e : TypeId} (hk : P.underlying t = some (.slice e)) (a : Option Addr) (n c : Nat) : (Op.equal t (.slice a n c) (.slice none 0 0)).run P w = .ok a.isNone w := by
  unfold Op.equal Op.maxDepth Op.equalIn; cases a <;> simp [run_underlying hk]
theorem eqv_func {t : TypeId} {x y : Array TypeId} {z : Bool} (hk : P.underlying t = some (.func x y z)) (f : Fn) (a b : Array Value) : (Op.equal t (.func f a b) .nilFunc).run P w = .ok false w := by
  unfold Op.equal Op.maxDepth Op.equalIn; simp [run_underlying hk]
theorem eqv_nilf {t : TypeId} {x y : Array TypeId} {z : Bool} (hk : P.underlying t = some (.func x y z)) : (Op.equal t .nilFunc .nilFunc).run P w = .ok true w := by
  unfold Op.equal Op.maxDepth Op.equalIn; simp [run_underlying hk]
theorem eqv_iface {t u : TypeId} {m : Array (String × TypeId)} (hk : P.underlying t = some (.interface m)) (v : Value) : (Op.equal t (.iface u v) .nilIface).run P w = .ok false w := by
  unfold Op.equal Op.maxDepth Op.equalIn; simp [run_underlying hk]
theorem bin_ok {op : BinOp} {t : TypeId} {ox oy : Operand} {x y : AV} {v u : Value} {Q : Eff → Prop} (htb : TbOk P tb) (hx : VR β F w v x) (hy : VR β F w u y) (hp : Pre hs nx β F w)
    (h : (bin O.real (tb t) op x y hs).sat Q) : ∃ r z, ((do eqGuard op t ox oy v u; binOp op t v u) : Sem Value).run P w = .ok r w ∧ VR β F w r z ∧ Q ⟨z, [], [], []⟩ := by
  unfold bin at h
  split at h
  · rename_i k a k' b
    cases hx
    cases hy
    simp only [Sem.run_bind, run_eqg op t ox oy (.int k a) (.int k' b) (by simp) (by simp) w, Result.andThen_ok]
    cases op
    case shr =>
      obtain ⟨⟨h1, h2⟩, h⟩ := h
      exact ⟨.int k _, _, by simp [binOp, Op.shift, O.real, Int.not_lt.2 h1, Nat.min_eq_left h2], VR.int k _, h⟩
    case shl =>
      obtain ⟨⟨h1, h2⟩, h⟩ := h
      exact ⟨.int k _, _, by simp [binOp, Op.shift, O.real, Int.not_lt.2 h1, Nat.min_eq_left h2], VR.int k _, h⟩
    all_goals
      try simp only [] at h
      split at h
      · exact h.elim
      · rename_i hk
        have hk : k = k' := of_decide_eq_true hk
        subst hk
        try simp only [cmpInt] at h
        first
          | exact h.elim
          | exact ⟨.int k _, _, (by simp only [binOp]; rw [if_neg (fun h => h rfl)]; rfl), VR.int k _, h⟩
          | exact ⟨.int k _, _, by simp [binOp, Op.intArith, O.real], VR.int k _, h⟩
          | exact ⟨.bool _, _, by simp [binOp, Op.intCmp, O.real, bne], VR.bool _, h⟩
          | (obtain ⟨h1, h⟩ := h; exact ⟨.int k _, _, by simp [binOp, Op.intDiv, O.real, show ¬ b = 0 from h1], VR.int k _, h⟩)
  · rename_i a b
    cases hx
    cases hy
    simp only [Sem.run_bind, run_eqg op t ox oy (.string a) (.string b) (by simp) (by simp) w, Result.andThen_ok]
    cases op <;> simp only [T.sat] at h <;> first | exact h.elim | skip
    case add =>
      obtain ⟨h1, h2⟩ := h
      have h1' : ¬ (9223372036854775807 : Int) < (a.size : Int) + (b.size : Int) := by
        have : ((a.size + b.size : Nat) : Int) ≤ 9223372036854775807 := h1
        omega
      exact ⟨.string _, _, by simp [binOp, Op.stringOp, O.real, IntKind.max, IntKind.signed, IntKind.bits, h1'], VR.str _, h2⟩
    all_goals exact ⟨.bool _, _, by simp [binOp, Op.stringOp, O.real], VR.bool _, h⟩
  · have key : ∀ {b : Bool} (hv : ∀ cs, v ≠ .agg cs) (hn : v ≠ .nilIface) (hi : ∀ k n, v ≠ .int k n) (hs : ∀ s, v ≠ .string s) (hf : ∀ k n, v ≠ .float k n) (hc : ∀ k n m, v ≠ .complex k n m)
        (he : (Op.equal t v u).run P w = .ok b w) {t1 t2 : T Eff}, (eqB op t1 t2).sat Q → (t1.sat Q → Q ⟨.bool b, [], [], []⟩) → (t2.sat Q → Q ⟨.bool (!b), [], [], []⟩) →
        ∃ r z, ((do eqGuard op t ox oy v u; binOp op t v u) : Sem Value).run P w = .ok r w ∧ VR β F w r z ∧ Q ⟨z, [], [], []⟩ := by
      intro b hv hn hi hs hf hc he t1 t2 hq h1 h2
      rcases eqB_sat hq with ⟨rfl, h'⟩ | ⟨rfl, h'⟩
      · exact ⟨_, _, run_eq2 (.inl rfl) hv hn hi hs hf hc he, .bool _, h1 h'⟩
      · exact ⟨_, _, run_eq2 (.inr rfl) hv hn hi hs hf hc he, .bool _, h2 h'⟩
    split at h
    case h_16 => exact h.elim
    all_goals have hk := kdIs (htb.1 t _ (by assumption)) <;> simp only [KdIs] at hk
    · cases hx
      cases hy
      refine key (by simp) (by simp) (by simp) (by simp) (by simp) (by simp) (eqv_bool hk _ _) h (fun h => h) (fun h => h)
    · cases hx
      cases hy
      refine key (b := true) (by simp) (by simp) (by simp) (by simp) (by simp) (by simp) (eqv_ptr hk none) h (fun h => h) (fun h => h)
    · rename_i i1 o1 i2 o2 _ _ _
      split at h
      · rename_i hi
        have hi := nbeq hi
        subst hi
        split at h
        · rename_i ho
          have ho := nbeq ho
          subst ho
          cases hx with
          | ptr _ _ b o hb =>
            cases hy with
            | ptr _ _ b' o' hb' =>
              rw [hb] at hb'
              injection hb' with hb'
              injection hb' with hb'
              injection hb' with hb'
              injection hb' with e1 e2
              subst e1; subst e2
              exact key (b := true) (by simp) (by simp) (by simp) (by simp) (by simp) (by simp) (eqv_ptrs hk (.inl ⟨rfl, rfl⟩) (ptr_info (htb.1 t _ (by assumption)) rfl)) h (fun h => h) (fun h => h)
        · exact h.elim
      · rename_i hi
        split at h
        · rename_i l1 l2 hl1 hl2
          have hne : i1 ≠ i2 := fun e => by subst e; simp [Nat.beq_refl] at hi
          obtain ⟨b1, p1, cur1, e1, q1, q2, _⟩ := (hp.hh _ (lk_mem hl1)).1
          obtain ⟨b2, p2, cur2, e2, r1, r2, _⟩ := (hp.hh _ (lk_mem hl2)).1
          have hbb : b1 ≠ b2 := fun e => by
            subst e
            exact hp.hsep _ (lk_mem hl1) _ (lk_mem hl2) hne _ _ b1 q1 r1 rfl rfl
          cases hx with
          | ptr _ _ b o hb =>
            cases hy with
            | ptr _ _ b' o' hb' =>
              rw [q1] at hb
              rw [r1] at hb'
              injection hb with hb
              injection hb with hb
              injection hb with hb
              injection hb with f1 f2
              subst f1; subst f2
              injection hb' with hb'
              injection hb' with hb'
              injection hb' with hb'
              injection hb' with f1 f2
              subst f1; subst f2
              exact key (b := false) (by simp) (by simp) (by simp) (by simp) (by simp) (by simp) (eqv_ptrs hk (.inr ⟨hbb, rfl, _, _, _, _, q2, r2⟩) (ptr_info (htb.1 t _ (by assumption)) rfl)) h (fun h => h) (fun h => h)
        · exact h.elim
    · cases hx
      cases hy
      refine key (b := false) (by simp) (by simp) (by simp) (by simp) (by simp) (by simp) (eqv_ptr hk (some _)) h (fun h => h) (fun h => h)
    · cases hx
      cases hy
      refine key (b := false) (by simp) (by simp) (by simp) (by simp) (by simp) (by simp) (eqv_ptr hk (some _)) h (fun h => h) (fun h => h)
    · cases hx
      cases hy
      refine key (b := true) (by simp) (by simp) (by simp) (by simp) (by simp) (by simp) (eqv_slice hk none 0 0) h (fun h => h) (fun h => h)
    · split at h
      · rename_i hcl
        simp only [Bool.and_eq_true] at hcl
        cases hy
        cases hx with
        | sl0 _ A cap hc _ => have := LS.some1_len hcl.2; omega
        | sl _ b o n cap cv h1 h2 h3 h4 hf h5 hc hv => exact key (b := false) (by simp) (by simp) (by simp) (by simp) (by simp) (by simp) (eqv_slice hk (some _) _ _) h (fun h => h) (fun h => h)
      · split at h
        · rename_i c _ _ _ _ _ _ _
          obtain ⟨h0, h⟩ := h
          have h0 : (0 : Int) < c.olen O.real := of_decide_eq_true h0
          have h0 : 0 < c.len := by cases c <;> simp_all [O.real, LS.olen, LS.len]
          cases hy
          cases hx with
          | sl0 _ A cap hc _ => omega
          | sl _ b o n cap cv h1 h2 h3 h4 hf h5 hc hv => exact key (b := false) (by simp) (by simp) (by simp) (by simp) (by simp) (by simp) (eqv_slice hk (some _) _ _) h (fun h => h) (fun h => h)
        rename_i c _ _ _ _ _ _ _
        cases hy
        cases hx with
        | sl0 _ A cap hc _ =>
          cases A with
          | none =>
            have h0 : O.real.eq (c.olen O.real) 0 = true := by cases c <;> simp_all [O.real, LS.olen, LS.len]
            exact key (b := true) (by simp) (by simp) (by simp) (by simp) (by simp) (by simp) (eqv_slice hk none _ _) h (fun h => h.1 h0) (fun h => h.1 h0)
          | some ad => exact key (b := false) (by simp) (by simp) (by simp) (by simp) (by simp) (by simp) (eqv_slice hk (some _) _ _) h (fun h => h.2 trivial) (fun h => h.2 trivial)
        | sl _ b o n cap cv h1 h2 h3 h4 hf h5 hc hv => exact key (b := false) (by simp) (by simp) (by simp) (by simp) (by simp) (by simp) (eqv_slice hk (some _) _ _) h (fun h => h.2 trivial) (fun h => h.2 trivial)
    · split at h
      · rename_i e c hl
        obtain ⟨v', cvs, h1, h2, h3, h4⟩ := (hp.hh _ (lk_mem hl)).1
        cases hy
        cases hx with
        | own _ _ hb hs =>
          rw [hb] at h1
          injection h1 with h1
          subst h1
          obtain ⟨A, n, cc, rfl⟩ := hs
          split at h
          · rename_i hsome
            have hA : ∃ a, A = some a := by
              rcases h2.2 with ⟨e1, e2⟩ | ⟨g, cap', cur, e1, _⟩
              · exfalso
                have := LS.some1_len hsome; omega
              · injection e1 with e1; exact ⟨_, e1⟩
            obtain ⟨a, rfl⟩ := hA
            exact key (b := false) (by simp) (by simp) (by simp) (by simp) (by simp) (by simp) (eqv_slice hk (some _) _ _) h (fun h => h) (fun h => h)
          · cases A with
            | none => exact key (b := true) (by simp) (by simp) (by simp) (by simp) (by simp) (by simp) (eqv_slice hk none _ _) h (fun h => h.1 trivial) (fun h => h.1 trivial)
            | some ad => exact key (b := false) (by simp) (by simp) (by simp) (by simp) (by simp) (by simp) (eqv_slice hk (some _) _ _) h (fun h => h.2 trivial) (fun h => h.2 trivial)
      · exact h.elim
    · split at h
      · exact h.elim
      · rename_i ks a b _ hne
        split at h
        · rename_i hsh
          simp only [Bool.and_eq_true] at hsh
          obtain ⟨⟨k1, k2⟩, h⟩ := h
          have hE := htb.2.2.1 t _ (by assumption) (by simpa using hne)
          have va := agg_val hx (by simpa [keySh] using hsh.1)
          have vb := agg_val hy (by simpa [keySh] using hsh.2)
          obtain ⟨g1, g2⟩ := hE w _ _ _ _ hsh.1 hsh.2 k1 k2 va vb
          have hvv : ∃ cs, v = .agg cs := by cases hx; exact ⟨_, rfl⟩
          obtain ⟨cs, rfl⟩ := hvv
          rcases eqB_sat h with ⟨rfl, h'⟩ | ⟨rfl, h'⟩
          · exact ⟨_, _, run_eq3 (.inl rfl) (g1 _ _ _) (by simp) (by simp) (by simp) (by simp) g2, .bool _, h'⟩
          · exact ⟨_, _, run_eq3 (.inr rfl) (g1 _ _ _) (by simp) (by simp) (by simp) (by simp) g2, .bool _, h'⟩
        · exact h.elim
    · split at h
      · exact h.elim
      · rename_i ks a b _ hne
        split at h
        · rename_i hsh
          simp only [Bool.and_eq_true] at hsh
          obtain ⟨⟨k1, k2⟩, h⟩ := h
          have hE := htb.2.2.1 t _ (by assumption) (by simpa using hne)
          have va := agg_val hx (by simpa [keySh] using hsh.1)
          have vb := agg_val hy (by simpa [keySh] using hsh.2)
          obtain ⟨g1, g2⟩ := hE w _ _ _ _ hsh.1 hsh.2 k1 k2 va vb
          have hvv : ∃ cs, v = .agg cs := by cases hx; exact ⟨_, rfl⟩
          obtain ⟨cs, rfl⟩ := hvv
          rcases eqB_sat h with ⟨rfl, h'⟩ | ⟨rfl, h'⟩
          · exact ⟨_, _, run_eq3 (.inl rfl) (g1 _ _ _) (by simp) (by simp) (by simp) (by simp) g2, .bool _, h'⟩
          · exact ⟨_, _, run_eq3 (.inr rfl) (g1 _ _ _) (by simp) (by simp) (by simp) (by simp) g2, .bool _, h'⟩
        · exact h.elim
    · cases hx
      cases hy
      refine key (b := true) (by simp) (by simp) (by simp) (by simp) (by simp) (by simp) (eqv_nilm hk none) h (fun h => h) (fun h => h)
    · cases hx
      cases hy
      refine key (b := false) (by simp) (by simp) (by simp) (by simp) (by simp) (by simp) (eqv_nilm hk (some _)) h (fun h => h) (fun h => h)
    · obtain ⟨a1, a2, a3, hk⟩ := hk
      cases hx
      cases hy
      refine key (b := false) (by simp) (by simp) (by simp) (by simp) (by simp) (by simp) (eqv_func hk _ _ _) h (fun h => h) (fun h => h)
    · obtain ⟨a1, a2, a3, hk⟩ := hk
      cases hx
      cases hy
      refine key (b := true) (by simp) (by simp) (by simp) (by simp) (by simp) (by simp) (eqv_nilf hk) h (fun h => h) (fun h => h)
    · obtain ⟨a1, hk⟩ := hk
      cases hx
      cases hy
      refine key (b := false) (by simp) (by simp) (by simp) (by simp) (by simp) (by simp) (eqv_iface hk _) h (fun h => h) (fun h => h)
end
end Go.Qv
