/- Contracts of functions that read what the call owns: a list of values whose parts are slices of its own. No condition. -/
import Derived.Test.YtmeagbopnliddaaGreatQTmM
import Derived.Test.YtmeagbopnliddaaGreatQWfM
import Derived.Test.YtmeagbopnliddaaGreatQRlM
import Derived.Test.YtmeagbopnliddaaGreatQPe
import Derived.Test.YtmeagbopnliddaaGreatQDc
set_option linter.unusedVariables false
set_option linter.unusedSimpArgs false
namespace Go.Qv
open Go.RowKit

def rowsV (hs : List (Nat × HObj)) : List (List AV) → Option (List VT)
  | [] => some []
  | r :: l => match asV hs (.agg r), rowsV hs l with | some a, some m => some (a :: m) | _, _ => none
def isVsh : List CK → Bool
  | [.int .i64, .any, .any, .any] => true
  | _ => false
def argR (hs : List (Nat × HObj)) (x : AV) : Option (AV × List Nat) :=
  match argP hs x with
  | some y => some (y, x.owns)
  | none => match x with
    | .own id => (match lk hs id with
      | some (.arr _ (.r sh rows)) => (match isVsh sh, rowsV hs rows with
        | true, some l => some (.sl (.v l), id :: rows.flatMap fun r => (AV.agg r).owns)
        | _, _ => none)
      | _ => none)
    | _ => none
def argsR (hs : List (Nat × HObj)) : List AV → Option (List AV × List Nat)
  | [] => some ([], [])
  | x :: l => match argR hs x, argsR hs l with | some (y, i), some (r, j) => some (y :: r, i ++ j) | _, _ => none
def pureOrcR (sp : PS) : Orc := fun f nx xs hs =>
  match argsR hs xs with
  | some (ys, ids) => (sp f ys).bind fun y => match scalar y with
    | true => .leaf ⟨y, [], [], []⟩
    | false => .leaf ⟨y, gone ids, ids, []⟩
  | none => .stuck "contract: arguments"

section
variable {P : Program} {hs : List (Nat × HObj)} {nx : Nat} {β : Nat → Option Value} {F : Nat → Prop} {w : World}
theorem rowsV_at : ∀ {rows : List (List AV)} {l : List VT}, rowsV hs rows = some l → l.length = rows.length ∧ ∀ (i : Nat) (a : VT), l[i]? = some a → ∃ r, rows[i]? = some r ∧ asV hs (.agg r) = some a
  | [], l, h => by simp [rowsV] at h; subst h; simp
  | r :: rows, l, h => by
    unfold rowsV at h
    split at h
    · rename_i a m h1 h2
      injection h with h
      subst h
      obtain ⟨g1, g2⟩ := rowsV_at h2
      refine ⟨by simp [g1], fun i b hi => ?_⟩
      cases i with
      | zero => simp at hi; subst hi; exact ⟨r, rfl, h1⟩
      | succ i => obtain ⟨r', c, d⟩ := g2 i b (by simpa using hi); exact ⟨r', by simpa using c, d⟩
    · cases h
theorem rowsV_of : ∀ {rows : List (List AV)} {l : List VT}, rowsV hs rows = some l → ∀ r ∈ rows, ∃ a, asV hs (.agg r) = some a
  | [], l, h, r, hr => by simp at hr
  | r0 :: rows, l, h, r, hr => by
    unfold rowsV at h
    split at h
    · rename_i a m h1 h2
      rcases List.mem_cons.1 hr with rfl | hr
      · exact ⟨a, h1⟩
      · exact rowsV_of h2 r hr
    · cases h
theorem own_vrows {ids : List Nat} {id : Nat} {e : TypeId} {sh : List CK} {rows : List (List AV)} {l : List VT} {v : Value} (hOs : ∀ p ∈ hs, OR β F w p.1 p.2) (hO : OR β F w id (.arr e (.r sh rows))) (hsh : sh.length = 4) (hv : VR β F w v (.own id)) (hi : id ∈ ids)
    (hr : rowsV hs rows = some l) (hin : ∀ r ∈ rows, ∀ i ∈ (AV.agg r).owns, i ∈ ids) : VR β (FZ ids β F) w v (.sl (.v l)) := by
  obtain ⟨u, cvs, h1, h2, hk, h4⟩ := hO
  obtain ⟨q1, q2⟩ := rowsV_at hr
  cases hv with
  | own _ _ hb _ =>
    rw [hb] at h1
    injection h1 with h1
    subst h1
    have hsz : (LS.r sh rows).sz = 4 := hsh
    have hln : (LS.r sh rows).len = rows.length := rfl
    rw [hsz, hln] at h2
    rw [hsz] at h4
    rcases h2.2 with ⟨rfl, hn⟩ | ⟨g, cap, cur, rfl, _, hg, hnc, hcm, hcs, htk⟩
    · exact .sl0 _ _ _ (by simp only [LS.len]; omega) trivial
    · rcases Nat.eq_zero_or_pos rows.length with h0 | h0
      · rw [h0]; exact .sl0 _ _ _ (by simp only [LS.len]; omega) trivial
      · refine .sl (.v l) g 0 rows.length cap (fun i j => cur.getD (i * 4 + j) undef) (by simp only [LS.len]; omega) h0 hnc hcm (.inr ⟨id, hi, _, hb, rfl⟩) trivial (fun i j hi' hj => ?_) (fun i el j x he hx => ?_)
        · have hj : j < 4 := hj
          have hlt : i * 4 + 4 ≤ rows.length * 4 := by omega
          have hle : rows.length * 4 ≤ cap * 4 := Nat.mul_le_mul_right _ hnc
          have : i * 4 + j < cur.size := by omega
          simp only [World.cell?, hg, Option.isSome_none, Bool.false_eq_true, if_false, Nat.zero_add, LS.sz]
          simp [this]
        · simp only [LS.elems, List.getElem?_map, Option.map_eq_some_iff] at he
          obtain ⟨a, ha, rfl⟩ := he
          obtain ⟨r, hr1, hr2⟩ := q2 i a ha
          have hrm : r ∈ rows := List.mem_of_getElem? hr1
          have hrl : r.length = 4 := by have := LS.el_len hk r hrm; rw [this]; exact hsz
          have hj : j < 4 := by have := (List.getElem?_eq_some_iff.1 hx).1; simpa [VT.cells] using this
          -- the row as one value
          have hcells : ∀ (j : Nat), j < 4 → ∀ x, r[j]? = some x → VR β F w (cur.getD (i * 4 + j) undef) x := by
            intro j hj x hx
            obtain ⟨u, h6, h7⟩ := h4 i r j x hr1 hx
            have : cur.getD (i * 4 + j) undef = u := by
              rw [← htk, List.getElem?_take] at h6
              split at h6
              · simp only [Array.getElem?_toList] at h6
                simp [Array.getD_eq_getD_getElem?, h6]
              · cases h6
            rw [this]
            exact h7
          have hagg : VR β F w (.agg #[cur.getD (i * 4 + 0) undef, cur.getD (i * 4 + 1) undef, cur.getD (i * 4 + 2) undef, cur.getD (i * 4 + 3) undef]) (.agg r) := by
            refine .agg _ _ (by simp [hrl]) (LS.el_one hk r hrm) (fun j v x hv hx => ?_)
            match j, hv with
            | 0, hv => simp at hv; subst hv; have := hcells 0 (by omega) x hx; simpa using this
            | 1, hv => simp at hv; subst hv; have := hcells 1 (by omega) x hx; simpa using this
            | 2, hv => simp at hv; subst hv; have := hcells 2 (by omega) x hx; simpa using this
            | 3, hv => simp at hv; subst hv; have := hcells 3 (by omega) x hx; simpa using this
            | j + 4, hv => simp at hv
          have := asV_ok (ids := ids) hOs hr2 hagg (hin r hrm)
          cases this with
          | agg _ _ _ _ hv =>
            match j, hj with
            | 0, _ => exact hv 0 _ x rfl hx
            | 1, _ => exact hv 1 _ x rfl hx
            | 2, _ => exact hv 2 _ x rfl hx
            | 3, _ => exact hv 3 _ x rfl hx
            | j + 4, hj => omega
theorem isVsh_len {sh : List CK} (h : isVsh sh = true) : sh.length = 4 := by
  unfold isVsh at h
  split at h
  · rfl
  · cases h
theorem argR_ok {ids is : List Nat} {x y : AV} {v : Value} (hO : ∀ p ∈ hs, OR β F w p.1 p.2) (h : argR hs x = some (y, is)) (hv : VR β F w v x) (hi : ∀ id ∈ is, id ∈ ids) : VR noβ (FZ ids β F) w v y := by
  unfold argR at h
  split at h
  · rename_i y' hy
    injection h with h
    injection h with e1 e2
    subst e1; subst e2
    exact argP_ok hO hy hv hi
  · split at h
    · rename_i id
      split at h
      · rename_i e sh rows hl
        split at h
        · rename_i l h1 h2
          injection h with h
          injection h with e1 e2
          subst e1; subst e2
          exact (own_vrows hO (hO _ (lk_mem hl)) (isVsh_len h1) hv (hi _ (by simp)) h2 (fun r hr i hir => hi _ (List.mem_cons_of_mem _ (List.mem_flatMap.2 ⟨r, hr, hir⟩)))).clean (.sl _ rfl)
        · cases h
      · cases h
    · cases h
theorem argR_known {x y : AV} {is : List Nat} (h : argR hs x = some (y, is)) : ∀ id ∈ is, ∃ ob, (id, ob) ∈ hs := by
  intro i hid
  unfold argR at h
  split at h
  · rename_i y' hy
    injection h with h
    injection h with e1 e2
    subst e1; subst e2
    exact argP_known hy i hid
  · split at h
    · rename_i id
      split at h
      · rename_i e sh rows hl
        split at h
        · rename_i l h1 h2
          injection h with h
          injection h with e1 e2
          subst e1; subst e2
          rcases List.mem_cons.1 hid with rfl | hid
          · exact ⟨_, lk_mem hl⟩
          · obtain ⟨r, hr, hir⟩ := List.mem_flatMap.1 hid
            obtain ⟨a, ha⟩ := rowsV_of h2 r hr
            exact asV_known ha i hir
        · cases h
      · cases h
    · cases h
theorem argsR_at : ∀ {xs ys : List AV} {is : List Nat}, argsR hs xs = some (ys, is) → ys.length = xs.length ∧ (∀ id ∈ is, ∃ ob, (id, ob) ∈ hs) ∧ ∀ (j : Nat) (y : AV), ys[j]? = some y → ∃ x i, xs[j]? = some x ∧ argR hs x = some (y, i) ∧ ∀ id ∈ i, id ∈ is
  | [], ys, is, h => by simp [argsR] at h; obtain ⟨rfl, rfl⟩ := h; simp
  | x :: l, ys, is, h => by
    unfold argsR at h
    split at h
    · rename_i y i r j h1 h2
      injection h with h
      injection h with e1 e2
      subst e1; subst e2
      obtain ⟨a, k, b⟩ := argsR_at h2
      refine ⟨by simp [a], fun id hid => ?_, fun n z hn => ?_⟩
      · rcases List.mem_append.1 hid with hid | hid
        · exact argR_known h1 id hid
        · exact k id hid
      · cases n with
        | zero => simp at hn; subst hn; exact ⟨x, i, rfl, h1, fun id hid => List.mem_append.2 (.inl hid)⟩
        | succ n => obtain ⟨x', i', c, d, e⟩ := b n z (by simpa using hn); exact ⟨x', i', by simpa using c, d, fun id hid => List.mem_append.2 (.inr (e id hid))⟩
    · cases h
theorem pureOrcR_ok {sp : PS} (h0 : PureOk P sp) : OrcOk P (pureOrcR sp) (fun _ => True) := by
  intro f nx xs hs β F w cs R _ hp hlen hvr h
  unfold pureOrcR at h
  split at h
  · rename_i ys ids hys
    have hO : ∀ p ∈ hs, OR β F w p.1 p.2 := fun p h => (hp.hh p h).1
    obtain ⟨l1, hk, l2⟩ := argsR_at hys
    refine h0 f ys (FZ ids β F) w cs R ⟨FZ_lt hp hk, by omega, fun j v y hv hy => ?_⟩ (sat_mono (fun y hy => ?_) (bind_sat h))
    · obtain ⟨x, i, h1, h2, h3⟩ := l2 j y hy
      exact argR_ok hO h2 (hvr j v x hv h1) h3
    · intro v' F' w' p
      split at hy
      · rename_i hsc
        refine hy v' β F w' ⟨scalar_vr hsc p.vr, fun _ _ h => h, fun _ _ h => .inl h, fun _ h => h, fun b hb => Nat.lt_of_lt_of_le (hp.hF b hb) p.size, fun _ h => .inl h, fun _ _ h => by simp at h, fun _ _ h => by simp at h, fun _ _ _ h => by simp at h, fun _ _ _ _ _ h => by simp at h, fun _ h => by simp at h, fun _ _ h => by simp at h, fun b hb _ => p.frame b hb, p.os, p.tape, p.output, p.size⟩
      · refine hy v' β F' w' ⟨p.vr.mono (fun id x hx => by cases hx) (fun _ h => h) (fun _ _ => rfl), fun _ _ h => h, fun _ _ h => .inl h, fun b hb => p.Fext b (.inl hb), p.Flt, fun b hb => ?_, fun id ob hm => ?_, fun _ _ h => by simp at h, fun _ _ _ h => by simp at h, fun _ _ _ _ _ h => by simp at h, fun q hq => ?_, fun id ob hm => ?_, fun b hb _ => p.frame b hb, p.os, p.tape, p.output, p.size⟩
        · rcases p.Fnew b hb with (h | ⟨id, hid, x, h1, h2⟩) | h
          · exact .inl h
          · exact .inr (.inr ⟨id, hid, by simp only [gone, List.mem_map]; exact ⟨id, hid, rfl⟩, x, h1, h2⟩)
          · exact .inr (.inl h)
        · simp [gone] at hm
        · simp only [gone, List.mem_map] at hq
          obtain ⟨id, hid, rfl⟩ := hq
          exact hk id hid
        · simp [gone] at hm
  · exact h.elim
end
end Go.Qv
/- What live() answers, its loops over functions run round by round. No condition. -/
set_option linter.unusedVariables false
set_option linter.unusedSimpArgs false
set_option maxRecDepth 100000
namespace Go.Qv
open Go Go.RowKit Go.Proofs
instance (v : VT) : Decidable (tame v) := inferInstanceAs (Decidable (_ ≤ _))
instance (l : List VT) : Decidable (tames l) := inferInstanceAs (Decidable (_ ≤ _))
instance (v : VT) : Decidable (flat9 v) := inferInstanceAs (Decidable (_ ∧ _))
instance (l : List VT) : Decidable (cols l) := inferInstanceAs (Decidable (∀ x ∈ l, ∀ c ∈ x.l, flat9 c))
instance (v : VT) : Decidable (ok2 v) := inferInstanceAs (Decidable (_ ∧ _))
def itr : Itr where
  gf := 107
  dom v := ⟨tame v ∧ ok2 v ∧ rCount v ≤ 9223372036854775807, inferInstance⟩
  cnt v := (rCount v).toNat
  els := elsV
theorem itr_ok : ItrOk Tryz.prog itr := ⟨fun v k => rfl, fun t n s l h => each107 h.1 h.2.1 h.2.2⟩
/-! ### contracts that can be decided -/
def whenD {α : Type} (p : Prop) [Decidable p] (t : T α) : T α := .req ⟨p, inferInstance⟩ t
theorem Pure1.of {P : Program} {f : FuncId} {s s' : List AV → T AV} (h : Pure1 P f s) (hs : ∀ xs (Q : AV → Prop), (s' xs).sat Q → (s xs).sat Q) : Pure1 P f s' :=
  fun xs F w cs R ha h1 => h xs F w cs R ha (hs xs _ h1)
def cdClone := onV fun a => whenD (tame a) (.leaf (vcl a))
def cdOf := onVs fun l => whenD (tames l) (.leaf (vcl (ofV l)))
def cdAt := onVn fun a i => whenD (tame a) (whenD (ok2 a) (.leaf (.tup [vcl (atV a i), .int .i64 (atE a i)])))
def cdEach := onV fun a => whenD (tame a) (.leaf (.fn 107 [.rp [.int .i64 a.t, .sl (.i .i64 a.n), .sl (.s a.s), .sl (.v a.l)]]))
theorem cdEach_of : ∀ xs (Q : AV → Prop), (cdEach xs).sat Q → (sp67 xs).sat Q := fun xs Q h => by
  unfold cdEach onV at h; unfold sp67 onV
  split at h
  · split at h <;> exact h
  · exact h
theorem cdClone_of : ∀ xs (Q : AV → Prop), (cdClone xs).sat Q → ((onV fun a => when_ (tame a) (.leaf (vcl a))) xs).sat Q := fun xs Q h => by
  unfold cdClone onV at h; unfold onV
  split at h
  · split at h <;> exact h
  · exact h
theorem cdOf_of : ∀ xs (Q : AV → Prop), (cdOf xs).sat Q → ((onVs fun l => when_ (tames l) (.leaf (vcl (ofV l)))) xs).sat Q := fun xs Q h => by
  unfold cdOf onVs at h; unfold onVs
  split at h
  · split at h <;> exact h
  · exact h
theorem cdAt_of : ∀ xs (Q : AV → Prop), (cdAt xs).sat Q → ((onVn fun a i => when_ (tame a) (when_ (ok2 a) (.leaf (.tup [vcl (atV a i), .int .i64 (atE a i)])))) xs).sat Q := fun xs Q h => by
  unfold cdAt onVn at h; unfold onVn
  split at h
  · split at h <;> exact h
  · exact h
/-! ### the first place of an element, decided -/
mutual
def vtEq : VT → VT → Bool
  | .mk t n s l, .mk t' n' s' l' => eqI t t' && eqL eqI n n' && eqL eqBy s s' && vtEqs l l'
def vtEqs : List VT → List VT → Bool
  | [], [] => true
  | x :: l, y :: r => match vtEq x y with | true => vtEqs l r | false => false
  | _, _ => false
end
theorem eqL_refl {α : Type} {f : α → α → Bool} (hf : ∀ x, f x x = true) : ∀ l : List α, eqL f l l = true
  | [] => rfl
  | x :: l => by simp only [eqL, hf x, eqL_refl hf l]
theorem bytesEq_refl : ∀ l : List UInt8, bytesEq l l = true
  | [] => rfl
  | a :: l => by simp only [bytesEq, Nat.beq_refl, bytesEq_refl l]
mutual
theorem vtEq_self : ∀ x : VT, vtEq x x = true
  | .mk t n s l => by
    simp only [vtEq, Bool.and_eq_true]
    exact ⟨⟨⟨decide_eq_true rfl, eqL_refl (f := eqI) (fun x => (decide_eq_true rfl : eqI x x = true)) n⟩, eqL_refl (f := eqBy) (fun x => (bytesEq_refl _ : eqBy x x = true)) s⟩, vtEqs_self l⟩
theorem vtEqs_self : ∀ l : List VT, vtEqs l l = true
  | [] => rfl
  | x :: l => by simp only [vtEqs, vtEq_self x, vtEqs_self l]
end
mutual
theorem vtEq_ok : ∀ {x y : VT}, vtEq x y = true → x = y
  | .mk t n s l, .mk t' n' s' l', h => by
    simp only [vtEq, Bool.and_eq_true] at h
    obtain ⟨⟨⟨h1, h2⟩, h3⟩, h4⟩ := h
    rw [eqI_ok h1, eqL_ok (fun _ _ h => eqI_ok h) h2, eqL_ok (fun _ _ h => eqBy_ok h) h3, vtEqs_ok h4]
theorem vtEqs_ok : ∀ {l r : List VT}, vtEqs l r = true → l = r
  | [], [], _ => rfl
  | [], _ :: _, h => by simp [vtEqs] at h
  | _ :: _, [], h => by simp [vtEqs] at h
  | x :: l, y :: r, h => by
    simp only [vtEqs] at h
    split at h
    · rename_i h1; rw [vtEq_ok h1, vtEqs_ok h]
    · cases h
end
theorem vtEq_veq (x y : VT) : vtEq x y = veq x y := by
  rw [Bool.eq_iff_iff, veq_iff]
  exact ⟨vtEq_ok, fun h => by rw [h]; exact vtEq_self y⟩
def findGoD (v x : VT) : Nat → Nat → Int
  | _, 0 => rCount v
  | k, n + 1 => match vtEq x (atV v (k : Int)) with | true => (k : Int) | false => findGoD v x (k + 1) n
theorem findGoD_eq (v x : VT) : ∀ n k, findGoD v x k n = findGo v x k n
  | 0, k => rfl
  | n + 1, k => by
    rw [findGoD, findGo, vtEq_veq]
    cases veq x (atV v (k : Int))
    · rw [if_neg (by decide)]; exact findGoD_eq v x n (k + 1)
    · rw [if_pos rfl]
def findID (v x : VT) : Int := match partB v with | true => findGoD v x 0 (rCount v).toNat | false => 0
theorem findID_eq (v x : VT) : findID v x = findI v x := by
  unfold findID findI
  cases partB v
  · rw [if_neg (by decide)]
  · rw [if_pos rfl, findGoD_eq]
def cdFind := onVV fun v x => whenD (tame v) (.leaf (.tup [.int .i64 (findID v x), .int .i64 (findE v)]))
theorem cdFind_of : ∀ xs (Q : AV → Prop), (cdFind xs).sat Q → (spFindS xs).sat Q := fun xs Q h => by
  unfold cdFind onVV at h; unfold spFindS onVV
  split at h
  · split at h
    · simp only [findID_eq] at h; exact h
    · exact h
  · exact h
noncomputable def closedF : Orc := inlL itr O.real tbF fns noOrc noKnown shutM 300 14
theorem closedF_ok : OrcOk Tryz.prog closedF (fun _ => True) := inlL_ok (fng := Tryz.f107) mixed tbF_ok fnsOk itr_ok (by kernel_rfl) (noOrc_ok _ _) 14
noncomputable def lvP : PS := PS.also 57 cdFind <| PS.also 67 cdEach <| PS.also 43 (runP closedF 43) <| PS.also 44 (runP closedF 44) <| PS.also 50 cdClone (PS.also 12 cdClone (PS.also 68 cdOf (PS.also 75 cdOf (PS.also 54 cdAt (PS.also 28 cdAt PS.none)))))
theorem lvP_ok : PureOk Tryz.prog lvP := PureOk.also (ok57.of cdFind_of) <| PureOk.also (ok67.of cdEach_of) <| PureOk.also (runP_ok closedF_ok 43) <| PureOk.also (runP_ok closedF_ok 44) <| PureOk.also (ok50.of cdClone_of) (PureOk.also (ok12.of cdClone_of) (PureOk.also (ok68.of cdOf_of) (PureOk.also (ok75.of cdOf_of) (PureOk.also (ok54.of cdAt_of) (PureOk.also (ok28.of cdAt_of) (PureOk.none _))))))
def lvK : FuncId → Bool := fun f => Nat.beq f 57 || Nat.beq f 67 || Nat.beq f 43 || Nat.beq f 44 || Nat.beq f 50 || Nat.beq f 12 || Nat.beq f 68 || Nat.beq f 75 || Nat.beq f 54 || Nat.beq f 28
noncomputable def closedL : Orc := inlL itr O.real tbF fns (pureOrcR lvP) lvK shutM 3000 14
theorem closedL_ok : OrcOk Tryz.prog closedL (fun _ => True) := inlL_ok (fng := Tryz.f107) mixed tbF_ok fnsOk itr_ok (by kernel_rfl) (pureOrcR_ok lvP_ok) 14
end Go.Qv
