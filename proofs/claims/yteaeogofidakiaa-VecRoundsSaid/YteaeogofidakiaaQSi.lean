/- Piece after piece, without counting; what the operations are on real values. No condition. -/
import Derived.Test.YteaeogofidakiaaQPu
import Derived.Laws.Strings
set_option linter.unusedVariables false
set_option linter.unusedSimpArgs false
namespace Go.Qv
open Go.RowKit

/-- Some number of pieces leads to ends that are as wanted. -/
def Rh (step : Nat × List Lf → T Gt) (Q : Eff → Prop) (g : Nat × List Lf) : Prop := ∃ n, FS step Q n g
def RhQ (step : Nat × List Lf → T Gt) (Q : Eff → Prop) : Gt → Prop
  | .inl g => Rh step Q g
  | .inr E => Q E
theorem sat_ex {α : Type} {P : Nat → α → Prop} (hm : ∀ n m x, n ≤ m → P n x → P m x) : ∀ {t : T α}, t.sat (fun x => ∃ n, P n x) → ∃ n, t.sat (P n)
  | .leaf a, h => h
  | .stuck _, h => h.elim
  | .req p t, h => by
    obtain ⟨n, hn⟩ := sat_ex hm h.2
    exact ⟨n, h.1, hn⟩
  | .ite b t e, h => by
    cases b with
    | true => obtain ⟨n, hn⟩ := sat_ex hm (h.1 rfl); exact ⟨n, fun _ => hn, fun h => absurd h (by simp)⟩
    | false => obtain ⟨n, hn⟩ := sat_ex hm (h.2 rfl); exact ⟨n, fun h => absurd h (by simp), fun _ => hn⟩
  | .both p t q e, h => by
    by_cases hp : p
    · obtain ⟨n, hn⟩ := sat_ex hm (h.1 hp)
      by_cases hq : q
      · obtain ⟨m, hm'⟩ := sat_ex hm (h.2 hq)
        exact ⟨n + m, fun _ => sat_mono (fun x => hm n (n + m) x (by omega)) hn, fun _ => sat_mono (fun x => hm m (n + m) x (by omega)) hm'⟩
      · exact ⟨n, fun _ => hn, fun h => absurd h hq⟩
    · by_cases hq : q
      · obtain ⟨m, hm'⟩ := sat_ex hm (h.2 hq)
        exact ⟨m, fun h => absurd h hp, fun _ => hm'⟩
      · exact ⟨0, fun h => absurd h hp, fun h => absurd h hq⟩
theorem Rh.of {step : Nat × List Lf → T Gt} {Q : Eff → Prop} {g : Nat × List Lf} (h : (step g).sat (RhQ step Q)) : Rh step Q g := by
  obtain ⟨n, hn⟩ := sat_ex (P := fun n x => match x with | .inl g => FS step Q n g | .inr E => Q E) (fun n m x hnm hx => by
    cases x with
    | inl g => exact FS.mono hnm hx
    | inr E => exact hx) (t := step g) (sat_mono (fun x hx => by
    cases x with
    | inl g => exact hx
    | inr E => exact ⟨0, hx⟩) h)
  exact ⟨n + 1, hn⟩
/-- One piece more. -/
theorem Rh.go {step : Nat × List Lf → T Gt} {Q : Eff → Prop} {g : Nat × List Lf} {G : G} {p : Prop} (seg : T.ob noB (RhQ step Q) G (step g) = p) (hp : p) : Rh step Q g := Rh.of (ob_of noB_ok G p seg hp)

def byteI (s : ByteArray) (i : Nat) : Int := match s[i]? with | some b => (b.toNat : Int) | none => 0
section
variable (k : IntKind) (a b c : Int) (x y z : Bool) (s t : ByteArray) (l m : List Int) (ls ms : List ByteArray) (lv mv : List VT) (lr mr : List (List AV)) (i j : Int) (v : VT) (r : List AV)
@[simp] theorem o_add : O.real.add k a b = k.wrap (a + b) := rfl
@[simp] theorem o_sub : O.real.sub k a b = k.wrap (a - b) := rfl
@[simp] theorem o_mul : O.real.mul k a b = k.wrap (a * b) := rfl
@[simp] theorem o_neg : O.real.neg k a = k.wrap (0 - a) := rfl
@[simp] theorem o_conv : O.real.conv k a = k.wrap a := rfl
@[simp] theorem o_lt : O.real.lt a b = decide (a < b) := rfl
@[simp] theorem o_le : O.real.le a b = decide (a ≤ b) := rfl
@[simp] theorem o_eq : O.real.eq a b = decide (a = b) := by show (a == b) = _; rw [Bool.eq_iff_iff]; simp
@[simp] theorem o_not : O.real.not x = !x := rfl
@[simp] theorem o_and : O.real.and x y = (x && y) := rfl
@[simp] theorem o_or : O.real.or x y = (x || y) := rfl
@[simp] theorem o_sel : O.real.sel x y z = if x then y else z := rfl
@[simp] theorem o_beq : O.real.beq x y = (x == y) := rfl
@[simp] theorem o_seq : O.real.seq s t = decide (s = t) := by
  show (s.toList == t.toList) = _
  rw [Bool.eq_iff_iff, beq_iff_eq, decide_eq_true_eq]
  constructor
  · intro h
    rw [ByteArray.toList_eq, ByteArray.toList_eq] at h
    cases s; cases t; simp at h; simpa using h
  · intro h; rw [h]
@[simp] theorem o_slt : O.real.slt s t = Op.bytesLess s.data.toList t.data.toList := by show Op.bytesLess s.toList t.toList = _; rw [ByteArray.toList_eq, ByteArray.toList_eq]
@[simp] theorem o_sadd : O.real.sadd s t = s ++ t := rfl
@[simp] theorem o_slen : O.real.slen s = (s.size : Int) := rfl
@[simp] theorem o_sat : O.real.sat_ s i = byteI s i.toNat := rfl
@[simp] theorem o_scut : O.real.scut s i j = s.extract i.toNat j.toNat := rfl
@[simp] theorem o_ilen : O.real.ilen l = (l.length : Int) := rfl
@[simp] theorem o_blen : O.real.blen ls = (ls.length : Int) := rfl
@[simp] theorem o_vlen : O.real.vlen lv = (lv.length : Int) := rfl
@[simp] theorem o_rlen : O.real.rlen lr = (lr.length : Int) := rfl
@[simp] theorem o_iget : O.real.iget l i = l.getD i.toNat 0 := rfl
@[simp] theorem o_bget : O.real.bget ls i = ls.getD i.toNat ⟨#[]⟩ := rfl
@[simp] theorem o_vget : O.real.vget lv i = lv.getD i.toNat default := rfl
@[simp] theorem o_rget : O.real.rget lr i = lr.getD i.toNat [] := rfl
@[simp] theorem o_iset : O.real.iset l i a = l.set i.toNat a := rfl
@[simp] theorem o_bset : O.real.bset ls i s = ls.set i.toNat s := rfl
@[simp] theorem o_vset : O.real.vset lv i v = lv.set i.toNat v := rfl
@[simp] theorem o_iapp : O.real.iapp l m = l ++ m := rfl
@[simp] theorem o_bapp : O.real.bapp ls ms = ls ++ ms := rfl
@[simp] theorem o_vapp : O.real.vapp lv mv = lv ++ mv := rfl
@[simp] theorem o_rapp : O.real.rapp lr mr = lr ++ mr := rfl
@[simp] theorem o_icut : O.real.icut l i j = (l.drop i.toNat).take (j - i).toNat := rfl
@[simp] theorem o_bcut : O.real.bcut ls i j = (ls.drop i.toNat).take (j - i).toNat := rfl
@[simp] theorem o_vcut : O.real.vcut lv i j = (lv.drop i.toNat).take (j - i).toNat := rfl
@[simp] theorem o_irep : O.real.irep a = List.replicate a.toNat 0 := rfl
@[simp] theorem o_vt : O.real.vt v = v.t := rfl
@[simp] theorem o_vn : O.real.vn v = v.n := rfl
@[simp] theorem o_vs : O.real.vs v = v.s := rfl
@[simp] theorem o_vl : O.real.vl v = v.l := rfl
@[simp] theorem o_imax : O.real.imax a b = if b > a then b else a := rfl
@[simp] theorem o_imin : O.real.imin a b = if b < a then b else a := rfl
@[simp] theorem o_inb : (O.real.inb i a).p = (0 ≤ i ∧ i < a) := rfl
@[simp] theorem o_sfit : (O.real.sfit s t).p = (((s.size + t.size : Nat) : Int) ≤ 9223372036854775807) := rfl
@[simp] theorem o_cutb : (O.real.cutb a b c).p = (0 ≤ a ∧ a ≤ b ∧ b ≤ c) := rfl
@[simp] theorem o_fit (n : Nat) : (O.real.fit a b n).p = ((a + b) * (n : Int) ≤ 140737488355328) := rfl
@[simp] theorem o_mkfit (n : Nat) : (O.real.mkfit a n).p = (0 ≤ a ∧ a * (n : Int) ≤ 140737488355328) := rfl
end
@[simp] theorem o_isel (b : Bool) (x y : Int) : O.real.isel b x y = if b then x else y := rfl
@[simp] theorem o_ssel (b : Bool) (x y : ByteArray) : O.real.ssel b x y = if b then x else y := rfl
@[simp] theorem o_shl (k : IntKind) (a b : Int) : O.real.shl k a b = k.wrap (a * 2 ^ b.toNat) := rfl
@[simp] theorem o_shr (a b : Int) : O.real.shr a b = a.fdiv (2 ^ b.toNat) := rfl
@[simp] theorem o_quo (k : IntKind) (a b : Int) : O.real.quo k a b = k.wrap (a.tdiv b) := rfl
@[simp] theorem o_rem (a b : Int) : O.real.rem a b = a.tmod b := rfl
@[simp] theorem o_iand (k : IntKind) (a b : Int) : O.real.iand k a b = k.wrap (BitVec.ofInt k.bits a &&& BitVec.ofInt k.bits b).toNat := rfl
@[simp] theorem o_ior (k : IntKind) (a b : Int) : O.real.ior k a b = k.wrap (BitVec.ofInt k.bits a ||| BitVec.ofInt k.bits b).toNat := rfl
@[simp] theorem o_nz (b : Int) : (O.real.nz b).p = (b ≠ 0) := rfl
@[simp] theorem o_shok (k : IntKind) (b : Int) : (O.real.shok k b).p = (0 ≤ b ∧ b.toNat ≤ k.bits) := rfl
theorem ns0 : Int.negSucc 0 = -1 := rfl
theorem ns4 : Int.negSucc 4 = -5 := rfl
theorem w64 {a : Int} (h1 : -9223372036854775808 ≤ a) (h2 : a ≤ 9223372036854775807) : IntKind.i64.wrap a = a := by
  rw [IntKind.wrap_i64]; omega
theorem decT {p : Prop} [Decidable p] : (decide p = true) = p := by simp
theorem decF {p : Prop} [Decidable p] : (decide p = false) = ¬ p := by simp
end Go.Qv
namespace Go.Qv
open Go.RowKit
section
variable {P : Program}
theorem PPost.below {F : Nat → Prop} {w : World} {y : AV} {v' : Value} {F' : Nat → Prop} {w' : World} (p : PPost F w y v' F' w') : Below w.heap.size w w' := ⟨p.os, p.tape, p.output, p.size, p.frame⟩
theorem law_calls {fns : FuncId → Option Func} (hfn : FnsOk P fns) {f : FuncId} {fn : Func} (hf : fns f = some fn) {cs : Array Value} {w : World} (h : Goes P f cs w fun v w' => v = .bool true ∧ Below w.heap.size w w') :
    Calls P f cs w fun e w' => e = .returned (.bool true) ∧ Below w.heap.size w w' := by
  obtain ⟨h1, h2, h3⟩ := hfn f fn hf
  obtain ⟨c, hc⟩ := Option.isSome_iff_exists.1 h3
  have hgo : (callFunc f cs).run P w = .ok (.enter f cs) w := by
    simp [callFunc, Sem.run_bind, h1, h2, hc]
  unfold Goes at h
  rw [hgo] at h
  exact h.mono fun e w'' ⟨v, hv, hk⟩ => by subst hv; exact ⟨by rw [hk.1], hk.2⟩
/-- What is wanted of a law's end. -/
def IsTrue (E : Eff) : Prop := ∃ y, resE E = some y ∧ y = .bool true
theorem IsTrue.of {b : Bool} (h : b = true) : IsTrue ⟨.bool b, [], [], []⟩ := by subst h; exact ⟨_, rfl, rfl⟩
theorem flow_law {tb : Tb} {orc : Orc} {fns : FuncId → Option Func} (hm : P.follows .mixedOrders = true) (htb : TbOk P tb) (horc : OrcOk P orc (fun _ => True)) (hfn : FnsOk P fns) {f : FuncId} {fn : Func} (hf : fns f = some fn)
    {cuts : List Cut} (hok : cutsOk cuts = true) {e0 : Nat} {c0 : Cut} (hc0 : findCut e0 cuts = some c0) (hpre : c0.pre = [.code (bodyOf fn)]) {xs ys : List AV} {ρ : List Lf} (hys : renL (renF (sig0 0) 5) xs = some ys)
    (hin : c0.tm.inst ρ = ⟨zipArgs 0 ys, [], [], 0, fn.ntmps⟩) (hnt : Nat.ble xs.length fn.ntmps = true)
    {cs : Array Value} {F : Nat → Prop} {w : World} (ha : Args F w cs xs) (hr : Rh (stepX O.real tb orc fn.results [] 0 cuts) IsTrue (e0, ρ)) :
    Calls P f cs w fun e w' => e = .returned (.bool true) ∧ Below w.heap.size w w' := by
  obtain ⟨n, hn⟩ := hr
  exact law_calls hfn hf (flow_pure hm htb horc hfn hf hok hc0 hpre hys hin hnt ha (K := fun y => y = .bool true) (n := n) hn (fun y hy v' F' w' p => by
    subst hy
    have := p.vr
    cases this
    exact ⟨rfl, p.below⟩))
end
end Go.Qv
