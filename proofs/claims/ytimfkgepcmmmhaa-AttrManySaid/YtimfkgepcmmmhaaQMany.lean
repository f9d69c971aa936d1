/- quiverlaw09.AttrMany: the walks of so and fill. (Printed by genmany.py.) -/
import Derived.Test.YtimfkgepcmmmhaaQZ
import Derived.Test.YtimfkgepcmmmhaaQKeys
set_option linter.unusedVariables false
set_option maxRecDepth 100000
namespace Go.Proofs.Ytimfkgepcmmmhaa
open Go.RowKit Go.Qv
noncomputable abbrev I14 := inl O.real Qv.tb Qv.fns noOrc noKnown shutM 300 14
def ev (l : List (Nat × AV)) : Env := l.map fun p => (p.1, none, p.2)
def unloop : List It → List It
  | .code (.loop b) :: r => .code b :: .again 0 :: r
  | l => l
theorem unloop_eq {L : List It} {b : Code} {r : List It} (h : L = .code (.loop b) :: r) : unloop L = .code b :: .again 0 :: r := by rw [h]; rfl
def soKey : AV := .agg [.int .i64 0, .str ⟨#[]⟩]
def soHs (sc : AV) (ex : List (Nat × HObj)) (rest : List AV) (l : List Int) : List (Nat × HObj) := (0, .cells (.int .i64 1 :: .own 1 :: sc :: .nils :: rest)) :: (1, .arr 2 (.i .i64 l)) :: ex
def seen : Nat → HObj
  | 0 => .map 0 [] []
  | _ + 1 => .map 1 [0] [(soKey, .bool true)]
def so0 (sc : AV) (ex : List (Nat × HObj)) (rest : List AV) (l : List Int) : S := ⟨zipArgs 0 [.ptr 0 0, .int .i64 0], [], soHs sc ex rest l, 64, 58⟩
def soJ (sc : AV) (ex : List (Nat × HObj)) (rest : List AV) (l : List Int) (i : Nat) : S := ⟨ev [(12, .int .i64 i), (11, .int .i64 l.length), (5, .mp 64), (4, .bool false), (0, .ptr 0 0), (1, .int .i64 0)], [], (64, seen i) :: soHs sc ex rest l, 128, 58⟩
def soJ1 (sc : AV) (ex : List (Nat × HObj)) (rest : List AV) (l : List Int) (i : Nat) : S := ⟨ev [(7, .ptr 65 0), (17, soKey), (6, .int .i64 i), (12, .int .i64 i), (11, .int .i64 l.length), (5, .mp 64), (4, .bool false), (0, .ptr 0 0), (1, .int .i64 0)], [],
  (65, .cells [.int .i64 0, .str ⟨#[]⟩]) :: (64, seen i) :: soHs sc ex rest l, 128, 58⟩
noncomputable def soL0 : List It := itsOf (run O.real Qv.tb I14 false [] 300 [.code (bodyOf Try.f95)] (so0 .nils [] [] []))
noncomputable def soL1 : List It := itsOf (run O.real Qv.tb I14 false [6] 300 (unloop soL0) (soJ .nils [] [] [0] 0))
def soE (sc : AV) (ex : List (Nat × HObj)) (rest : List AV) (l : List Int) : Eff := ⟨.bool true, (soHs sc ex rest l).map fun p => (p.1, some p.2), [], []⟩
abbrev tt : Prop := (true = true) ∧ True
abbrev gd (b : Bool) (p : Prop) : Prop := (true = true) ∧ (b = true → p)
def loopOf : List It → Code
  | .code (.loop b) :: _ => b
  | _ => .skip
def restOf : List It → List It
  | _ :: r => r
  | [] => []
theorem soL0_eq : soL0 = .code (.loop (loopOf soL0)) :: restOf soL0 := by kernel_rfl
theorem soL0_again : hasAgain 0 (restOf soL0) = false := by kernel_rfl
theorem unloop_soL0 : unloop soL0 = .code (loopOf soL0) :: .again 0 :: restOf soL0 := unloop_eq soL0_eq
theorem mix : Try.prog.follows .mixedOrders = true := by rfl
theorem I14_ok : OrcOk Try.prog I14 (fun _ => True) := inl_ok mix tbOk fnsOk (noOrc_ok _ _) 14
theorem fn95 : Qv.fns 95 = some Try.f95 := by kernel_rfl
theorem lt0 (i n : Nat) : O.real.lt (i : Int) (n : Int) = decide (i < n) := by simp [O.real]
theorem add1 (i n : Nat) (h : n ≤ 1099511627776) (hi : i < n) : O.real.add .i64 (i : Int) 1 = ((i + 1 : Nat) : Int) := by
  show IntKind.i64.wrap _ = _
  rw [IntKind.wrap_i64]; omega
theorem add0 (n : Nat) (h : n ≤ 1099511627776) : O.real.add .i64 (n : Int) 0 = (n : Int) := by
  show IntKind.i64.wrap _ = _
  rw [IntKind.wrap_i64]; omega
theorem sub1 (i n : Nat) (h : n ≤ 1099511627776) (hi : i + 1 ≤ n) : O.real.sub .i64 ((i + 1 : Nat) : Int) 1 = (i : Int) := by
  show IntKind.i64.wrap _ = _
  rw [IntKind.wrap_i64]; omega
theorem inb_of (i n : Nat) (l : List Int) (hn : l.length = n) (h : i < n) : (O.real.inb (i : Int) (O.real.ilen l)).p := by
  show 0 ≤ (i : Int) ∧ (i : Int) < (l.length : Int)
  omega
theorem iget0 (l : List Int) (h : ∀ x ∈ l, x = 0) (i : Int) : O.real.iget l i = 0 := by
  show l.getD i.toNat 0 = 0
  rw [List.getD_eq_getElem?_getD]
  cases hx : l[i.toNat]? with
  | none => rfl
  | some x => exact h x (List.mem_of_getElem? hx)
theorem kind : keyOk soKey = true := by kernel_rfl
theorem eqL_refl {α : Type} {f : α → α → Bool} (h : ∀ x, f x x = true) : ∀ l, eqL f l l = true
  | [] => rfl
  | x :: l => by simp [eqL, h, eqL_refl h l]
theorem eqI_refl (a : Int) : eqI a a = true := by simp [eqI]

/-! ### fill -/
def fiHs (sc : AV) (ex : List (Nat × HObj)) (pl : AV) (l : List Int) : List (Nat × HObj) := (0, .cells [.int .i64 1, .own 1, sc, .nils, .int .i64 0, pl]) :: (1, .arr 2 (.i .i64 l)) :: ex
def fi0 (sc : AV) (ex : List (Nat × HObj)) (pl : AV) (l : List Int) : S := ⟨zipArgs 0 [.ptr 0 0], [], fiHs sc ex pl l, 64, 40⟩
noncomputable def fiL0 : List It := itsOf (run O.real Qv.tb I14 false [] 300 [.code (bodyOf Try.f92)] (fi0 .nils [] .nilm [0]))
def rng (i : Nat) : List Int := (List.range i).map Int.ofNat
def filled : Nat → List (Nat × HObj)
  | 0 => [(64, .map 0 [] [])]
  | i + 1 => [(64, .map 1 [0] [(soKey, .own 65)]), (65, .arr 3 (.i .i64 (rng (i + 1))))]
def fiJ (sc : AV) (ex : List (Nat × HObj)) (l : List Int) (i : Nat) : S := ⟨ev [(20, .int .i64 i), (19, .int .i64 l.length), (0, .ptr 0 0)], [], (0, .cells [.int .i64 1, .own 1, sc, .nils, .int .i64 0, .mp 64]) :: (1, .arr 2 (.i .i64 l)) :: (ex ++ filled i), 128, 40⟩
def fiJ1 (sc : AV) (ex : List (Nat × HObj)) (l : List Int) (i : Nat) : S := ⟨ev [(3, .ptr 66 0), (2, .int .i64 i), (20, .int .i64 i), (19, .int .i64 l.length), (0, .ptr 0 0)], [], (66, .cells [.int .i64 0, .str ⟨#[]⟩]) :: (0, .cells [.int .i64 1, .own 1, sc, .nils, .int .i64 0, .mp 64]) :: (1, .arr 2 (.i .i64 l)) :: (ex ++ filled i), 128, 40⟩
noncomputable def fiL1 : List It := itsOf (run O.real Qv.tb I14 false [7] 300 (unloop fiL0) (fiJ .nils [] [0] 0))
def fiE (sc : AV) (ex : List (Nat × HObj)) (l : List Int) (i : Nat) : Eff := ⟨.tup [], (0, some (.cells [.int .i64 1, .own 1, sc, .nils, .int .i64 0, .mp 64])) :: (1, some (.arr 2 (.i .i64 l))) :: ex.map (fun p => (p.1, some p.2)), [], (filled i).map (·.2)⟩
abbrev fiC : Prop := ((1:Int) = 1) ∧ True ∧ True ∧ True ∧ ((0:Int) = 0) ∧ True ∧ True
theorem fiL0_eq : fiL0 = .code (.loop (loopOf fiL0)) :: restOf fiL0 := by kernel_rfl
theorem fiL0_again : hasAgain 0 (restOf fiL0) = false := by kernel_rfl
theorem unloop_fiL0 : unloop fiL0 = .code (loopOf fiL0) :: .again 0 :: restOf fiL0 := unloop_eq fiL0_eq
theorem fn92 : Qv.fns 92 = some Try.f92 := by kernel_rfl

section
variable (l : List Int) (Q : Option Eff → Prop)
abbrev oCellsA (p : Prop) : Prop := ((1:Int) = 1) ∧ True ∧ True ∧ True ∧ p
theorem so_startA : T.ob noB Q (.D 1 (.S (.S (.S .E)))) ((run O.real Qv.tb I14 false [] 300 [.code (bodyOf Try.f95)] (so0 .nils [] [] l)).bind (endT Qv.tb 64 Try.f95.results (soHs .nils [] [] l) (soJ .nils [] [] l 0) soL0)) =
    ((soL0 = soL0) ∧ (((((0:Int) = 0) ∧ ((l.length : Int) = O.real.add .i64 (O.real.ilen l) 0) ∧ True ∧ (false = false) ∧ True ∧ ((0:Int) = 0) ∧ True) ∧ (((0:Nat) = 0 ∧ ([]:List Nat) = []) ∧ True) ∧ oCellsA  True ∧ (l = l) ∧ True) ∧ Q none)) := by kernel_rfl
theorem so_roundA_z  : T.ob noB Q (.B (.S (.S (.S (.S (.S .E))))) (.S .E)) ((run O.real Qv.tb I14 false [6] 300 (unloop soL0) (soJ .nils [] [] l 0)).bind (endT Qv.tb 64 Try.f95.results (soHs .nils [] [] l) (soJ1 .nils [] [] l 0) soL1)) =
    ((O.real.lt ((0 : Nat) : Int) l.length = true → (O.real.inb ((0 : Nat) : Int) (O.real.ilen l)).p ∧ (O.real.inb ((0 : Nat) : Int) (O.real.ilen l)).p ∧ (soL1 = soL1) ∧
      (((True ∧ ((0:Int) = O.real.iget l ((0 : Nat) : Int) ∧ (⟨#[]⟩ : ByteArray) = ⟨#[]⟩ ∧ True) ∧ (((0 : Nat) : Int) = ((0 : Nat) : Int)) ∧ (((0 : Nat) : Int) = ((0 : Nat) : Int)) ∧ ((l.length : Int) = (l.length : Int)) ∧ True ∧ (false = false) ∧ True ∧ ((0:Int) = 0) ∧ True) ∧
        ((0:Int) = O.real.iget l ((0 : Nat) : Int) ∧ (⟨#[]⟩ : ByteArray) = ⟨#[]⟩ ∧ True) ∧ (((0:Nat) = 0 ∧ ([]:List Nat) = []) ∧ True) ∧ oCellsA  True ∧ (l = l) ∧ True) ∧ Q none)) ∧
     (O.real.lt ((0 : Nat) : Int) l.length = false → Q (some (soE .nils [] [] l)))) := by kernel_rfl
theorem so_nextA_z  : T.ob noB Q (.S (.D 4 (.S (.S .E)))) ((run O.real Qv.tb I14 false [] 300 soL1 (soJ1 .nils [] [] l 0)).bind (endA Qv.tb 64 Try.f95.results (soHs .nils [] [] l) (soJ .nils [] [] l (0+1)) 0)) =
    ((tt ∧ tt ∧ tt ∧ gd (O.real.lt 0 ((0 : Nat) : Int)) True ∧ gd (O.real.lt 0 ((0 : Nat) : Int)) True ∧ gd (O.real.lt 0 ((0 : Nat) : Int)) True ∧
      ((softOk ((65, .cells [.int .i64 0, .str ⟨#[]⟩]) :: (64, seen 0) :: soHs .nils [] [] l) ⟨.agg [.int .i64 (O.real.iget l (O.real.sub .i64 ((0 : Nat) : Int) 1)), .str ⟨#[]⟩], (soHs .nils [] [] l).map fun p => (p.1, some p.2), [], []⟩ = true) ∧
        (O.real.lt 0 ((0 : Nat) : Int) = true → (O.real.inb (O.real.sub .i64 ((0 : Nat) : Int) 1) (O.real.ilen l)).p ∧ (O.real.inb (O.real.sub .i64 ((0 : Nat) : Int) 1) (O.real.ilen l)).p ∧ True)) ∧
      gd (O.real.lt 0 ((0 : Nat) : Int)) True ∧ gd (O.real.lt 0 ((0 : Nat) : Int)) ((keyOk (.agg [.int .i64 (O.real.iget l (O.real.sub .i64 ((0 : Nat) : Int) 1)), .str ⟨#[]⟩]) = true ∧ keyOk soKey = true) ∧ True) ∧ tt ∧ tt ∧ True) ∧
     (((((0 + 1 : Nat) : Int) = O.real.add .i64 ((0 : Nat) : Int) 1) ∧ ((l.length : Int) = (l.length : Int)) ∧ True ∧ (false = false) ∧ True ∧ ((0:Int) = 0) ∧ True) ∧ (((1:Nat) = 1 ∧ [(0:Nat)] = [0]) ∧ (soKey = soKey) ∧ (true = true) ∧ True) ∧ oCellsA  True ∧ (l = l) ∧ True) ∧ Q none) := by kernel_rfl
theorem so_roundA_s (i : Nat) : T.ob noB Q (.B (.S (.S (.S (.S (.S .E))))) (.S .E)) ((run O.real Qv.tb I14 false [6] 300 (unloop soL0) (soJ .nils [] [] l (i+1))).bind (endT Qv.tb 64 Try.f95.results (soHs .nils [] [] l) (soJ1 .nils [] [] l (i+1)) soL1)) =
    ((O.real.lt (((i+1) : Nat) : Int) l.length = true → (O.real.inb (((i+1) : Nat) : Int) (O.real.ilen l)).p ∧ (O.real.inb (((i+1) : Nat) : Int) (O.real.ilen l)).p ∧ (soL1 = soL1) ∧
      (((True ∧ ((0:Int) = O.real.iget l (((i+1) : Nat) : Int) ∧ (⟨#[]⟩ : ByteArray) = ⟨#[]⟩ ∧ True) ∧ ((((i+1) : Nat) : Int) = (((i+1) : Nat) : Int)) ∧ ((((i+1) : Nat) : Int) = (((i+1) : Nat) : Int)) ∧ ((l.length : Int) = (l.length : Int)) ∧ True ∧ (false = false) ∧ True ∧ ((0:Int) = 0) ∧ True) ∧
        ((0:Int) = O.real.iget l (((i+1) : Nat) : Int) ∧ (⟨#[]⟩ : ByteArray) = ⟨#[]⟩ ∧ True) ∧ (((1:Nat) = 1 ∧ [(0:Nat)] = [0]) ∧ (soKey = soKey) ∧ (true = true) ∧ True) ∧ oCellsA  True ∧ (l = l) ∧ True) ∧ Q none)) ∧
     (O.real.lt (((i+1) : Nat) : Int) l.length = false → Q (some (soE .nils [] [] l)))) := by kernel_rfl
theorem so_nextA_s (i : Nat) : T.ob noB Q (.S (.D 4 (.S (.S .E)))) ((run O.real Qv.tb I14 false [] 300 soL1 (soJ1 .nils [] [] l (i+1))).bind (endA Qv.tb 64 Try.f95.results (soHs .nils [] [] l) (soJ .nils [] [] l ((i+1)+1)) 0)) =
    ((tt ∧ tt ∧ tt ∧ gd (O.real.lt 0 (((i+1) : Nat) : Int)) True ∧ gd (O.real.lt 0 (((i+1) : Nat) : Int)) True ∧ gd (O.real.lt 0 (((i+1) : Nat) : Int)) True ∧
      ((softOk ((65, .cells [.int .i64 0, .str ⟨#[]⟩]) :: (64, seen (i+1)) :: soHs .nils [] [] l) ⟨.agg [.int .i64 (O.real.iget l (O.real.sub .i64 (((i+1) : Nat) : Int) 1)), .str ⟨#[]⟩], (soHs .nils [] [] l).map fun p => (p.1, some p.2), [], []⟩ = true) ∧
        (O.real.lt 0 (((i+1) : Nat) : Int) = true → (O.real.inb (O.real.sub .i64 (((i+1) : Nat) : Int) 1) (O.real.ilen l)).p ∧ (O.real.inb (O.real.sub .i64 (((i+1) : Nat) : Int) 1) (O.real.ilen l)).p ∧ True)) ∧
      gd (O.real.lt 0 (((i+1) : Nat) : Int)) True ∧ gd (O.real.lt 0 (((i+1) : Nat) : Int)) ((keyOk (.agg [.int .i64 (O.real.iget l (O.real.sub .i64 (((i+1) : Nat) : Int) 1)), .str ⟨#[]⟩]) = true ∧ keyOk soKey = true) ∧ True) ∧ tt ∧ tt ∧ True) ∧
     ((((((i+1) + 1 : Nat) : Int) = O.real.add .i64 (((i+1) : Nat) : Int) 1) ∧ ((l.length : Int) = (l.length : Int)) ∧ True ∧ (false = false) ∧ True ∧ ((0:Int) = 0) ∧ True) ∧ (((1:Nat) = 1 ∧ [(0:Nat)] = [0]) ∧ (soKey = soKey) ∧ (true = true) ∧ True) ∧ oCellsA  True ∧ (l = l) ∧ True) ∧ Q none) := by kernel_rfl
end

section
variable (kk : Int) (l : List Int) (Q : Option Eff → Prop)
abbrev oCellsB (p : Prop) : Prop := ((1:Int) = 1) ∧ True ∧ True ∧ True ∧ (kk = kk) ∧ True ∧ p
theorem so_startB : T.ob noB Q (.D 1 (.S (.S (.S .E)))) ((run O.real Qv.tb I14 false [] 300 [.code (bodyOf Try.f95)] (so0 .nils [] [.int .i64 kk, .mp 2] l)).bind (endT Qv.tb 64 Try.f95.results (soHs .nils [] [.int .i64 kk, .mp 2] l) (soJ .nils [] [.int .i64 kk, .mp 2] l 0) soL0)) =
    ((soL0 = soL0) ∧ (((((0:Int) = 0) ∧ ((l.length : Int) = O.real.add .i64 (O.real.ilen l) 0) ∧ True ∧ (false = false) ∧ True ∧ ((0:Int) = 0) ∧ True) ∧ (((0:Nat) = 0 ∧ ([]:List Nat) = []) ∧ True) ∧ oCellsB kk True ∧ (l = l) ∧ True) ∧ Q none)) := by kernel_rfl
theorem so_roundB_z  : T.ob noB Q (.B (.S (.S (.S (.S (.S .E))))) (.S .E)) ((run O.real Qv.tb I14 false [6] 300 (unloop soL0) (soJ .nils [] [.int .i64 kk, .mp 2] l 0)).bind (endT Qv.tb 64 Try.f95.results (soHs .nils [] [.int .i64 kk, .mp 2] l) (soJ1 .nils [] [.int .i64 kk, .mp 2] l 0) soL1)) =
    ((O.real.lt ((0 : Nat) : Int) l.length = true → (O.real.inb ((0 : Nat) : Int) (O.real.ilen l)).p ∧ (O.real.inb ((0 : Nat) : Int) (O.real.ilen l)).p ∧ (soL1 = soL1) ∧
      (((True ∧ ((0:Int) = O.real.iget l ((0 : Nat) : Int) ∧ (⟨#[]⟩ : ByteArray) = ⟨#[]⟩ ∧ True) ∧ (((0 : Nat) : Int) = ((0 : Nat) : Int)) ∧ (((0 : Nat) : Int) = ((0 : Nat) : Int)) ∧ ((l.length : Int) = (l.length : Int)) ∧ True ∧ (false = false) ∧ True ∧ ((0:Int) = 0) ∧ True) ∧
        ((0:Int) = O.real.iget l ((0 : Nat) : Int) ∧ (⟨#[]⟩ : ByteArray) = ⟨#[]⟩ ∧ True) ∧ (((0:Nat) = 0 ∧ ([]:List Nat) = []) ∧ True) ∧ oCellsB kk True ∧ (l = l) ∧ True) ∧ Q none)) ∧
     (O.real.lt ((0 : Nat) : Int) l.length = false → Q (some (soE .nils [] [.int .i64 kk, .mp 2] l)))) := by kernel_rfl
theorem so_nextB_z  : T.ob noB Q (.S (.D 4 (.S (.S .E)))) ((run O.real Qv.tb I14 false [] 300 soL1 (soJ1 .nils [] [.int .i64 kk, .mp 2] l 0)).bind (endA Qv.tb 64 Try.f95.results (soHs .nils [] [.int .i64 kk, .mp 2] l) (soJ .nils [] [.int .i64 kk, .mp 2] l (0+1)) 0)) =
    ((tt ∧ tt ∧ tt ∧ gd (O.real.lt 0 ((0 : Nat) : Int)) True ∧ gd (O.real.lt 0 ((0 : Nat) : Int)) True ∧ gd (O.real.lt 0 ((0 : Nat) : Int)) True ∧
      ((softOk ((65, .cells [.int .i64 0, .str ⟨#[]⟩]) :: (64, seen 0) :: soHs .nils [] [.int .i64 kk, .mp 2] l) ⟨.agg [.int .i64 (O.real.iget l (O.real.sub .i64 ((0 : Nat) : Int) 1)), .str ⟨#[]⟩], (soHs .nils [] [.int .i64 kk, .mp 2] l).map fun p => (p.1, some p.2), [], []⟩ = true) ∧
        (O.real.lt 0 ((0 : Nat) : Int) = true → (O.real.inb (O.real.sub .i64 ((0 : Nat) : Int) 1) (O.real.ilen l)).p ∧ (O.real.inb (O.real.sub .i64 ((0 : Nat) : Int) 1) (O.real.ilen l)).p ∧ True)) ∧
      gd (O.real.lt 0 ((0 : Nat) : Int)) True ∧ gd (O.real.lt 0 ((0 : Nat) : Int)) ((keyOk (.agg [.int .i64 (O.real.iget l (O.real.sub .i64 ((0 : Nat) : Int) 1)), .str ⟨#[]⟩]) = true ∧ keyOk soKey = true) ∧ True) ∧ tt ∧ tt ∧ True) ∧
     (((((0 + 1 : Nat) : Int) = O.real.add .i64 ((0 : Nat) : Int) 1) ∧ ((l.length : Int) = (l.length : Int)) ∧ True ∧ (false = false) ∧ True ∧ ((0:Int) = 0) ∧ True) ∧ (((1:Nat) = 1 ∧ [(0:Nat)] = [0]) ∧ (soKey = soKey) ∧ (true = true) ∧ True) ∧ oCellsB kk True ∧ (l = l) ∧ True) ∧ Q none) := by kernel_rfl
theorem so_roundB_s (i : Nat) : T.ob noB Q (.B (.S (.S (.S (.S (.S .E))))) (.S .E)) ((run O.real Qv.tb I14 false [6] 300 (unloop soL0) (soJ .nils [] [.int .i64 kk, .mp 2] l (i+1))).bind (endT Qv.tb 64 Try.f95.results (soHs .nils [] [.int .i64 kk, .mp 2] l) (soJ1 .nils [] [.int .i64 kk, .mp 2] l (i+1)) soL1)) =
    ((O.real.lt (((i+1) : Nat) : Int) l.length = true → (O.real.inb (((i+1) : Nat) : Int) (O.real.ilen l)).p ∧ (O.real.inb (((i+1) : Nat) : Int) (O.real.ilen l)).p ∧ (soL1 = soL1) ∧
      (((True ∧ ((0:Int) = O.real.iget l (((i+1) : Nat) : Int) ∧ (⟨#[]⟩ : ByteArray) = ⟨#[]⟩ ∧ True) ∧ ((((i+1) : Nat) : Int) = (((i+1) : Nat) : Int)) ∧ ((((i+1) : Nat) : Int) = (((i+1) : Nat) : Int)) ∧ ((l.length : Int) = (l.length : Int)) ∧ True ∧ (false = false) ∧ True ∧ ((0:Int) = 0) ∧ True) ∧
        ((0:Int) = O.real.iget l (((i+1) : Nat) : Int) ∧ (⟨#[]⟩ : ByteArray) = ⟨#[]⟩ ∧ True) ∧ (((1:Nat) = 1 ∧ [(0:Nat)] = [0]) ∧ (soKey = soKey) ∧ (true = true) ∧ True) ∧ oCellsB kk True ∧ (l = l) ∧ True) ∧ Q none)) ∧
     (O.real.lt (((i+1) : Nat) : Int) l.length = false → Q (some (soE .nils [] [.int .i64 kk, .mp 2] l)))) := by kernel_rfl
theorem so_nextB_s (i : Nat) : T.ob noB Q (.S (.D 4 (.S (.S .E)))) ((run O.real Qv.tb I14 false [] 300 soL1 (soJ1 .nils [] [.int .i64 kk, .mp 2] l (i+1))).bind (endA Qv.tb 64 Try.f95.results (soHs .nils [] [.int .i64 kk, .mp 2] l) (soJ .nils [] [.int .i64 kk, .mp 2] l ((i+1)+1)) 0)) =
    ((tt ∧ tt ∧ tt ∧ gd (O.real.lt 0 (((i+1) : Nat) : Int)) True ∧ gd (O.real.lt 0 (((i+1) : Nat) : Int)) True ∧ gd (O.real.lt 0 (((i+1) : Nat) : Int)) True ∧
      ((softOk ((65, .cells [.int .i64 0, .str ⟨#[]⟩]) :: (64, seen (i+1)) :: soHs .nils [] [.int .i64 kk, .mp 2] l) ⟨.agg [.int .i64 (O.real.iget l (O.real.sub .i64 (((i+1) : Nat) : Int) 1)), .str ⟨#[]⟩], (soHs .nils [] [.int .i64 kk, .mp 2] l).map fun p => (p.1, some p.2), [], []⟩ = true) ∧
        (O.real.lt 0 (((i+1) : Nat) : Int) = true → (O.real.inb (O.real.sub .i64 (((i+1) : Nat) : Int) 1) (O.real.ilen l)).p ∧ (O.real.inb (O.real.sub .i64 (((i+1) : Nat) : Int) 1) (O.real.ilen l)).p ∧ True)) ∧
      gd (O.real.lt 0 (((i+1) : Nat) : Int)) True ∧ gd (O.real.lt 0 (((i+1) : Nat) : Int)) ((keyOk (.agg [.int .i64 (O.real.iget l (O.real.sub .i64 (((i+1) : Nat) : Int) 1)), .str ⟨#[]⟩]) = true ∧ keyOk soKey = true) ∧ True) ∧ tt ∧ tt ∧ True) ∧
     ((((((i+1) + 1 : Nat) : Int) = O.real.add .i64 (((i+1) : Nat) : Int) 1) ∧ ((l.length : Int) = (l.length : Int)) ∧ True ∧ (false = false) ∧ True ∧ ((0:Int) = 0) ∧ True) ∧ (((1:Nat) = 1 ∧ [(0:Nat)] = [0]) ∧ (soKey = soKey) ∧ (true = true) ∧ True) ∧ oCellsB kk True ∧ (l = l) ∧ True) ∧ Q none) := by kernel_rfl
end

section
variable (kk : Int) (l : List Int) (Q : Option Eff → Prop)
abbrev oCellsC (p : Prop) : Prop := ((1:Int) = 1) ∧ True ∧ True ∧ True ∧ (kk = kk) ∧ True ∧ p
theorem so_startC : T.ob noB Q (.D 1 (.S (.S (.S .E)))) ((run O.real Qv.tb I14 false [] 300 [.code (bodyOf Try.f95)] (so0 (.own 2) [(2, .arr 9 (.s []))] [.int .i64 kk, .mp 3] l)).bind (endT Qv.tb 64 Try.f95.results (soHs (.own 2) [(2, .arr 9 (.s []))] [.int .i64 kk, .mp 3] l) (soJ (.own 2) [(2, .arr 9 (.s []))] [.int .i64 kk, .mp 3] l 0) soL0)) =
    ((soL0 = soL0) ∧ (((((0:Int) = 0) ∧ ((l.length : Int) = O.real.add .i64 (O.real.ilen l) 0) ∧ True ∧ (false = false) ∧ True ∧ ((0:Int) = 0) ∧ True) ∧ (((0:Nat) = 0 ∧ ([]:List Nat) = []) ∧ True) ∧ oCellsC kk True ∧ (l = l) ∧ ((([] : List ByteArray) = []) ∧ True)) ∧ Q none)) := by kernel_rfl
theorem so_roundC_z  : T.ob noB Q (.B (.S (.S (.S (.S (.S .E))))) (.S .E)) ((run O.real Qv.tb I14 false [6] 300 (unloop soL0) (soJ (.own 2) [(2, .arr 9 (.s []))] [.int .i64 kk, .mp 3] l 0)).bind (endT Qv.tb 64 Try.f95.results (soHs (.own 2) [(2, .arr 9 (.s []))] [.int .i64 kk, .mp 3] l) (soJ1 (.own 2) [(2, .arr 9 (.s []))] [.int .i64 kk, .mp 3] l 0) soL1)) =
    ((O.real.lt ((0 : Nat) : Int) l.length = true → (O.real.inb ((0 : Nat) : Int) (O.real.ilen l)).p ∧ (O.real.inb ((0 : Nat) : Int) (O.real.ilen l)).p ∧ (soL1 = soL1) ∧
      (((True ∧ ((0:Int) = O.real.iget l ((0 : Nat) : Int) ∧ (⟨#[]⟩ : ByteArray) = ⟨#[]⟩ ∧ True) ∧ (((0 : Nat) : Int) = ((0 : Nat) : Int)) ∧ (((0 : Nat) : Int) = ((0 : Nat) : Int)) ∧ ((l.length : Int) = (l.length : Int)) ∧ True ∧ (false = false) ∧ True ∧ ((0:Int) = 0) ∧ True) ∧
        ((0:Int) = O.real.iget l ((0 : Nat) : Int) ∧ (⟨#[]⟩ : ByteArray) = ⟨#[]⟩ ∧ True) ∧ (((0:Nat) = 0 ∧ ([]:List Nat) = []) ∧ True) ∧ oCellsC kk True ∧ (l = l) ∧ ((([] : List ByteArray) = []) ∧ True)) ∧ Q none)) ∧
     (O.real.lt ((0 : Nat) : Int) l.length = false → Q (some (soE (.own 2) [(2, .arr 9 (.s []))] [.int .i64 kk, .mp 3] l)))) := by kernel_rfl
theorem so_nextC_z  : T.ob noB Q (.S (.D 4 (.S (.S .E)))) ((run O.real Qv.tb I14 false [] 300 soL1 (soJ1 (.own 2) [(2, .arr 9 (.s []))] [.int .i64 kk, .mp 3] l 0)).bind (endA Qv.tb 64 Try.f95.results (soHs (.own 2) [(2, .arr 9 (.s []))] [.int .i64 kk, .mp 3] l) (soJ (.own 2) [(2, .arr 9 (.s []))] [.int .i64 kk, .mp 3] l (0+1)) 0)) =
    ((tt ∧ tt ∧ tt ∧ gd (O.real.lt 0 ((0 : Nat) : Int)) True ∧ gd (O.real.lt 0 ((0 : Nat) : Int)) True ∧ gd (O.real.lt 0 ((0 : Nat) : Int)) True ∧
      ((softOk ((65, .cells [.int .i64 0, .str ⟨#[]⟩]) :: (64, seen 0) :: soHs (.own 2) [(2, .arr 9 (.s []))] [.int .i64 kk, .mp 3] l) ⟨.agg [.int .i64 (O.real.iget l (O.real.sub .i64 ((0 : Nat) : Int) 1)), .str ⟨#[]⟩], (soHs (.own 2) [(2, .arr 9 (.s []))] [.int .i64 kk, .mp 3] l).map fun p => (p.1, some p.2), [], []⟩ = true) ∧
        (O.real.lt 0 ((0 : Nat) : Int) = true → (O.real.inb (O.real.sub .i64 ((0 : Nat) : Int) 1) (O.real.ilen l)).p ∧ (O.real.inb (O.real.sub .i64 ((0 : Nat) : Int) 1) (O.real.ilen l)).p ∧ True)) ∧
      gd (O.real.lt 0 ((0 : Nat) : Int)) True ∧ gd (O.real.lt 0 ((0 : Nat) : Int)) ((keyOk (.agg [.int .i64 (O.real.iget l (O.real.sub .i64 ((0 : Nat) : Int) 1)), .str ⟨#[]⟩]) = true ∧ keyOk soKey = true) ∧ True) ∧ tt ∧ tt ∧ True) ∧
     (((((0 + 1 : Nat) : Int) = O.real.add .i64 ((0 : Nat) : Int) 1) ∧ ((l.length : Int) = (l.length : Int)) ∧ True ∧ (false = false) ∧ True ∧ ((0:Int) = 0) ∧ True) ∧ (((1:Nat) = 1 ∧ [(0:Nat)] = [0]) ∧ (soKey = soKey) ∧ (true = true) ∧ True) ∧ oCellsC kk True ∧ (l = l) ∧ ((([] : List ByteArray) = []) ∧ True)) ∧ Q none) := by kernel_rfl
theorem so_roundC_s (i : Nat) : T.ob noB Q (.B (.S (.S (.S (.S (.S .E))))) (.S .E)) ((run O.real Qv.tb I14 false [6] 300 (unloop soL0) (soJ (.own 2) [(2, .arr 9 (.s []))] [.int .i64 kk, .mp 3] l (i+1))).bind (endT Qv.tb 64 Try.f95.results (soHs (.own 2) [(2, .arr 9 (.s []))] [.int .i64 kk, .mp 3] l) (soJ1 (.own 2) [(2, .arr 9 (.s []))] [.int .i64 kk, .mp 3] l (i+1)) soL1)) =
    ((O.real.lt (((i+1) : Nat) : Int) l.length = true → (O.real.inb (((i+1) : Nat) : Int) (O.real.ilen l)).p ∧ (O.real.inb (((i+1) : Nat) : Int) (O.real.ilen l)).p ∧ (soL1 = soL1) ∧
      (((True ∧ ((0:Int) = O.real.iget l (((i+1) : Nat) : Int) ∧ (⟨#[]⟩ : ByteArray) = ⟨#[]⟩ ∧ True) ∧ ((((i+1) : Nat) : Int) = (((i+1) : Nat) : Int)) ∧ ((((i+1) : Nat) : Int) = (((i+1) : Nat) : Int)) ∧ ((l.length : Int) = (l.length : Int)) ∧ True ∧ (false = false) ∧ True ∧ ((0:Int) = 0) ∧ True) ∧
        ((0:Int) = O.real.iget l (((i+1) : Nat) : Int) ∧ (⟨#[]⟩ : ByteArray) = ⟨#[]⟩ ∧ True) ∧ (((1:Nat) = 1 ∧ [(0:Nat)] = [0]) ∧ (soKey = soKey) ∧ (true = true) ∧ True) ∧ oCellsC kk True ∧ (l = l) ∧ ((([] : List ByteArray) = []) ∧ True)) ∧ Q none)) ∧
     (O.real.lt (((i+1) : Nat) : Int) l.length = false → Q (some (soE (.own 2) [(2, .arr 9 (.s []))] [.int .i64 kk, .mp 3] l)))) := by kernel_rfl
theorem so_nextC_s (i : Nat) : T.ob noB Q (.S (.D 4 (.S (.S .E)))) ((run O.real Qv.tb I14 false [] 300 soL1 (soJ1 (.own 2) [(2, .arr 9 (.s []))] [.int .i64 kk, .mp 3] l (i+1))).bind (endA Qv.tb 64 Try.f95.results (soHs (.own 2) [(2, .arr 9 (.s []))] [.int .i64 kk, .mp 3] l) (soJ (.own 2) [(2, .arr 9 (.s []))] [.int .i64 kk, .mp 3] l ((i+1)+1)) 0)) =
    ((tt ∧ tt ∧ tt ∧ gd (O.real.lt 0 (((i+1) : Nat) : Int)) True ∧ gd (O.real.lt 0 (((i+1) : Nat) : Int)) True ∧ gd (O.real.lt 0 (((i+1) : Nat) : Int)) True ∧
      ((softOk ((65, .cells [.int .i64 0, .str ⟨#[]⟩]) :: (64, seen (i+1)) :: soHs (.own 2) [(2, .arr 9 (.s []))] [.int .i64 kk, .mp 3] l) ⟨.agg [.int .i64 (O.real.iget l (O.real.sub .i64 (((i+1) : Nat) : Int) 1)), .str ⟨#[]⟩], (soHs (.own 2) [(2, .arr 9 (.s []))] [.int .i64 kk, .mp 3] l).map fun p => (p.1, some p.2), [], []⟩ = true) ∧
        (O.real.lt 0 (((i+1) : Nat) : Int) = true → (O.real.inb (O.real.sub .i64 (((i+1) : Nat) : Int) 1) (O.real.ilen l)).p ∧ (O.real.inb (O.real.sub .i64 (((i+1) : Nat) : Int) 1) (O.real.ilen l)).p ∧ True)) ∧
      gd (O.real.lt 0 (((i+1) : Nat) : Int)) True ∧ gd (O.real.lt 0 (((i+1) : Nat) : Int)) ((keyOk (.agg [.int .i64 (O.real.iget l (O.real.sub .i64 (((i+1) : Nat) : Int) 1)), .str ⟨#[]⟩]) = true ∧ keyOk soKey = true) ∧ True) ∧ tt ∧ tt ∧ True) ∧
     ((((((i+1) + 1 : Nat) : Int) = O.real.add .i64 (((i+1) : Nat) : Int) 1) ∧ ((l.length : Int) = (l.length : Int)) ∧ True ∧ (false = false) ∧ True ∧ ((0:Int) = 0) ∧ True) ∧ (((1:Nat) = 1 ∧ [(0:Nat)] = [0]) ∧ (soKey = soKey) ∧ (true = true) ∧ True) ∧ oCellsC kk True ∧ (l = l) ∧ ((([] : List ByteArray) = []) ∧ True)) ∧ Q none) := by kernel_rfl
end
section
variable (l : List Int) (Q : Option Eff → Prop)
theorem fi_startA : T.ob noB Q (.D 2 (.S (.S (.S .E)))) ((run O.real Qv.tb I14 false [] 300 [.code (bodyOf Try.f92)] (fi0 .nils [] .nilm l)).bind (endT Qv.tb 64 Try.f92.results (fiHs .nils [] .nilm l) (fiJ .nils [] l 0) fiL0)) =
    ((fiL0 = fiL0) ∧ (((((0:Int) = 0) ∧ ((l.length : Int) = O.real.add .i64 (O.real.ilen l) 0) ∧ True ∧ True) ∧ fiC ∧ (l = l) ∧ (((0:Nat) = 0 ∧ ([]:List Nat) = []) ∧ True) ∧ True) ∧ Q none)) := by kernel_rfl
theorem fi_roundA_z  : T.ob noB Q (.B (.S (.S (.S (.S (.S .E))))) (.S .E)) ((run O.real Qv.tb I14 false [7] 300 (unloop fiL0) (fiJ .nils [] l 0)).bind (endT Qv.tb 64 Try.f92.results (fiHs .nils [] .nilm l) (fiJ1 .nils [] l 0) fiL1)) =
    ((O.real.lt ((0 : Nat) : Int) l.length = true → (O.real.inb ((0 : Nat) : Int) (O.real.ilen l)).p ∧ (O.real.inb ((0 : Nat) : Int) (O.real.ilen l)).p ∧ (fiL1 = fiL1) ∧
      (((True ∧ (((0 : Nat) : Int) = ((0 : Nat) : Int)) ∧ (((0 : Nat) : Int) = ((0 : Nat) : Int)) ∧ ((l.length : Int) = (l.length : Int)) ∧ True ∧ True) ∧
        ((0:Int) = O.real.iget l ((0 : Nat) : Int) ∧ (⟨#[]⟩ : ByteArray) = ⟨#[]⟩ ∧ True) ∧ fiC ∧ (l = l) ∧ (((0:Nat) = 0 ∧ ([]:List Nat) = []) ∧ True) ∧ True) ∧ Q none)) ∧
     (O.real.lt ((0 : Nat) : Int) l.length = false → Q (some (fiE .nils [] l 0)))) := by kernel_rfl
theorem fi_nextA_z  : T.ob noB Q (.D 1 (.S (.S .E))) ((run O.real Qv.tb I14 false [] 300 fiL1 (fiJ1 .nils [] l 0)).bind (endA Qv.tb 64 Try.f92.results (fiHs .nils [] .nilm l) (fiJ .nils [] l (0+1)) 0)) =
    (
     (((((0 + 1 : Nat) : Int) = O.real.add .i64 ((0 : Nat) : Int) 1) ∧ ((l.length : Int) = (l.length : Int)) ∧ True ∧ True) ∧ fiC ∧ (l = l) ∧ (((1:Nat) = 1 ∧ [(0:Nat)] = [0]) ∧ (soKey = soKey) ∧ True ∧ True) ∧ (rng (0 + 1) = [((0 : Nat) : Int)]) ∧ True) ∧ Q none) := by kernel_rfl
theorem fi_roundA_s (i : Nat) : T.ob noB Q (.B (.S (.S (.S (.S (.S .E))))) (.S .E)) ((run O.real Qv.tb I14 false [7] 300 (unloop fiL0) (fiJ .nils [] l (i+1))).bind (endT Qv.tb 64 Try.f92.results (fiHs .nils [] .nilm l) (fiJ1 .nils [] l (i+1)) fiL1)) =
    ((O.real.lt (((i+1) : Nat) : Int) l.length = true → (O.real.inb (((i+1) : Nat) : Int) (O.real.ilen l)).p ∧ (O.real.inb (((i+1) : Nat) : Int) (O.real.ilen l)).p ∧ (fiL1 = fiL1) ∧
      (((True ∧ ((((i+1) : Nat) : Int) = (((i+1) : Nat) : Int)) ∧ ((((i+1) : Nat) : Int) = (((i+1) : Nat) : Int)) ∧ ((l.length : Int) = (l.length : Int)) ∧ True ∧ True) ∧
        ((0:Int) = O.real.iget l (((i+1) : Nat) : Int) ∧ (⟨#[]⟩ : ByteArray) = ⟨#[]⟩ ∧ True) ∧ fiC ∧ (l = l) ∧ (((1:Nat) = 1 ∧ [(0:Nat)] = [0]) ∧ (soKey = soKey) ∧ True ∧ True) ∧ (rng (i + 1) = rng (i + 1)) ∧ True) ∧ Q none)) ∧
     (O.real.lt (((i+1) : Nat) : Int) l.length = false → Q (some (fiE .nils [] l (i+1))))) := by kernel_rfl
theorem fi_nextA_s (i : Nat) : T.ob noB Q (.S (.S (.S .E))) ((run O.real Qv.tb I14 false [] 300 fiL1 (fiJ1 .nils [] l (i+1))).bind (endA Qv.tb 64 Try.f92.results (fiHs .nils [] .nilm l) (fiJ .nils [] l ((i+1)+1)) 0)) =
    ((tt ∧ tt ∧ tt ∧ tt ∧ tt ∧ tt ∧ tt ∧ ((true = true) ∧ ((keyOk soKey = true) ∧ (true = true)) ∧ True) ∧ tt ∧ ((true = true) ∧ (O.real.fit (O.real.ilen (rng (i + 1))) (O.real.ilen [((i + 1 : Nat) : Int)]) 8).p ∧ True) ∧ tt ∧ tt ∧ True) ∧
     ((((((i+1) + 1 : Nat) : Int) = O.real.add .i64 (((i+1) : Nat) : Int) 1) ∧ ((l.length : Int) = (l.length : Int)) ∧ True ∧ True) ∧ fiC ∧ (l = l) ∧ (((1:Nat) = 1 ∧ [(0:Nat)] = [0]) ∧ (soKey = soKey) ∧ True ∧ True) ∧ (rng ((i+1) + 1) = O.real.iapp (rng (i + 1)) [((i + 1 : Nat) : Int)]) ∧ True) ∧ Q none) := by kernel_rfl
theorem fi_startB : T.ob noB Q (.D 2 (.S (.S (.S .E)))) ((run O.real Qv.tb I14 false [] 300 [.code (bodyOf Try.f92)] (fi0 .nils [] (.mp 2) l)).bind (endT Qv.tb 64 Try.f92.results (fiHs .nils [] (.mp 2) l) (fiJ .nils [] l 0) fiL0)) =
    ((fiL0 = fiL0) ∧ (((((0:Int) = 0) ∧ ((l.length : Int) = O.real.add .i64 (O.real.ilen l) 0) ∧ True ∧ True) ∧ fiC ∧ (l = l) ∧ (((0:Nat) = 0 ∧ ([]:List Nat) = []) ∧ True) ∧ True) ∧ Q none)) := by kernel_rfl
theorem fi_roundB_z  : T.ob noB Q (.B (.S (.S (.S (.S (.S .E))))) (.S .E)) ((run O.real Qv.tb I14 false [7] 300 (unloop fiL0) (fiJ .nils [] l 0)).bind (endT Qv.tb 64 Try.f92.results (fiHs .nils [] (.mp 2) l) (fiJ1 .nils [] l 0) fiL1)) =
    ((O.real.lt ((0 : Nat) : Int) l.length = true → (O.real.inb ((0 : Nat) : Int) (O.real.ilen l)).p ∧ (O.real.inb ((0 : Nat) : Int) (O.real.ilen l)).p ∧ (fiL1 = fiL1) ∧
      (((True ∧ (((0 : Nat) : Int) = ((0 : Nat) : Int)) ∧ (((0 : Nat) : Int) = ((0 : Nat) : Int)) ∧ ((l.length : Int) = (l.length : Int)) ∧ True ∧ True) ∧
        ((0:Int) = O.real.iget l ((0 : Nat) : Int) ∧ (⟨#[]⟩ : ByteArray) = ⟨#[]⟩ ∧ True) ∧ fiC ∧ (l = l) ∧ (((0:Nat) = 0 ∧ ([]:List Nat) = []) ∧ True) ∧ True) ∧ Q none)) ∧
     (O.real.lt ((0 : Nat) : Int) l.length = false → Q (some (fiE .nils [] l 0)))) := by kernel_rfl
theorem fi_nextB_z  : T.ob noB Q (.D 1 (.S (.S .E))) ((run O.real Qv.tb I14 false [] 300 fiL1 (fiJ1 .nils [] l 0)).bind (endA Qv.tb 64 Try.f92.results (fiHs .nils [] (.mp 2) l) (fiJ .nils [] l (0+1)) 0)) =
    (
     (((((0 + 1 : Nat) : Int) = O.real.add .i64 ((0 : Nat) : Int) 1) ∧ ((l.length : Int) = (l.length : Int)) ∧ True ∧ True) ∧ fiC ∧ (l = l) ∧ (((1:Nat) = 1 ∧ [(0:Nat)] = [0]) ∧ (soKey = soKey) ∧ True ∧ True) ∧ (rng (0 + 1) = [((0 : Nat) : Int)]) ∧ True) ∧ Q none) := by kernel_rfl
theorem fi_roundB_s (i : Nat) : T.ob noB Q (.B (.S (.S (.S (.S (.S .E))))) (.S .E)) ((run O.real Qv.tb I14 false [7] 300 (unloop fiL0) (fiJ .nils [] l (i+1))).bind (endT Qv.tb 64 Try.f92.results (fiHs .nils [] (.mp 2) l) (fiJ1 .nils [] l (i+1)) fiL1)) =
    ((O.real.lt (((i+1) : Nat) : Int) l.length = true → (O.real.inb (((i+1) : Nat) : Int) (O.real.ilen l)).p ∧ (O.real.inb (((i+1) : Nat) : Int) (O.real.ilen l)).p ∧ (fiL1 = fiL1) ∧
      (((True ∧ ((((i+1) : Nat) : Int) = (((i+1) : Nat) : Int)) ∧ ((((i+1) : Nat) : Int) = (((i+1) : Nat) : Int)) ∧ ((l.length : Int) = (l.length : Int)) ∧ True ∧ True) ∧
        ((0:Int) = O.real.iget l (((i+1) : Nat) : Int) ∧ (⟨#[]⟩ : ByteArray) = ⟨#[]⟩ ∧ True) ∧ fiC ∧ (l = l) ∧ (((1:Nat) = 1 ∧ [(0:Nat)] = [0]) ∧ (soKey = soKey) ∧ True ∧ True) ∧ (rng (i + 1) = rng (i + 1)) ∧ True) ∧ Q none)) ∧
     (O.real.lt (((i+1) : Nat) : Int) l.length = false → Q (some (fiE .nils [] l (i+1))))) := by kernel_rfl
theorem fi_nextB_s (i : Nat) : T.ob noB Q (.S (.S (.S .E))) ((run O.real Qv.tb I14 false [] 300 fiL1 (fiJ1 .nils [] l (i+1))).bind (endA Qv.tb 64 Try.f92.results (fiHs .nils [] (.mp 2) l) (fiJ .nils [] l ((i+1)+1)) 0)) =
    ((tt ∧ tt ∧ tt ∧ tt ∧ tt ∧ tt ∧ tt ∧ ((true = true) ∧ ((keyOk soKey = true) ∧ (true = true)) ∧ True) ∧ tt ∧ ((true = true) ∧ (O.real.fit (O.real.ilen (rng (i + 1))) (O.real.ilen [((i + 1 : Nat) : Int)]) 8).p ∧ True) ∧ tt ∧ tt ∧ True) ∧
     ((((((i+1) + 1 : Nat) : Int) = O.real.add .i64 (((i+1) : Nat) : Int) 1) ∧ ((l.length : Int) = (l.length : Int)) ∧ True ∧ True) ∧ fiC ∧ (l = l) ∧ (((1:Nat) = 1 ∧ [(0:Nat)] = [0]) ∧ (soKey = soKey) ∧ True ∧ True) ∧ (rng ((i+1) + 1) = O.real.iapp (rng (i + 1)) [((i + 1 : Nat) : Int)]) ∧ True) ∧ Q none) := by kernel_rfl
theorem fi_startC : T.ob noB Q (.D 2 (.S (.S (.S .E)))) ((run O.real Qv.tb I14 false [] 300 [.code (bodyOf Try.f92)] (fi0 (.own 2) [(2, .arr 9 (.s []))] (.mp 3) l)).bind (endT Qv.tb 64 Try.f92.results (fiHs (.own 2) [(2, .arr 9 (.s []))] (.mp 3) l) (fiJ (.own 2) [(2, .arr 9 (.s []))] l 0) fiL0)) =
    ((fiL0 = fiL0) ∧ (((((0:Int) = 0) ∧ ((l.length : Int) = O.real.add .i64 (O.real.ilen l) 0) ∧ True ∧ True) ∧ fiC ∧ (l = l) ∧ (([] : List ByteArray) = []) ∧ (((0:Nat) = 0 ∧ ([]:List Nat) = []) ∧ True) ∧ True) ∧ Q none)) := by kernel_rfl
theorem fi_roundC_z  : T.ob noB Q (.B (.S (.S (.S (.S (.S .E))))) (.S .E)) ((run O.real Qv.tb I14 false [7] 300 (unloop fiL0) (fiJ (.own 2) [(2, .arr 9 (.s []))] l 0)).bind (endT Qv.tb 64 Try.f92.results (fiHs (.own 2) [(2, .arr 9 (.s []))] (.mp 3) l) (fiJ1 (.own 2) [(2, .arr 9 (.s []))] l 0) fiL1)) =
    ((O.real.lt ((0 : Nat) : Int) l.length = true → (O.real.inb ((0 : Nat) : Int) (O.real.ilen l)).p ∧ (O.real.inb ((0 : Nat) : Int) (O.real.ilen l)).p ∧ (fiL1 = fiL1) ∧
      (((True ∧ (((0 : Nat) : Int) = ((0 : Nat) : Int)) ∧ (((0 : Nat) : Int) = ((0 : Nat) : Int)) ∧ ((l.length : Int) = (l.length : Int)) ∧ True ∧ True) ∧
        ((0:Int) = O.real.iget l ((0 : Nat) : Int) ∧ (⟨#[]⟩ : ByteArray) = ⟨#[]⟩ ∧ True) ∧ fiC ∧ (l = l) ∧ (([] : List ByteArray) = []) ∧ (((0:Nat) = 0 ∧ ([]:List Nat) = []) ∧ True) ∧ True) ∧ Q none)) ∧
     (O.real.lt ((0 : Nat) : Int) l.length = false → Q (some (fiE (.own 2) [(2, .arr 9 (.s []))] l 0)))) := by kernel_rfl
theorem fi_nextC_z  : T.ob noB Q (.D 1 (.S (.S .E))) ((run O.real Qv.tb I14 false [] 300 fiL1 (fiJ1 (.own 2) [(2, .arr 9 (.s []))] l 0)).bind (endA Qv.tb 64 Try.f92.results (fiHs (.own 2) [(2, .arr 9 (.s []))] (.mp 3) l) (fiJ (.own 2) [(2, .arr 9 (.s []))] l (0+1)) 0)) =
    (
     (((((0 + 1 : Nat) : Int) = O.real.add .i64 ((0 : Nat) : Int) 1) ∧ ((l.length : Int) = (l.length : Int)) ∧ True ∧ True) ∧ fiC ∧ (l = l) ∧ (([] : List ByteArray) = []) ∧ (((1:Nat) = 1 ∧ [(0:Nat)] = [0]) ∧ (soKey = soKey) ∧ True ∧ True) ∧ (rng (0 + 1) = [((0 : Nat) : Int)]) ∧ True) ∧ Q none) := by kernel_rfl
theorem fi_roundC_s (i : Nat) : T.ob noB Q (.B (.S (.S (.S (.S (.S .E))))) (.S .E)) ((run O.real Qv.tb I14 false [7] 300 (unloop fiL0) (fiJ (.own 2) [(2, .arr 9 (.s []))] l (i+1))).bind (endT Qv.tb 64 Try.f92.results (fiHs (.own 2) [(2, .arr 9 (.s []))] (.mp 3) l) (fiJ1 (.own 2) [(2, .arr 9 (.s []))] l (i+1)) fiL1)) =
    ((O.real.lt (((i+1) : Nat) : Int) l.length = true → (O.real.inb (((i+1) : Nat) : Int) (O.real.ilen l)).p ∧ (O.real.inb (((i+1) : Nat) : Int) (O.real.ilen l)).p ∧ (fiL1 = fiL1) ∧
      (((True ∧ ((((i+1) : Nat) : Int) = (((i+1) : Nat) : Int)) ∧ ((((i+1) : Nat) : Int) = (((i+1) : Nat) : Int)) ∧ ((l.length : Int) = (l.length : Int)) ∧ True ∧ True) ∧
        ((0:Int) = O.real.iget l (((i+1) : Nat) : Int) ∧ (⟨#[]⟩ : ByteArray) = ⟨#[]⟩ ∧ True) ∧ fiC ∧ (l = l) ∧ (([] : List ByteArray) = []) ∧ (((1:Nat) = 1 ∧ [(0:Nat)] = [0]) ∧ (soKey = soKey) ∧ True ∧ True) ∧ (rng (i + 1) = rng (i + 1)) ∧ True) ∧ Q none)) ∧
     (O.real.lt (((i+1) : Nat) : Int) l.length = false → Q (some (fiE (.own 2) [(2, .arr 9 (.s []))] l (i+1))))) := by kernel_rfl
theorem fi_nextC_s (i : Nat) : T.ob noB Q (.S (.S (.S .E))) ((run O.real Qv.tb I14 false [] 300 fiL1 (fiJ1 (.own 2) [(2, .arr 9 (.s []))] l (i+1))).bind (endA Qv.tb 64 Try.f92.results (fiHs (.own 2) [(2, .arr 9 (.s []))] (.mp 3) l) (fiJ (.own 2) [(2, .arr 9 (.s []))] l ((i+1)+1)) 0)) =
    ((tt ∧ tt ∧ tt ∧ tt ∧ tt ∧ tt ∧ tt ∧ ((true = true) ∧ ((keyOk soKey = true) ∧ (true = true)) ∧ True) ∧ tt ∧ ((true = true) ∧ (O.real.fit (O.real.ilen (rng (i + 1))) (O.real.ilen [((i + 1 : Nat) : Int)]) 8).p ∧ True) ∧ tt ∧ tt ∧ True) ∧
     ((((((i+1) + 1 : Nat) : Int) = O.real.add .i64 (((i+1) : Nat) : Int) 1) ∧ ((l.length : Int) = (l.length : Int)) ∧ True ∧ True) ∧ fiC ∧ (l = l) ∧ (([] : List ByteArray) = []) ∧ (((1:Nat) = 1 ∧ [(0:Nat)] = [0]) ∧ (soKey = soKey) ∧ True ∧ True) ∧ (rng ((i+1) + 1) = O.real.iapp (rng (i + 1)) [((i + 1 : Nat) : Int)]) ∧ True) ∧ Q none) := by kernel_rfl
end
attribute [local irreducible] Go.Qv.run Go.Qv.inl Go.Qv.endT Go.Qv.endA Go.Qv.T.ob Go.Qv.T.bind Go.Qv.AW soL0 soL1 fiL0 fiL1 Go.Qv.bodyOf

theorem so_softA (l : List Int) (x : AV) (s : HObj) : softOk ((65, .cells [.int .i64 0, .str ⟨#[]⟩]) :: (64, s) :: soHs .nils [] [] l) ⟨x, (soHs .nils [] [] l).map fun p => (p.1, some p.2), [], []⟩ = true := by
  have h : eqL eqI l l = true := eqL_refl eqI_refl l
  simp [softOk, soHs, soft1, lk, sameOb, eqL, eqA, eqI, eqS, h, Nat.beq]
theorem so_goesA {l : List Int} (h0 : ∀ x ∈ l, x = 0) (hn : l.length ≤ 1099511627776) {β : Nat → Option Value} {F : Nat → Prop} {w : World} {cs : Array Value} {R : Value → World → Prop} (hp : Pre (soHs .nils [] [] l) 64 β F w) (hlen : cs.size = 2)
    (hvr : ∀ (j : Nat) (v : Value) (x : AV), cs[j]? = some v → [.ptr 0 0, AV.int .i64 0][j]? = some x → VR β F w v x) (hR : ∀ v' β' F' w', Post (soHs .nils [] [] l) 64 (soE .nils [] [] l) β F w v' β' F' w' → R v' w') : Goes Try.prog 95 cs w R := by
  have hlt : ∀ p ∈ soHs .nils [] [] l, p.1 < 64 := by intro p hp; simp [soHs] at hp; rcases hp with rfl | rfl <;> simp
  have ig := iget0 l h0
  refine walk_goes fnsOk fn95 (xs := [.ptr 0 0, .int .i64 0]) hp hlen hvr (ys := [.ptr 0 0, .int .i64 0]) (hs' := soHs .nils [] [] l) (by kernel_rfl) (by kernel_rfl) (by kernel_rfl) ?_
  refine piece mix tbOk I14_ok hp hlt false [] 300 (soJ .nils [] [] l 0) soL0 (ob_of noB_ok _ _ (so_startA  l _) ⟨rfl, ⟨⟨rfl, ?_, trivial, rfl, trivial, rfl, trivial⟩, ⟨⟨rfl, rfl⟩, trivial⟩, ⟨rfl, trivial, trivial, trivial, trivial⟩, rfl, trivial⟩, ?_⟩)
  · exact (add0 _ hn).symm
  show AW _ _ _ _ soL0 _
  rw [soL0_eq]
  refine loop_AW (k := 0) soL0_again (soJ .nils [] [] l) (fun i => l.length - i) (fun i => i ≤ l.length) (fun i hi H' hH hend => ?_) 0 (Nat.zero_le _)
  rw [← unloop_soL0]
  cases i with
  | zero =>
    refine piece mix tbOk I14_ok hp hlt false [6] 300 (soJ1 .nils [] [] l 0) soL1 (ob_of noB_ok _ _ (so_roundA_z  l _) ⟨fun hc => ?_, fun hc => hR⟩)
    have hc : 0 < l.length := by rw [lt0] at hc; exact of_decide_eq_true hc
    have hb := inb_of 0 _ l rfl hc
    refine ⟨hb, hb, rfl, ⟨⟨trivial, ⟨(ig _).symm, rfl, trivial⟩, rfl, rfl, rfl, trivial, rfl, trivial, rfl, trivial⟩, ⟨(ig _).symm, rfl, trivial⟩, ⟨⟨rfl, rfl⟩, trivial⟩, ⟨rfl, trivial, trivial, trivial, trivial⟩, rfl, trivial⟩, ?_⟩
    refine pieceA mix tbOk I14_ok hp hlt false [] 300 (soJ .nils [] [] l (0 + 1)) 0 (ob_of noB_ok _ _ (so_nextA_z  l _) ⟨?_, ⟨⟨(add1 0 _ hn hc).symm, rfl, trivial, rfl, trivial, rfl, trivial⟩, ⟨⟨rfl, rfl⟩, rfl, rfl, trivial⟩, ⟨rfl, trivial, trivial, trivial, trivial⟩, rfl, trivial⟩, hend (0 + 1) hc (by omega)⟩)
    have hz : O.real.lt 0 ((0 : Nat) : Int) = true → False := fun h => by have := lt0 0 0; rw [show ((0:Nat):Int) = 0 from rfl] at this h; rw [this] at h; simp at h
    exact ⟨⟨rfl, trivial⟩, ⟨rfl, trivial⟩, ⟨rfl, trivial⟩, ⟨rfl, fun _ => trivial⟩, ⟨rfl, fun _ => trivial⟩, ⟨rfl, fun _ => trivial⟩, ⟨so_softA  l _ _, fun h => (hz h).elim⟩, ⟨rfl, fun _ => trivial⟩, ⟨rfl, fun h => (hz h).elim⟩, ⟨rfl, trivial⟩, ⟨rfl, trivial⟩, trivial⟩
  | succ i =>
    refine piece mix tbOk I14_ok hp hlt false [6] 300 (soJ1 .nils [] [] l (i + 1)) soL1 (ob_of noB_ok _ _ (so_roundA_s  l _ i) ⟨fun hc => ?_, fun hc => hR⟩)
    have hc : i + 1 < l.length := by rw [lt0] at hc; exact of_decide_eq_true hc
    have hb := inb_of (i + 1) _ l rfl hc
    refine ⟨hb, hb, rfl, ⟨⟨trivial, ⟨(ig _).symm, rfl, trivial⟩, rfl, rfl, rfl, trivial, rfl, trivial, rfl, trivial⟩, ⟨(ig _).symm, rfl, trivial⟩, ⟨⟨rfl, rfl⟩, rfl, rfl, trivial⟩, ⟨rfl, trivial, trivial, trivial, trivial⟩, rfl, trivial⟩, ?_⟩
    refine pieceA mix tbOk I14_ok hp hlt false [] 300 (soJ .nils [] [] l (i + 1 + 1)) 0 (ob_of noB_ok _ _ (so_nextA_s  l _ i) ⟨?_, ⟨⟨(add1 (i + 1) _ hn hc).symm, rfl, trivial, rfl, trivial, rfl, trivial⟩, ⟨⟨rfl, rfl⟩, rfl, rfl, trivial⟩, ⟨rfl, trivial, trivial, trivial, trivial⟩, rfl, trivial⟩, hend (i + 1 + 1) hc (by omega)⟩)
    have hs := sub1 i _ hn (Nat.le_of_lt hc)
    have hb' : (O.real.inb (O.real.sub .i64 ((i + 1 : Nat) : Int) 1) (O.real.ilen l)).p := by rw [hs]; exact inb_of i _ l rfl (by omega)
    have hk : keyOk (.agg [.int .i64 (O.real.iget l (O.real.sub .i64 ((i + 1 : Nat) : Int) 1)), .str ⟨#[]⟩]) = true := by rw [ig]; exact kind
    exact ⟨⟨rfl, trivial⟩, ⟨rfl, trivial⟩, ⟨rfl, trivial⟩, ⟨rfl, fun _ => trivial⟩, ⟨rfl, fun _ => trivial⟩, ⟨rfl, fun _ => trivial⟩, ⟨so_softA  l _ _, fun _ => ⟨hb', hb', trivial⟩⟩, ⟨rfl, fun _ => trivial⟩, ⟨rfl, fun _ => ⟨⟨hk, kind⟩, trivial⟩⟩, ⟨rfl, trivial⟩, ⟨rfl, trivial⟩, trivial⟩

theorem so_softB (kk : Int) (l : List Int) (x : AV) (s : HObj) : softOk ((65, .cells [.int .i64 0, .str ⟨#[]⟩]) :: (64, s) :: soHs .nils [] [.int .i64 kk, .mp 2] l) ⟨x, (soHs .nils [] [.int .i64 kk, .mp 2] l).map fun p => (p.1, some p.2), [], []⟩ = true := by
  have h : eqL eqI l l = true := eqL_refl eqI_refl l
  simp [softOk, soHs, soft1, lk, sameOb, eqL, eqA, eqI, eqS, h, Nat.beq]
theorem so_goesB (kk : Int) {l : List Int} (h0 : ∀ x ∈ l, x = 0) (hn : l.length ≤ 1099511627776) {β : Nat → Option Value} {F : Nat → Prop} {w : World} {cs : Array Value} {R : Value → World → Prop} (hp : Pre (soHs .nils [] [.int .i64 kk, .mp 2] l) 64 β F w) (hlen : cs.size = 2)
    (hvr : ∀ (j : Nat) (v : Value) (x : AV), cs[j]? = some v → [.ptr 0 0, AV.int .i64 0][j]? = some x → VR β F w v x) (hR : ∀ v' β' F' w', Post (soHs .nils [] [.int .i64 kk, .mp 2] l) 64 (soE .nils [] [.int .i64 kk, .mp 2] l) β F w v' β' F' w' → R v' w') : Goes Try.prog 95 cs w R := by
  have hlt : ∀ p ∈ soHs .nils [] [.int .i64 kk, .mp 2] l, p.1 < 64 := by intro p hp; simp [soHs] at hp; rcases hp with rfl | rfl <;> simp
  have ig := iget0 l h0
  refine walk_goes fnsOk fn95 (xs := [.ptr 0 0, .int .i64 0]) hp hlen hvr (ys := [.ptr 0 0, .int .i64 0]) (hs' := soHs .nils [] [.int .i64 kk, .mp 2] l) (by kernel_rfl) (by kernel_rfl) (by kernel_rfl) ?_
  refine piece mix tbOk I14_ok hp hlt false [] 300 (soJ .nils [] [.int .i64 kk, .mp 2] l 0) soL0 (ob_of noB_ok _ _ (so_startB kk l _) ⟨rfl, ⟨⟨rfl, ?_, trivial, rfl, trivial, rfl, trivial⟩, ⟨⟨rfl, rfl⟩, trivial⟩, ⟨rfl, trivial, trivial, trivial, rfl, trivial, trivial⟩, rfl, trivial⟩, ?_⟩)
  · exact (add0 _ hn).symm
  show AW _ _ _ _ soL0 _
  rw [soL0_eq]
  refine loop_AW (k := 0) soL0_again (soJ .nils [] [.int .i64 kk, .mp 2] l) (fun i => l.length - i) (fun i => i ≤ l.length) (fun i hi H' hH hend => ?_) 0 (Nat.zero_le _)
  rw [← unloop_soL0]
  cases i with
  | zero =>
    refine piece mix tbOk I14_ok hp hlt false [6] 300 (soJ1 .nils [] [.int .i64 kk, .mp 2] l 0) soL1 (ob_of noB_ok _ _ (so_roundB_z kk l _) ⟨fun hc => ?_, fun hc => hR⟩)
    have hc : 0 < l.length := by rw [lt0] at hc; exact of_decide_eq_true hc
    have hb := inb_of 0 _ l rfl hc
    refine ⟨hb, hb, rfl, ⟨⟨trivial, ⟨(ig _).symm, rfl, trivial⟩, rfl, rfl, rfl, trivial, rfl, trivial, rfl, trivial⟩, ⟨(ig _).symm, rfl, trivial⟩, ⟨⟨rfl, rfl⟩, trivial⟩, ⟨rfl, trivial, trivial, trivial, rfl, trivial, trivial⟩, rfl, trivial⟩, ?_⟩
    refine pieceA mix tbOk I14_ok hp hlt false [] 300 (soJ .nils [] [.int .i64 kk, .mp 2] l (0 + 1)) 0 (ob_of noB_ok _ _ (so_nextB_z kk l _) ⟨?_, ⟨⟨(add1 0 _ hn hc).symm, rfl, trivial, rfl, trivial, rfl, trivial⟩, ⟨⟨rfl, rfl⟩, rfl, rfl, trivial⟩, ⟨rfl, trivial, trivial, trivial, rfl, trivial, trivial⟩, rfl, trivial⟩, hend (0 + 1) hc (by omega)⟩)
    have hz : O.real.lt 0 ((0 : Nat) : Int) = true → False := fun h => by have := lt0 0 0; rw [show ((0:Nat):Int) = 0 from rfl] at this h; rw [this] at h; simp at h
    exact ⟨⟨rfl, trivial⟩, ⟨rfl, trivial⟩, ⟨rfl, trivial⟩, ⟨rfl, fun _ => trivial⟩, ⟨rfl, fun _ => trivial⟩, ⟨rfl, fun _ => trivial⟩, ⟨so_softB kk l _ _, fun h => (hz h).elim⟩, ⟨rfl, fun _ => trivial⟩, ⟨rfl, fun h => (hz h).elim⟩, ⟨rfl, trivial⟩, ⟨rfl, trivial⟩, trivial⟩
  | succ i =>
    refine piece mix tbOk I14_ok hp hlt false [6] 300 (soJ1 .nils [] [.int .i64 kk, .mp 2] l (i + 1)) soL1 (ob_of noB_ok _ _ (so_roundB_s kk l _ i) ⟨fun hc => ?_, fun hc => hR⟩)
    have hc : i + 1 < l.length := by rw [lt0] at hc; exact of_decide_eq_true hc
    have hb := inb_of (i + 1) _ l rfl hc
    refine ⟨hb, hb, rfl, ⟨⟨trivial, ⟨(ig _).symm, rfl, trivial⟩, rfl, rfl, rfl, trivial, rfl, trivial, rfl, trivial⟩, ⟨(ig _).symm, rfl, trivial⟩, ⟨⟨rfl, rfl⟩, rfl, rfl, trivial⟩, ⟨rfl, trivial, trivial, trivial, rfl, trivial, trivial⟩, rfl, trivial⟩, ?_⟩
    refine pieceA mix tbOk I14_ok hp hlt false [] 300 (soJ .nils [] [.int .i64 kk, .mp 2] l (i + 1 + 1)) 0 (ob_of noB_ok _ _ (so_nextB_s kk l _ i) ⟨?_, ⟨⟨(add1 (i + 1) _ hn hc).symm, rfl, trivial, rfl, trivial, rfl, trivial⟩, ⟨⟨rfl, rfl⟩, rfl, rfl, trivial⟩, ⟨rfl, trivial, trivial, trivial, rfl, trivial, trivial⟩, rfl, trivial⟩, hend (i + 1 + 1) hc (by omega)⟩)
    have hs := sub1 i _ hn (Nat.le_of_lt hc)
    have hb' : (O.real.inb (O.real.sub .i64 ((i + 1 : Nat) : Int) 1) (O.real.ilen l)).p := by rw [hs]; exact inb_of i _ l rfl (by omega)
    have hk : keyOk (.agg [.int .i64 (O.real.iget l (O.real.sub .i64 ((i + 1 : Nat) : Int) 1)), .str ⟨#[]⟩]) = true := by rw [ig]; exact kind
    exact ⟨⟨rfl, trivial⟩, ⟨rfl, trivial⟩, ⟨rfl, trivial⟩, ⟨rfl, fun _ => trivial⟩, ⟨rfl, fun _ => trivial⟩, ⟨rfl, fun _ => trivial⟩, ⟨so_softB kk l _ _, fun _ => ⟨hb', hb', trivial⟩⟩, ⟨rfl, fun _ => trivial⟩, ⟨rfl, fun _ => ⟨⟨hk, kind⟩, trivial⟩⟩, ⟨rfl, trivial⟩, ⟨rfl, trivial⟩, trivial⟩

theorem so_softC (kk : Int) (l : List Int) (x : AV) (s : HObj) : softOk ((65, .cells [.int .i64 0, .str ⟨#[]⟩]) :: (64, s) :: soHs (.own 2) [(2, .arr 9 (.s []))] [.int .i64 kk, .mp 3] l) ⟨x, (soHs (.own 2) [(2, .arr 9 (.s []))] [.int .i64 kk, .mp 3] l).map fun p => (p.1, some p.2), [], []⟩ = true := by
  have h : eqL eqI l l = true := eqL_refl eqI_refl l
  simp [softOk, soHs, soft1, lk, sameOb, eqL, eqA, eqI, eqS, h, Nat.beq]
theorem so_goesC (kk : Int) {l : List Int} (h0 : ∀ x ∈ l, x = 0) (hn : l.length ≤ 1099511627776) {β : Nat → Option Value} {F : Nat → Prop} {w : World} {cs : Array Value} {R : Value → World → Prop} (hp : Pre (soHs (.own 2) [(2, .arr 9 (.s []))] [.int .i64 kk, .mp 3] l) 64 β F w) (hlen : cs.size = 2)
    (hvr : ∀ (j : Nat) (v : Value) (x : AV), cs[j]? = some v → [.ptr 0 0, AV.int .i64 0][j]? = some x → VR β F w v x) (hR : ∀ v' β' F' w', Post (soHs (.own 2) [(2, .arr 9 (.s []))] [.int .i64 kk, .mp 3] l) 64 (soE (.own 2) [(2, .arr 9 (.s []))] [.int .i64 kk, .mp 3] l) β F w v' β' F' w' → R v' w') : Goes Try.prog 95 cs w R := by
  have hlt : ∀ p ∈ soHs (.own 2) [(2, .arr 9 (.s []))] [.int .i64 kk, .mp 3] l, p.1 < 64 := by intro p hp; simp [soHs] at hp; rcases hp with rfl | rfl | rfl <;> simp
  have ig := iget0 l h0
  refine walk_goes fnsOk fn95 (xs := [.ptr 0 0, .int .i64 0]) hp hlen hvr (ys := [.ptr 0 0, .int .i64 0]) (hs' := soHs (.own 2) [(2, .arr 9 (.s []))] [.int .i64 kk, .mp 3] l) (by kernel_rfl) (by kernel_rfl) (by kernel_rfl) ?_
  refine piece mix tbOk I14_ok hp hlt false [] 300 (soJ (.own 2) [(2, .arr 9 (.s []))] [.int .i64 kk, .mp 3] l 0) soL0 (ob_of noB_ok _ _ (so_startC kk l _) ⟨rfl, ⟨⟨rfl, ?_, trivial, rfl, trivial, rfl, trivial⟩, ⟨⟨rfl, rfl⟩, trivial⟩, ⟨rfl, trivial, trivial, trivial, rfl, trivial, trivial⟩, rfl, rfl, trivial⟩, ?_⟩)
  · exact (add0 _ hn).symm
  show AW _ _ _ _ soL0 _
  rw [soL0_eq]
  refine loop_AW (k := 0) soL0_again (soJ (.own 2) [(2, .arr 9 (.s []))] [.int .i64 kk, .mp 3] l) (fun i => l.length - i) (fun i => i ≤ l.length) (fun i hi H' hH hend => ?_) 0 (Nat.zero_le _)
  rw [← unloop_soL0]
  cases i with
  | zero =>
    refine piece mix tbOk I14_ok hp hlt false [6] 300 (soJ1 (.own 2) [(2, .arr 9 (.s []))] [.int .i64 kk, .mp 3] l 0) soL1 (ob_of noB_ok _ _ (so_roundC_z kk l _) ⟨fun hc => ?_, fun hc => hR⟩)
    have hc : 0 < l.length := by rw [lt0] at hc; exact of_decide_eq_true hc
    have hb := inb_of 0 _ l rfl hc
    refine ⟨hb, hb, rfl, ⟨⟨trivial, ⟨(ig _).symm, rfl, trivial⟩, rfl, rfl, rfl, trivial, rfl, trivial, rfl, trivial⟩, ⟨(ig _).symm, rfl, trivial⟩, ⟨⟨rfl, rfl⟩, trivial⟩, ⟨rfl, trivial, trivial, trivial, rfl, trivial, trivial⟩, rfl, rfl, trivial⟩, ?_⟩
    refine pieceA mix tbOk I14_ok hp hlt false [] 300 (soJ (.own 2) [(2, .arr 9 (.s []))] [.int .i64 kk, .mp 3] l (0 + 1)) 0 (ob_of noB_ok _ _ (so_nextC_z kk l _) ⟨?_, ⟨⟨(add1 0 _ hn hc).symm, rfl, trivial, rfl, trivial, rfl, trivial⟩, ⟨⟨rfl, rfl⟩, rfl, rfl, trivial⟩, ⟨rfl, trivial, trivial, trivial, rfl, trivial, trivial⟩, rfl, rfl, trivial⟩, hend (0 + 1) hc (by omega)⟩)
    have hz : O.real.lt 0 ((0 : Nat) : Int) = true → False := fun h => by have := lt0 0 0; rw [show ((0:Nat):Int) = 0 from rfl] at this h; rw [this] at h; simp at h
    exact ⟨⟨rfl, trivial⟩, ⟨rfl, trivial⟩, ⟨rfl, trivial⟩, ⟨rfl, fun _ => trivial⟩, ⟨rfl, fun _ => trivial⟩, ⟨rfl, fun _ => trivial⟩, ⟨so_softC kk l _ _, fun h => (hz h).elim⟩, ⟨rfl, fun _ => trivial⟩, ⟨rfl, fun h => (hz h).elim⟩, ⟨rfl, trivial⟩, ⟨rfl, trivial⟩, trivial⟩
  | succ i =>
    refine piece mix tbOk I14_ok hp hlt false [6] 300 (soJ1 (.own 2) [(2, .arr 9 (.s []))] [.int .i64 kk, .mp 3] l (i + 1)) soL1 (ob_of noB_ok _ _ (so_roundC_s kk l _ i) ⟨fun hc => ?_, fun hc => hR⟩)
    have hc : i + 1 < l.length := by rw [lt0] at hc; exact of_decide_eq_true hc
    have hb := inb_of (i + 1) _ l rfl hc
    refine ⟨hb, hb, rfl, ⟨⟨trivial, ⟨(ig _).symm, rfl, trivial⟩, rfl, rfl, rfl, trivial, rfl, trivial, rfl, trivial⟩, ⟨(ig _).symm, rfl, trivial⟩, ⟨⟨rfl, rfl⟩, rfl, rfl, trivial⟩, ⟨rfl, trivial, trivial, trivial, rfl, trivial, trivial⟩, rfl, rfl, trivial⟩, ?_⟩
    refine pieceA mix tbOk I14_ok hp hlt false [] 300 (soJ (.own 2) [(2, .arr 9 (.s []))] [.int .i64 kk, .mp 3] l (i + 1 + 1)) 0 (ob_of noB_ok _ _ (so_nextC_s kk l _ i) ⟨?_, ⟨⟨(add1 (i + 1) _ hn hc).symm, rfl, trivial, rfl, trivial, rfl, trivial⟩, ⟨⟨rfl, rfl⟩, rfl, rfl, trivial⟩, ⟨rfl, trivial, trivial, trivial, rfl, trivial, trivial⟩, rfl, rfl, trivial⟩, hend (i + 1 + 1) hc (by omega)⟩)
    have hs := sub1 i _ hn (Nat.le_of_lt hc)
    have hb' : (O.real.inb (O.real.sub .i64 ((i + 1 : Nat) : Int) 1) (O.real.ilen l)).p := by rw [hs]; exact inb_of i _ l rfl (by omega)
    have hk : keyOk (.agg [.int .i64 (O.real.iget l (O.real.sub .i64 ((i + 1 : Nat) : Int) 1)), .str ⟨#[]⟩]) = true := by rw [ig]; exact kind
    exact ⟨⟨rfl, trivial⟩, ⟨rfl, trivial⟩, ⟨rfl, trivial⟩, ⟨rfl, fun _ => trivial⟩, ⟨rfl, fun _ => trivial⟩, ⟨rfl, fun _ => trivial⟩, ⟨so_softC kk l _ _, fun _ => ⟨hb', hb', trivial⟩⟩, ⟨rfl, fun _ => trivial⟩, ⟨rfl, fun _ => ⟨⟨hk, kind⟩, trivial⟩⟩, ⟨rfl, trivial⟩, ⟨rfl, trivial⟩, trivial⟩

theorem fi_goesA {l : List Int} (h0 : ∀ x ∈ l, x = 0) (hn : l.length ≤ 1099511627776) {β : Nat → Option Value} {F : Nat → Prop} {w : World} {cs : Array Value} {R : Value → World → Prop} (hp : Pre (fiHs .nils [] .nilm l) 64 β F w) (hlen : cs.size = 1)
    (hvr : ∀ (j : Nat) (v : Value) (x : AV), cs[j]? = some v → [AV.ptr 0 0][j]? = some x → VR β F w v x) (hR : ∀ v' β' F' w', Post (fiHs .nils [] .nilm l) 64 (fiE .nils [] l l.length) β F w v' β' F' w' → R v' w') : Goes Try.prog 92 cs w R := by
  have hlt : ∀ p ∈ fiHs .nils [] .nilm l, p.1 < 64 := by intro p hp; simp [fiHs] at hp; rcases hp with rfl | rfl <;> simp
  have ig := iget0 l h0
  refine walk_goes fnsOk fn92 (xs := [.ptr 0 0]) hp hlen hvr (ys := [.ptr 0 0]) (hs' := fiHs .nils [] .nilm l) (by kernel_rfl) (by kernel_rfl) (by kernel_rfl) ?_
  refine piece mix tbOk I14_ok hp hlt false [] 300 (fiJ .nils [] l 0) fiL0 (ob_of noB_ok _ _ (fi_startA l _) ⟨rfl, ⟨⟨rfl, ?_, trivial, trivial⟩, ⟨rfl, trivial, trivial, trivial, rfl, trivial, trivial⟩, rfl, ⟨⟨rfl, rfl⟩, trivial⟩, trivial⟩, ?_⟩)
  · exact (add0 _ hn).symm
  show AW _ _ _ _ fiL0 _
  rw [fiL0_eq]
  refine loop_AW (k := 0) fiL0_again (fiJ .nils [] l) (fun i => l.length - i) (fun i => i ≤ l.length) (fun i hi H' hH hend => ?_) 0 (Nat.zero_le _)
  rw [← unloop_fiL0]
  cases i with
  | zero =>
    refine piece mix tbOk I14_ok hp hlt false [7] 300 (fiJ1 .nils [] l 0) fiL1 (ob_of noB_ok _ _ (fi_roundA_z l _) ⟨fun hc => ?_, fun hc => ?_⟩)
    · have hc : 0 < l.length := by rw [lt0] at hc; exact of_decide_eq_true hc
      have hb := inb_of 0 _ l rfl hc
      refine ⟨hb, hb, rfl, ⟨⟨trivial, rfl, rfl, rfl, trivial, trivial⟩, ⟨(ig _).symm, rfl, trivial⟩, ⟨rfl, trivial, trivial, trivial, rfl, trivial, trivial⟩, rfl, ⟨⟨rfl, rfl⟩, trivial⟩, trivial⟩, ?_⟩
      exact pieceA mix tbOk I14_ok hp hlt false [] 300 (fiJ .nils [] l (0 + 1)) 0 (ob_of noB_ok _ _ (fi_nextA_z l _) ⟨⟨⟨(add1 0 _ hn hc).symm, rfl, trivial, trivial⟩, ⟨rfl, trivial, trivial, trivial, rfl, trivial, trivial⟩, rfl, ⟨⟨rfl, rfl⟩, rfl, trivial, trivial⟩, rfl, trivial⟩, hend (0 + 1) hc (by omega)⟩)
    · have hc : ¬ 0 < l.length := by rw [lt0] at hc; exact of_decide_eq_false hc
      have : l.length = 0 := by omega
      rw [this] at hR
      exact hR
  | succ i =>
    refine piece mix tbOk I14_ok hp hlt false [7] 300 (fiJ1 .nils [] l (i + 1)) fiL1 (ob_of noB_ok _ _ (fi_roundA_s l _ i) ⟨fun hc => ?_, fun hc => ?_⟩)
    · have hc : i + 1 < l.length := by rw [lt0] at hc; exact of_decide_eq_true hc
      have hb := inb_of (i + 1) _ l rfl hc
      refine ⟨hb, hb, rfl, ⟨⟨trivial, rfl, rfl, rfl, trivial, trivial⟩, ⟨(ig _).symm, rfl, trivial⟩, ⟨rfl, trivial, trivial, trivial, rfl, trivial, trivial⟩, rfl, ⟨⟨rfl, rfl⟩, rfl, trivial, trivial⟩, rfl, trivial⟩, ?_⟩
      refine pieceA mix tbOk I14_ok hp hlt false [] 300 (fiJ .nils [] l (i + 1 + 1)) 0 (ob_of noB_ok _ _ (fi_nextA_s l _ i) ⟨?_, ⟨⟨(add1 (i + 1) _ hn hc).symm, rfl, trivial, trivial⟩, ⟨rfl, trivial, trivial, trivial, rfl, trivial, trivial⟩, rfl, ⟨⟨rfl, rfl⟩, rfl, trivial, trivial⟩, ?_, trivial⟩, hend (i + 1 + 1) hc (by omega)⟩)
      · have hfit : (O.real.fit (O.real.ilen (rng (i + 1))) (O.real.ilen [((i + 1 : Nat) : Int)]) 8).p := by
          show (((rng (i + 1)).length : Int) + (1 : Int)) * 8 ≤ 140737488355328
          simp only [rng, List.length_map, List.length_range]
          omega
        exact ⟨⟨rfl, trivial⟩, ⟨rfl, trivial⟩, ⟨rfl, trivial⟩, ⟨rfl, trivial⟩, ⟨rfl, trivial⟩, ⟨rfl, trivial⟩, ⟨rfl, trivial⟩, ⟨rfl, ⟨kind, rfl⟩, trivial⟩, ⟨rfl, trivial⟩, ⟨rfl, hfit, trivial⟩, ⟨rfl, trivial⟩, ⟨rfl, trivial⟩, trivial⟩
      · show rng (i + 1 + 1) = rng (i + 1) ++ [((i + 1 : Nat) : Int)]
        simp only [rng]
        rw [List.range_succ, List.map_append]
        rfl
    · have hc : ¬ i + 1 < l.length := by rw [lt0] at hc; exact of_decide_eq_false hc
      have : l.length = i + 1 := by have : i + 1 ≤ l.length := hi; omega
      rw [this] at hR
      exact hR

theorem fi_goesB {l : List Int} (h0 : ∀ x ∈ l, x = 0) (hn : l.length ≤ 1099511627776) {β : Nat → Option Value} {F : Nat → Prop} {w : World} {cs : Array Value} {R : Value → World → Prop} (hp : Pre (fiHs .nils [] (.mp 2) l) 64 β F w) (hlen : cs.size = 1)
    (hvr : ∀ (j : Nat) (v : Value) (x : AV), cs[j]? = some v → [AV.ptr 0 0][j]? = some x → VR β F w v x) (hR : ∀ v' β' F' w', Post (fiHs .nils [] (.mp 2) l) 64 (fiE .nils [] l l.length) β F w v' β' F' w' → R v' w') : Goes Try.prog 92 cs w R := by
  have hlt : ∀ p ∈ fiHs .nils [] (.mp 2) l, p.1 < 64 := by intro p hp; simp [fiHs] at hp; rcases hp with rfl | rfl <;> simp
  have ig := iget0 l h0
  refine walk_goes fnsOk fn92 (xs := [.ptr 0 0]) hp hlen hvr (ys := [.ptr 0 0]) (hs' := fiHs .nils [] (.mp 2) l) (by kernel_rfl) (by kernel_rfl) (by kernel_rfl) ?_
  refine piece mix tbOk I14_ok hp hlt false [] 300 (fiJ .nils [] l 0) fiL0 (ob_of noB_ok _ _ (fi_startB l _) ⟨rfl, ⟨⟨rfl, ?_, trivial, trivial⟩, ⟨rfl, trivial, trivial, trivial, rfl, trivial, trivial⟩, rfl, ⟨⟨rfl, rfl⟩, trivial⟩, trivial⟩, ?_⟩)
  · exact (add0 _ hn).symm
  show AW _ _ _ _ fiL0 _
  rw [fiL0_eq]
  refine loop_AW (k := 0) fiL0_again (fiJ .nils [] l) (fun i => l.length - i) (fun i => i ≤ l.length) (fun i hi H' hH hend => ?_) 0 (Nat.zero_le _)
  rw [← unloop_fiL0]
  cases i with
  | zero =>
    refine piece mix tbOk I14_ok hp hlt false [7] 300 (fiJ1 .nils [] l 0) fiL1 (ob_of noB_ok _ _ (fi_roundB_z l _) ⟨fun hc => ?_, fun hc => ?_⟩)
    · have hc : 0 < l.length := by rw [lt0] at hc; exact of_decide_eq_true hc
      have hb := inb_of 0 _ l rfl hc
      refine ⟨hb, hb, rfl, ⟨⟨trivial, rfl, rfl, rfl, trivial, trivial⟩, ⟨(ig _).symm, rfl, trivial⟩, ⟨rfl, trivial, trivial, trivial, rfl, trivial, trivial⟩, rfl, ⟨⟨rfl, rfl⟩, trivial⟩, trivial⟩, ?_⟩
      exact pieceA mix tbOk I14_ok hp hlt false [] 300 (fiJ .nils [] l (0 + 1)) 0 (ob_of noB_ok _ _ (fi_nextB_z l _) ⟨⟨⟨(add1 0 _ hn hc).symm, rfl, trivial, trivial⟩, ⟨rfl, trivial, trivial, trivial, rfl, trivial, trivial⟩, rfl, ⟨⟨rfl, rfl⟩, rfl, trivial, trivial⟩, rfl, trivial⟩, hend (0 + 1) hc (by omega)⟩)
    · have hc : ¬ 0 < l.length := by rw [lt0] at hc; exact of_decide_eq_false hc
      have : l.length = 0 := by omega
      rw [this] at hR
      exact hR
  | succ i =>
    refine piece mix tbOk I14_ok hp hlt false [7] 300 (fiJ1 .nils [] l (i + 1)) fiL1 (ob_of noB_ok _ _ (fi_roundB_s l _ i) ⟨fun hc => ?_, fun hc => ?_⟩)
    · have hc : i + 1 < l.length := by rw [lt0] at hc; exact of_decide_eq_true hc
      have hb := inb_of (i + 1) _ l rfl hc
      refine ⟨hb, hb, rfl, ⟨⟨trivial, rfl, rfl, rfl, trivial, trivial⟩, ⟨(ig _).symm, rfl, trivial⟩, ⟨rfl, trivial, trivial, trivial, rfl, trivial, trivial⟩, rfl, ⟨⟨rfl, rfl⟩, rfl, trivial, trivial⟩, rfl, trivial⟩, ?_⟩
      refine pieceA mix tbOk I14_ok hp hlt false [] 300 (fiJ .nils [] l (i + 1 + 1)) 0 (ob_of noB_ok _ _ (fi_nextB_s l _ i) ⟨?_, ⟨⟨(add1 (i + 1) _ hn hc).symm, rfl, trivial, trivial⟩, ⟨rfl, trivial, trivial, trivial, rfl, trivial, trivial⟩, rfl, ⟨⟨rfl, rfl⟩, rfl, trivial, trivial⟩, ?_, trivial⟩, hend (i + 1 + 1) hc (by omega)⟩)
      · have hfit : (O.real.fit (O.real.ilen (rng (i + 1))) (O.real.ilen [((i + 1 : Nat) : Int)]) 8).p := by
          show (((rng (i + 1)).length : Int) + (1 : Int)) * 8 ≤ 140737488355328
          simp only [rng, List.length_map, List.length_range]
          omega
        exact ⟨⟨rfl, trivial⟩, ⟨rfl, trivial⟩, ⟨rfl, trivial⟩, ⟨rfl, trivial⟩, ⟨rfl, trivial⟩, ⟨rfl, trivial⟩, ⟨rfl, trivial⟩, ⟨rfl, ⟨kind, rfl⟩, trivial⟩, ⟨rfl, trivial⟩, ⟨rfl, hfit, trivial⟩, ⟨rfl, trivial⟩, ⟨rfl, trivial⟩, trivial⟩
      · show rng (i + 1 + 1) = rng (i + 1) ++ [((i + 1 : Nat) : Int)]
        simp only [rng]
        rw [List.range_succ, List.map_append]
        rfl
    · have hc : ¬ i + 1 < l.length := by rw [lt0] at hc; exact of_decide_eq_false hc
      have : l.length = i + 1 := by have : i + 1 ≤ l.length := hi; omega
      rw [this] at hR
      exact hR

theorem fi_goesC {l : List Int} (h0 : ∀ x ∈ l, x = 0) (hn : l.length ≤ 1099511627776) {β : Nat → Option Value} {F : Nat → Prop} {w : World} {cs : Array Value} {R : Value → World → Prop} (hp : Pre (fiHs (.own 2) [(2, .arr 9 (.s []))] (.mp 3) l) 64 β F w) (hlen : cs.size = 1)
    (hvr : ∀ (j : Nat) (v : Value) (x : AV), cs[j]? = some v → [AV.ptr 0 0][j]? = some x → VR β F w v x) (hR : ∀ v' β' F' w', Post (fiHs (.own 2) [(2, .arr 9 (.s []))] (.mp 3) l) 64 (fiE (.own 2) [(2, .arr 9 (.s []))] l l.length) β F w v' β' F' w' → R v' w') : Goes Try.prog 92 cs w R := by
  have hlt : ∀ p ∈ fiHs (.own 2) [(2, .arr 9 (.s []))] (.mp 3) l, p.1 < 64 := by intro p hp; simp [fiHs] at hp; rcases hp with rfl | rfl | rfl <;> simp
  have ig := iget0 l h0
  refine walk_goes fnsOk fn92 (xs := [.ptr 0 0]) hp hlen hvr (ys := [.ptr 0 0]) (hs' := fiHs (.own 2) [(2, .arr 9 (.s []))] (.mp 3) l) (by kernel_rfl) (by kernel_rfl) (by kernel_rfl) ?_
  refine piece mix tbOk I14_ok hp hlt false [] 300 (fiJ (.own 2) [(2, .arr 9 (.s []))] l 0) fiL0 (ob_of noB_ok _ _ (fi_startC l _) ⟨rfl, ⟨⟨rfl, ?_, trivial, trivial⟩, ⟨rfl, trivial, trivial, trivial, rfl, trivial, trivial⟩, rfl, rfl, ⟨⟨rfl, rfl⟩, trivial⟩, trivial⟩, ?_⟩)
  · exact (add0 _ hn).symm
  show AW _ _ _ _ fiL0 _
  rw [fiL0_eq]
  refine loop_AW (k := 0) fiL0_again (fiJ (.own 2) [(2, .arr 9 (.s []))] l) (fun i => l.length - i) (fun i => i ≤ l.length) (fun i hi H' hH hend => ?_) 0 (Nat.zero_le _)
  rw [← unloop_fiL0]
  cases i with
  | zero =>
    refine piece mix tbOk I14_ok hp hlt false [7] 300 (fiJ1 (.own 2) [(2, .arr 9 (.s []))] l 0) fiL1 (ob_of noB_ok _ _ (fi_roundC_z l _) ⟨fun hc => ?_, fun hc => ?_⟩)
    · have hc : 0 < l.length := by rw [lt0] at hc; exact of_decide_eq_true hc
      have hb := inb_of 0 _ l rfl hc
      refine ⟨hb, hb, rfl, ⟨⟨trivial, rfl, rfl, rfl, trivial, trivial⟩, ⟨(ig _).symm, rfl, trivial⟩, ⟨rfl, trivial, trivial, trivial, rfl, trivial, trivial⟩, rfl, rfl, ⟨⟨rfl, rfl⟩, trivial⟩, trivial⟩, ?_⟩
      exact pieceA mix tbOk I14_ok hp hlt false [] 300 (fiJ (.own 2) [(2, .arr 9 (.s []))] l (0 + 1)) 0 (ob_of noB_ok _ _ (fi_nextC_z l _) ⟨⟨⟨(add1 0 _ hn hc).symm, rfl, trivial, trivial⟩, ⟨rfl, trivial, trivial, trivial, rfl, trivial, trivial⟩, rfl, rfl, ⟨⟨rfl, rfl⟩, rfl, trivial, trivial⟩, rfl, trivial⟩, hend (0 + 1) hc (by omega)⟩)
    · have hc : ¬ 0 < l.length := by rw [lt0] at hc; exact of_decide_eq_false hc
      have : l.length = 0 := by omega
      rw [this] at hR
      exact hR
  | succ i =>
    refine piece mix tbOk I14_ok hp hlt false [7] 300 (fiJ1 (.own 2) [(2, .arr 9 (.s []))] l (i + 1)) fiL1 (ob_of noB_ok _ _ (fi_roundC_s l _ i) ⟨fun hc => ?_, fun hc => ?_⟩)
    · have hc : i + 1 < l.length := by rw [lt0] at hc; exact of_decide_eq_true hc
      have hb := inb_of (i + 1) _ l rfl hc
      refine ⟨hb, hb, rfl, ⟨⟨trivial, rfl, rfl, rfl, trivial, trivial⟩, ⟨(ig _).symm, rfl, trivial⟩, ⟨rfl, trivial, trivial, trivial, rfl, trivial, trivial⟩, rfl, rfl, ⟨⟨rfl, rfl⟩, rfl, trivial, trivial⟩, rfl, trivial⟩, ?_⟩
      refine pieceA mix tbOk I14_ok hp hlt false [] 300 (fiJ (.own 2) [(2, .arr 9 (.s []))] l (i + 1 + 1)) 0 (ob_of noB_ok _ _ (fi_nextC_s l _ i) ⟨?_, ⟨⟨(add1 (i + 1) _ hn hc).symm, rfl, trivial, trivial⟩, ⟨rfl, trivial, trivial, trivial, rfl, trivial, trivial⟩, rfl, rfl, ⟨⟨rfl, rfl⟩, rfl, trivial, trivial⟩, ?_, trivial⟩, hend (i + 1 + 1) hc (by omega)⟩)
      · have hfit : (O.real.fit (O.real.ilen (rng (i + 1))) (O.real.ilen [((i + 1 : Nat) : Int)]) 8).p := by
          show (((rng (i + 1)).length : Int) + (1 : Int)) * 8 ≤ 140737488355328
          simp only [rng, List.length_map, List.length_range]
          omega
        exact ⟨⟨rfl, trivial⟩, ⟨rfl, trivial⟩, ⟨rfl, trivial⟩, ⟨rfl, trivial⟩, ⟨rfl, trivial⟩, ⟨rfl, trivial⟩, ⟨rfl, trivial⟩, ⟨rfl, ⟨kind, rfl⟩, trivial⟩, ⟨rfl, trivial⟩, ⟨rfl, hfit, trivial⟩, ⟨rfl, trivial⟩, ⟨rfl, trivial⟩, trivial⟩
      · show rng (i + 1 + 1) = rng (i + 1) ++ [((i + 1 : Nat) : Int)]
        simp only [rng]
        rw [List.range_succ, List.map_append]
        rfl
    · have hc : ¬ i + 1 < l.length := by rw [lt0] at hc; exact of_decide_eq_false hc
      have : l.length = i + 1 := by have : i + 1 ≤ l.length := hi; omega
      rw [this] at hR
      exact hR
end Go.Proofs.Ytimfkgepcmmmhaa
