/-
  NARROWER THAN 'FOR EVERY INPUT', by the rows' own cells (each row's printed sentence says how): VecJoins: loops · VecExtends: loops · VecWhole: loops.
  DERIVED. THE GIVEN ROWS OF THIS SEAT. 4 by the template 'for every input the law returns true; each argument reads behind the call as it read before'; 0 by the template 'total and deterministic' (their statements: YteaeogofidakiaaTotals.lean).
  GIVEN WITH THE SEED: the statements are not yours to turn. If you find one false, say at which input.
  Laid BY PROGRAM, IN A SANDBOX (cutbox-rows.mjs): the forced cells as the released guide's own fill.sh prints them over the translation 0122587dc901fcc9… (all of the seat's roots in one cut). By AI agents, Wed Nov 11 2026. No macro, syntax, notation, axiom, sorry.
-/
import Derived.Test.YteaeogofidakiaaChecked
import GoSem.Claim
import GoSem.ClaimJoined
import GoSem.ClaimMapViews
import Derived.JoinedTies
import Derived.KernelRfl
namespace Go.Proofs.Yteaeogofidakiaa
/- THE CELL 'sum', in the pinned program and in every row, IS THE sha256 OF THE DUMP (.gsa) THAT YteaeogofidakiaaProg.lean LOADS. Nothing in Lean hashes anything: it is a label: what it is worth is what the hold of that sum in a sandbox is worth. -/
noncomputable def Try.pinned : Pinned := { name := "yteaeogofidakiaa", sum := "0122587dc901fcc97b7607b06793c9d17118b544db6901e17ddaadbf6de5d32f", checked := Try.checked }
namespace Rows
def none {H : Type} : Left H := { results := [], args := [] }

/-- 'quiverlaw07.VecJoins': WHATEVER THE INPUT: true; the input reads as it did. -/
def vecJoinsSpec : ChangeSpec := { name := "vecJoins", fn := fun _ => fun
  | [d] => { results := [.lit (.bool true)], args := [d] }
  | _ => none }
def vecJoinsRow : OpenClaim := { program := "yteaeogofidakiaa", sum := "0122587dc901fcc97b7607b06793c9d17118b544db6901e17ddaadbf6de5d32f", func := "quiver/quiverlaw07.VecJoins", spec := "vecJoins", inPlace := ["internal/bytealg.abigen_runtime_cmpstring"], unfollowed := true, recurses := true, named := ["math/bits.divideError", "math/bits.overflowError"], loops := true, apart := false }
def VecJoinsSaid : Prop := vecJoinsRow.holds Try.pinned (OpenSpec.ofChange vecJoinsSpec)

/-- ITS FALSE NEIGHBOUR: 'it returns false'. Refute it at one input. -/
def vecJoinsWrong : ChangeSpec := { name := "vecJoins", fn := fun _ => fun
  | [d] => { results := [.lit (.bool false)], args := [d] }
  | _ => none }
def VecJoinsWrongFalsely : Prop := vecJoinsRow.holds Try.pinned (OpenSpec.ofChange vecJoinsWrong)

/-- 'quiverlaw07.VecExtends': WHATEVER THE INPUT: true; the input reads as it did. -/
def vecExtendsSpec : ChangeSpec := { name := "vecExtends", fn := fun _ => fun
  | [d1, d2, d3] => { results := [.lit (.bool true)], args := [d1, d2, d3] }
  | _ => none }
def vecExtendsRow : OpenClaim := { program := "yteaeogofidakiaa", sum := "0122587dc901fcc97b7607b06793c9d17118b544db6901e17ddaadbf6de5d32f", func := "quiver/quiverlaw07.VecExtends", spec := "vecExtends", inPlace := ["internal/bytealg.abigen_runtime_cmpstring"], unfollowed := true, recurses := true, named := ["math/bits.divideError", "math/bits.overflowError"], loops := true, apart := false }
def VecExtendsSaid : Prop := vecExtendsRow.holds Try.pinned (OpenSpec.ofChange vecExtendsSpec)

/-- ITS FALSE NEIGHBOUR: 'it returns false'. Refute it at one input. -/
def vecExtendsWrong : ChangeSpec := { name := "vecExtends", fn := fun _ => fun
  | [d1, d2, d3] => { results := [.lit (.bool false)], args := [d1, d2, d3] }
  | _ => none }
def VecExtendsWrongFalsely : Prop := vecExtendsRow.holds Try.pinned (OpenSpec.ofChange vecExtendsWrong)

/-- 'quiverlaw07.VecRounds': WHATEVER THE INPUT: true; the input reads as it did. -/
def vecRoundsSpec : ChangeSpec := { name := "vecRounds", fn := fun _ => fun
  | [d1, d2] => { results := [.lit (.bool true)], args := [d1, d2] }
  | _ => none }
def vecRoundsRow : OpenClaim := { program := "yteaeogofidakiaa", sum := "0122587dc901fcc97b7607b06793c9d17118b544db6901e17ddaadbf6de5d32f", func := "quiver/quiverlaw07.VecRounds", spec := "vecRounds", inPlace := ["internal/bytealg.abigen_runtime_cmpstring"], unfollowed := true, recurses := true, named := ["math/bits.divideError", "math/bits.overflowError"], apart := false }
def VecRoundsSaid : Prop := vecRoundsRow.holds Try.pinned (OpenSpec.ofChange vecRoundsSpec)

/-- ITS FALSE NEIGHBOUR: 'it returns false'. Refute it at one input. -/
def vecRoundsWrong : ChangeSpec := { name := "vecRounds", fn := fun _ => fun
  | [d1, d2] => { results := [.lit (.bool false)], args := [d1, d2] }
  | _ => none }
def VecRoundsWrongFalsely : Prop := vecRoundsRow.holds Try.pinned (OpenSpec.ofChange vecRoundsWrong)

/-- 'quiverlaw07.VecWhole': WHATEVER THE INPUT: true; the input reads as it did. -/
def vecWholeSpec : ChangeSpec := { name := "vecWhole", fn := fun _ => fun
  | [d1, d2] => { results := [.lit (.bool true)], args := [d1, d2] }
  | _ => none }
def vecWholeRow : OpenClaim := { program := "yteaeogofidakiaa", sum := "0122587dc901fcc97b7607b06793c9d17118b544db6901e17ddaadbf6de5d32f", func := "quiver/quiverlaw07.VecWhole", spec := "vecWhole", inPlace := ["internal/bytealg.abigen_runtime_cmpstring"], unfollowed := true, recurses := true, named := ["math/bits.divideError", "math/bits.overflowError"], loops := true, apart := false }
def VecWholeSaid : Prop := vecWholeRow.holds Try.pinned (OpenSpec.ofChange vecWholeSpec)

/-- ITS FALSE NEIGHBOUR: 'it returns false'. Refute it at one input. -/
def vecWholeWrong : ChangeSpec := { name := "vecWhole", fn := fun _ => fun
  | [d1, d2] => { results := [.lit (.bool false)], args := [d1, d2] }
  | _ => none }
def VecWholeWrongFalsely : Prop := vecWholeRow.holds Try.pinned (OpenSpec.ofChange vecWholeWrong)

/- THE SECOND FORM. 'bulk': how many values and letters a reading holds, each counted each time it is reached (what is shared counts as often as it is met; a slice's spare places count too). A statement '..UptoSaid' is the law's where the arguments, and the package variables that the reading takes, are together of bulk at most 1048576: NARROWER than '..Said'. Prove '..Said' where nothing that the law and all that it calls make is longer than what came in: it says more and counts as full. Else prove '..UptoSaid'. A law counts once. -/
mutual
def uptoBulk {H : Type} : DataW H → Nat
  | .lit (.string bytes) => bytes.length + 1
  | .lit _ => 1
  | .nil => 1
  | .ptr d => uptoBulk d + 1
  | .slice elems spare => uptoBulkAll elems + uptoBulkAll spare + 1
  | .agg parts => uptoBulkAll parts + 1
  | .iface _ d => uptoBulk d + 1
  | .map entries => uptoBulkEntries entries + 1
  | .held _ => 1
def uptoBulkAll {H : Type} : List (DataW H) → Nat
  | [] => 0
  | d :: r => uptoBulk d + uptoBulkAll r
def uptoBulkEntries {H : Type} : List (Lit × DataW H) → Nat
  | [] => 0
  | x :: r => uptoBulkEntry x + uptoBulkEntries r
def uptoBulkEntry {H : Type} : Lit × DataW H → Nat
  | (.string bytes, d) => bytes.length + uptoBulk d + 1
  | (_, d) => uptoBulk d + 1
 end
def uptoSmall : (H : Type) → List (DataW H) → Bool := fun _ ds => decide (uptoBulkAll ds ≤ 1048576)
def OpenSpec.upto (s : _root_.Go.ChangeSpec) : _root_.Go.OpenSpec := { _root_.Go.OpenSpec.ofChange s with cond := some uptoSmall }

/-- 'quiverlaw07.VecJoins', WHERE WHAT IT READS IS OF BULK AT MOST 1048576: true; the input reads as it did. -/
def vecJoinsUptoRow : OpenClaim := { program := "yteaeogofidakiaa", sum := "0122587dc901fcc97b7607b06793c9d17118b544db6901e17ddaadbf6de5d32f", func := "quiver/quiverlaw07.VecJoins", spec := "vecJoins", inPlace := ["internal/bytealg.abigen_runtime_cmpstring"], unfollowed := true, recurses := true, named := ["math/bits.divideError", "math/bits.overflowError"], loops := true, apart := false, narrowed := true }
def VecJoinsUptoSaid : Prop := vecJoinsUptoRow.holds Try.pinned (OpenSpec.upto vecJoinsSpec)

/-- 'quiverlaw07.VecExtends', WHERE WHAT IT READS IS OF BULK AT MOST 1048576: true; the input reads as it did. -/
def vecExtendsUptoRow : OpenClaim := { program := "yteaeogofidakiaa", sum := "0122587dc901fcc97b7607b06793c9d17118b544db6901e17ddaadbf6de5d32f", func := "quiver/quiverlaw07.VecExtends", spec := "vecExtends", inPlace := ["internal/bytealg.abigen_runtime_cmpstring"], unfollowed := true, recurses := true, named := ["math/bits.divideError", "math/bits.overflowError"], loops := true, apart := false, narrowed := true }
def VecExtendsUptoSaid : Prop := vecExtendsUptoRow.holds Try.pinned (OpenSpec.upto vecExtendsSpec)

/-- 'quiverlaw07.VecRounds', WHERE WHAT IT READS IS OF BULK AT MOST 1048576: true; the input reads as it did. -/
def vecRoundsUptoRow : OpenClaim := { program := "yteaeogofidakiaa", sum := "0122587dc901fcc97b7607b06793c9d17118b544db6901e17ddaadbf6de5d32f", func := "quiver/quiverlaw07.VecRounds", spec := "vecRounds", inPlace := ["internal/bytealg.abigen_runtime_cmpstring"], unfollowed := true, recurses := true, named := ["math/bits.divideError", "math/bits.overflowError"], apart := false, narrowed := true }
def VecRoundsUptoSaid : Prop := vecRoundsUptoRow.holds Try.pinned (OpenSpec.upto vecRoundsSpec)

/-- 'quiverlaw07.VecWhole', WHERE WHAT IT READS IS OF BULK AT MOST 1048576: true; the input reads as it did. -/
def vecWholeUptoRow : OpenClaim := { program := "yteaeogofidakiaa", sum := "0122587dc901fcc97b7607b06793c9d17118b544db6901e17ddaadbf6de5d32f", func := "quiver/quiverlaw07.VecWhole", spec := "vecWhole", inPlace := ["internal/bytealg.abigen_runtime_cmpstring"], unfollowed := true, recurses := true, named := ["math/bits.divideError", "math/bits.overflowError"], loops := true, apart := false, narrowed := true }
def VecWholeUptoSaid : Prop := vecWholeUptoRow.holds Try.pinned (OpenSpec.upto vecWholeSpec)

end Rows
end Go.Proofs.Yteaeogofidakiaa
