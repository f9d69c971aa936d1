/-
  NARROWER THAN 'FOR EVERY INPUT', by the rows' own cells (each row's printed sentence says how): DictPut: loops · DictMakes: loops · DictGroups: loops · DictSorted: loops · DictLater: loops · DictJoins: loops.
  DERIVED. THE GIVEN ROWS OF THIS SEAT. 6 by the template 'for every input the law returns true; each argument reads behind the call as it read before'; 0 by the template 'total and deterministic' (their statements: YtmeagbopnliddaaGreatTotals.lean).
  GIVEN WITH THE SEED: the statements are not yours to turn. If you find one false, say at which input.
  Laid BY PROGRAM, IN A SANDBOX (cutbox-rows.mjs): the forced cells as the released guide's own fill.sh prints them over the translation 7eaf07a664799955… (all of the seat's roots in one cut). By AI agents, Wed Nov 11 2026. No macro, syntax, notation, axiom, sorry.
-/
import Derived.Test.YtmeagbopnliddaaGreatChecked
import GoSem.Claim
import GoSem.ClaimJoined
import GoSem.ClaimMapViews
import Derived.JoinedTies
import Derived.KernelRfl
namespace Go.Proofs.YtmeagbopnliddaaGreat
/- THE CELL 'sum', in the pinned program and in every row, IS THE sha256 OF THE DUMP (.gsa) THAT YtmeagbopnliddaaGreatProg.lean LOADS. Nothing in Lean hashes anything: it is a label: what it is worth is what the hold of that sum in a sandbox is worth. -/
noncomputable def Tryz.pinned : Pinned := { name := "ytmeagbopnliddaagreat", sum := "7eaf07a6647999557286110441d3cd512b29c136969e066c4f6466f357f6dd01", checked := Tryz.checked }
namespace Rows
def none {H : Type} : Left H := { results := [], args := [] }

/-- 'quiverlaw10.DictPut': WHATEVER THE INPUT: true; the input reads as it did. -/
def dictPutSpec : ChangeSpec := { name := "dictPut", fn := fun _ => fun
  | [d1, d2, d3, d4] => { results := [.lit (.bool true)], args := [d1, d2, d3, d4] }
  | _ => none }
def dictPutRow : OpenClaim := { program := "ytmeagbopnliddaagreat", sum := "7eaf07a6647999557286110441d3cd512b29c136969e066c4f6466f357f6dd01", func := "quiver/quiverlaw10.DictPut", spec := "dictPut", unfollowed := true, recurses := true, loops := true, apart := false }
def DictPutSaid : Prop := dictPutRow.holds Tryz.pinned (OpenSpec.ofChange dictPutSpec)

/-- ITS FALSE NEIGHBOUR: 'it returns false'. Refute it at one input. -/
def dictPutWrong : ChangeSpec := { name := "dictPut", fn := fun _ => fun
  | [d1, d2, d3, d4] => { results := [.lit (.bool false)], args := [d1, d2, d3, d4] }
  | _ => none }
def DictPutWrongFalsely : Prop := dictPutRow.holds Tryz.pinned (OpenSpec.ofChange dictPutWrong)

/-- 'quiverlaw10.DictMakes': WHATEVER THE INPUT: true; the input reads as it did. -/
def dictMakesSpec : ChangeSpec := { name := "dictMakes", fn := fun _ => fun
  | [d1, d2, d3, d4] => { results := [.lit (.bool true)], args := [d1, d2, d3, d4] }
  | _ => none }
def dictMakesRow : OpenClaim := { program := "ytmeagbopnliddaagreat", sum := "7eaf07a6647999557286110441d3cd512b29c136969e066c4f6466f357f6dd01", func := "quiver/quiverlaw10.DictMakes", spec := "dictMakes", unfollowed := true, recurses := true, loops := true, apart := false }
def DictMakesSaid : Prop := dictMakesRow.holds Tryz.pinned (OpenSpec.ofChange dictMakesSpec)

/-- ITS FALSE NEIGHBOUR: 'it returns false'. Refute it at one input. -/
def dictMakesWrong : ChangeSpec := { name := "dictMakes", fn := fun _ => fun
  | [d1, d2, d3, d4] => { results := [.lit (.bool false)], args := [d1, d2, d3, d4] }
  | _ => none }
def DictMakesWrongFalsely : Prop := dictMakesRow.holds Tryz.pinned (OpenSpec.ofChange dictMakesWrong)

/-- 'quiverlaw10.DictGroups': WHATEVER THE INPUT: true; the input reads as it did. -/
def dictGroupsSpec : ChangeSpec := { name := "dictGroups", fn := fun _ => fun
  | [d] => { results := [.lit (.bool true)], args := [d] }
  | _ => none }
def dictGroupsRow : OpenClaim := { program := "ytmeagbopnliddaagreat", sum := "7eaf07a6647999557286110441d3cd512b29c136969e066c4f6466f357f6dd01", func := "quiver/quiverlaw10.DictGroups", spec := "dictGroups", unfollowed := true, recurses := true, loops := true, apart := false }
def DictGroupsSaid : Prop := dictGroupsRow.holds Tryz.pinned (OpenSpec.ofChange dictGroupsSpec)

/-- ITS FALSE NEIGHBOUR: 'it returns false'. Refute it at one input. -/
def dictGroupsWrong : ChangeSpec := { name := "dictGroups", fn := fun _ => fun
  | [d] => { results := [.lit (.bool false)], args := [d] }
  | _ => none }
def DictGroupsWrongFalsely : Prop := dictGroupsRow.holds Tryz.pinned (OpenSpec.ofChange dictGroupsWrong)

/-- 'quiverlaw10.DictSorted': WHATEVER THE INPUT: true; the input reads as it did. -/
def dictSortedSpec : ChangeSpec := { name := "dictSorted", fn := fun _ => fun
  | [d1, d2] => { results := [.lit (.bool true)], args := [d1, d2] }
  | _ => none }
def dictSortedRow : OpenClaim := { program := "ytmeagbopnliddaagreat", sum := "7eaf07a6647999557286110441d3cd512b29c136969e066c4f6466f357f6dd01", func := "quiver/quiverlaw10.DictSorted", spec := "dictSorted", unfollowed := true, recurses := true, loops := true, apart := false }
def DictSortedSaid : Prop := dictSortedRow.holds Tryz.pinned (OpenSpec.ofChange dictSortedSpec)

/-- ITS FALSE NEIGHBOUR: 'it returns false'. Refute it at one input. -/
def dictSortedWrong : ChangeSpec := { name := "dictSorted", fn := fun _ => fun
  | [d1, d2] => { results := [.lit (.bool false)], args := [d1, d2] }
  | _ => none }
def DictSortedWrongFalsely : Prop := dictSortedRow.holds Tryz.pinned (OpenSpec.ofChange dictSortedWrong)

/-- 'quiverlaw10.DictLater': WHATEVER THE INPUT: true; the input reads as it did. -/
def dictLaterSpec : ChangeSpec := { name := "dictLater", fn := fun _ => fun
  | [d1, d2, d3] => { results := [.lit (.bool true)], args := [d1, d2, d3] }
  | _ => none }
def dictLaterRow : OpenClaim := { program := "ytmeagbopnliddaagreat", sum := "7eaf07a6647999557286110441d3cd512b29c136969e066c4f6466f357f6dd01", func := "quiver/quiverlaw10.DictLater", spec := "dictLater", unfollowed := true, recurses := true, loops := true, apart := false }
def DictLaterSaid : Prop := dictLaterRow.holds Tryz.pinned (OpenSpec.ofChange dictLaterSpec)

/-- ITS FALSE NEIGHBOUR: 'it returns false'. Refute it at one input. -/
def dictLaterWrong : ChangeSpec := { name := "dictLater", fn := fun _ => fun
  | [d1, d2, d3] => { results := [.lit (.bool false)], args := [d1, d2, d3] }
  | _ => none }
def DictLaterWrongFalsely : Prop := dictLaterRow.holds Tryz.pinned (OpenSpec.ofChange dictLaterWrong)

/-- 'quiverlaw10.DictJoins': WHATEVER THE INPUT: true; the input reads as it did. -/
def dictJoinsSpec : ChangeSpec := { name := "dictJoins", fn := fun _ => fun
  | [d1, d2, d3] => { results := [.lit (.bool true)], args := [d1, d2, d3] }
  | _ => none }
def dictJoinsRow : OpenClaim := { program := "ytmeagbopnliddaagreat", sum := "7eaf07a6647999557286110441d3cd512b29c136969e066c4f6466f357f6dd01", func := "quiver/quiverlaw10.DictJoins", spec := "dictJoins", unfollowed := true, recurses := true, loops := true, apart := false }
def DictJoinsSaid : Prop := dictJoinsRow.holds Tryz.pinned (OpenSpec.ofChange dictJoinsSpec)

/-- ITS FALSE NEIGHBOUR: 'it returns false'. Refute it at one input. -/
def dictJoinsWrong : ChangeSpec := { name := "dictJoins", fn := fun _ => fun
  | [d1, d2, d3] => { results := [.lit (.bool false)], args := [d1, d2, d3] }
  | _ => none }
def DictJoinsWrongFalsely : Prop := dictJoinsRow.holds Tryz.pinned (OpenSpec.ofChange dictJoinsWrong)

/- THE SECOND FORM. 'bulk': how many values and letters a reading holds, each counted each time it is reached (what is shared counts as often as it is met; a slice's spare places count too). A statement '..UptoSaid' is the law's where the arguments, and the package variables that the reading takes, are together of bulk at most 1048576: NARROWER than '..Said'. Prove '..Said' where nothing that the law and all that it calls make is longer than what came in: it says more and counts as full. Else prove '..UptoSaid'. A law counts once. -/
mutual
def uptoBulk {H : Type} : DataW H → Nat
  | .lit (.string bytes) => bytes.length + 1
  | .lit _ => 1
  | .nil => 1
  | .ptr d => uptoBulk d + 1
  | .slice elems spare => uptoBulkAll elems + uptoBulkAll spare + 1
  | .agg parts => uptoBulkAll parts + 1
  | .iface _ d => uptoBulk d + 1
  | .map entries => uptoBulkEntries entries + 1
  | .held _ => 1
def uptoBulkAll {H : Type} : List (DataW H) → Nat
  | [] => 0
  | d :: r => uptoBulk d + uptoBulkAll r
def uptoBulkEntries {H : Type} : List (Lit × DataW H) → Nat
  | [] => 0
  | x :: r => uptoBulkEntry x + uptoBulkEntries r
def uptoBulkEntry {H : Type} : Lit × DataW H → Nat
  | (.string bytes, d) => bytes.length + uptoBulk d + 1
  | (_, d) => uptoBulk d + 1
 end
def uptoSmall : (H : Type) → List (DataW H) → Bool := fun _ ds => decide (uptoBulkAll ds ≤ 1048576)
def OpenSpec.upto (s : _root_.Go.ChangeSpec) : _root_.Go.OpenSpec := { _root_.Go.OpenSpec.ofChange s with cond := some uptoSmall }

/-- 'quiverlaw10.DictPut', WHERE WHAT IT READS IS OF BULK AT MOST 1048576: true; the input reads as it did. -/
def dictPutUptoRow : OpenClaim := { program := "ytmeagbopnliddaagreat", sum := "7eaf07a6647999557286110441d3cd512b29c136969e066c4f6466f357f6dd01", func := "quiver/quiverlaw10.DictPut", spec := "dictPut", unfollowed := true, recurses := true, loops := true, apart := false, narrowed := true }
def DictPutUptoSaid : Prop := dictPutUptoRow.holds Tryz.pinned (OpenSpec.upto dictPutSpec)

/-- 'quiverlaw10.DictMakes', WHERE WHAT IT READS IS OF BULK AT MOST 1048576: true; the input reads as it did. -/
def dictMakesUptoRow : OpenClaim := { program := "ytmeagbopnliddaagreat", sum := "7eaf07a6647999557286110441d3cd512b29c136969e066c4f6466f357f6dd01", func := "quiver/quiverlaw10.DictMakes", spec := "dictMakes", unfollowed := true, recurses := true, loops := true, apart := false, narrowed := true }
def DictMakesUptoSaid : Prop := dictMakesUptoRow.holds Tryz.pinned (OpenSpec.upto dictMakesSpec)

/-- 'quiverlaw10.DictGroups', WHERE WHAT IT READS IS OF BULK AT MOST 1048576: true; the input reads as it did. -/
def dictGroupsUptoRow : OpenClaim := { program := "ytmeagbopnliddaagreat", sum := "7eaf07a6647999557286110441d3cd512b29c136969e066c4f6466f357f6dd01", func := "quiver/quiverlaw10.DictGroups", spec := "dictGroups", unfollowed := true, recurses := true, loops := true, apart := false, narrowed := true }
def DictGroupsUptoSaid : Prop := dictGroupsUptoRow.holds Tryz.pinned (OpenSpec.upto dictGroupsSpec)

/-- 'quiverlaw10.DictSorted', WHERE WHAT IT READS IS OF BULK AT MOST 1048576: true; the input reads as it did. -/
def dictSortedUptoRow : OpenClaim := { program := "ytmeagbopnliddaagreat", sum := "7eaf07a6647999557286110441d3cd512b29c136969e066c4f6466f357f6dd01", func := "quiver/quiverlaw10.DictSorted", spec := "dictSorted", unfollowed := true, recurses := true, loops := true, apart := false, narrowed := true }
def DictSortedUptoSaid : Prop := dictSortedUptoRow.holds Tryz.pinned (OpenSpec.upto dictSortedSpec)

/-- 'quiverlaw10.DictLater', WHERE WHAT IT READS IS OF BULK AT MOST 1048576: true; the input reads as it did. -/
def dictLaterUptoRow : OpenClaim := { program := "ytmeagbopnliddaagreat", sum := "7eaf07a6647999557286110441d3cd512b29c136969e066c4f6466f357f6dd01", func := "quiver/quiverlaw10.DictLater", spec := "dictLater", unfollowed := true, recurses := true, loops := true, apart := false, narrowed := true }
def DictLaterUptoSaid : Prop := dictLaterUptoRow.holds Tryz.pinned (OpenSpec.upto dictLaterSpec)

/-- 'quiverlaw10.DictJoins', WHERE WHAT IT READS IS OF BULK AT MOST 1048576: true; the input reads as it did. -/
def dictJoinsUptoRow : OpenClaim := { program := "ytmeagbopnliddaagreat", sum := "7eaf07a6647999557286110441d3cd512b29c136969e066c4f6466f357f6dd01", func := "quiver/quiverlaw10.DictJoins", spec := "dictJoins", unfollowed := true, recurses := true, loops := true, apart := false, narrowed := true }
def DictJoinsUptoSaid : Prop := dictJoinsUptoRow.holds Tryz.pinned (OpenSpec.upto dictJoinsSpec)

end Rows
end Go.Proofs.YtmeagbopnliddaaGreat
