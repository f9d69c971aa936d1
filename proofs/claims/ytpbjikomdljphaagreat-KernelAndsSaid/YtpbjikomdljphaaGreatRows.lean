/-
  NARROWER THAN 'FOR EVERY INPUT', by the rows' own cells (each row's printed sentence says how): KernelScans: loops · KernelParts: loops · KernelAnds: loops.
  DERIVED. THE GIVEN ROWS OF THIS SEAT. 3 by the template 'for every input the law returns true; each argument reads behind the call as it read before'; 0 by the template 'total and deterministic' (their statements: YtpbjikomdljphaaGreatTotals.lean).
  GIVEN WITH THE SEED: the statements are not yours to turn. If you find one false, say at which input.
  Laid BY PROGRAM, IN A SANDBOX (cutbox-rows.mjs): the forced cells as the released guide's own fill.sh prints them over the translation f82ad7bd60567716… (all of the seat's roots in one cut). By AI agents, Wed Nov 11 2026. No macro, syntax, notation, axiom, sorry.
-/
import Derived.Test.YtpbjikomdljphaaGreatChecked
import GoSem.Claim
import GoSem.ClaimJoined
import GoSem.ClaimMapViews
import Derived.JoinedTies
import Derived.KernelRfl
namespace Go.Proofs.YtpbjikomdljphaaGreat
/- THE CELL 'sum', in the pinned program and in every row, IS THE sha256 OF THE DUMP (.gsa) THAT YtpbjikomdljphaaGreatProg.lean LOADS. Nothing in Lean hashes anything: it is a label: what it is worth is what the hold of that sum in a sandbox is worth. -/
noncomputable def Tryz.pinned : Pinned := { name := "ytpbjikomdljphaagreat", sum := "f82ad7bd605677161b6f8c9b6722aba8535ad6784c7d307b7f3c1a32fe2e7c18", checked := Tryz.checked }
namespace Rows
def none {H : Type} : Left H := { results := [], args := [] }

/-- 'quiverlaw20.KernelScans': WHATEVER THE INPUT: true; the input reads as it did. -/
def kernelScansSpec : ChangeSpec := { name := "kernelScans", fn := fun _ => fun
  | [d1, d2, d3, d4] => { results := [.lit (.bool true)], args := [d1, d2, d3, d4] }
  | _ => none }
def kernelScansRow : OpenClaim := { program := "ytpbjikomdljphaagreat", sum := "f82ad7bd605677161b6f8c9b6722aba8535ad6784c7d307b7f3c1a32fe2e7c18", func := "quiver/quiverlaw20.KernelScans", spec := "kernelScans", inPlace := ["internal/bytealg.IndexByteString"], unfollowed := true, recurses := true, loops := true, apart := false }
def KernelScansSaid : Prop := kernelScansRow.holds Tryz.pinned (OpenSpec.ofChange kernelScansSpec)

/-- ITS FALSE NEIGHBOUR: 'it returns false'. Refute it at one input. -/
def kernelScansWrong : ChangeSpec := { name := "kernelScans", fn := fun _ => fun
  | [d1, d2, d3, d4] => { results := [.lit (.bool false)], args := [d1, d2, d3, d4] }
  | _ => none }
def KernelScansWrongFalsely : Prop := kernelScansRow.holds Tryz.pinned (OpenSpec.ofChange kernelScansWrong)

/-- 'quiverlaw20.KernelParts': WHATEVER THE INPUT: true; the input reads as it did. -/
def kernelPartsSpec : ChangeSpec := { name := "kernelParts", fn := fun _ => fun
  | [d1, d2] => { results := [.lit (.bool true)], args := [d1, d2] }
  | _ => none }
def kernelPartsRow : OpenClaim := { program := "ytpbjikomdljphaagreat", sum := "f82ad7bd605677161b6f8c9b6722aba8535ad6784c7d307b7f3c1a32fe2e7c18", func := "quiver/quiverlaw20.KernelParts", spec := "kernelParts", inPlace := ["internal/bytealg.IndexByteString"], unfollowed := true, recurses := true, loops := true, apart := false }
def KernelPartsSaid : Prop := kernelPartsRow.holds Tryz.pinned (OpenSpec.ofChange kernelPartsSpec)

/-- ITS FALSE NEIGHBOUR: 'it returns false'. Refute it at one input. -/
def kernelPartsWrong : ChangeSpec := { name := "kernelParts", fn := fun _ => fun
  | [d1, d2] => { results := [.lit (.bool false)], args := [d1, d2] }
  | _ => none }
def KernelPartsWrongFalsely : Prop := kernelPartsRow.holds Tryz.pinned (OpenSpec.ofChange kernelPartsWrong)

/-- 'quiverlaw20.KernelAnds': WHATEVER THE INPUT: true; the input reads as it did. -/
def kernelAndsSpec : ChangeSpec := { name := "kernelAnds", fn := fun _ => fun
  | [d1, d2, d3, d4] => { results := [.lit (.bool true)], args := [d1, d2, d3, d4] }
  | _ => none }
def kernelAndsRow : OpenClaim := { program := "ytpbjikomdljphaagreat", sum := "f82ad7bd605677161b6f8c9b6722aba8535ad6784c7d307b7f3c1a32fe2e7c18", func := "quiver/quiverlaw20.KernelAnds", spec := "kernelAnds", inPlace := ["internal/bytealg.IndexByteString"], unfollowed := true, recurses := true, loops := true, apart := false }
def KernelAndsSaid : Prop := kernelAndsRow.holds Tryz.pinned (OpenSpec.ofChange kernelAndsSpec)

/-- ITS FALSE NEIGHBOUR: 'it returns false'. Refute it at one input. -/
def kernelAndsWrong : ChangeSpec := { name := "kernelAnds", fn := fun _ => fun
  | [d1, d2, d3, d4] => { results := [.lit (.bool false)], args := [d1, d2, d3, d4] }
  | _ => none }
def KernelAndsWrongFalsely : Prop := kernelAndsRow.holds Tryz.pinned (OpenSpec.ofChange kernelAndsWrong)

/- THE SECOND FORM. 'bulk': how many values and letters a reading holds, each counted each time it is reached (what is shared counts as often as it is met; a slice's spare places count too). A statement '..UptoSaid' is the law's where the arguments, and the package variables that the reading takes, are together of bulk at most 1048576: NARROWER than '..Said'. Prove '..Said' where nothing that the law and all that it calls make is longer than what came in: it says more and counts as full. Else prove '..UptoSaid'. A law counts once. -/
mutual
def uptoBulk {H : Type} : DataW H → Nat
  | .lit (.string bytes) => bytes.length + 1
  | .lit _ => 1
  | .nil => 1
  | .ptr d => uptoBulk d + 1
  | .slice elems spare => uptoBulkAll elems + uptoBulkAll spare + 1
  | .agg parts => uptoBulkAll parts + 1
  | .iface _ d => uptoBulk d + 1
  | .map entries => uptoBulkEntries entries + 1
  | .held _ => 1
def uptoBulkAll {H : Type} : List (DataW H) → Nat
  | [] => 0
  | d :: r => uptoBulk d + uptoBulkAll r
def uptoBulkEntries {H : Type} : List (Lit × DataW H) → Nat
  | [] => 0
  | x :: r => uptoBulkEntry x + uptoBulkEntries r
def uptoBulkEntry {H : Type} : Lit × DataW H → Nat
  | (.string bytes, d) => bytes.length + uptoBulk d + 1
  | (_, d) => uptoBulk d + 1
 end
def uptoSmall : (H : Type) → List (DataW H) → Bool := fun _ ds => decide (uptoBulkAll ds ≤ 1048576)
def OpenSpec.upto (s : _root_.Go.ChangeSpec) : _root_.Go.OpenSpec := { _root_.Go.OpenSpec.ofChange s with cond := some uptoSmall }

/-- 'quiverlaw20.KernelScans', WHERE WHAT IT READS IS OF BULK AT MOST 1048576: true; the input reads as it did. -/
def kernelScansUptoRow : OpenClaim := { program := "ytpbjikomdljphaagreat", sum := "f82ad7bd605677161b6f8c9b6722aba8535ad6784c7d307b7f3c1a32fe2e7c18", func := "quiver/quiverlaw20.KernelScans", spec := "kernelScans", inPlace := ["internal/bytealg.IndexByteString"], unfollowed := true, recurses := true, loops := true, apart := false, narrowed := true }
def KernelScansUptoSaid : Prop := kernelScansUptoRow.holds Tryz.pinned (OpenSpec.upto kernelScansSpec)

/-- 'quiverlaw20.KernelParts', WHERE WHAT IT READS IS OF BULK AT MOST 1048576: true; the input reads as it did. -/
def kernelPartsUptoRow : OpenClaim := { program := "ytpbjikomdljphaagreat", sum := "f82ad7bd605677161b6f8c9b6722aba8535ad6784c7d307b7f3c1a32fe2e7c18", func := "quiver/quiverlaw20.KernelParts", spec := "kernelParts", inPlace := ["internal/bytealg.IndexByteString"], unfollowed := true, recurses := true, loops := true, apart := false, narrowed := true }
def KernelPartsUptoSaid : Prop := kernelPartsUptoRow.holds Tryz.pinned (OpenSpec.upto kernelPartsSpec)

/-- 'quiverlaw20.KernelAnds', WHERE WHAT IT READS IS OF BULK AT MOST 1048576: true; the input reads as it did. -/
def kernelAndsUptoRow : OpenClaim := { program := "ytpbjikomdljphaagreat", sum := "f82ad7bd605677161b6f8c9b6722aba8535ad6784c7d307b7f3c1a32fe2e7c18", func := "quiver/quiverlaw20.KernelAnds", spec := "kernelAnds", inPlace := ["internal/bytealg.IndexByteString"], unfollowed := true, recurses := true, loops := true, apart := false, narrowed := true }
def KernelAndsUptoSaid : Prop := kernelAndsUptoRow.holds Tryz.pinned (OpenSpec.upto kernelAndsSpec)

end Rows
end Go.Proofs.YtpbjikomdljphaaGreat
