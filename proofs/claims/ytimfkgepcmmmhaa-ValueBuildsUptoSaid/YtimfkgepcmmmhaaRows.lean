/-
  NARROWER THAN 'FOR EVERY INPUT', by the rows' own cells (each row's printed sentence says how): CacheUnseen: loops · CachePlays: loops · AttrUnseen: loops · ValueOrders: loops · ValueApart: loops · ValueBuilds: loops · AttrPlays: loops · AttrNil: loops · ValueAsks: loops.
  DERIVED. THE GIVEN ROWS OF THIS SEAT. 11 by the template 'for every input the law returns true; each argument reads behind the call as it read before'; 0 by the template 'total and deterministic' (their statements: YtimfkgepcmmmhaaTotals.lean).
  GIVEN WITH THE SEED: the statements are not yours to turn. If you find one false, say at which input.
  Laid BY PROGRAM, IN A SANDBOX (cutbox-rows.mjs): the forced cells as the released guide's own fill.sh prints them over the translation 6ceadb4ba6833fab… (all of the seat's roots in one cut). By AI agents, Wed Nov 11 2026. No macro, syntax, notation, axiom, sorry.
-/
import Derived.Test.YtimfkgepcmmmhaaChecked
import GoSem.Claim
import GoSem.ClaimJoined
import GoSem.ClaimMapViews
import Derived.JoinedTies
import Derived.KernelRfl
namespace Go.Proofs.Ytimfkgepcmmmhaa
/- THE CELL 'sum', in the pinned program and in every row, IS THE sha256 OF THE DUMP (.gsa) THAT YtimfkgepcmmmhaaProg.lean LOADS. Nothing in Lean hashes anything: it is a label: what it is worth is what the hold of that sum in a sandbox is worth. -/
noncomputable def Try.pinned : Pinned := { name := "ytimfkgepcmmmhaa", sum := "6ceadb4ba6833fab749fcf6569aff505080b8e5743c40e816e3498014a585a33", checked := Try.checked }
namespace Rows
def none {H : Type} : Left H := { results := [], args := [] }

/-- 'quiverlaw23.CacheUnseen': WHATEVER THE INPUT: true; the input reads as it did. -/
def cacheUnseenSpec : ChangeSpec := { name := "cacheUnseen", fn := fun _ => fun
  | [d1, d2, d3, d4] => { results := [.lit (.bool true)], args := [d1, d2, d3, d4] }
  | _ => none }
def cacheUnseenRow : OpenClaim := { program := "ytimfkgepcmmmhaa", sum := "6ceadb4ba6833fab749fcf6569aff505080b8e5743c40e816e3498014a585a33", func := "quiver/quiverlaw23.CacheUnseen", spec := "cacheUnseen", unfollowed := true, recurses := true, loops := true, plainKeys := false, apart := false }
def CacheUnseenSaid : Prop := cacheUnseenRow.holds Try.pinned (OpenSpec.ofChange cacheUnseenSpec)

/-- ITS FALSE NEIGHBOUR: 'it returns false'. Refute it at one input. -/
def cacheUnseenWrong : ChangeSpec := { name := "cacheUnseen", fn := fun _ => fun
  | [d1, d2, d3, d4] => { results := [.lit (.bool false)], args := [d1, d2, d3, d4] }
  | _ => none }
def CacheUnseenWrongFalsely : Prop := cacheUnseenRow.holds Try.pinned (OpenSpec.ofChange cacheUnseenWrong)

/-- 'quiverlaw23.CachePlays': WHATEVER THE INPUT: true; the input reads as it did. -/
def cachePlaysSpec : ChangeSpec := { name := "cachePlays", fn := fun _ => fun
  | [d1, d2, d3] => { results := [.lit (.bool true)], args := [d1, d2, d3] }
  | _ => none }
def cachePlaysRow : OpenClaim := { program := "ytimfkgepcmmmhaa", sum := "6ceadb4ba6833fab749fcf6569aff505080b8e5743c40e816e3498014a585a33", func := "quiver/quiverlaw23.CachePlays", spec := "cachePlays", unfollowed := true, recurses := true, loops := true, plainKeys := false, apart := false }
def CachePlaysSaid : Prop := cachePlaysRow.holds Try.pinned (OpenSpec.ofChange cachePlaysSpec)

/-- ITS FALSE NEIGHBOUR: 'it returns false'. Refute it at one input. -/
def cachePlaysWrong : ChangeSpec := { name := "cachePlays", fn := fun _ => fun
  | [d1, d2, d3] => { results := [.lit (.bool false)], args := [d1, d2, d3] }
  | _ => none }
def CachePlaysWrongFalsely : Prop := cachePlaysRow.holds Try.pinned (OpenSpec.ofChange cachePlaysWrong)

/-- 'quiverlaw23.CacheNil': WHATEVER THE INPUT: true; the input reads as it did. -/
def cacheNilSpec : ChangeSpec := { name := "cacheNil", fn := fun _ => fun
  | [d1, d2] => { results := [.lit (.bool true)], args := [d1, d2] }
  | _ => none }
def cacheNilRow : OpenClaim := { program := "ytimfkgepcmmmhaa", sum := "6ceadb4ba6833fab749fcf6569aff505080b8e5743c40e816e3498014a585a33", func := "quiver/quiverlaw23.CacheNil", spec := "cacheNil", unfollowed := true, recurses := true, plainKeys := false, apart := false }
def CacheNilSaid : Prop := cacheNilRow.holds Try.pinned (OpenSpec.ofChange cacheNilSpec)

/-- ITS FALSE NEIGHBOUR: 'it returns false'. Refute it at one input. -/
def cacheNilWrong : ChangeSpec := { name := "cacheNil", fn := fun _ => fun
  | [d1, d2] => { results := [.lit (.bool false)], args := [d1, d2] }
  | _ => none }
def CacheNilWrongFalsely : Prop := cacheNilRow.holds Try.pinned (OpenSpec.ofChange cacheNilWrong)

/-- 'quiverlaw09.AttrUnseen': WHATEVER THE INPUT: true; the input reads as it did. -/
def attrUnseenSpec : ChangeSpec := { name := "attrUnseen", fn := fun _ => fun
  | [d1, d2, d3, d4] => { results := [.lit (.bool true)], args := [d1, d2, d3, d4] }
  | _ => none }
def attrUnseenRow : OpenClaim := { program := "ytimfkgepcmmmhaa", sum := "6ceadb4ba6833fab749fcf6569aff505080b8e5743c40e816e3498014a585a33", func := "quiver/quiverlaw09.AttrUnseen", spec := "attrUnseen", unfollowed := true, recurses := true, loops := true, plainKeys := false, apart := false }
def AttrUnseenSaid : Prop := attrUnseenRow.holds Try.pinned (OpenSpec.ofChange attrUnseenSpec)

/-- ITS FALSE NEIGHBOUR: 'it returns false'. Refute it at one input. -/
def attrUnseenWrong : ChangeSpec := { name := "attrUnseen", fn := fun _ => fun
  | [d1, d2, d3, d4] => { results := [.lit (.bool false)], args := [d1, d2, d3, d4] }
  | _ => none }
def AttrUnseenWrongFalsely : Prop := attrUnseenRow.holds Try.pinned (OpenSpec.ofChange attrUnseenWrong)

/-- 'quiverlaw09.AttrMany': WHATEVER THE INPUT: true; the input reads as it did. -/
def attrManySpec : ChangeSpec := { name := "attrMany", fn := fun _ => fun
  | [d1, d2] => { results := [.lit (.bool true)], args := [d1, d2] }
  | _ => none }
def attrManyRow : OpenClaim := { program := "ytimfkgepcmmmhaa", sum := "6ceadb4ba6833fab749fcf6569aff505080b8e5743c40e816e3498014a585a33", func := "quiver/quiverlaw09.AttrMany", spec := "attrMany", unfollowed := true, recurses := true, plainKeys := false, apart := false }
def AttrManySaid : Prop := attrManyRow.holds Try.pinned (OpenSpec.ofChange attrManySpec)

/-- ITS FALSE NEIGHBOUR: 'it returns false'. Refute it at one input. -/
def attrManyWrong : ChangeSpec := { name := "attrMany", fn := fun _ => fun
  | [d1, d2] => { results := [.lit (.bool false)], args := [d1, d2] }
  | _ => none }
def AttrManyWrongFalsely : Prop := attrManyRow.holds Try.pinned (OpenSpec.ofChange attrManyWrong)

/-- 'quiverlaw03.ValueOrders': WHATEVER THE INPUT: true; the input reads as it did. -/
def valueOrdersSpec : ChangeSpec := { name := "valueOrders", fn := fun _ => fun
  | [d1, d2, d3] => { results := [.lit (.bool true)], args := [d1, d2, d3] }
  | _ => none }
def valueOrdersRow : OpenClaim := { program := "ytimfkgepcmmmhaa", sum := "6ceadb4ba6833fab749fcf6569aff505080b8e5743c40e816e3498014a585a33", func := "quiver/quiverlaw03.ValueOrders", spec := "valueOrders", inPlace := ["internal/bytealg.IndexByteString"], unfollowed := true, recurses := true, loops := true, plainKeys := false, apart := false }
def ValueOrdersSaid : Prop := valueOrdersRow.holds Try.pinned (OpenSpec.ofChange valueOrdersSpec)

/-- ITS FALSE NEIGHBOUR: 'it returns false'. Refute it at one input. -/
def valueOrdersWrong : ChangeSpec := { name := "valueOrders", fn := fun _ => fun
  | [d1, d2, d3] => { results := [.lit (.bool false)], args := [d1, d2, d3] }
  | _ => none }
def ValueOrdersWrongFalsely : Prop := valueOrdersRow.holds Try.pinned (OpenSpec.ofChange valueOrdersWrong)

/-- 'quiverlaw03.ValueApart': WHATEVER THE INPUT: true; the input reads as it did. -/
def valueApartSpec : ChangeSpec := { name := "valueApart", fn := fun _ => fun
  | [d1, d2] => { results := [.lit (.bool true)], args := [d1, d2] }
  | _ => none }
def valueApartRow : OpenClaim := { program := "ytimfkgepcmmmhaa", sum := "6ceadb4ba6833fab749fcf6569aff505080b8e5743c40e816e3498014a585a33", func := "quiver/quiverlaw03.ValueApart", spec := "valueApart", inPlace := ["internal/bytealg.IndexByteString"], unfollowed := true, recurses := true, loops := true, plainKeys := false, apart := false }
def ValueApartSaid : Prop := valueApartRow.holds Try.pinned (OpenSpec.ofChange valueApartSpec)

/-- ITS FALSE NEIGHBOUR: 'it returns false'. Refute it at one input. -/
def valueApartWrong : ChangeSpec := { name := "valueApart", fn := fun _ => fun
  | [d1, d2] => { results := [.lit (.bool false)], args := [d1, d2] }
  | _ => none }
def ValueApartWrongFalsely : Prop := valueApartRow.holds Try.pinned (OpenSpec.ofChange valueApartWrong)

/-- 'quiverlaw03.ValueBuilds': WHATEVER THE INPUT: true; the input reads as it did. -/
def valueBuildsSpec : ChangeSpec := { name := "valueBuilds", fn := fun _ => fun
  | [d] => { results := [.lit (.bool true)], args := [d] }
  | _ => none }
def valueBuildsRow : OpenClaim := { program := "ytimfkgepcmmmhaa", sum := "6ceadb4ba6833fab749fcf6569aff505080b8e5743c40e816e3498014a585a33", func := "quiver/quiverlaw03.ValueBuilds", spec := "valueBuilds", inPlace := ["internal/bytealg.IndexByteString"], unfollowed := true, recurses := true, loops := true, plainKeys := false, apart := false }
def ValueBuildsSaid : Prop := valueBuildsRow.holds Try.pinned (OpenSpec.ofChange valueBuildsSpec)

/-- ITS FALSE NEIGHBOUR: 'it returns false'. Refute it at one input. -/
def valueBuildsWrong : ChangeSpec := { name := "valueBuilds", fn := fun _ => fun
  | [d] => { results := [.lit (.bool false)], args := [d] }
  | _ => none }
def ValueBuildsWrongFalsely : Prop := valueBuildsRow.holds Try.pinned (OpenSpec.ofChange valueBuildsWrong)

/-- 'quiverlaw09.AttrPlays': WHATEVER THE INPUT: true; the input reads as it did. -/
def attrPlaysSpec : ChangeSpec := { name := "attrPlays", fn := fun _ => fun
  | [d1, d2, d3, d4, d5, d6] => { results := [.lit (.bool true)], args := [d1, d2, d3, d4, d5, d6] }
  | _ => none }
def attrPlaysRow : OpenClaim := { program := "ytimfkgepcmmmhaa", sum := "6ceadb4ba6833fab749fcf6569aff505080b8e5743c40e816e3498014a585a33", func := "quiver/quiverlaw09.AttrPlays", spec := "attrPlays", unfollowed := true, recurses := true, loops := true, plainKeys := false, apart := false }
def AttrPlaysSaid : Prop := attrPlaysRow.holds Try.pinned (OpenSpec.ofChange attrPlaysSpec)

/-- ITS FALSE NEIGHBOUR: 'it returns false'. Refute it at one input. -/
def attrPlaysWrong : ChangeSpec := { name := "attrPlays", fn := fun _ => fun
  | [d1, d2, d3, d4, d5, d6] => { results := [.lit (.bool false)], args := [d1, d2, d3, d4, d5, d6] }
  | _ => none }
def AttrPlaysWrongFalsely : Prop := attrPlaysRow.holds Try.pinned (OpenSpec.ofChange attrPlaysWrong)

/-- 'quiverlaw09.AttrNil': WHATEVER THE INPUT: true; the input reads as it did. -/
def attrNilSpec : ChangeSpec := { name := "attrNil", fn := fun _ => fun
  | [d] => { results := [.lit (.bool true)], args := [d] }
  | _ => none }
def attrNilRow : OpenClaim := { program := "ytimfkgepcmmmhaa", sum := "6ceadb4ba6833fab749fcf6569aff505080b8e5743c40e816e3498014a585a33", func := "quiver/quiverlaw09.AttrNil", spec := "attrNil", unfollowed := true, recurses := true, loops := true, plainKeys := false, apart := false }
def AttrNilSaid : Prop := attrNilRow.holds Try.pinned (OpenSpec.ofChange attrNilSpec)

/-- ITS FALSE NEIGHBOUR: 'it returns false'. Refute it at one input. -/
def attrNilWrong : ChangeSpec := { name := "attrNil", fn := fun _ => fun
  | [d] => { results := [.lit (.bool false)], args := [d] }
  | _ => none }
def AttrNilWrongFalsely : Prop := attrNilRow.holds Try.pinned (OpenSpec.ofChange attrNilWrong)

/-- 'quiverlaw03.ValueAsks': WHATEVER THE INPUT: true; the input reads as it did. -/
def valueAsksSpec : ChangeSpec := { name := "valueAsks", fn := fun _ => fun
  | [d1, d2] => { results := [.lit (.bool true)], args := [d1, d2] }
  | _ => none }
def valueAsksRow : OpenClaim := { program := "ytimfkgepcmmmhaa", sum := "6ceadb4ba6833fab749fcf6569aff505080b8e5743c40e816e3498014a585a33", func := "quiver/quiverlaw03.ValueAsks", spec := "valueAsks", inPlace := ["internal/bytealg.IndexByteString"], unfollowed := true, recurses := true, loops := true, plainKeys := false, apart := false }
def ValueAsksSaid : Prop := valueAsksRow.holds Try.pinned (OpenSpec.ofChange valueAsksSpec)

/-- ITS FALSE NEIGHBOUR: 'it returns false'. Refute it at one input. -/
def valueAsksWrong : ChangeSpec := { name := "valueAsks", fn := fun _ => fun
  | [d1, d2] => { results := [.lit (.bool false)], args := [d1, d2] }
  | _ => none }
def ValueAsksWrongFalsely : Prop := valueAsksRow.holds Try.pinned (OpenSpec.ofChange valueAsksWrong)

/- THE SECOND FORM. 'bulk': how many values and letters a reading holds, each counted each time it is reached (what is shared counts as often as it is met; a slice's spare places count too). A statement '..UptoSaid' is the law's where the arguments, and the package variables that the reading takes, are together of bulk at most 1048576: NARROWER than '..Said'. Prove '..Said' where nothing that the law and all that it calls make is longer than what came in: it says more and counts as full. Else prove '..UptoSaid'. A law counts once. -/
mutual
def uptoBulk {H : Type} : DataW H → Nat
  | .lit (.string bytes) => bytes.length + 1
  | .lit _ => 1
  | .nil => 1
  | .ptr d => uptoBulk d + 1
  | .slice elems spare => uptoBulkAll elems + uptoBulkAll spare + 1
  | .agg parts => uptoBulkAll parts + 1
  | .iface _ d => uptoBulk d + 1
  | .map entries => uptoBulkEntries entries + 1
  | .held _ => 1
def uptoBulkAll {H : Type} : List (DataW H) → Nat
  | [] => 0
  | d :: r => uptoBulk d + uptoBulkAll r
def uptoBulkEntries {H : Type} : List (Lit × DataW H) → Nat
  | [] => 0
  | x :: r => uptoBulkEntry x + uptoBulkEntries r
def uptoBulkEntry {H : Type} : Lit × DataW H → Nat
  | (.string bytes, d) => bytes.length + uptoBulk d + 1
  | (_, d) => uptoBulk d + 1
 end
def uptoSmall : (H : Type) → List (DataW H) → Bool := fun _ ds => decide (uptoBulkAll ds ≤ 1048576)
def OpenSpec.upto (s : _root_.Go.ChangeSpec) : _root_.Go.OpenSpec := { _root_.Go.OpenSpec.ofChange s with cond := some uptoSmall }

/-- 'quiverlaw23.CacheUnseen', WHERE WHAT IT READS IS OF BULK AT MOST 1048576: true; the input reads as it did. -/
def cacheUnseenUptoRow : OpenClaim := { program := "ytimfkgepcmmmhaa", sum := "6ceadb4ba6833fab749fcf6569aff505080b8e5743c40e816e3498014a585a33", func := "quiver/quiverlaw23.CacheUnseen", spec := "cacheUnseen", unfollowed := true, recurses := true, loops := true, plainKeys := false, apart := false, narrowed := true }
def CacheUnseenUptoSaid : Prop := cacheUnseenUptoRow.holds Try.pinned (OpenSpec.upto cacheUnseenSpec)

/-- 'quiverlaw23.CachePlays', WHERE WHAT IT READS IS OF BULK AT MOST 1048576: true; the input reads as it did. -/
def cachePlaysUptoRow : OpenClaim := { program := "ytimfkgepcmmmhaa", sum := "6ceadb4ba6833fab749fcf6569aff505080b8e5743c40e816e3498014a585a33", func := "quiver/quiverlaw23.CachePlays", spec := "cachePlays", unfollowed := true, recurses := true, loops := true, plainKeys := false, apart := false, narrowed := true }
def CachePlaysUptoSaid : Prop := cachePlaysUptoRow.holds Try.pinned (OpenSpec.upto cachePlaysSpec)

/-- 'quiverlaw23.CacheNil', WHERE WHAT IT READS IS OF BULK AT MOST 1048576: true; the input reads as it did. -/
def cacheNilUptoRow : OpenClaim := { program := "ytimfkgepcmmmhaa", sum := "6ceadb4ba6833fab749fcf6569aff505080b8e5743c40e816e3498014a585a33", func := "quiver/quiverlaw23.CacheNil", spec := "cacheNil", unfollowed := true, recurses := true, plainKeys := false, apart := false, narrowed := true }
def CacheNilUptoSaid : Prop := cacheNilUptoRow.holds Try.pinned (OpenSpec.upto cacheNilSpec)

/-- 'quiverlaw09.AttrUnseen', WHERE WHAT IT READS IS OF BULK AT MOST 1048576: true; the input reads as it did. -/
def attrUnseenUptoRow : OpenClaim := { program := "ytimfkgepcmmmhaa", sum := "6ceadb4ba6833fab749fcf6569aff505080b8e5743c40e816e3498014a585a33", func := "quiver/quiverlaw09.AttrUnseen", spec := "attrUnseen", unfollowed := true, recurses := true, loops := true, plainKeys := false, apart := false, narrowed := true }
def AttrUnseenUptoSaid : Prop := attrUnseenUptoRow.holds Try.pinned (OpenSpec.upto attrUnseenSpec)

/-- 'quiverlaw09.AttrMany', WHERE WHAT IT READS IS OF BULK AT MOST 1048576: true; the input reads as it did. -/
def attrManyUptoRow : OpenClaim := { program := "ytimfkgepcmmmhaa", sum := "6ceadb4ba6833fab749fcf6569aff505080b8e5743c40e816e3498014a585a33", func := "quiver/quiverlaw09.AttrMany", spec := "attrMany", unfollowed := true, recurses := true, plainKeys := false, apart := false, narrowed := true }
def AttrManyUptoSaid : Prop := attrManyUptoRow.holds Try.pinned (OpenSpec.upto attrManySpec)

/-- 'quiverlaw03.ValueOrders', WHERE WHAT IT READS IS OF BULK AT MOST 1048576: true; the input reads as it did. -/
def valueOrdersUptoRow : OpenClaim := { program := "ytimfkgepcmmmhaa", sum := "6ceadb4ba6833fab749fcf6569aff505080b8e5743c40e816e3498014a585a33", func := "quiver/quiverlaw03.ValueOrders", spec := "valueOrders", inPlace := ["internal/bytealg.IndexByteString"], unfollowed := true, recurses := true, loops := true, plainKeys := false, apart := false, narrowed := true }
def ValueOrdersUptoSaid : Prop := valueOrdersUptoRow.holds Try.pinned (OpenSpec.upto valueOrdersSpec)

/-- 'quiverlaw03.ValueApart', WHERE WHAT IT READS IS OF BULK AT MOST 1048576: true; the input reads as it did. -/
def valueApartUptoRow : OpenClaim := { program := "ytimfkgepcmmmhaa", sum := "6ceadb4ba6833fab749fcf6569aff505080b8e5743c40e816e3498014a585a33", func := "quiver/quiverlaw03.ValueApart", spec := "valueApart", inPlace := ["internal/bytealg.IndexByteString"], unfollowed := true, recurses := true, loops := true, plainKeys := false, apart := false, narrowed := true }
def ValueApartUptoSaid : Prop := valueApartUptoRow.holds Try.pinned (OpenSpec.upto valueApartSpec)

/-- 'quiverlaw03.ValueBuilds', WHERE WHAT IT READS IS OF BULK AT MOST 1048576: true; the input reads as it did. -/
def valueBuildsUptoRow : OpenClaim := { program := "ytimfkgepcmmmhaa", sum := "6ceadb4ba6833fab749fcf6569aff505080b8e5743c40e816e3498014a585a33", func := "quiver/quiverlaw03.ValueBuilds", spec := "valueBuilds", inPlace := ["internal/bytealg.IndexByteString"], unfollowed := true, recurses := true, loops := true, plainKeys := false, apart := false, narrowed := true }
def ValueBuildsUptoSaid : Prop := valueBuildsUptoRow.holds Try.pinned (OpenSpec.upto valueBuildsSpec)

/-- 'quiverlaw09.AttrPlays', WHERE WHAT IT READS IS OF BULK AT MOST 1048576: true; the input reads as it did. -/
def attrPlaysUptoRow : OpenClaim := { program := "ytimfkgepcmmmhaa", sum := "6ceadb4ba6833fab749fcf6569aff505080b8e5743c40e816e3498014a585a33", func := "quiver/quiverlaw09.AttrPlays", spec := "attrPlays", unfollowed := true, recurses := true, loops := true, plainKeys := false, apart := false, narrowed := true }
def AttrPlaysUptoSaid : Prop := attrPlaysUptoRow.holds Try.pinned (OpenSpec.upto attrPlaysSpec)

/-- 'quiverlaw09.AttrNil', WHERE WHAT IT READS IS OF BULK AT MOST 1048576: true; the input reads as it did. -/
def attrNilUptoRow : OpenClaim := { program := "ytimfkgepcmmmhaa", sum := "6ceadb4ba6833fab749fcf6569aff505080b8e5743c40e816e3498014a585a33", func := "quiver/quiverlaw09.AttrNil", spec := "attrNil", unfollowed := true, recurses := true, loops := true, plainKeys := false, apart := false, narrowed := true }
def AttrNilUptoSaid : Prop := attrNilUptoRow.holds Try.pinned (OpenSpec.upto attrNilSpec)

/-- 'quiverlaw03.ValueAsks', WHERE WHAT IT READS IS OF BULK AT MOST 1048576: true; the input reads as it did. -/
def valueAsksUptoRow : OpenClaim := { program := "ytimfkgepcmmmhaa", sum := "6ceadb4ba6833fab749fcf6569aff505080b8e5743c40e816e3498014a585a33", func := "quiver/quiverlaw03.ValueAsks", spec := "valueAsks", inPlace := ["internal/bytealg.IndexByteString"], unfollowed := true, recurses := true, loops := true, plainKeys := false, apart := false, narrowed := true }
def ValueAsksUptoSaid : Prop := valueAsksUptoRow.holds Try.pinned (OpenSpec.upto valueAsksSpec)

end Rows
end Go.Proofs.Ytimfkgepcmmmhaa
