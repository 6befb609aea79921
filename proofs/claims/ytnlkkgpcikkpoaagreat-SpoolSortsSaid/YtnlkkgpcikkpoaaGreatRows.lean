/-
  No cell of these rows narrows 'for every input' (looked for: loops, veiled, ifaces, maps, wideKeys, modest, calm, conditions, laid).
  DERIVED. THE GIVEN ROWS OF THIS SEAT. 5 by the template 'for every input the law returns true; each argument reads behind the call as it read before'; 0 by the template 'total and deterministic' (their statements: YtnlkkgpcikkpoaaGreatTotals.lean).
  GIVEN WITH THE SEED: the statements are not yours to turn. If you find one false, say at which input.
  Laid BY PROGRAM, IN A SANDBOX (cutbox-rows.mjs): the forced cells as the released guide's own fill.sh prints them over the translation ad6434b425a45c5c… (all of the seat's roots in one cut). By AI agents, Wed Nov 11 2026. No macro, syntax, notation, axiom, sorry.
-/
import Derived.Test.YtnlkkgpcikkpoaaGreatChecked
import GoSem.Claim
import GoSem.ClaimJoined
import GoSem.ClaimMapViews
import Derived.JoinedTies
import Derived.KernelRfl
namespace Go.Proofs.YtnlkkgpcikkpoaaGreat
/- THE CELL 'sum', in the pinned program and in every row, IS THE sha256 OF THE DUMP (.gsa) THAT YtnlkkgpcikkpoaaGreatProg.lean LOADS. Nothing in Lean hashes anything: it is a label: what it is worth is what the hold of that sum in a sandbox is worth. -/
noncomputable def Tryz.pinned : Pinned := { name := "ytnlkkgpcikkpoaagreat", sum := "ad6434b425a45c5cc6aaff1a70f13b46d192ba9c848a3ffd2d5b2546c615d2fa", checked := Tryz.checked }
namespace Rows
def none {H : Type} : Left H := { results := [], args := [] }

/-- 'penstocklaw18.SpoolSorts': WHATEVER THE INPUT: true; the input reads as it did. -/
def spoolSortsSpec : ChangeSpec := { name := "spoolSorts", fn := fun _ => fun
  | [d1, d2, d3] => { results := [.lit (.bool true)], args := [d1, d2, d3] }
  | _ => none }
def spoolSortsRow : OpenClaim := { program := "ytnlkkgpcikkpoaagreat", sum := "ad6434b425a45c5cc6aaff1a70f13b46d192ba9c848a3ffd2d5b2546c615d2fa", func := "penstock/penstocklaw18.SpoolSorts", spec := "spoolSorts", unfollowed := true, recurses := true, apart := false }
def SpoolSortsSaid : Prop := spoolSortsRow.holds Tryz.pinned (OpenSpec.ofChange spoolSortsSpec)

/-- ITS FALSE NEIGHBOUR: 'it returns false'. Refute it at one input. -/
def spoolSortsWrong : ChangeSpec := { name := "spoolSorts", fn := fun _ => fun
  | [d1, d2, d3] => { results := [.lit (.bool false)], args := [d1, d2, d3] }
  | _ => none }
def SpoolSortsWrongFalsely : Prop := spoolSortsRow.holds Tryz.pinned (OpenSpec.ofChange spoolSortsWrong)

/-- 'penstocklaw18.SpoolMeans': WHATEVER THE INPUT: true; the input reads as it did. -/
def spoolMeansSpec : ChangeSpec := { name := "spoolMeans", fn := fun _ => fun
  | [d1, d2, d3, d4] => { results := [.lit (.bool true)], args := [d1, d2, d3, d4] }
  | _ => none }
def spoolMeansRow : OpenClaim := { program := "ytnlkkgpcikkpoaagreat", sum := "ad6434b425a45c5cc6aaff1a70f13b46d192ba9c848a3ffd2d5b2546c615d2fa", func := "penstock/penstocklaw18.SpoolMeans", spec := "spoolMeans", unfollowed := true, recurses := true, apart := false }
def SpoolMeansSaid : Prop := spoolMeansRow.holds Tryz.pinned (OpenSpec.ofChange spoolMeansSpec)

/-- ITS FALSE NEIGHBOUR: 'it returns false'. Refute it at one input. -/
def spoolMeansWrong : ChangeSpec := { name := "spoolMeans", fn := fun _ => fun
  | [d1, d2, d3, d4] => { results := [.lit (.bool false)], args := [d1, d2, d3, d4] }
  | _ => none }
def SpoolMeansWrongFalsely : Prop := spoolMeansRow.holds Tryz.pinned (OpenSpec.ofChange spoolMeansWrong)

/-- 'penstocklaw18.SpoolChunks': WHATEVER THE INPUT: true; the input reads as it did. -/
def spoolChunksSpec : ChangeSpec := { name := "spoolChunks", fn := fun _ => fun
  | [d1, d2, d3, d4, d5] => { results := [.lit (.bool true)], args := [d1, d2, d3, d4, d5] }
  | _ => none }
def spoolChunksRow : OpenClaim := { program := "ytnlkkgpcikkpoaagreat", sum := "ad6434b425a45c5cc6aaff1a70f13b46d192ba9c848a3ffd2d5b2546c615d2fa", func := "penstock/penstocklaw18.SpoolChunks", spec := "spoolChunks", unfollowed := true, recurses := true, apart := false }
def SpoolChunksSaid : Prop := spoolChunksRow.holds Tryz.pinned (OpenSpec.ofChange spoolChunksSpec)

/-- ITS FALSE NEIGHBOUR: 'it returns false'. Refute it at one input. -/
def spoolChunksWrong : ChangeSpec := { name := "spoolChunks", fn := fun _ => fun
  | [d1, d2, d3, d4, d5] => { results := [.lit (.bool false)], args := [d1, d2, d3, d4, d5] }
  | _ => none }
def SpoolChunksWrongFalsely : Prop := spoolChunksRow.holds Tryz.pinned (OpenSpec.ofChange spoolChunksWrong)

/-- 'penstocklaw18.SpoolCloses': WHATEVER THE INPUT: true; the input reads as it did. -/
def spoolClosesSpec : ChangeSpec := { name := "spoolCloses", fn := fun _ => fun
  | [d1, d2, d3, d4, d5] => { results := [.lit (.bool true)], args := [d1, d2, d3, d4, d5] }
  | _ => none }
def spoolClosesRow : OpenClaim := { program := "ytnlkkgpcikkpoaagreat", sum := "ad6434b425a45c5cc6aaff1a70f13b46d192ba9c848a3ffd2d5b2546c615d2fa", func := "penstock/penstocklaw18.SpoolCloses", spec := "spoolCloses", inPlace := ["internal/bytealg.abigen_runtime_cmpstring"], unfollowed := true, recurses := true, apart := false }
def SpoolClosesSaid : Prop := spoolClosesRow.holds Tryz.pinned (OpenSpec.ofChange spoolClosesSpec)

/-- ITS FALSE NEIGHBOUR: 'it returns false'. Refute it at one input. -/
def spoolClosesWrong : ChangeSpec := { name := "spoolCloses", fn := fun _ => fun
  | [d1, d2, d3, d4, d5] => { results := [.lit (.bool false)], args := [d1, d2, d3, d4, d5] }
  | _ => none }
def SpoolClosesWrongFalsely : Prop := spoolClosesRow.holds Tryz.pinned (OpenSpec.ofChange spoolClosesWrong)

/-- 'penstocklaw18.SpoolNobody': WHATEVER THE INPUT: true; the input reads as it did. -/
def spoolNobodySpec : ChangeSpec := { name := "spoolNobody", fn := fun _ => fun
  | [] => { results := [.lit (.bool true)], args := [] }
  | _ => none }
def spoolNobodyRow : OpenClaim := { program := "ytnlkkgpcikkpoaagreat", sum := "ad6434b425a45c5cc6aaff1a70f13b46d192ba9c848a3ffd2d5b2546c615d2fa", func := "penstock/penstocklaw18.SpoolNobody", spec := "spoolNobody", inPlace := ["internal/bytealg.abigen_runtime_cmpstring", "internal/bytealg.IndexByte"], unfollowed := true, recurses := true, apart := false }
def SpoolNobodySaid : Prop := spoolNobodyRow.holds Tryz.pinned (OpenSpec.ofChange spoolNobodySpec)

/-- ITS FALSE NEIGHBOUR: 'it returns false'. Refute it at one input. -/
def spoolNobodyWrong : ChangeSpec := { name := "spoolNobody", fn := fun _ => fun
  | [] => { results := [.lit (.bool false)], args := [] }
  | _ => none }
def SpoolNobodyWrongFalsely : Prop := spoolNobodyRow.holds Tryz.pinned (OpenSpec.ofChange spoolNobodyWrong)

/- THE SECOND FORM. 'bulk': how many values and letters a reading holds, each counted each time it is reached (what is shared counts as often as it is met; a slice's spare places count too). A statement '..UptoSaid' is the law's where the arguments, and the package variables that the reading takes, are together of bulk at most 1048576: NARROWER than '..Said'. Prove '..Said' where nothing that the law and all that it calls make is longer than what came in: it says more and counts as full. Else prove '..UptoSaid'. A law counts once. -/
mutual
def uptoBulk {H : Type} : DataW H → Nat
  | .lit (.string bytes) => bytes.length + 1
  | .lit _ => 1
  | .nil => 1
  | .ptr d => uptoBulk d + 1
  | .slice elems spare => uptoBulkAll elems + uptoBulkAll spare + 1
  | .agg parts => uptoBulkAll parts + 1
  | .iface _ d => uptoBulk d + 1
  | .map entries => uptoBulkEntries entries + 1
  | .held _ => 1
def uptoBulkAll {H : Type} : List (DataW H) → Nat
  | [] => 0
  | d :: r => uptoBulk d + uptoBulkAll r
def uptoBulkEntries {H : Type} : List (Lit × DataW H) → Nat
  | [] => 0
  | x :: r => uptoBulkEntry x + uptoBulkEntries r
def uptoBulkEntry {H : Type} : Lit × DataW H → Nat
  | (.string bytes, d) => bytes.length + uptoBulk d + 1
  | (_, d) => uptoBulk d + 1
 end
def uptoSmall : (H : Type) → List (DataW H) → Bool := fun _ ds => decide (uptoBulkAll ds ≤ 1048576)
def OpenSpec.upto (s : _root_.Go.ChangeSpec) : _root_.Go.OpenSpec := { _root_.Go.OpenSpec.ofChange s with cond := some uptoSmall }

/-- 'penstocklaw18.SpoolSorts', WHERE WHAT IT READS IS OF BULK AT MOST 1048576: true; the input reads as it did. -/
def spoolSortsUptoRow : OpenClaim := { program := "ytnlkkgpcikkpoaagreat", sum := "ad6434b425a45c5cc6aaff1a70f13b46d192ba9c848a3ffd2d5b2546c615d2fa", func := "penstock/penstocklaw18.SpoolSorts", spec := "spoolSorts", unfollowed := true, recurses := true, apart := false, narrowed := true }
def SpoolSortsUptoSaid : Prop := spoolSortsUptoRow.holds Tryz.pinned (OpenSpec.upto spoolSortsSpec)

/-- 'penstocklaw18.SpoolMeans', WHERE WHAT IT READS IS OF BULK AT MOST 1048576: true; the input reads as it did. -/
def spoolMeansUptoRow : OpenClaim := { program := "ytnlkkgpcikkpoaagreat", sum := "ad6434b425a45c5cc6aaff1a70f13b46d192ba9c848a3ffd2d5b2546c615d2fa", func := "penstock/penstocklaw18.SpoolMeans", spec := "spoolMeans", unfollowed := true, recurses := true, apart := false, narrowed := true }
def SpoolMeansUptoSaid : Prop := spoolMeansUptoRow.holds Tryz.pinned (OpenSpec.upto spoolMeansSpec)

/-- 'penstocklaw18.SpoolChunks', WHERE WHAT IT READS IS OF BULK AT MOST 1048576: true; the input reads as it did. -/
def spoolChunksUptoRow : OpenClaim := { program := "ytnlkkgpcikkpoaagreat", sum := "ad6434b425a45c5cc6aaff1a70f13b46d192ba9c848a3ffd2d5b2546c615d2fa", func := "penstock/penstocklaw18.SpoolChunks", spec := "spoolChunks", unfollowed := true, recurses := true, apart := false, narrowed := true }
def SpoolChunksUptoSaid : Prop := spoolChunksUptoRow.holds Tryz.pinned (OpenSpec.upto spoolChunksSpec)

/-- 'penstocklaw18.SpoolCloses', WHERE WHAT IT READS IS OF BULK AT MOST 1048576: true; the input reads as it did. -/
def spoolClosesUptoRow : OpenClaim := { program := "ytnlkkgpcikkpoaagreat", sum := "ad6434b425a45c5cc6aaff1a70f13b46d192ba9c848a3ffd2d5b2546c615d2fa", func := "penstock/penstocklaw18.SpoolCloses", spec := "spoolCloses", inPlace := ["internal/bytealg.abigen_runtime_cmpstring"], unfollowed := true, recurses := true, apart := false, narrowed := true }
def SpoolClosesUptoSaid : Prop := spoolClosesUptoRow.holds Tryz.pinned (OpenSpec.upto spoolClosesSpec)

/-- 'penstocklaw18.SpoolNobody', WHERE WHAT IT READS IS OF BULK AT MOST 1048576: true; the input reads as it did. -/
def spoolNobodyUptoRow : OpenClaim := { program := "ytnlkkgpcikkpoaagreat", sum := "ad6434b425a45c5cc6aaff1a70f13b46d192ba9c848a3ffd2d5b2546c615d2fa", func := "penstock/penstocklaw18.SpoolNobody", spec := "spoolNobody", inPlace := ["internal/bytealg.abigen_runtime_cmpstring", "internal/bytealg.IndexByte"], unfollowed := true, recurses := true, apart := false, narrowed := true }
def SpoolNobodyUptoSaid : Prop := spoolNobodyUptoRow.holds Tryz.pinned (OpenSpec.upto spoolNobodySpec)

end Rows
end Go.Proofs.YtnlkkgpcikkpoaaGreat
