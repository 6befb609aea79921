/-
  No cell of these rows narrows 'for every input' (looked for: loops, veiled, ifaces, maps, wideKeys, modest, calm, conditions, laid).
  DERIVED. THE GIVEN ROWS OF THIS SEAT. 7 by the template 'for every input the law returns true; each argument reads behind the call as it read before'; 0 by the template 'total and deterministic' (their statements: YtgdpahojinknmaaTotals.lean).
  GIVEN WITH THE SEED: the statements are not yours to turn. If you find one false, say at which input.
  Laid BY PROGRAM, IN A SANDBOX (cutbox-rows.mjs): the forced cells as the released guide's own fill.sh prints them over the translation c989d3d69aea620b… (all of the seat's roots in one cut). By AI agents, Wed Nov 11 2026. No macro, syntax, notation, axiom, sorry.
-/
import Derived.Test.YtgdpahojinknmaaChecked
import GoSem.Claim
import GoSem.ClaimJoined
import GoSem.ClaimMapViews
import Derived.JoinedTies
import Derived.KernelRfl
namespace Go.Proofs.Ytgdpahojinknmaa
/- THE CELL 'sum', in the pinned program and in every row, IS THE sha256 OF THE DUMP (.gsa) THAT YtgdpahojinknmaaProg.lean LOADS. Nothing in Lean hashes anything: it is a label: what it is worth is what the hold of that sum in a sandbox is worth. -/
noncomputable def Try.pinned : Pinned := { name := "ytgdpahojinknmaa", sum := "c989d3d69aea620b895743637da4d31cd95d5fb99d72be6d25817e3077b6d186", checked := Try.checked }
namespace Rows
def none {H : Type} : Left H := { results := [], args := [] }

/-- 'penstocklaw01.RingOrder': WHATEVER THE INPUT: true; the input reads as it did. -/
def ringOrderSpec : ChangeSpec := { name := "ringOrder", fn := fun _ => fun
  | [d1, d2] => { results := [.lit (.bool true)], args := [d1, d2] }
  | _ => none }
def ringOrderRow : OpenClaim := { program := "ytgdpahojinknmaa", sum := "c989d3d69aea620b895743637da4d31cd95d5fb99d72be6d25817e3077b6d186", func := "penstock/penstocklaw01.RingOrder", spec := "ringOrder", unfollowed := true, recurses := true, apart := false }
def RingOrderSaid : Prop := ringOrderRow.holds Try.pinned (OpenSpec.ofChange ringOrderSpec)

/-- ITS FALSE NEIGHBOUR: 'it returns false'. Refute it at one input. -/
def ringOrderWrong : ChangeSpec := { name := "ringOrder", fn := fun _ => fun
  | [d1, d2] => { results := [.lit (.bool false)], args := [d1, d2] }
  | _ => none }
def RingOrderWrongFalsely : Prop := ringOrderRow.holds Try.pinned (OpenSpec.ofChange ringOrderWrong)

/-- 'penstocklaw01.RingValues': WHATEVER THE INPUT: true; the input reads as it did. -/
def ringValuesSpec : ChangeSpec := { name := "ringValues", fn := fun _ => fun
  | [d1, d2, d3] => { results := [.lit (.bool true)], args := [d1, d2, d3] }
  | _ => none }
def ringValuesRow : OpenClaim := { program := "ytgdpahojinknmaa", sum := "c989d3d69aea620b895743637da4d31cd95d5fb99d72be6d25817e3077b6d186", func := "penstock/penstocklaw01.RingValues", spec := "ringValues", unfollowed := true, recurses := true, apart := false }
def RingValuesSaid : Prop := ringValuesRow.holds Try.pinned (OpenSpec.ofChange ringValuesSpec)

/-- ITS FALSE NEIGHBOUR: 'it returns false'. Refute it at one input. -/
def ringValuesWrong : ChangeSpec := { name := "ringValues", fn := fun _ => fun
  | [d1, d2, d3] => { results := [.lit (.bool false)], args := [d1, d2, d3] }
  | _ => none }
def RingValuesWrongFalsely : Prop := ringValuesRow.holds Try.pinned (OpenSpec.ofChange ringValuesWrong)

/-- 'penstocklaw01.RingPlays': WHATEVER THE INPUT: true; the input reads as it did. -/
def ringPlaysSpec : ChangeSpec := { name := "ringPlays", fn := fun _ => fun
  | [d1, d2] => { results := [.lit (.bool true)], args := [d1, d2] }
  | _ => none }
def ringPlaysRow : OpenClaim := { program := "ytgdpahojinknmaa", sum := "c989d3d69aea620b895743637da4d31cd95d5fb99d72be6d25817e3077b6d186", func := "penstock/penstocklaw01.RingPlays", spec := "ringPlays", unfollowed := true, recurses := true, apart := false }
def RingPlaysSaid : Prop := ringPlaysRow.holds Try.pinned (OpenSpec.ofChange ringPlaysSpec)

/-- ITS FALSE NEIGHBOUR: 'it returns false'. Refute it at one input. -/
def ringPlaysWrong : ChangeSpec := { name := "ringPlays", fn := fun _ => fun
  | [d1, d2] => { results := [.lit (.bool false)], args := [d1, d2] }
  | _ => none }
def RingPlaysWrongFalsely : Prop := ringPlaysRow.holds Try.pinned (OpenSpec.ofChange ringPlaysWrong)

/-- 'penstocklaw22.DuctValues': WHATEVER THE INPUT: true; the input reads as it did. -/
def ductValuesSpec : ChangeSpec := { name := "ductValues", fn := fun _ => fun
  | [d1, d2, d3] => { results := [.lit (.bool true)], args := [d1, d2, d3] }
  | _ => none }
def ductValuesRow : OpenClaim := { program := "ytgdpahojinknmaa", sum := "c989d3d69aea620b895743637da4d31cd95d5fb99d72be6d25817e3077b6d186", func := "penstock/penstocklaw22.DuctValues", spec := "ductValues", apart := false }
def DuctValuesSaid : Prop := ductValuesRow.holds Try.pinned (OpenSpec.ofChange ductValuesSpec)

/-- ITS FALSE NEIGHBOUR: 'it returns false'. Refute it at one input. -/
def ductValuesWrong : ChangeSpec := { name := "ductValues", fn := fun _ => fun
  | [d1, d2, d3] => { results := [.lit (.bool false)], args := [d1, d2, d3] }
  | _ => none }
def DuctValuesWrongFalsely : Prop := ductValuesRow.holds Try.pinned (OpenSpec.ofChange ductValuesWrong)

/-- 'penstocklaw22.DuctPlays': WHATEVER THE INPUT: true; the input reads as it did. -/
def ductPlaysSpec : ChangeSpec := { name := "ductPlays", fn := fun _ => fun
  | [d1, d2] => { results := [.lit (.bool true)], args := [d1, d2] }
  | _ => none }
def ductPlaysRow : OpenClaim := { program := "ytgdpahojinknmaa", sum := "c989d3d69aea620b895743637da4d31cd95d5fb99d72be6d25817e3077b6d186", func := "penstock/penstocklaw22.DuctPlays", spec := "ductPlays", apart := false }
def DuctPlaysSaid : Prop := ductPlaysRow.holds Try.pinned (OpenSpec.ofChange ductPlaysSpec)

/-- ITS FALSE NEIGHBOUR: 'it returns false'. Refute it at one input. -/
def ductPlaysWrong : ChangeSpec := { name := "ductPlays", fn := fun _ => fun
  | [d1, d2] => { results := [.lit (.bool false)], args := [d1, d2] }
  | _ => none }
def DuctPlaysWrongFalsely : Prop := ductPlaysRow.holds Try.pinned (OpenSpec.ofChange ductPlaysWrong)

/-- 'penstocklaw22.DuctRow': WHATEVER THE INPUT: true; the input reads as it did. -/
def ductRowSpec : ChangeSpec := { name := "ductRow", fn := fun _ => fun
  | [d1, d2] => { results := [.lit (.bool true)], args := [d1, d2] }
  | _ => none }
def ductRowRow : OpenClaim := { program := "ytgdpahojinknmaa", sum := "c989d3d69aea620b895743637da4d31cd95d5fb99d72be6d25817e3077b6d186", func := "penstock/penstocklaw22.DuctRow", spec := "ductRow", apart := false }
def DuctRowSaid : Prop := ductRowRow.holds Try.pinned (OpenSpec.ofChange ductRowSpec)

/-- ITS FALSE NEIGHBOUR: 'it returns false'. Refute it at one input. -/
def ductRowWrong : ChangeSpec := { name := "ductRow", fn := fun _ => fun
  | [d1, d2] => { results := [.lit (.bool false)], args := [d1, d2] }
  | _ => none }
def DuctRowWrongFalsely : Prop := ductRowRow.holds Try.pinned (OpenSpec.ofChange ductRowWrong)

/-- 'penstocklaw24.JamWhich': WHATEVER THE INPUT: true; the input reads as it did. -/
def jamWhichSpec : ChangeSpec := { name := "jamWhich", fn := fun _ => fun
  | [d1, d2] => { results := [.lit (.bool true)], args := [d1, d2] }
  | _ => none }
def jamWhichRow : OpenClaim := { program := "ytgdpahojinknmaa", sum := "c989d3d69aea620b895743637da4d31cd95d5fb99d72be6d25817e3077b6d186", func := "penstock/penstocklaw24.JamWhich", spec := "jamWhich", unfollowed := true, recurses := true, apart := false }
def JamWhichSaid : Prop := jamWhichRow.holds Try.pinned (OpenSpec.ofChange jamWhichSpec)

/-- ITS FALSE NEIGHBOUR: 'it returns false'. Refute it at one input. -/
def jamWhichWrong : ChangeSpec := { name := "jamWhich", fn := fun _ => fun
  | [d1, d2] => { results := [.lit (.bool false)], args := [d1, d2] }
  | _ => none }
def JamWhichWrongFalsely : Prop := jamWhichRow.holds Try.pinned (OpenSpec.ofChange jamWhichWrong)

/- THE SECOND FORM. 'bulk': how many values and letters a reading holds, each counted each time it is reached (what is shared counts as often as it is met; a slice's spare places count too). A statement '..UptoSaid' is the law's where the arguments, and the package variables that the reading takes, are together of bulk at most 1048576: NARROWER than '..Said'. Prove '..Said' where nothing that the law and all that it calls make is longer than what came in: it says more and counts as full. Else prove '..UptoSaid'. A law counts once. -/
mutual
def uptoBulk {H : Type} : DataW H → Nat
  | .lit (.string bytes) => bytes.length + 1
  | .lit _ => 1
  | .nil => 1
  | .ptr d => uptoBulk d + 1
  | .slice elems spare => uptoBulkAll elems + uptoBulkAll spare + 1
  | .agg parts => uptoBulkAll parts + 1
  | .iface _ d => uptoBulk d + 1
  | .map entries => uptoBulkEntries entries + 1
  | .held _ => 1
def uptoBulkAll {H : Type} : List (DataW H) → Nat
  | [] => 0
  | d :: r => uptoBulk d + uptoBulkAll r
def uptoBulkEntries {H : Type} : List (Lit × DataW H) → Nat
  | [] => 0
  | x :: r => uptoBulkEntry x + uptoBulkEntries r
def uptoBulkEntry {H : Type} : Lit × DataW H → Nat
  | (.string bytes, d) => bytes.length + uptoBulk d + 1
  | (_, d) => uptoBulk d + 1
 end
def uptoSmall : (H : Type) → List (DataW H) → Bool := fun _ ds => decide (uptoBulkAll ds ≤ 1048576)
def OpenSpec.upto (s : _root_.Go.ChangeSpec) : _root_.Go.OpenSpec := { _root_.Go.OpenSpec.ofChange s with cond := some uptoSmall }

/-- 'penstocklaw01.RingOrder', WHERE WHAT IT READS IS OF BULK AT MOST 1048576: true; the input reads as it did. -/
def ringOrderUptoRow : OpenClaim := { program := "ytgdpahojinknmaa", sum := "c989d3d69aea620b895743637da4d31cd95d5fb99d72be6d25817e3077b6d186", func := "penstock/penstocklaw01.RingOrder", spec := "ringOrder", unfollowed := true, recurses := true, apart := false, narrowed := true }
def RingOrderUptoSaid : Prop := ringOrderUptoRow.holds Try.pinned (OpenSpec.upto ringOrderSpec)

/-- 'penstocklaw01.RingValues', WHERE WHAT IT READS IS OF BULK AT MOST 1048576: true; the input reads as it did. -/
def ringValuesUptoRow : OpenClaim := { program := "ytgdpahojinknmaa", sum := "c989d3d69aea620b895743637da4d31cd95d5fb99d72be6d25817e3077b6d186", func := "penstock/penstocklaw01.RingValues", spec := "ringValues", unfollowed := true, recurses := true, apart := false, narrowed := true }
def RingValuesUptoSaid : Prop := ringValuesUptoRow.holds Try.pinned (OpenSpec.upto ringValuesSpec)

/-- 'penstocklaw01.RingPlays', WHERE WHAT IT READS IS OF BULK AT MOST 1048576: true; the input reads as it did. -/
def ringPlaysUptoRow : OpenClaim := { program := "ytgdpahojinknmaa", sum := "c989d3d69aea620b895743637da4d31cd95d5fb99d72be6d25817e3077b6d186", func := "penstock/penstocklaw01.RingPlays", spec := "ringPlays", unfollowed := true, recurses := true, apart := false, narrowed := true }
def RingPlaysUptoSaid : Prop := ringPlaysUptoRow.holds Try.pinned (OpenSpec.upto ringPlaysSpec)

/-- 'penstocklaw22.DuctValues', WHERE WHAT IT READS IS OF BULK AT MOST 1048576: true; the input reads as it did. -/
def ductValuesUptoRow : OpenClaim := { program := "ytgdpahojinknmaa", sum := "c989d3d69aea620b895743637da4d31cd95d5fb99d72be6d25817e3077b6d186", func := "penstock/penstocklaw22.DuctValues", spec := "ductValues", apart := false, narrowed := true }
def DuctValuesUptoSaid : Prop := ductValuesUptoRow.holds Try.pinned (OpenSpec.upto ductValuesSpec)

/-- 'penstocklaw22.DuctPlays', WHERE WHAT IT READS IS OF BULK AT MOST 1048576: true; the input reads as it did. -/
def ductPlaysUptoRow : OpenClaim := { program := "ytgdpahojinknmaa", sum := "c989d3d69aea620b895743637da4d31cd95d5fb99d72be6d25817e3077b6d186", func := "penstock/penstocklaw22.DuctPlays", spec := "ductPlays", apart := false, narrowed := true }
def DuctPlaysUptoSaid : Prop := ductPlaysUptoRow.holds Try.pinned (OpenSpec.upto ductPlaysSpec)

/-- 'penstocklaw22.DuctRow', WHERE WHAT IT READS IS OF BULK AT MOST 1048576: true; the input reads as it did. -/
def ductRowUptoRow : OpenClaim := { program := "ytgdpahojinknmaa", sum := "c989d3d69aea620b895743637da4d31cd95d5fb99d72be6d25817e3077b6d186", func := "penstock/penstocklaw22.DuctRow", spec := "ductRow", apart := false, narrowed := true }
def DuctRowUptoSaid : Prop := ductRowUptoRow.holds Try.pinned (OpenSpec.upto ductRowSpec)

/-- 'penstocklaw24.JamWhich', WHERE WHAT IT READS IS OF BULK AT MOST 1048576: true; the input reads as it did. -/
def jamWhichUptoRow : OpenClaim := { program := "ytgdpahojinknmaa", sum := "c989d3d69aea620b895743637da4d31cd95d5fb99d72be6d25817e3077b6d186", func := "penstock/penstocklaw24.JamWhich", spec := "jamWhich", unfollowed := true, recurses := true, apart := false, narrowed := true }
def JamWhichUptoSaid : Prop := jamWhichUptoRow.holds Try.pinned (OpenSpec.upto jamWhichSpec)

end Rows
end Go.Proofs.Ytgdpahojinknmaa
