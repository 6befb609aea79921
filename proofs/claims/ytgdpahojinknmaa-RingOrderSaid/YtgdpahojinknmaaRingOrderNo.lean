/- The statement RingOrder: the walk, all capacities. -/
import Derived.Test.YtgdpahojinknmaaChecked
import Derived.WalkKit
import Derived.WalkLawsBesides
import Derived.WalkSpells
import Derived.Outline
import Derived.Below
import Derived.Lib.Hide
import Derived.OwnWalk
import Derived.Lib.SlBytesConst
import Derived.Test.YtgdpahojinknmaaReg
import Derived.Test.YtgdpahojinknmaaMem2
import Derived.Test.YtgdpahojinknmaaRingOrder
namespace Go.Proofs.Ytgdpahojinknmaa
open Go.RowKit
set_option linter.unusedSimpArgs false
set_option linter.unusedVariables false

set_option maxRecDepth 100000 in
set_option maxHeartbeats 4000000 in
theorem ringOrder_no (c : Int) (va : Value) (A : List (Int × ByteArray)) (w : World) (h1 : c < 1 ∨ 8 < c) (hA : ActsAt w va A) :
    Calls Try.prog 3 #[.int .i64 c, va] w fun e w' => e = .returned (.bool true) ∧ Below w.heap.size w w' := by
  have hA0 := hA
  obtain ⟨aa, capa, rfl, hma, -⟩ := hA0
  have hnew : mNew c = (0, 16) := by unfold mNew; rw [if_pos h1]
  clear h1
  go_enter Try.func3, Try.ntmps3
  go_wp2_with fail
  refine (new_any c _).mono ?_
  rintro e w1 ⟨rfl, hC1⟩
  rw [hnew]
  dsimp only
  clear hnew
  have hz1 := hC1.size
  go_wp2_with fail
  have hC2 : Below w.heap.size w (w1.alloc (.cells #[.string ⟨#[]⟩, .string ⟨#[]⟩, .string ⟨#[]⟩, .string ⟨#[]⟩, .string ⟨#[]⟩, .string ⟨#[]⟩, .string ⟨#[]⟩, .string ⟨#[]⟩, .int .i64 0, .int .i64 0, .int .i64 0] 25)) := hC1.alloc hz1 _
  refine (few_any _ A _ (hA.below hC2)).mono ?_
  rintro e w2 ⟨ra, rfl, -, rfl⟩
  cases ra with
  | false =>
    go_wp2_with (go_at_call 12; refine (awake_any _).mono ?_; rintro e w3 ⟨rfl, hb3⟩)
    go_ret
    exact ⟨rfl, hC2.trans (hb3.mono hC2.size)⟩
  | true =>
    go_wp2_with (go_at_call 12; refine (awake_any _).mono ?_; rintro e w3 ⟨rfl, hb3⟩)
    go_ret
    exact ⟨rfl, hC2.trans (hb3.mono hC2.size)⟩

theorem ringOrder_any (c : Int) (va : Value) (A : List (Int × ByteArray)) (w : World) (hA : ActsAt w va A) :
    Calls Try.prog 3 #[.int .i64 c, va] w fun e w' => e = .returned (.bool true) ∧ Below w.heap.size w w' := by
  by_cases h : c < 1 ∨ 8 < c
  · exact ringOrder_no c va A w h hA
  · exact ringOrder_ok c va A w (by omega) (by omega) hA
end Go.Proofs.Ytgdpahojinknmaa
