/- The rules of all kinds, told to those that call for them. -/
import Derived.Test.YtnlkkgpcikkpoaaSpr
namespace Go.Proofs.Ytnlkkgpcikkpoaa
open Go Vm Go.RowKit
set_option maxRecDepth 100000
def ruV : Value := .agg #[.int .i64 (0), .int .i64 (0), .int .i64 (0), .int .i64 (0), .int .i64 (0), .int .i64 (0), .int .i64 (0), .int .i64 (0), .int .i64 (15), .int .i64 (0), .int .i64 (0), .int .i64 (1), .int .i64 (0), .int .i64 (0), .int .i64 (0), .int .i64 (15), .int .i64 (0), .int .i64 (1), .int .i64 (0), .int .i64 (0), .int .i64 (0), .int .i64 (0), .int .i64 (1000000000), .int .i64 (0), .int .i64 (1), .int .i64 (1), .int .i64 (64), .int .i64 (0), .int .i64 (0), .int .i64 (9223372036854775807), .int .i64 (0), .int .i64 (1), .int .i64 (1), .int .i64 (64), .int .i64 (64), .int .i64 (0), .int .i64 (1), .int .i64 (1), .int .i64 (1), .int .i64 (1), .int .i64 (64), .int .i64 (0), .int .i64 (0), .int .i64 (0), .int .i64 (2), .int .i64 (1), .int .i64 (1), .int .i64 (0), .int .i64 (0), .int .i64 (1), .int .i64 (65535), .int .i64 (3), .int .i64 (1), .int .i64 (1), .int .i64 (64), .int .i64 (0), .int .i64 (0), .int .i64 (1), .int .i64 (0), .int .i64 (1), .int .i64 (1), .int .i64 (128), .int .i64 (0), .int .i64 (0), .int .i64 (0), .int .i64 (0), .int .i64 (1), .int .i64 (1), .int .i64 (0), .int .i64 (0), .int .i64 (0), .int .i64 (1000000000), .int .i64 (0), .int .i64 (1), .int .i64 (1), .int .i64 (64), .int .i64 (0), .int .i64 (0), .int .i64 (1), .int .i64 (0), .int .i64 (1), .int .i64 (1), .int .i64 (320), .int .i64 (0), .int .i64 (1), .int .i64 (4), .int .i64 (0), .int .i64 (-1), .int .i64 (1), .int .i64 (0), .int .i64 (0), .int .i64 (1), .int .i64 (4), .int .i64 (3), .int .i64 (-1), .int .i64 (1), .int .i64 (0), .int .i64 (96), .int .i64 (1), .int .i64 (9223372036854775807), .int .i64 (3), .int .i64 (2), .int .i64 (1), .int .i64 (192), .int .i64 (128), .int .i64 (1), .int .i64 (4), .int .i64 (0), .int .i64 (1), .int .i64 (-1), .int .i64 (0), .int .i64 (0), .int .i64 (1), .int .i64 (4), .int .i64 (0), .int .i64 (1), .int .i64 (-1), .int .i64 (64), .int .i64 (0)]
theorem ru_fn : FnT Try.prog 27 [] [] fun r o => r = .ret ruV ∧ o = [] := by
  refine FnT.ofT (n := slotsC Try.prog 27) (by kernel_rfl) ?_
  apply ru
  repeat (first | with_reducible refine QL.ret ?_ | with_reducible refine QL.exit ?_ | with_reducible refine QB.ret ?_ | with_reducible refine QB.hit ?_ | with_reducible refine QB.normal ?_ | with_reducible refine QB.miss (by rfl) ?_)
  refine ru_r0 ?_
  exact ⟨rfl, rfl⟩
def gRu (a : List Value) (o : List VObj) : Option (Bool × CRes × List VObj) := match a, o with
  | [], [] => some (true, .ret ruV, [])
  | _, _ => none
theorem ru_ok : FnOk Try.prog 27 (Sum.of gRu) := FnOk.of fun a o r o' hg => by
  unfold gRu at hg
  split at hg
  · simp only [Option.some.injEq, Prod.mk.injEq, true_and] at hg
    obtain ⟨rfl, rfl⟩ := hg
    exact ru_fn
  · cases hg
noncomputable def tblR : List (FuncId × Sum) := (27, Sum.of gRu) :: tblP
end Go.Proofs.Ytnlkkgpcikkpoaa
