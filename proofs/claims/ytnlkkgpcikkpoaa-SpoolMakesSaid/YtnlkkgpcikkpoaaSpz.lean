/- The law SpoolMakes answers true. -/
import Derived.Test.YtnlkkgpcikkpoaaSpf
set_option linter.unusedVariables false
set_option linter.unusedSimpArgs false
namespace Go.Proofs.Ytnlkkgpcikkpoaa
open Go Vm Go.RowKit
set_option maxRecDepth 100000
theorem lwm_fn (d e : Array UInt8) (K N : Int) (hA : (arB d).size ≤ 1000) (hB : (arB e).size ≤ 1000) (hN : inI64 N) :
    FnT Try.prog 3 (argP K N d e) (objP d e true) fun r o => r = .ret (.bool true) ∧ o = objP d e true := by
  refine FnT.ofT (n := slotsC Try.prog 3) (by kernel_rfl) ?_
  apply lwm K N (arB d) (arB e) hA hB
  case pl0 => simp
  case pl1 => simp
  case l6 => intros; exact lwm_r0 K N (arB d) (arB e) (by simp) (by simp) ⟨rfl, rfl⟩
  case l10 => intros; exact lwm_r1 K N (arB d) (arB e) (by simp) (by simp) ⟨rfl, rfl⟩
  case l14 => intros; exact lwm_r2 K N (arB d) (arB e) (by simp) (by simp) ⟨rfl, rfl⟩
  all_goals
    intros
    first
      | exact okB_arB ⟨rfl, rfl, rfl, rfl, by rw [bytesC_length], by rw [bytesC_length], by assumption, by assumption, by assumption, trivial⟩
      | exact okB_arB ⟨rfl, rfl, rfl, rfl, by rw [bytesC_length], by rw [bytesC_length], by assumption, by assumption, by assumption, rfl⟩
      | exact okB_arB ⟨rfl, rfl, rfl, rfl, by rw [bytesC_length], by rw [bytesC_length], by assumption, by assumption, ⟨by decide, by decide⟩, trivial⟩
theorem spoolMakes_fn (A B : ByteArray) (K N : Int) (hN : inI64 N) :
    FnT Try.prog 3 [.agg #[.int .i64 K, .int .i64 N, .slice (some ⟨0, 0, none⟩) A.size A.size, .slice (some ⟨1, 0, none⟩) B.size B.size]] [.cells (bytesC A) 5 true, .cells (bytesC B) 5 true]
      fun r o => r = .ret (.bool true) ∧ o = [.cells (bytesC A) 5 true, .cells (bytesC B) 5 true] := by
  by_cases hA : 1000 < A.size
  · refine FnT.ofT (n := slotsC Try.prog 3) (by kernel_rfl) ?_
    exact lwh K N A B hA (by simp) (by simp) (lwh_r0 K N A B (by simp) (by simp) ⟨rfl, rfl⟩)
  by_cases hB : 1000 < B.size
  · refine FnT.ofT (n := slotsC Try.prog 3) (by kernel_rfl) ?_
    exact lwi K N A B (by omega) hB (by simp) (by simp) (lwi_r0 K N A B (by simp) (by simp) ⟨rfl, rfl⟩)
  exact lwm_fn A.data B.data K N (by show A.size ≤ 1000; omega) (by show B.size ≤ 1000; omega) hN
end Go.Proofs.Ytnlkkgpcikkpoaa
