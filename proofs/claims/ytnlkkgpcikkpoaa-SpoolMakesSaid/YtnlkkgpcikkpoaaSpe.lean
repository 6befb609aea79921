/- CopyParams, params.Check and the document's Check, told to the law. -/
import Derived.Test.YtnlkkgpcikkpoaaSpd
import Derived.KernelRfl
set_option linter.unusedVariables false
set_option linter.unusedSimpArgs false
namespace Go.Proofs.Ytnlkkgpcikkpoaa
open Go Vm Go.RowKit
set_option maxRecDepth 100000
abbrev retP (K N : Int) (d e : Array UInt8) : CRes := .ret (.agg #[.int .i64 K, .int .i64 N, .slice (some ⟨2, 0, none⟩) d.size d.size, .slice (some ⟨3, 0, none⟩) e.size e.size])
theorem cut_arB (d : Array UInt8) : ([] : List Value) ++ List.take ((arB d).size * 1) (bytesC (arB d)) = bytesC (arB d) := by
  rw [List.nil_append, Nat.mul_one, List.take_of_length_le (by rw [bytesC_length]; exact Nat.le_refl _)]
theorem cpm_fn (d e : Array UInt8) (hA : d.size ≤ 1000) (hB : e.size ≤ 1000) (K N : Int) :
    FnT Try.prog 9 (argP K N d e) (objP d e true) fun r o => r = retP K N d e ∧ o = objP d e true ++ objP d e false := by
  by_cases h0 : d.size = 0
  · have hd : d = #[] := Array.eq_empty_of_size_eq_zero h0
    subst hd
    by_cases h1 : e.size = 0
    · have he : e = #[] := Array.eq_empty_of_size_eq_zero h1
      subst he
      refine FnT.ofT (n := slotsC Try.prog 9) (by kernel_rfl) ?_
      exact cp00 K N (cp00_r0 K N ⟨rfl, rfl⟩)
    · refine FnT.ofT (n := slotsC Try.prog 9) (by kernel_rfl) ?_
      apply cp01 K N (arB e) (by rw [arB_size]; omega) hB
      case n0 => exact one_of_plain (pl_take (pl_bytes _) _)
      case pl0 => simp
      case l2 =>
        refine cp01_r0 K N (arB e) (by simp) ?_
        rw [cut_arB, Nat.zero_add]
        exact ⟨rfl, rfl⟩
  · by_cases h1 : e.size = 0
    · have he : e = #[] := Array.eq_empty_of_size_eq_zero h1
      subst he
      refine FnT.ofT (n := slotsC Try.prog 9) (by kernel_rfl) ?_
      apply cp10 K N (arB d) (by rw [arB_size]; omega) hA
      case n0 => exact one_of_plain (pl_take (pl_bytes _) _)
      case pl0 => simp
      case l2 =>
        refine cp10_r0 K N (arB d) (by simp) ?_
        rw [cut_arB, Nat.zero_add]
        exact ⟨rfl, rfl⟩
    · refine FnT.ofT (n := slotsC Try.prog 9) (by kernel_rfl) ?_
      apply cp11 K N (arB d) (arB e) (by rw [arB_size]; omega) (by rw [arB_size]; omega) hA hB
      case n0 => exact one_of_plain (pl_take (pl_bytes _) _)
      case n1 => exact one_of_plain (pl_take (pl_bytes _) _)
      case pl0 => simp
      case pl1 => simp
      case l4 =>
        refine cp11_r0 K N (arB d) (arB e) (by simp) (by simp) ?_
        rw [cut_arB, cut_arB, Nat.zero_add, Nat.zero_add]
        exact ⟨rfl, rfl⟩
def inI64 (N : Int) : Prop := -9223372036854775808 ≤ N ∧ N ≤ 9223372036854775807
noncomputable def okB (l l2 : List Value) (P : Prop) : Bool := @decide ((∃ d : Array UInt8, l = bytesC (arB d)) ∧ (∃ d : Array UInt8, l2 = bytesC (arB d)) ∧ P) (Classical.propDecidable _)
theorem okB_iff {l l2 : List Value} {P : Prop} : okB l l2 P = true ↔ (∃ d : Array UInt8, l = bytesC (arB d)) ∧ (∃ d : Array UInt8, l2 = bytesC (arB d)) ∧ P := by unfold okB; exact @decide_eq_true_iff _ (Classical.propDecidable _)
theorem okB_arB {d e : Array UInt8} {P : Prop} (h : P) : okB (bytesC (arB d)) (bytesC (arB e)) P = true := okB_iff.2 ⟨⟨d, rfl⟩, ⟨e, rfl⟩, h⟩
noncomputable abbrev preP (l l2 : List Value) (el el2 : TypeId) (n n' m m' : Nat) (N : Int) (P : Prop) : Bool :=
  okB l l2 (n' = n ∧ m' = m ∧ el = 5 ∧ el2 = 5 ∧ l.length = n ∧ l2.length = m ∧ n ≤ 1000 ∧ m ≤ 1000 ∧ inI64 N ∧ P)
noncomputable def gPc (a : List Value) (o : List VObj) : Option (Bool × CRes × List VObj) := match a, o with
  | [.agg c], [.cells l el ro, .cells l2 el2 rq] => match c.toList with
    | [.int .i64 K, .int .i64 N, .slice (some ⟨0, 0, none⟩) n n', .slice (some ⟨1, 0, none⟩) m m'] =>
      some (preP l l2 el el2 n n' m m' N (ro = rq), .ret (.int .i64 (lock (chk K N (arrOf l) (arrOf l2)))), [.cells l el ro, .cells l2 el2 rq])
    | _ => none
  | _, _ => none
noncomputable def gRk (a : List Value) (o : List VObj) : Option (Bool × CRes × List VObj) := match a, o with
  | [.agg c], [.cells l el true, .cells l2 el2 true] => match c.toList with
    | [.int .i64 K, .int .i64 N, .slice (some ⟨0, 0, none⟩) n n', .slice (some ⟨1, 0, none⟩) m m'] =>
      some (preP l l2 el el2 n n' m m' N True, .ret (.int .i64 (lock (chk K N (arrOf l) (arrOf l2)))), [.cells l el true, .cells l2 el2 true])
    | _ => none
  | _, _ => none
noncomputable def gCpm (a : List Value) (o : List VObj) : Option (Bool × CRes × List VObj) := match a, o with
  | [.agg c], [.cells l el true, .cells l2 el2 true] => match c.toList with
    | [.int .i64 K, .int .i64 N, .slice (some ⟨0, 0, none⟩) n n', .slice (some ⟨1, 0, none⟩) m m'] =>
      some (preP l l2 el el2 n n' m m' 0 True, .ret (.agg #[.int .i64 K, .int .i64 N, .slice (some ⟨2, 0, none⟩) n n, .slice (some ⟨3, 0, none⟩) m m]), [.cells l el true, .cells l2 el2 true, .cells l el false, .cells l2 el2 false])
    | _ => none
  | _, _ => none
theorem arr_of_toList {α : Type} {c : Array α} {l : List α} (h : c.toList = l) : c = l.toArray := by rw [← h]
theorem pc_ok : FnOk Try.prog 25 (Sum.of gPc) := FnOk.of fun a o r o' hg => by
  unfold gPc at hg
  split at hg
  · rename_i c l el ro l2 el2 rq
    split at hg
    · rename_i K N n n' m m' hc
      simp only [Option.some.injEq, Prod.mk.injEq, okB_iff] at hg
      obtain ⟨⟨⟨d, rfl⟩, ⟨e, rfl⟩, rfl, rfl, rfl, rfl, hl, hl2, hn, hm, hN, rfl⟩, rfl, rfl⟩ := hg
      obtain rfl := arr_of_toList hc
      obtain rfl : d.size = n' := by rw [← hl, bytesC_length]; rfl
      obtain rfl : e.size = m' := by rw [← hl2, bytesC_length]; rfl
      rw [arrOf_bytes, arrOf_bytes, lock_eq]
      exact q_fn d e hn hm K N hN.1 hN.2 ro
    · cases hg
  · cases hg
theorem rk_ok : FnOk Try.prog 7 (Sum.of gRk) := FnOk.of fun a o r o' hg => by
  unfold gRk at hg
  split at hg
  · rename_i c l el l2 el2
    split at hg
    · rename_i K N n n' m m' hc
      simp only [Option.some.injEq, Prod.mk.injEq, okB_iff] at hg
      obtain ⟨⟨⟨d, rfl⟩, ⟨e, rfl⟩, rfl, rfl, rfl, rfl, hl, hl2, hn, hm, hN, _⟩, rfl, rfl⟩ := hg
      obtain rfl := arr_of_toList hc
      obtain rfl : d.size = n' := by rw [← hl, bytesC_length]; rfl
      obtain rfl : e.size = m' := by rw [← hl2, bytesC_length]; rfl
      rw [arrOf_bytes, arrOf_bytes, lock_eq]
      exact rk_fn d e hn hm K N hN.1 hN.2
    · cases hg
  · cases hg
theorem cpm_ok : FnOk Try.prog 9 (Sum.of gCpm) := FnOk.of fun a o r o' hg => by
  unfold gCpm at hg
  split at hg
  · rename_i c l el l2 el2
    split at hg
    · rename_i K N n n' m m' hc
      simp only [Option.some.injEq, Prod.mk.injEq, okB_iff] at hg
      obtain ⟨⟨⟨d, rfl⟩, ⟨e, rfl⟩, rfl, rfl, rfl, rfl, hl, hl2, hn, hm, _, _⟩, rfl, rfl⟩ := hg
      obtain rfl := arr_of_toList hc
      obtain rfl : d.size = n' := by rw [← hl, bytesC_length]; rfl
      obtain rfl : e.size = m' := by rw [← hl2, bytesC_length]; rfl
      exact cpm_fn d e hn hm K N
    · cases hg
  · cases hg
end Go.Proofs.Ytnlkkgpcikkpoaa
