/- params.Check and the document's Check answer alike: kind by kind. -/
import Derived.Test.YtnlkkgpcikkpoaaSpb
import Derived.Test.YtnlkkgpcikkpoaaSpy
import Derived.KernelRfl
set_option linter.unusedVariables false
set_option linter.unusedSimpArgs false
namespace Go.Proofs.Ytnlkkgpcikkpoaa
open Go Vm Go.RowKit
set_option maxRecDepth 100000
def chkv (K N : Int) (a b : Nat) (f : Int) (h u : Nat) : Int := if K < 1 ∨ 16 < K then 10 else match K with
  | 1 => if a = 0 ∧ b = 0 ∧ 0 ≤ N ∧ N ≤ 15 then 0 else 11
  | 2 => if a = 0 ∧ b = 0 ∧ 0 ≤ N ∧ N ≤ 15 then 0 else 11
  | 3 => if a = 0 ∧ b = 0 ∧ 0 ≤ N ∧ N ≤ 1000000000 then 0 else 11
  | 4 => if a = 0 ∧ b = 0 ∧ 0 ≤ N then (if 31 < N then 12 else 0) else 11
  | 5 => if b = 0 ∧ 0 ≤ N ∧ N ≤ 1 ∧ 1 ≤ a ∧ a ≤ 16 ∧ h = 0 then 0 else 11
  | 6 => if N = 0 ∧ 1 ≤ a ∧ a ≤ 64 ∧ u = 1 ∧ b ≤ a then 0 else 11
  | 7 => if b = 0 ∧ a = 1 ∧ f ≠ 10 ∧ 1 ≤ N ∧ N ≤ 65535 then 0 else 11
  | 8 => if a = 0 ∧ b = 0 ∧ 0 ≤ N ∧ N ≤ 1 then 0 else 11
  | 9 => if a = 0 ∧ b = 0 ∧ N = 0 then 0 else 11
  | 10 => if a = 0 ∧ b = 0 ∧ 0 ≤ N ∧ N ≤ 1000000000 then 0 else 11
  | 11 => if a = 0 ∧ b = 0 ∧ 0 ≤ N ∧ N ≤ 1 then 0 else 11
  | 12 => if a = 0 ∧ b = 0 ∧ 1 ≤ N ∧ N ≤ 4 then 0 else 11
  | 13 => if b = 0 ∧ a = 1 ∧ f ≠ 10 ∧ 1 ≤ N ∧ N ≤ 4 then 0 else 11
  | 14 => if b = 0 ∧ a = 1 ∧ f ≠ 10 ∧ 1 ≤ N then (if 14 < N then 12 else 0) else 11
  | 15 => if a = 0 ∧ b = 0 ∧ 1 ≤ N ∧ N ≤ 4 then 0 else 11
  | 16 => if a = 0 ∧ b = 0 ∧ 1 ≤ N ∧ N ≤ 4 then 0 else 11
  | _ => 10
theorem chkv1 {N : Int} {a b : Nat} {f : Int} {h u : Nat} : chkv 1 N a b f h u = if a = 0 ∧ b = 0 ∧ 0 ≤ N ∧ N ≤ 15 then 0 else 11 := by unfold chkv; rw [if_neg (by omega)]; rfl
theorem chkv2 {N : Int} {a b : Nat} {f : Int} {h u : Nat} : chkv 2 N a b f h u = if a = 0 ∧ b = 0 ∧ 0 ≤ N ∧ N ≤ 15 then 0 else 11 := by unfold chkv; rw [if_neg (by omega)]; rfl
theorem chkv3 {N : Int} {a b : Nat} {f : Int} {h u : Nat} : chkv 3 N a b f h u = if a = 0 ∧ b = 0 ∧ 0 ≤ N ∧ N ≤ 1000000000 then 0 else 11 := by unfold chkv; rw [if_neg (by omega)]; rfl
theorem chkv4 {N : Int} {a b : Nat} {f : Int} {h u : Nat} : chkv 4 N a b f h u = if a = 0 ∧ b = 0 ∧ 0 ≤ N then (if 31 < N then 12 else 0) else 11 := by unfold chkv; rw [if_neg (by omega)]; rfl
theorem chkv5 {N : Int} {a b : Nat} {f : Int} {h u : Nat} : chkv 5 N a b f h u = if b = 0 ∧ 0 ≤ N ∧ N ≤ 1 ∧ 1 ≤ a ∧ a ≤ 16 ∧ h = 0 then 0 else 11 := by unfold chkv; rw [if_neg (by omega)]; rfl
theorem chkv6 {N : Int} {a b : Nat} {f : Int} {h u : Nat} : chkv 6 N a b f h u = if N = 0 ∧ 1 ≤ a ∧ a ≤ 64 ∧ u = 1 ∧ b ≤ a then 0 else 11 := by unfold chkv; rw [if_neg (by omega)]; rfl
theorem chkv7 {N : Int} {a b : Nat} {f : Int} {h u : Nat} : chkv 7 N a b f h u = if b = 0 ∧ a = 1 ∧ f ≠ 10 ∧ 1 ≤ N ∧ N ≤ 65535 then 0 else 11 := by unfold chkv; rw [if_neg (by omega)]; rfl
theorem chkv8 {N : Int} {a b : Nat} {f : Int} {h u : Nat} : chkv 8 N a b f h u = if a = 0 ∧ b = 0 ∧ 0 ≤ N ∧ N ≤ 1 then 0 else 11 := by unfold chkv; rw [if_neg (by omega)]; rfl
theorem chkv9 {N : Int} {a b : Nat} {f : Int} {h u : Nat} : chkv 9 N a b f h u = if a = 0 ∧ b = 0 ∧ N = 0 then 0 else 11 := by unfold chkv; rw [if_neg (by omega)]; rfl
theorem chkv10 {N : Int} {a b : Nat} {f : Int} {h u : Nat} : chkv 10 N a b f h u = if a = 0 ∧ b = 0 ∧ 0 ≤ N ∧ N ≤ 1000000000 then 0 else 11 := by unfold chkv; rw [if_neg (by omega)]; rfl
theorem chkv11 {N : Int} {a b : Nat} {f : Int} {h u : Nat} : chkv 11 N a b f h u = if a = 0 ∧ b = 0 ∧ 0 ≤ N ∧ N ≤ 1 then 0 else 11 := by unfold chkv; rw [if_neg (by omega)]; rfl
theorem chkv12 {N : Int} {a b : Nat} {f : Int} {h u : Nat} : chkv 12 N a b f h u = if a = 0 ∧ b = 0 ∧ 1 ≤ N ∧ N ≤ 4 then 0 else 11 := by unfold chkv; rw [if_neg (by omega)]; rfl
theorem chkv13 {N : Int} {a b : Nat} {f : Int} {h u : Nat} : chkv 13 N a b f h u = if b = 0 ∧ a = 1 ∧ f ≠ 10 ∧ 1 ≤ N ∧ N ≤ 4 then 0 else 11 := by unfold chkv; rw [if_neg (by omega)]; rfl
theorem chkv14 {N : Int} {a b : Nat} {f : Int} {h u : Nat} : chkv 14 N a b f h u = if b = 0 ∧ a = 1 ∧ f ≠ 10 ∧ 1 ≤ N then (if 14 < N then 12 else 0) else 11 := by unfold chkv; rw [if_neg (by omega)]; rfl
theorem chkv15 {N : Int} {a b : Nat} {f : Int} {h u : Nat} : chkv 15 N a b f h u = if a = 0 ∧ b = 0 ∧ 1 ≤ N ∧ N ≤ 4 then 0 else 11 := by unfold chkv; rw [if_neg (by omega)]; rfl
theorem chkv16 {N : Int} {a b : Nat} {f : Int} {h u : Nat} : chkv 16 N a b f h u = if a = 0 ∧ b = 0 ∧ 1 ≤ N ∧ N ≤ 4 then 0 else 11 := by unfold chkv; rw [if_neg (by omega)]; rfl
theorem chkvl {K N : Int} {a b : Nat} {f : Int} {h u : Nat} (h0 : K < 1) : chkv K N a b f h u = 10 := by unfold chkv; rw [if_pos (by omega)]
theorem chkvg {K N : Int} {a b : Nat} {f : Int} {h u : Nat} (h0 : 16 < K) : chkv K N a b f h u = 10 := by unfold chkv; rw [if_pos (by omega)]
noncomputable def chk (K N : Int) (d e : Array UInt8) : Int := chkv K N d.size e.size (intAt (bytesC (arB d)) 0) (hasA d 10).toNat (unl d).toNat
theorem hasA_t {d : Array UInt8} {v : Int} : (hasA d v = true) = ((hasA d v).toNat = 1) := by cases hasA d v <;> simp
theorem hasA_f {d : Array UInt8} {v : Int} : (hasA d v = false) = ((hasA d v).toNat = 0) := by cases hasA d v <;> simp
theorem unl_t {d : Array UInt8} : (unl d = true) = ((unl d).toNat = 1) := by cases unl d <;> simp
theorem unl_f {d : Array UInt8} : (unl d = false) = ((unl d).toNat = 0) := by cases unl d <;> simp
theorem idxF_hasA' {d : Array UInt8} {v : Int} : decide (idxF d v 0 ≥ 0) = hasA d v := idxF_hasA d v
theorem cpt_sortN (d : Array UInt8) : (cpt (Sort.sort ltB d)).1 = d.size ↔ (unl d).toNat = 1 := by
  rw [← unl_t, ← cpt_sort]; exact decide_eq_true_iff.symm
theorem cpt_sortD (d : Array UInt8) : (cpt (Sort.sort ltB d)).1 = d.size ∧ (unl d).toNat = 1 ∨ (cpt (Sort.sort ltB d)).1 ≠ d.size ∧ (unl d).toNat = 0 := by
  have := cpt_sortN d
  cases h : unl d with
  | true => rw [h] at this; exact .inl ⟨this.2 rfl, rfl⟩
  | false => rw [h] at this; exact .inr ⟨fun g => (by simpa using this.1 g), rfl⟩
theorem cpt_pl (d : Array UInt8) : (cpt d).2.all isScal = true := by
  have h1 : ∀ n k, d.size - k = n → (cpt1 d k).2.all isScal = true := by
    intro n
    induction n with
    | zero => intro k hk; rw [cpt1_eq, if_neg (by omega)]; exact pl_bytes _
    | succ n ih =>
      intro k hk
      rw [cpt1_eq, if_pos (by omega)]
      split
      · exact pl_splice (pl_bytes _) (pl_repl (by rfl) _) _
      · exact ih (k + 1) (by omega)
  unfold cpt
  split
  · exact pl_bytes _
  · exact h1 _ 1 rfl
theorem chk_eq {K N : Int} {d e : Array UInt8} {x : Int} (h : x = chkv K N d.size e.size (intAt (bytesC (arB d)) 0) (hasA d 10).toNat (unl d).toNat) : CRes.ret (.int .i64 x) = CRes.ret (.int .i64 (chk K N d e)) := by unfold chk; rw [h]
abbrev argP (K N : Int) (d e : Array UInt8) : List Value := [.agg #[.int .i64 K, .int .i64 N, .slice (some ⟨0, 0, none⟩) d.size d.size, .slice (some ⟨1, 0, none⟩) e.size e.size]]
abbrev objP (d e : Array UInt8) (ro : Bool) : List VObj := [.cells (bytesC (arB d)) 5 ro, .cells (bytesC (arB e)) 5 ro]
theorem n14 (N : Int) {P : Prop} (h1 : 1 ≤ N) (h2 : N ≤ 4) (a : N = 1 → P) (b : N = 2 → P) (c : N = 3 → P) (d : N = 4 → P) : P := by
  have h : N = 1 ∨ N = 2 ∨ N = 3 ∨ N = 4 := by omega
  rcases h with h | h | h | h
  · exact a h
  · exact b h
  · exact c h
  · exact d h
abbrev PkOk (K N : Int) (d e : Array UInt8) (ro : Bool) : Prop := FnT Try.prog 25 (argP K N d e) (objP d e ro) fun r o => r = .ret (.int .i64 (chk K N d e)) ∧ o = objP d e ro
abbrev RkOk (K N : Int) (d e : Array UInt8) (ro : Bool) : Prop := FnT Try.prog 7 (argP K N d e) (objP d e ro) fun r o => r = .ret (.int .i64 (chk K N d e)) ∧ o = objP d e ro
theorem qt1_fn (d e : Array UInt8) (hA : d.size ≤ 1000) (hB : e.size ≤ 1000) (N : Int) (hN0 : -9223372036854775808 ≤ N) (hN1 : N ≤ 9223372036854775807) (ro : Bool) :
    PkOk 1 N d e ro := by
  refine FnT.ofT (n := slotsC Try.prog 25) (by kernel_rfl) ?_
  apply qt1 N (arB d) (arB e) ro hA hB
  case pl0 => simp
  case pl1 => simp
  all_goals
    intros
    first | refine qt1_r0 N (arB d) (arB e) ro (by simp) (by simp) ?_ | refine qt1_r3 N (arB d) (arB e) ro (by simp) (by simp) ?_
    refine ⟨chk_eq ?_, rfl⟩
    rw [chkv1]
    try simp only [decide_eq_true_eq, decide_eq_false_iff_not, beq_iff_eq, beq_eq_false_iff_ne, ne_eq, bne_iff_ne, bne_eq_false_iff_eq, Bool.not_eq_true', Bool.not_eq_false', lock_eq, arrOf_bytes, arB_size, idxF_hasA', hasA_t, hasA_f, unl_t, unl_f, IntKind.wrap_i64, Bool.not_not, true_and] at *
    split <;> (try split) <;> omega
theorem qt2_fn (d e : Array UInt8) (hA : d.size ≤ 1000) (hB : e.size ≤ 1000) (N : Int) (hN0 : -9223372036854775808 ≤ N) (hN1 : N ≤ 9223372036854775807) (ro : Bool) :
    PkOk 2 N d e ro := by
  refine FnT.ofT (n := slotsC Try.prog 25) (by kernel_rfl) ?_
  apply qt2 N (arB d) (arB e) ro hA hB
  case pl0 => simp
  case pl1 => simp
  all_goals
    intros
    first | refine qt2_r0 N (arB d) (arB e) ro (by simp) (by simp) ?_ | refine qt2_r3 N (arB d) (arB e) ro (by simp) (by simp) ?_
    refine ⟨chk_eq ?_, rfl⟩
    rw [chkv2]
    try simp only [decide_eq_true_eq, decide_eq_false_iff_not, beq_iff_eq, beq_eq_false_iff_ne, ne_eq, bne_iff_ne, bne_eq_false_iff_eq, Bool.not_eq_true', Bool.not_eq_false', lock_eq, arrOf_bytes, arB_size, idxF_hasA', hasA_t, hasA_f, unl_t, unl_f, IntKind.wrap_i64, Bool.not_not, true_and] at *
    split <;> (try split) <;> omega
theorem qt3_fn (d e : Array UInt8) (hA : d.size ≤ 1000) (hB : e.size ≤ 1000) (N : Int) (hN0 : -9223372036854775808 ≤ N) (hN1 : N ≤ 9223372036854775807) (ro : Bool) :
    PkOk 3 N d e ro := by
  refine FnT.ofT (n := slotsC Try.prog 25) (by kernel_rfl) ?_
  apply qt3 N (arB d) (arB e) ro hA hB
  case pl0 => simp
  case pl1 => simp
  all_goals
    intros
    first | refine qt3_r0 N (arB d) (arB e) ro (by simp) (by simp) ?_ | refine qt3_r3 N (arB d) (arB e) ro (by simp) (by simp) ?_
    refine ⟨chk_eq ?_, rfl⟩
    rw [chkv3]
    try simp only [decide_eq_true_eq, decide_eq_false_iff_not, beq_iff_eq, beq_eq_false_iff_ne, ne_eq, bne_iff_ne, bne_eq_false_iff_eq, Bool.not_eq_true', Bool.not_eq_false', lock_eq, arrOf_bytes, arB_size, idxF_hasA', hasA_t, hasA_f, unl_t, unl_f, IntKind.wrap_i64, Bool.not_not, true_and] at *
    split <;> (try split) <;> omega
theorem qt4_fn (d e : Array UInt8) (hA : d.size ≤ 1000) (hB : e.size ≤ 1000) (N : Int) (hN0 : -9223372036854775808 ≤ N) (hN1 : N ≤ 9223372036854775807) (ro : Bool) :
    PkOk 4 N d e ro := by
  refine FnT.ofT (n := slotsC Try.prog 25) (by kernel_rfl) ?_
  apply qt4 N (arB d) (arB e) ro hA hB
  case pl0 => simp
  case pl1 => simp
  all_goals
    intros
    first | refine qt4_r0 N (arB d) (arB e) ro (by simp) (by simp) ?_ | refine qt4_r3 N (arB d) (arB e) ro (by simp) (by simp) ?_ | refine qt4_r4 N (arB d) (arB e) ro (by simp) (by simp) ?_
    refine ⟨chk_eq ?_, rfl⟩
    rw [chkv4]
    try simp only [decide_eq_true_eq, decide_eq_false_iff_not, beq_iff_eq, beq_eq_false_iff_ne, ne_eq, bne_iff_ne, bne_eq_false_iff_eq, Bool.not_eq_true', Bool.not_eq_false', lock_eq, arrOf_bytes, arB_size, idxF_hasA', hasA_t, hasA_f, unl_t, unl_f, IntKind.wrap_i64, Bool.not_not, true_and] at *
    split <;> (try split) <;> omega
theorem qt5_fn (d e : Array UInt8) (hA : d.size ≤ 1000) (hB : e.size ≤ 1000) (N : Int) (hN0 : -9223372036854775808 ≤ N) (hN1 : N ≤ 9223372036854775807) :
    PkOk 5 N d e true := by
  refine FnT.ofT (n := slotsC Try.prog 25) (by kernel_rfl) ?_
  apply qt5 N (arB d) (arB e) hA hB
  case pl0 => simp
  case pl1 => simp
  case n4 => intros; exact okA_arB ⟨rfl, rfl, by first | (rw [bytesC_length]; done) | (rw [lock_eq, arrOf_bytes, bytesC_length, arB_size, arB_size, sort_size]), by rw [arB_size]; omega⟩
  all_goals
    intros
    first | refine qt5_r0 N (arB d) (arB e) (by simp) (by simp) ?_ | refine qt5_r3 N (arB d) (arB e) (by simp) (by simp) ?_
    refine ⟨chk_eq ?_, rfl⟩
    rw [chkv5]
    try simp only [decide_eq_true_eq, decide_eq_false_iff_not, beq_iff_eq, beq_eq_false_iff_ne, ne_eq, bne_iff_ne, bne_eq_false_iff_eq, Bool.not_eq_true', Bool.not_eq_false', lock_eq, arrOf_bytes, arB_size, idxF_hasA', hasA_t, hasA_f, unl_t, unl_f, IntKind.wrap_i64, Bool.not_not, true_and] at *
    split <;> (try split) <;> omega
theorem qf5_fn (d e : Array UInt8) (hA : d.size ≤ 1000) (hB : e.size ≤ 1000) (N : Int) (hN0 : -9223372036854775808 ≤ N) (hN1 : N ≤ 9223372036854775807) :
    PkOk 5 N d e false := by
  refine FnT.ofT (n := slotsC Try.prog 25) (by kernel_rfl) ?_
  apply qf5 N (arB d) (arB e) hA hB
  case pl0 => simp
  case pl1 => simp
  case n4 => intros; exact okA_arB ⟨rfl, rfl, by first | (rw [bytesC_length]; done) | (rw [lock_eq, arrOf_bytes, bytesC_length, arB_size, arB_size, sort_size]), by rw [arB_size]; omega⟩
  all_goals
    intros
    first | refine qf5_r0 N (arB d) (arB e) (by simp) (by simp) ?_ | refine qf5_r3 N (arB d) (arB e) (by simp) (by simp) ?_
    refine ⟨chk_eq ?_, rfl⟩
    rw [chkv5]
    try simp only [decide_eq_true_eq, decide_eq_false_iff_not, beq_iff_eq, beq_eq_false_iff_ne, ne_eq, bne_iff_ne, bne_eq_false_iff_eq, Bool.not_eq_true', Bool.not_eq_false', lock_eq, arrOf_bytes, arB_size, idxF_hasA', hasA_t, hasA_f, unl_t, unl_f, IntKind.wrap_i64, Bool.not_not, true_and] at *
    split <;> (try split) <;> omega
theorem qt6l_fn (d e : Array UInt8) (hA : d.size ≤ 1000) (hB : e.size ≤ 1000) (N : Int) (hN0 : -9223372036854775808 ≤ N) (hN1 : N ≤ 9223372036854775807) (h0 : N < 0) (ro : Bool) :
    PkOk 6 N d e ro := by
  refine FnT.ofT (n := slotsC Try.prog 25) (by kernel_rfl) ?_
  apply qt6l N (arB d) (arB e) ro hA hB (by assumption)
  case pl0 => simp
  case pl1 => simp
  all_goals
    intros
    refine qt6l_r0 N (arB d) (arB e) ro (by simp) (by simp) ?_
    refine ⟨chk_eq ?_, rfl⟩
    rw [chkv6]
    try simp only [decide_eq_true_eq, decide_eq_false_iff_not, beq_iff_eq, beq_eq_false_iff_ne, ne_eq, bne_iff_ne, bne_eq_false_iff_eq, Bool.not_eq_true', Bool.not_eq_false', lock_eq, arrOf_bytes, arB_size, idxF_hasA', hasA_t, hasA_f, unl_t, unl_f, IntKind.wrap_i64, Bool.not_not, true_and] at *
    split <;> (try split) <;> omega
theorem qt6g_fn (d e : Array UInt8) (hA : d.size ≤ 1000) (hB : e.size ≤ 1000) (N : Int) (hN0 : -9223372036854775808 ≤ N) (hN1 : N ≤ 9223372036854775807) (h0 : 0 < N) (ro : Bool) :
    PkOk 6 N d e ro := by
  refine FnT.ofT (n := slotsC Try.prog 25) (by kernel_rfl) ?_
  apply qt6g N (arB d) (arB e) ro hA hB (by assumption)
  case pl0 => simp
  case pl1 => simp
  all_goals
    intros
    refine qt6g_r0 N (arB d) (arB e) ro (by simp) (by simp) ?_
    refine ⟨chk_eq ?_, rfl⟩
    rw [chkv6]
    try simp only [decide_eq_true_eq, decide_eq_false_iff_not, beq_iff_eq, beq_eq_false_iff_ne, ne_eq, bne_iff_ne, bne_eq_false_iff_eq, Bool.not_eq_true', Bool.not_eq_false', lock_eq, arrOf_bytes, arB_size, idxF_hasA', hasA_t, hasA_f, unl_t, unl_f, IntKind.wrap_i64, Bool.not_not, true_and] at *
    split <;> (try split) <;> omega
theorem qt6_fn (d e : Array UInt8) (hA : d.size ≤ 1000) (hB : e.size ≤ 1000) :
    PkOk 6 0 d e true := by
  refine FnT.ofT (n := slotsC Try.prog 25) (by kernel_rfl) ?_
  apply qt6 (arB d) (arB e) hA hB
  case n0 => exact okA_arB ⟨rfl, rfl, by first | (rw [bytesC_length]; done) | (rw [lock_eq, arrOf_bytes, bytesC_length, arB_size, arB_size, sort_size]), by rw [arB_size]; omega⟩
  case n1 => exact okA_arB ⟨rfl, rfl, by first | (rw [bytesC_length]; done) | (rw [lock_eq, arrOf_bytes, bytesC_length, arB_size, arB_size, sort_size]), by rw [arB_size]; omega⟩
  case n2 => intros; exact okA_arB ⟨rfl, rfl, by first | (rw [bytesC_length]; done) | (rw [lock_eq, arrOf_bytes, bytesC_length, arB_size, arB_size, sort_size]), by rw [arB_size]; omega⟩
  case n3 => intros; rw [lock_eq]; exact cpt_pl _
  case pl0 => simp
  case pl1 => simp
  all_goals
    intros
    first | refine qt6_r0 (arB d) (arB e) (by simp) (by simp) ?_ | refine qt6_r1 (arB d) (arB e) (by simp) (by simp) ?_
    refine ⟨chk_eq ?_, rfl⟩
    rw [chkv6]
    have hU := cpt_sortD d
    try simp only [decide_eq_true_eq, decide_eq_false_iff_not, beq_iff_eq, beq_eq_false_iff_ne, ne_eq, bne_iff_ne, bne_eq_false_iff_eq, Bool.not_eq_true', Bool.not_eq_false', lock_eq, arrOf_bytes, arB_size, idxF_hasA', hasA_t, hasA_f, unl_t, unl_f, IntKind.wrap_i64, Bool.not_not, true_and] at *
    split <;> (try split) <;> omega
theorem qf6_fn (d e : Array UInt8) (hA : d.size ≤ 1000) (hB : e.size ≤ 1000) :
    PkOk 6 0 d e false := by
  refine FnT.ofT (n := slotsC Try.prog 25) (by kernel_rfl) ?_
  apply qf6 (arB d) (arB e) hA hB
  case n0 => exact okA_arB ⟨rfl, rfl, by first | (rw [bytesC_length]; done) | (rw [lock_eq, arrOf_bytes, bytesC_length, arB_size, arB_size, sort_size]), by rw [arB_size]; omega⟩
  case n1 => exact okA_arB ⟨rfl, rfl, by first | (rw [bytesC_length]; done) | (rw [lock_eq, arrOf_bytes, bytesC_length, arB_size, arB_size, sort_size]), by rw [arB_size]; omega⟩
  case n2 => intros; exact okA_arB ⟨rfl, rfl, by first | (rw [bytesC_length]; done) | (rw [lock_eq, arrOf_bytes, bytesC_length, arB_size, arB_size, sort_size]), by rw [arB_size]; omega⟩
  case n3 => intros; rw [lock_eq]; exact cpt_pl _
  case pl0 => simp
  case pl1 => simp
  all_goals
    intros
    first | refine qf6_r0 (arB d) (arB e) (by simp) (by simp) ?_ | refine qf6_r1 (arB d) (arB e) (by simp) (by simp) ?_
    refine ⟨chk_eq ?_, rfl⟩
    rw [chkv6]
    have hU := cpt_sortD d
    try simp only [decide_eq_true_eq, decide_eq_false_iff_not, beq_iff_eq, beq_eq_false_iff_ne, ne_eq, bne_iff_ne, bne_eq_false_iff_eq, Bool.not_eq_true', Bool.not_eq_false', lock_eq, arrOf_bytes, arB_size, idxF_hasA', hasA_t, hasA_f, unl_t, unl_f, IntKind.wrap_i64, Bool.not_not, true_and] at *
    split <;> (try split) <;> omega
theorem qt7_fn (d e : Array UInt8) (hA : d.size ≤ 1000) (hB : e.size ≤ 1000) (N : Int) (hN0 : -9223372036854775808 ≤ N) (hN1 : N ≤ 9223372036854775807) (ro : Bool) :
    PkOk 7 N d e ro := by
  refine FnT.ofT (n := slotsC Try.prog 25) (by kernel_rfl) ?_
  apply qt7 N (arB d) (arB e) ro hA hB
  case pl0 => simp
  case pl1 => simp
  case n4 => intros; exact ia_arB (by simp only [beq_iff_eq, arB_size] at *; omega)
  all_goals
    intros
    first | refine qt7_r0 N (arB d) (arB e) ro (by simp) (by simp) ?_ | refine qt7_r3 N (arB d) (arB e) ro (by simp) (by simp) ?_
    refine ⟨chk_eq ?_, rfl⟩
    rw [chkv7]
    try simp only [decide_eq_true_eq, decide_eq_false_iff_not, beq_iff_eq, beq_eq_false_iff_ne, ne_eq, bne_iff_ne, bne_eq_false_iff_eq, Bool.not_eq_true', Bool.not_eq_false', lock_eq, arrOf_bytes, arB_size, idxF_hasA', hasA_t, hasA_f, unl_t, unl_f, IntKind.wrap_i64, Bool.not_not, true_and] at *
    split <;> (try split) <;> omega
theorem qt8_fn (d e : Array UInt8) (hA : d.size ≤ 1000) (hB : e.size ≤ 1000) (N : Int) (hN0 : -9223372036854775808 ≤ N) (hN1 : N ≤ 9223372036854775807) (ro : Bool) :
    PkOk 8 N d e ro := by
  refine FnT.ofT (n := slotsC Try.prog 25) (by kernel_rfl) ?_
  apply qt8 N (arB d) (arB e) ro hA hB
  case pl0 => simp
  case pl1 => simp
  all_goals
    intros
    first | refine qt8_r0 N (arB d) (arB e) ro (by simp) (by simp) ?_ | refine qt8_r3 N (arB d) (arB e) ro (by simp) (by simp) ?_
    refine ⟨chk_eq ?_, rfl⟩
    rw [chkv8]
    try simp only [decide_eq_true_eq, decide_eq_false_iff_not, beq_iff_eq, beq_eq_false_iff_ne, ne_eq, bne_iff_ne, bne_eq_false_iff_eq, Bool.not_eq_true', Bool.not_eq_false', lock_eq, arrOf_bytes, arB_size, idxF_hasA', hasA_t, hasA_f, unl_t, unl_f, IntKind.wrap_i64, Bool.not_not, true_and] at *
    split <;> (try split) <;> omega
theorem qt9_fn (d e : Array UInt8) (hA : d.size ≤ 1000) (hB : e.size ≤ 1000) (N : Int) (hN0 : -9223372036854775808 ≤ N) (hN1 : N ≤ 9223372036854775807) (ro : Bool) :
    PkOk 9 N d e ro := by
  refine FnT.ofT (n := slotsC Try.prog 25) (by kernel_rfl) ?_
  apply qt9 N (arB d) (arB e) ro hA hB
  case pl0 => simp
  case pl1 => simp
  all_goals
    intros
    first | refine qt9_r0 N (arB d) (arB e) ro (by simp) (by simp) ?_ | refine qt9_r3 N (arB d) (arB e) ro (by simp) (by simp) ?_
    refine ⟨chk_eq ?_, rfl⟩
    rw [chkv9]
    try simp only [decide_eq_true_eq, decide_eq_false_iff_not, beq_iff_eq, beq_eq_false_iff_ne, ne_eq, bne_iff_ne, bne_eq_false_iff_eq, Bool.not_eq_true', Bool.not_eq_false', lock_eq, arrOf_bytes, arB_size, idxF_hasA', hasA_t, hasA_f, unl_t, unl_f, IntKind.wrap_i64, Bool.not_not, true_and] at *
    split <;> (try split) <;> omega
theorem qt10_fn (d e : Array UInt8) (hA : d.size ≤ 1000) (hB : e.size ≤ 1000) (N : Int) (hN0 : -9223372036854775808 ≤ N) (hN1 : N ≤ 9223372036854775807) (ro : Bool) :
    PkOk 10 N d e ro := by
  refine FnT.ofT (n := slotsC Try.prog 25) (by kernel_rfl) ?_
  apply qt10 N (arB d) (arB e) ro hA hB
  case pl0 => simp
  case pl1 => simp
  all_goals
    intros
    first | refine qt10_r0 N (arB d) (arB e) ro (by simp) (by simp) ?_ | refine qt10_r3 N (arB d) (arB e) ro (by simp) (by simp) ?_
    refine ⟨chk_eq ?_, rfl⟩
    rw [chkv10]
    try simp only [decide_eq_true_eq, decide_eq_false_iff_not, beq_iff_eq, beq_eq_false_iff_ne, ne_eq, bne_iff_ne, bne_eq_false_iff_eq, Bool.not_eq_true', Bool.not_eq_false', lock_eq, arrOf_bytes, arB_size, idxF_hasA', hasA_t, hasA_f, unl_t, unl_f, IntKind.wrap_i64, Bool.not_not, true_and] at *
    split <;> (try split) <;> omega
theorem qt11_fn (d e : Array UInt8) (hA : d.size ≤ 1000) (hB : e.size ≤ 1000) (N : Int) (hN0 : -9223372036854775808 ≤ N) (hN1 : N ≤ 9223372036854775807) (ro : Bool) :
    PkOk 11 N d e ro := by
  refine FnT.ofT (n := slotsC Try.prog 25) (by kernel_rfl) ?_
  apply qt11 N (arB d) (arB e) ro hA hB
  case pl0 => simp
  case pl1 => simp
  all_goals
    intros
    first | refine qt11_r0 N (arB d) (arB e) ro (by simp) (by simp) ?_ | refine qt11_r3 N (arB d) (arB e) ro (by simp) (by simp) ?_
    refine ⟨chk_eq ?_, rfl⟩
    rw [chkv11]
    try simp only [decide_eq_true_eq, decide_eq_false_iff_not, beq_iff_eq, beq_eq_false_iff_ne, ne_eq, bne_iff_ne, bne_eq_false_iff_eq, Bool.not_eq_true', Bool.not_eq_false', lock_eq, arrOf_bytes, arB_size, idxF_hasA', hasA_t, hasA_f, unl_t, unl_f, IntKind.wrap_i64, Bool.not_not, true_and] at *
    split <;> (try split) <;> omega
theorem qt12_fn (d e : Array UInt8) (hA : d.size ≤ 1000) (hB : e.size ≤ 1000) (N : Int) (hN0 : -9223372036854775808 ≤ N) (hN1 : N ≤ 9223372036854775807) (ro : Bool) :
    PkOk 12 N d e ro := by
  refine FnT.ofT (n := slotsC Try.prog 25) (by kernel_rfl) ?_
  apply qt12 N (arB d) (arB e) ro hA hB
  case pl0 => simp
  case pl1 => simp
  all_goals
    intros
    first | refine qt12_r0 N (arB d) (arB e) ro (by simp) (by simp) ?_ | refine qt12_r3 N (arB d) (arB e) ro (by simp) (by simp) ?_
    refine ⟨chk_eq ?_, rfl⟩
    rw [chkv12]
    try simp only [decide_eq_true_eq, decide_eq_false_iff_not, beq_iff_eq, beq_eq_false_iff_ne, ne_eq, bne_iff_ne, bne_eq_false_iff_eq, Bool.not_eq_true', Bool.not_eq_false', lock_eq, arrOf_bytes, arB_size, idxF_hasA', hasA_t, hasA_f, unl_t, unl_f, IntKind.wrap_i64, Bool.not_not, true_and] at *
    split <;> (try split) <;> omega
theorem qt13_fn (d e : Array UInt8) (hA : d.size ≤ 1000) (hB : e.size ≤ 1000) (N : Int) (hN0 : -9223372036854775808 ≤ N) (hN1 : N ≤ 9223372036854775807) (ro : Bool) :
    PkOk 13 N d e ro := by
  refine FnT.ofT (n := slotsC Try.prog 25) (by kernel_rfl) ?_
  apply qt13 N (arB d) (arB e) ro hA hB
  case pl0 => simp
  case pl1 => simp
  case n4 => intros; exact ia_arB (by simp only [beq_iff_eq, arB_size] at *; omega)
  all_goals
    intros
    first | refine qt13_r0 N (arB d) (arB e) ro (by simp) (by simp) ?_ | refine qt13_r3 N (arB d) (arB e) ro (by simp) (by simp) ?_
    refine ⟨chk_eq ?_, rfl⟩
    rw [chkv13]
    try simp only [decide_eq_true_eq, decide_eq_false_iff_not, beq_iff_eq, beq_eq_false_iff_ne, ne_eq, bne_iff_ne, bne_eq_false_iff_eq, Bool.not_eq_true', Bool.not_eq_false', lock_eq, arrOf_bytes, arB_size, idxF_hasA', hasA_t, hasA_f, unl_t, unl_f, IntKind.wrap_i64, Bool.not_not, true_and] at *
    split <;> (try split) <;> omega
theorem qt14_fn (d e : Array UInt8) (hA : d.size ≤ 1000) (hB : e.size ≤ 1000) (N : Int) (hN0 : -9223372036854775808 ≤ N) (hN1 : N ≤ 9223372036854775807) (ro : Bool) :
    PkOk 14 N d e ro := by
  refine FnT.ofT (n := slotsC Try.prog 25) (by kernel_rfl) ?_
  apply qt14 N (arB d) (arB e) ro hA hB
  case pl0 => simp
  case pl1 => simp
  case n4 => intros; exact ia_arB (by simp only [beq_iff_eq, arB_size] at *; omega)
  all_goals
    intros
    first | refine qt14_r0 N (arB d) (arB e) ro (by simp) (by simp) ?_ | refine qt14_r3 N (arB d) (arB e) ro (by simp) (by simp) ?_ | refine qt14_r4 N (arB d) (arB e) ro (by simp) (by simp) ?_
    refine ⟨chk_eq ?_, rfl⟩
    rw [chkv14]
    try simp only [decide_eq_true_eq, decide_eq_false_iff_not, beq_iff_eq, beq_eq_false_iff_ne, ne_eq, bne_iff_ne, bne_eq_false_iff_eq, Bool.not_eq_true', Bool.not_eq_false', lock_eq, arrOf_bytes, arB_size, idxF_hasA', hasA_t, hasA_f, unl_t, unl_f, IntKind.wrap_i64, Bool.not_not, true_and] at *
    split <;> (try split) <;> omega
theorem qt15_fn (d e : Array UInt8) (hA : d.size ≤ 1000) (hB : e.size ≤ 1000) (N : Int) (hN0 : -9223372036854775808 ≤ N) (hN1 : N ≤ 9223372036854775807) (ro : Bool) :
    PkOk 15 N d e ro := by
  refine FnT.ofT (n := slotsC Try.prog 25) (by kernel_rfl) ?_
  apply qt15 N (arB d) (arB e) ro hA hB
  case pl0 => simp
  case pl1 => simp
  all_goals
    intros
    first | refine qt15_r0 N (arB d) (arB e) ro (by simp) (by simp) ?_ | refine qt15_r3 N (arB d) (arB e) ro (by simp) (by simp) ?_
    refine ⟨chk_eq ?_, rfl⟩
    rw [chkv15]
    try simp only [decide_eq_true_eq, decide_eq_false_iff_not, beq_iff_eq, beq_eq_false_iff_ne, ne_eq, bne_iff_ne, bne_eq_false_iff_eq, Bool.not_eq_true', Bool.not_eq_false', lock_eq, arrOf_bytes, arB_size, idxF_hasA', hasA_t, hasA_f, unl_t, unl_f, IntKind.wrap_i64, Bool.not_not, true_and] at *
    split <;> (try split) <;> omega
theorem qt16_fn (d e : Array UInt8) (hA : d.size ≤ 1000) (hB : e.size ≤ 1000) (N : Int) (hN0 : -9223372036854775808 ≤ N) (hN1 : N ≤ 9223372036854775807) (ro : Bool) :
    PkOk 16 N d e ro := by
  refine FnT.ofT (n := slotsC Try.prog 25) (by kernel_rfl) ?_
  apply qt16 N (arB d) (arB e) ro hA hB
  case pl0 => simp
  case pl1 => simp
  all_goals
    intros
    first | refine qt16_r0 N (arB d) (arB e) ro (by simp) (by simp) ?_ | refine qt16_r3 N (arB d) (arB e) ro (by simp) (by simp) ?_
    refine ⟨chk_eq ?_, rfl⟩
    rw [chkv16]
    try simp only [decide_eq_true_eq, decide_eq_false_iff_not, beq_iff_eq, beq_eq_false_iff_ne, ne_eq, bne_iff_ne, bne_eq_false_iff_eq, Bool.not_eq_true', Bool.not_eq_false', lock_eq, arrOf_bytes, arB_size, idxF_hasA', hasA_t, hasA_f, unl_t, unl_f, IntKind.wrap_i64, Bool.not_not, true_and] at *
    split <;> (try split) <;> omega
theorem qtl_fn (d e : Array UInt8) (hA : d.size ≤ 1000) (hB : e.size ≤ 1000) (K N : Int) (hN0 : -9223372036854775808 ≤ N) (hN1 : N ≤ 9223372036854775807) (h0 : K < 1) (ro : Bool) :
    PkOk K N d e ro := by
  refine FnT.ofT (n := slotsC Try.prog 25) (by kernel_rfl) ?_
  apply qtl K N (arB d) (arB e) ro hA hB (by assumption)
  case pl0 => simp
  case pl1 => simp
  all_goals
    intros
    refine qtl_r0 K N (arB d) (arB e) ro (by simp) (by simp) ?_
    refine ⟨chk_eq ?_, rfl⟩
    rw [chkvl (by assumption)]
theorem qtg_fn (d e : Array UInt8) (hA : d.size ≤ 1000) (hB : e.size ≤ 1000) (K N : Int) (hN0 : -9223372036854775808 ≤ N) (hN1 : N ≤ 9223372036854775807) (h0 : 16 < K) (ro : Bool) :
    PkOk K N d e ro := by
  refine FnT.ofT (n := slotsC Try.prog 25) (by kernel_rfl) ?_
  apply qtg K N (arB d) (arB e) ro hA hB (by assumption)
  case pl0 => simp
  case pl1 => simp
  all_goals
    intros
    refine qtg_r0 K N (arB d) (arB e) ro (by simp) (by simp) ?_
    refine ⟨chk_eq ?_, rfl⟩
    rw [chkvg (by assumption)]
theorem q_fn (d e : Array UInt8) (hA : d.size ≤ 1000) (hB : e.size ≤ 1000) (K N : Int) (hN0 : -9223372036854775808 ≤ N) (hN1 : N ≤ 9223372036854775807) (ro : Bool) :
    FnT Try.prog 25 (argP K N d e) (objP d e ro) fun r o => r = .ret (.int .i64 (chk K N d e)) ∧ o = objP d e ro := by
  by_cases h1 : K < 1
  · exact qtl_fn d e hA hB K N hN0 hN1 h1 ro
  by_cases h2 : 16 < K
  · exact qtg_fn d e hA hB K N hN0 hN1 h2 ro
  have h : K = 1 ∨ K = 2 ∨ K = 3 ∨ K = 4 ∨ K = 5 ∨ K = 6 ∨ K = 7 ∨ K = 8 ∨ K = 9 ∨ K = 10 ∨ K = 11 ∨ K = 12 ∨ K = 13 ∨ K = 14 ∨ K = 15 ∨ K = 16 := by omega
  rcases h with rfl | rfl | rfl | rfl | rfl | rfl | rfl | rfl | rfl | rfl | rfl | rfl | rfl | rfl | rfl | rfl
  · exact qt1_fn d e hA hB N hN0 hN1 ro
  · exact qt2_fn d e hA hB N hN0 hN1 ro
  · exact qt3_fn d e hA hB N hN0 hN1 ro
  · exact qt4_fn d e hA hB N hN0 hN1 ro
  · cases ro with
    | true => exact qt5_fn d e hA hB N hN0 hN1
    | false => exact qf5_fn d e hA hB N hN0 hN1
  · by_cases h3 : N < 0
    · exact qt6l_fn d e hA hB N hN0 hN1 h3 ro
    by_cases h4 : 0 < N
    · exact qt6g_fn d e hA hB N hN0 hN1 h4 ro
    obtain rfl : N = 0 := by omega
    cases ro with
    | true => exact qt6_fn d e hA hB
    | false => exact qf6_fn d e hA hB
  · exact qt7_fn d e hA hB N hN0 hN1 ro
  · exact qt8_fn d e hA hB N hN0 hN1 ro
  · exact qt9_fn d e hA hB N hN0 hN1 ro
  · exact qt10_fn d e hA hB N hN0 hN1 ro
  · exact qt11_fn d e hA hB N hN0 hN1 ro
  · exact qt12_fn d e hA hB N hN0 hN1 ro
  · exact qt13_fn d e hA hB N hN0 hN1 ro
  · exact qt14_fn d e hA hB N hN0 hN1 ro
  · exact qt15_fn d e hA hB N hN0 hN1 ro
  · exact qt16_fn d e hA hB N hN0 hN1 ro
theorem rk1_fn (d e : Array UInt8) (hA : d.size ≤ 1000) (hB : e.size ≤ 1000) (N : Int) (hN0 : -9223372036854775808 ≤ N) (hN1 : N ≤ 9223372036854775807) :
    RkOk 1 N d e true := by
  refine FnT.ofT (n := slotsC Try.prog 7) (by kernel_rfl) ?_
  apply rk1 N (arB d) (arB e) hA hB
  case pl0 => simp
  case pl1 => simp
  all_goals
    intros
    first | refine rk1_r0 N (arB d) (arB e) (by simp) (by simp) ?_ | refine rk1_r1 N (arB d) (arB e) (by simp) (by simp) ?_
    refine ⟨chk_eq ?_, rfl⟩
    rw [chkv1]
    try simp only [decide_eq_true_eq, decide_eq_false_iff_not, beq_iff_eq, beq_eq_false_iff_ne, ne_eq, bne_iff_ne, bne_eq_false_iff_eq, Bool.not_eq_true', Bool.not_eq_false', lock_eq, arrOf_bytes, arB_size, idxF_hasA', hasA_t, hasA_f, unl_t, unl_f, IntKind.wrap_i64, Bool.not_not, true_and] at *
    split <;> (try split) <;> omega
theorem rk2_fn (d e : Array UInt8) (hA : d.size ≤ 1000) (hB : e.size ≤ 1000) (N : Int) (hN0 : -9223372036854775808 ≤ N) (hN1 : N ≤ 9223372036854775807) :
    RkOk 2 N d e true := by
  refine FnT.ofT (n := slotsC Try.prog 7) (by kernel_rfl) ?_
  apply rk2 N (arB d) (arB e) hA hB
  case pl0 => simp
  case pl1 => simp
  all_goals
    intros
    first | refine rk2_r0 N (arB d) (arB e) (by simp) (by simp) ?_ | refine rk2_r1 N (arB d) (arB e) (by simp) (by simp) ?_
    refine ⟨chk_eq ?_, rfl⟩
    rw [chkv2]
    try simp only [decide_eq_true_eq, decide_eq_false_iff_not, beq_iff_eq, beq_eq_false_iff_ne, ne_eq, bne_iff_ne, bne_eq_false_iff_eq, Bool.not_eq_true', Bool.not_eq_false', lock_eq, arrOf_bytes, arB_size, idxF_hasA', hasA_t, hasA_f, unl_t, unl_f, IntKind.wrap_i64, Bool.not_not, true_and] at *
    split <;> (try split) <;> omega
theorem rk3_fn (d e : Array UInt8) (hA : d.size ≤ 1000) (hB : e.size ≤ 1000) (N : Int) (hN0 : -9223372036854775808 ≤ N) (hN1 : N ≤ 9223372036854775807) :
    RkOk 3 N d e true := by
  refine FnT.ofT (n := slotsC Try.prog 7) (by kernel_rfl) ?_
  apply rk3 N (arB d) (arB e) hA hB
  case pl0 => simp
  case pl1 => simp
  all_goals
    intros
    first | refine rk3_r0 N (arB d) (arB e) (by simp) (by simp) ?_ | refine rk3_r1 N (arB d) (arB e) (by simp) (by simp) ?_
    refine ⟨chk_eq ?_, rfl⟩
    rw [chkv3]
    try simp only [decide_eq_true_eq, decide_eq_false_iff_not, beq_iff_eq, beq_eq_false_iff_ne, ne_eq, bne_iff_ne, bne_eq_false_iff_eq, Bool.not_eq_true', Bool.not_eq_false', lock_eq, arrOf_bytes, arB_size, idxF_hasA', hasA_t, hasA_f, unl_t, unl_f, IntKind.wrap_i64, Bool.not_not, true_and] at *
    split <;> (try split) <;> omega
theorem rk4_fn (d e : Array UInt8) (hA : d.size ≤ 1000) (hB : e.size ≤ 1000) (N : Int) (hN0 : -9223372036854775808 ≤ N) (hN1 : N ≤ 9223372036854775807) :
    RkOk 4 N d e true := by
  refine FnT.ofT (n := slotsC Try.prog 7) (by kernel_rfl) ?_
  apply rk4 N (arB d) (arB e) hA hB
  case pl0 => simp
  case pl1 => simp
  all_goals
    intros
    first | refine rk4_r0 N (arB d) (arB e) (by simp) (by simp) ?_ | refine rk4_r1 N (arB d) (arB e) (by simp) (by simp) ?_ | refine rk4_r3 N (arB d) (arB e) (by simp) (by simp) ?_
    refine ⟨chk_eq ?_, rfl⟩
    rw [chkv4]
    try simp only [decide_eq_true_eq, decide_eq_false_iff_not, beq_iff_eq, beq_eq_false_iff_ne, ne_eq, bne_iff_ne, bne_eq_false_iff_eq, Bool.not_eq_true', Bool.not_eq_false', lock_eq, arrOf_bytes, arB_size, idxF_hasA', hasA_t, hasA_f, unl_t, unl_f, IntKind.wrap_i64, Bool.not_not, true_and] at *
    split <;> (try split) <;> omega
theorem rk5a_fn (d e : Array UInt8) (hA : d.size ≤ 1000) (hB : e.size ≤ 1000) (N : Int) (hN0 : -9223372036854775808 ≤ N) (hN1 : N ≤ 9223372036854775807) (h0 : 0 < e.size) :
    RkOk 5 N d e true := by
  refine FnT.ofT (n := slotsC Try.prog 7) (by kernel_rfl) ?_
  apply rk5a N (arB d) (arB e) hA hB (by assumption)
  case pl0 => simp
  case pl1 => simp
  all_goals
    intros
    refine rk5a_r0 N (arB d) (arB e) (by simp) (by simp) ?_
    refine ⟨chk_eq ?_, rfl⟩
    rw [chkv5]
    try simp only [decide_eq_true_eq, decide_eq_false_iff_not, beq_iff_eq, beq_eq_false_iff_ne, ne_eq, bne_iff_ne, bne_eq_false_iff_eq, Bool.not_eq_true', Bool.not_eq_false', lock_eq, arrOf_bytes, arB_size, idxF_hasA', hasA_t, hasA_f, unl_t, unl_f, IntKind.wrap_i64, Bool.not_not, true_and] at *
    split <;> (try split) <;> omega
theorem rk5b_fn (d e : Array UInt8) (hA : d.size ≤ 1000) (hB : e.size ≤ 1000) (N : Int) (hN0 : -9223372036854775808 ≤ N) (hN1 : N ≤ 9223372036854775807) (h0 : e.size = 0) (h1 : d.size = 0) :
    RkOk 5 N d e true := by
  refine FnT.ofT (n := slotsC Try.prog 7) (by kernel_rfl) ?_
  apply rk5b N (arB d) (arB e) hA hB (by assumption) (by assumption)
  case pl0 => simp
  case pl1 => simp
  all_goals
    intros
    refine rk5b_r0 N (arB d) (arB e) (by simp) (by simp) ?_
    refine ⟨chk_eq ?_, rfl⟩
    rw [chkv5]
    try simp only [decide_eq_true_eq, decide_eq_false_iff_not, beq_iff_eq, beq_eq_false_iff_ne, ne_eq, bne_iff_ne, bne_eq_false_iff_eq, Bool.not_eq_true', Bool.not_eq_false', lock_eq, arrOf_bytes, arB_size, idxF_hasA', hasA_t, hasA_f, unl_t, unl_f, IntKind.wrap_i64, Bool.not_not, true_and] at *
    split <;> (try split) <;> omega
theorem rk5c_fn (d e : Array UInt8) (hA : d.size ≤ 1000) (hB : e.size ≤ 1000) (N : Int) (hN0 : -9223372036854775808 ≤ N) (hN1 : N ≤ 9223372036854775807) (h0 : e.size = 0) (h1 : 0 < d.size) :
    RkOk 5 N d e true := by
  refine FnT.ofT (n := slotsC Try.prog 7) (by kernel_rfl) ?_
  apply rk5c N (arB d) (arB e) hA hB (by assumption) (by assumption)
  case n0 => intros; exact okA_arB ⟨rfl, rfl, by first | (rw [bytesC_length]; done) | (rw [lock_eq, arrOf_bytes, bytesC_length, arB_size, arB_size, sort_size]), by rw [arB_size]; omega⟩
  case pl0 => simp
  case pl1 => simp
  all_goals
    intros
    first | refine rk5c_r0 N (arB d) (arB e) (by simp) (by simp) ?_ | refine rk5c_r1 N (arB d) (arB e) (by simp) (by simp) ?_
    refine ⟨chk_eq ?_, rfl⟩
    rw [chkv5]
    try simp only [decide_eq_true_eq, decide_eq_false_iff_not, beq_iff_eq, beq_eq_false_iff_ne, ne_eq, bne_iff_ne, bne_eq_false_iff_eq, Bool.not_eq_true', Bool.not_eq_false', lock_eq, arrOf_bytes, arB_size, idxF_hasA', hasA_t, hasA_f, unl_t, unl_f, IntKind.wrap_i64, Bool.not_not, true_and] at *
    split <;> (try split) <;> omega
theorem rk6b_fn (d e : Array UInt8) (hA : d.size ≤ 1000) (hB : e.size ≤ 1000) (N : Int) (hN0 : -9223372036854775808 ≤ N) (hN1 : N ≤ 9223372036854775807) (h1 : d.size = 0) :
    RkOk 6 N d e true := by
  refine FnT.ofT (n := slotsC Try.prog 7) (by kernel_rfl) ?_
  apply rk6b N (arB d) (arB e) hA hB (by assumption)
  case pl0 => simp
  case pl1 => simp
  all_goals
    intros
    refine rk6b_r0 N (arB d) (arB e) (by simp) (by simp) ?_
    refine ⟨chk_eq ?_, rfl⟩
    rw [chkv6]
    try simp only [decide_eq_true_eq, decide_eq_false_iff_not, beq_iff_eq, beq_eq_false_iff_ne, ne_eq, bne_iff_ne, bne_eq_false_iff_eq, Bool.not_eq_true', Bool.not_eq_false', lock_eq, arrOf_bytes, arB_size, idxF_hasA', hasA_t, hasA_f, unl_t, unl_f, IntKind.wrap_i64, Bool.not_not, true_and] at *
    split <;> (try split) <;> omega
theorem rk6c_fn (d e : Array UInt8) (hA : d.size ≤ 1000) (hB : e.size ≤ 1000) (N : Int) (hN0 : -9223372036854775808 ≤ N) (hN1 : N ≤ 9223372036854775807) (h1 : 0 < d.size) :
    RkOk 6 N d e true := by
  refine FnT.ofT (n := slotsC Try.prog 7) (by kernel_rfl) ?_
  apply rk6c N (arB d) (arB e) hA hB (by assumption)
  case n0 => intros; exact okA_arB ⟨rfl, rfl, by first | (rw [bytesC_length]; done) | (rw [lock_eq, arrOf_bytes, bytesC_length, arB_size, arB_size, sort_size]), by rw [arB_size]; omega⟩
  case pl0 => simp
  case pl1 => simp
  all_goals
    intros
    first | refine rk6c_r0 N (arB d) (arB e) (by simp) (by simp) ?_ | refine rk6c_r1 N (arB d) (arB e) (by simp) (by simp) ?_
    refine ⟨chk_eq ?_, rfl⟩
    rw [chkv6]
    try simp only [decide_eq_true_eq, decide_eq_false_iff_not, beq_iff_eq, beq_eq_false_iff_ne, ne_eq, bne_iff_ne, bne_eq_false_iff_eq, Bool.not_eq_true', Bool.not_eq_false', lock_eq, arrOf_bytes, arB_size, idxF_hasA', hasA_t, hasA_f, unl_t, unl_f, IntKind.wrap_i64, Bool.not_not, true_and] at *
    split <;> (try split) <;> omega
theorem rk7a_fn (d e : Array UInt8) (hA : d.size ≤ 1000) (hB : e.size ≤ 1000) (N : Int) (hN0 : -9223372036854775808 ≤ N) (hN1 : N ≤ 9223372036854775807) (h0 : 0 < e.size) :
    RkOk 7 N d e true := by
  refine FnT.ofT (n := slotsC Try.prog 7) (by kernel_rfl) ?_
  apply rk7a N (arB d) (arB e) hA hB (by assumption)
  case pl0 => simp
  case pl1 => simp
  all_goals
    intros
    refine rk7a_r0 N (arB d) (arB e) (by simp) (by simp) ?_
    refine ⟨chk_eq ?_, rfl⟩
    rw [chkv7]
    try simp only [decide_eq_true_eq, decide_eq_false_iff_not, beq_iff_eq, beq_eq_false_iff_ne, ne_eq, bne_iff_ne, bne_eq_false_iff_eq, Bool.not_eq_true', Bool.not_eq_false', lock_eq, arrOf_bytes, arB_size, idxF_hasA', hasA_t, hasA_f, unl_t, unl_f, IntKind.wrap_i64, Bool.not_not, true_and] at *
    split <;> (try split) <;> omega
theorem rk7b_fn (d e : Array UInt8) (hA : d.size ≤ 1000) (hB : e.size ≤ 1000) (N : Int) (hN0 : -9223372036854775808 ≤ N) (hN1 : N ≤ 9223372036854775807) (h0 : e.size = 0) (h1 : d.size = 0) :
    RkOk 7 N d e true := by
  refine FnT.ofT (n := slotsC Try.prog 7) (by kernel_rfl) ?_
  apply rk7b N (arB d) (arB e) hA hB (by assumption) (by assumption)
  case pl0 => simp
  case pl1 => simp
  all_goals
    intros
    refine rk7b_r0 N (arB d) (arB e) (by simp) (by simp) ?_
    refine ⟨chk_eq ?_, rfl⟩
    rw [chkv7]
    try simp only [decide_eq_true_eq, decide_eq_false_iff_not, beq_iff_eq, beq_eq_false_iff_ne, ne_eq, bne_iff_ne, bne_eq_false_iff_eq, Bool.not_eq_true', Bool.not_eq_false', lock_eq, arrOf_bytes, arB_size, idxF_hasA', hasA_t, hasA_f, unl_t, unl_f, IntKind.wrap_i64, Bool.not_not, true_and] at *
    split <;> (try split) <;> omega
theorem rk7c_fn (d e : Array UInt8) (hA : d.size ≤ 1000) (hB : e.size ≤ 1000) (N : Int) (hN0 : -9223372036854775808 ≤ N) (hN1 : N ≤ 9223372036854775807) (h0 : e.size = 0) (h1 : 0 < d.size) :
    RkOk 7 N d e true := by
  refine FnT.ofT (n := slotsC Try.prog 7) (by kernel_rfl) ?_
  apply rk7c N (arB d) (arB e) hA hB (by assumption) (by assumption)
  case n0 => intros; exact ia_arB (by simp only [beq_iff_eq, arB_size] at *; omega)
  case pl0 => simp
  case pl1 => simp
  all_goals
    intros
    first | refine rk7c_r0 N (arB d) (arB e) (by simp) (by simp) ?_ | refine rk7c_r1 N (arB d) (arB e) (by simp) (by simp) ?_
    refine ⟨chk_eq ?_, rfl⟩
    rw [chkv7]
    try simp only [decide_eq_true_eq, decide_eq_false_iff_not, beq_iff_eq, beq_eq_false_iff_ne, ne_eq, bne_iff_ne, bne_eq_false_iff_eq, Bool.not_eq_true', Bool.not_eq_false', lock_eq, arrOf_bytes, arB_size, idxF_hasA', hasA_t, hasA_f, unl_t, unl_f, IntKind.wrap_i64, Bool.not_not, true_and] at *
    split <;> (try split) <;> omega
theorem rk8_fn (d e : Array UInt8) (hA : d.size ≤ 1000) (hB : e.size ≤ 1000) (N : Int) (hN0 : -9223372036854775808 ≤ N) (hN1 : N ≤ 9223372036854775807) :
    RkOk 8 N d e true := by
  refine FnT.ofT (n := slotsC Try.prog 7) (by kernel_rfl) ?_
  apply rk8 N (arB d) (arB e) hA hB
  case pl0 => simp
  case pl1 => simp
  all_goals
    intros
    first | refine rk8_r0 N (arB d) (arB e) (by simp) (by simp) ?_ | refine rk8_r1 N (arB d) (arB e) (by simp) (by simp) ?_
    refine ⟨chk_eq ?_, rfl⟩
    rw [chkv8]
    try simp only [decide_eq_true_eq, decide_eq_false_iff_not, beq_iff_eq, beq_eq_false_iff_ne, ne_eq, bne_iff_ne, bne_eq_false_iff_eq, Bool.not_eq_true', Bool.not_eq_false', lock_eq, arrOf_bytes, arB_size, idxF_hasA', hasA_t, hasA_f, unl_t, unl_f, IntKind.wrap_i64, Bool.not_not, true_and] at *
    split <;> (try split) <;> omega
theorem rk9_fn (d e : Array UInt8) (hA : d.size ≤ 1000) (hB : e.size ≤ 1000) (N : Int) (hN0 : -9223372036854775808 ≤ N) (hN1 : N ≤ 9223372036854775807) :
    RkOk 9 N d e true := by
  refine FnT.ofT (n := slotsC Try.prog 7) (by kernel_rfl) ?_
  apply rk9 N (arB d) (arB e) hA hB
  case pl0 => simp
  case pl1 => simp
  all_goals
    intros
    first | refine rk9_r0 N (arB d) (arB e) (by simp) (by simp) ?_ | refine rk9_r1 N (arB d) (arB e) (by simp) (by simp) ?_
    refine ⟨chk_eq ?_, rfl⟩
    rw [chkv9]
    try simp only [decide_eq_true_eq, decide_eq_false_iff_not, beq_iff_eq, beq_eq_false_iff_ne, ne_eq, bne_iff_ne, bne_eq_false_iff_eq, Bool.not_eq_true', Bool.not_eq_false', lock_eq, arrOf_bytes, arB_size, idxF_hasA', hasA_t, hasA_f, unl_t, unl_f, IntKind.wrap_i64, Bool.not_not, true_and] at *
    split <;> (try split) <;> omega
theorem rk10_fn (d e : Array UInt8) (hA : d.size ≤ 1000) (hB : e.size ≤ 1000) (N : Int) (hN0 : -9223372036854775808 ≤ N) (hN1 : N ≤ 9223372036854775807) :
    RkOk 10 N d e true := by
  refine FnT.ofT (n := slotsC Try.prog 7) (by kernel_rfl) ?_
  apply rk10 N (arB d) (arB e) hA hB
  case pl0 => simp
  case pl1 => simp
  all_goals
    intros
    first | refine rk10_r0 N (arB d) (arB e) (by simp) (by simp) ?_ | refine rk10_r1 N (arB d) (arB e) (by simp) (by simp) ?_
    refine ⟨chk_eq ?_, rfl⟩
    rw [chkv10]
    try simp only [decide_eq_true_eq, decide_eq_false_iff_not, beq_iff_eq, beq_eq_false_iff_ne, ne_eq, bne_iff_ne, bne_eq_false_iff_eq, Bool.not_eq_true', Bool.not_eq_false', lock_eq, arrOf_bytes, arB_size, idxF_hasA', hasA_t, hasA_f, unl_t, unl_f, IntKind.wrap_i64, Bool.not_not, true_and] at *
    split <;> (try split) <;> omega
theorem rk11_fn (d e : Array UInt8) (hA : d.size ≤ 1000) (hB : e.size ≤ 1000) (N : Int) (hN0 : -9223372036854775808 ≤ N) (hN1 : N ≤ 9223372036854775807) :
    RkOk 11 N d e true := by
  refine FnT.ofT (n := slotsC Try.prog 7) (by kernel_rfl) ?_
  apply rk11 N (arB d) (arB e) hA hB
  case pl0 => simp
  case pl1 => simp
  all_goals
    intros
    first | refine rk11_r0 N (arB d) (arB e) (by simp) (by simp) ?_ | refine rk11_r1 N (arB d) (arB e) (by simp) (by simp) ?_
    refine ⟨chk_eq ?_, rfl⟩
    rw [chkv11]
    try simp only [decide_eq_true_eq, decide_eq_false_iff_not, beq_iff_eq, beq_eq_false_iff_ne, ne_eq, bne_iff_ne, bne_eq_false_iff_eq, Bool.not_eq_true', Bool.not_eq_false', lock_eq, arrOf_bytes, arB_size, idxF_hasA', hasA_t, hasA_f, unl_t, unl_f, IntKind.wrap_i64, Bool.not_not, true_and] at *
    split <;> (try split) <;> omega
theorem rk12_fn (d e : Array UInt8) (hA : d.size ≤ 1000) (hB : e.size ≤ 1000) (N : Int) (hN0 : -9223372036854775808 ≤ N) (hN1 : N ≤ 9223372036854775807) :
    RkOk 12 N d e true := by
  refine FnT.ofT (n := slotsC Try.prog 7) (by kernel_rfl) ?_
  apply rk12 N (arB d) (arB e) hA hB
  case pl0 => simp
  case pl1 => simp
  all_goals
    intros
    first | refine rk12_r0 N (arB d) (arB e) (by simp) (by simp) ?_ | refine rk12_r1 N (arB d) (arB e) (by simp) (by simp) ?_
    refine ⟨chk_eq ?_, rfl⟩
    rw [chkv12]
    try simp only [decide_eq_true_eq, decide_eq_false_iff_not, beq_iff_eq, beq_eq_false_iff_ne, ne_eq, bne_iff_ne, bne_eq_false_iff_eq, Bool.not_eq_true', Bool.not_eq_false', lock_eq, arrOf_bytes, arB_size, idxF_hasA', hasA_t, hasA_f, unl_t, unl_f, IntKind.wrap_i64, Bool.not_not, true_and] at *
    split <;> (try split) <;> omega
theorem rk13a_fn (d e : Array UInt8) (hA : d.size ≤ 1000) (hB : e.size ≤ 1000) (N : Int) (hN0 : -9223372036854775808 ≤ N) (hN1 : N ≤ 9223372036854775807) (h0 : 0 < e.size) :
    RkOk 13 N d e true := by
  refine FnT.ofT (n := slotsC Try.prog 7) (by kernel_rfl) ?_
  apply rk13a N (arB d) (arB e) hA hB (by assumption)
  case pl0 => simp
  case pl1 => simp
  all_goals
    intros
    refine rk13a_r0 N (arB d) (arB e) (by simp) (by simp) ?_
    refine ⟨chk_eq ?_, rfl⟩
    rw [chkv13]
    try simp only [decide_eq_true_eq, decide_eq_false_iff_not, beq_iff_eq, beq_eq_false_iff_ne, ne_eq, bne_iff_ne, bne_eq_false_iff_eq, Bool.not_eq_true', Bool.not_eq_false', lock_eq, arrOf_bytes, arB_size, idxF_hasA', hasA_t, hasA_f, unl_t, unl_f, IntKind.wrap_i64, Bool.not_not, true_and] at *
    split <;> (try split) <;> omega
theorem rk13b_fn (d e : Array UInt8) (hA : d.size ≤ 1000) (hB : e.size ≤ 1000) (N : Int) (hN0 : -9223372036854775808 ≤ N) (hN1 : N ≤ 9223372036854775807) (h0 : e.size = 0) (h1 : d.size = 0) :
    RkOk 13 N d e true := by
  refine FnT.ofT (n := slotsC Try.prog 7) (by kernel_rfl) ?_
  apply rk13b N (arB d) (arB e) hA hB (by assumption) (by assumption)
  case pl0 => simp
  case pl1 => simp
  all_goals
    intros
    refine rk13b_r0 N (arB d) (arB e) (by simp) (by simp) ?_
    refine ⟨chk_eq ?_, rfl⟩
    rw [chkv13]
    try simp only [decide_eq_true_eq, decide_eq_false_iff_not, beq_iff_eq, beq_eq_false_iff_ne, ne_eq, bne_iff_ne, bne_eq_false_iff_eq, Bool.not_eq_true', Bool.not_eq_false', lock_eq, arrOf_bytes, arB_size, idxF_hasA', hasA_t, hasA_f, unl_t, unl_f, IntKind.wrap_i64, Bool.not_not, true_and] at *
    split <;> (try split) <;> omega
theorem rk13c_fn (d e : Array UInt8) (hA : d.size ≤ 1000) (hB : e.size ≤ 1000) (N : Int) (hN0 : -9223372036854775808 ≤ N) (hN1 : N ≤ 9223372036854775807) (h0 : e.size = 0) (h1 : 0 < d.size) :
    RkOk 13 N d e true := by
  refine FnT.ofT (n := slotsC Try.prog 7) (by kernel_rfl) ?_
  apply rk13c N (arB d) (arB e) hA hB (by assumption) (by assumption)
  case n0 => intros; exact ia_arB (by simp only [beq_iff_eq, arB_size] at *; omega)
  case pl0 => simp
  case pl1 => simp
  all_goals
    intros
    first | refine rk13c_r0 N (arB d) (arB e) (by simp) (by simp) ?_ | refine rk13c_r1 N (arB d) (arB e) (by simp) (by simp) ?_ | refine rk13c_r2 N (arB d) (arB e) (by simp) (by simp) ?_
    refine ⟨chk_eq ?_, rfl⟩
    rw [chkv13]
    by_cases hn : 1 ≤ N ∧ N ≤ 4
    · apply n14 N hn.1 hn.2 <;> (intros; subst_vars; try simp only [decide_eq_true_eq, decide_eq_false_iff_not, beq_iff_eq, beq_eq_false_iff_ne, ne_eq, bne_iff_ne, bne_eq_false_iff_eq, Bool.not_eq_true', Bool.not_eq_false', lock_eq, arrOf_bytes, arB_size, idxF_hasA', hasA_t, hasA_f, unl_t, unl_f, IntKind.wrap_i64, Bool.not_not, true_and] at *; split <;> (try split) <;> omega)
    try simp only [decide_eq_true_eq, decide_eq_false_iff_not, beq_iff_eq, beq_eq_false_iff_ne, ne_eq, bne_iff_ne, bne_eq_false_iff_eq, Bool.not_eq_true', Bool.not_eq_false', lock_eq, arrOf_bytes, arB_size, idxF_hasA', hasA_t, hasA_f, unl_t, unl_f, IntKind.wrap_i64, Bool.not_not, true_and] at *
    split <;> (try split) <;> omega
theorem rk14a_fn (d e : Array UInt8) (hA : d.size ≤ 1000) (hB : e.size ≤ 1000) (N : Int) (hN0 : -9223372036854775808 ≤ N) (hN1 : N ≤ 9223372036854775807) (h0 : 0 < e.size) :
    RkOk 14 N d e true := by
  refine FnT.ofT (n := slotsC Try.prog 7) (by kernel_rfl) ?_
  apply rk14a N (arB d) (arB e) hA hB (by assumption)
  case pl0 => simp
  case pl1 => simp
  all_goals
    intros
    refine rk14a_r0 N (arB d) (arB e) (by simp) (by simp) ?_
    refine ⟨chk_eq ?_, rfl⟩
    rw [chkv14]
    try simp only [decide_eq_true_eq, decide_eq_false_iff_not, beq_iff_eq, beq_eq_false_iff_ne, ne_eq, bne_iff_ne, bne_eq_false_iff_eq, Bool.not_eq_true', Bool.not_eq_false', lock_eq, arrOf_bytes, arB_size, idxF_hasA', hasA_t, hasA_f, unl_t, unl_f, IntKind.wrap_i64, Bool.not_not, true_and] at *
    split <;> (try split) <;> omega
theorem rk14b_fn (d e : Array UInt8) (hA : d.size ≤ 1000) (hB : e.size ≤ 1000) (N : Int) (hN0 : -9223372036854775808 ≤ N) (hN1 : N ≤ 9223372036854775807) (h0 : e.size = 0) (h1 : d.size = 0) :
    RkOk 14 N d e true := by
  refine FnT.ofT (n := slotsC Try.prog 7) (by kernel_rfl) ?_
  apply rk14b N (arB d) (arB e) hA hB (by assumption) (by assumption)
  case pl0 => simp
  case pl1 => simp
  all_goals
    intros
    refine rk14b_r0 N (arB d) (arB e) (by simp) (by simp) ?_
    refine ⟨chk_eq ?_, rfl⟩
    rw [chkv14]
    try simp only [decide_eq_true_eq, decide_eq_false_iff_not, beq_iff_eq, beq_eq_false_iff_ne, ne_eq, bne_iff_ne, bne_eq_false_iff_eq, Bool.not_eq_true', Bool.not_eq_false', lock_eq, arrOf_bytes, arB_size, idxF_hasA', hasA_t, hasA_f, unl_t, unl_f, IntKind.wrap_i64, Bool.not_not, true_and] at *
    split <;> (try split) <;> omega
theorem rk14c_fn (d e : Array UInt8) (hA : d.size ≤ 1000) (hB : e.size ≤ 1000) (N : Int) (hN0 : -9223372036854775808 ≤ N) (hN1 : N ≤ 9223372036854775807) (h0 : e.size = 0) (h1 : 0 < d.size) :
    RkOk 14 N d e true := by
  refine FnT.ofT (n := slotsC Try.prog 7) (by kernel_rfl) ?_
  apply rk14c N (arB d) (arB e) hA hB (by assumption) (by assumption)
  case n0 => intros; exact ia_arB (by simp only [beq_iff_eq, arB_size] at *; omega)
  case pl0 => simp
  case pl1 => simp
  all_goals
    intros
    first | refine rk14c_r0 N (arB d) (arB e) (by simp) (by simp) ?_ | refine rk14c_r1 N (arB d) (arB e) (by simp) (by simp) ?_ | refine rk14c_r3 N (arB d) (arB e) (by simp) (by simp) ?_
    refine ⟨chk_eq ?_, rfl⟩
    rw [chkv14]
    try simp only [decide_eq_true_eq, decide_eq_false_iff_not, beq_iff_eq, beq_eq_false_iff_ne, ne_eq, bne_iff_ne, bne_eq_false_iff_eq, Bool.not_eq_true', Bool.not_eq_false', lock_eq, arrOf_bytes, arB_size, idxF_hasA', hasA_t, hasA_f, unl_t, unl_f, IntKind.wrap_i64, Bool.not_not, true_and] at *
    split <;> (try split) <;> omega
theorem rk15_fn (d e : Array UInt8) (hA : d.size ≤ 1000) (hB : e.size ≤ 1000) (N : Int) (hN0 : -9223372036854775808 ≤ N) (hN1 : N ≤ 9223372036854775807) :
    RkOk 15 N d e true := by
  refine FnT.ofT (n := slotsC Try.prog 7) (by kernel_rfl) ?_
  apply rk15 N (arB d) (arB e) hA hB
  case pl0 => simp
  case pl1 => simp
  all_goals
    intros
    first | refine rk15_r0 N (arB d) (arB e) (by simp) (by simp) ?_ | refine rk15_r1 N (arB d) (arB e) (by simp) (by simp) ?_
    refine ⟨chk_eq ?_, rfl⟩
    rw [chkv15]
    try simp only [decide_eq_true_eq, decide_eq_false_iff_not, beq_iff_eq, beq_eq_false_iff_ne, ne_eq, bne_iff_ne, bne_eq_false_iff_eq, Bool.not_eq_true', Bool.not_eq_false', lock_eq, arrOf_bytes, arB_size, idxF_hasA', hasA_t, hasA_f, unl_t, unl_f, IntKind.wrap_i64, Bool.not_not, true_and] at *
    split <;> (try split) <;> omega
theorem rk16_fn (d e : Array UInt8) (hA : d.size ≤ 1000) (hB : e.size ≤ 1000) (N : Int) (hN0 : -9223372036854775808 ≤ N) (hN1 : N ≤ 9223372036854775807) :
    RkOk 16 N d e true := by
  refine FnT.ofT (n := slotsC Try.prog 7) (by kernel_rfl) ?_
  apply rk16 N (arB d) (arB e) hA hB
  case pl0 => simp
  case pl1 => simp
  all_goals
    intros
    first | refine rk16_r0 N (arB d) (arB e) (by simp) (by simp) ?_ | refine rk16_r1 N (arB d) (arB e) (by simp) (by simp) ?_
    refine ⟨chk_eq ?_, rfl⟩
    rw [chkv16]
    try simp only [decide_eq_true_eq, decide_eq_false_iff_not, beq_iff_eq, beq_eq_false_iff_ne, ne_eq, bne_iff_ne, bne_eq_false_iff_eq, Bool.not_eq_true', Bool.not_eq_false', lock_eq, arrOf_bytes, arB_size, idxF_hasA', hasA_t, hasA_f, unl_t, unl_f, IntKind.wrap_i64, Bool.not_not, true_and] at *
    split <;> (try split) <;> omega
theorem rkl_fn (d e : Array UInt8) (hA : d.size ≤ 1000) (hB : e.size ≤ 1000) (K N : Int) (hN0 : -9223372036854775808 ≤ N) (hN1 : N ≤ 9223372036854775807) (h0 : K < 1) :
    RkOk K N d e true := by
  refine FnT.ofT (n := slotsC Try.prog 7) (by kernel_rfl) ?_
  apply rkl K N (arB d) (arB e) hA hB (by assumption)
  case pl0 => simp
  case pl1 => simp
  all_goals
    intros
    refine rkl_r0 K N (arB d) (arB e) (by simp) (by simp) ?_
    refine ⟨chk_eq ?_, rfl⟩
    rw [chkvl (by assumption)]
theorem rkg_fn (d e : Array UInt8) (hA : d.size ≤ 1000) (hB : e.size ≤ 1000) (K N : Int) (hN0 : -9223372036854775808 ≤ N) (hN1 : N ≤ 9223372036854775807) (h0 : 16 < K) :
    RkOk K N d e true := by
  refine FnT.ofT (n := slotsC Try.prog 7) (by kernel_rfl) ?_
  apply rkg K N (arB d) (arB e) hA hB (by assumption)
  case pl0 => simp
  case pl1 => simp
  all_goals
    intros
    refine rkg_r0 K N (arB d) (arB e) (by simp) (by simp) ?_
    refine ⟨chk_eq ?_, rfl⟩
    rw [chkvg (by assumption)]
theorem rk_fn (d e : Array UInt8) (hA : d.size ≤ 1000) (hB : e.size ≤ 1000) (K N : Int) (hN0 : -9223372036854775808 ≤ N) (hN1 : N ≤ 9223372036854775807) :
    FnT Try.prog 7 (argP K N d e) (objP d e true) fun r o => r = .ret (.int .i64 (chk K N d e)) ∧ o = objP d e true := by
  by_cases h1 : K < 1
  · exact rkl_fn d e hA hB K N hN0 hN1 h1
  by_cases h2 : 16 < K
  · exact rkg_fn d e hA hB K N hN0 hN1 h2
  have h : K = 1 ∨ K = 2 ∨ K = 3 ∨ K = 4 ∨ K = 5 ∨ K = 6 ∨ K = 7 ∨ K = 8 ∨ K = 9 ∨ K = 10 ∨ K = 11 ∨ K = 12 ∨ K = 13 ∨ K = 14 ∨ K = 15 ∨ K = 16 := by omega
  rcases h with rfl | rfl | rfl | rfl | rfl | rfl | rfl | rfl | rfl | rfl | rfl | rfl | rfl | rfl | rfl | rfl
  · exact rk1_fn d e hA hB N hN0 hN1
  · exact rk2_fn d e hA hB N hN0 hN1
  · exact rk3_fn d e hA hB N hN0 hN1
  · exact rk4_fn d e hA hB N hN0 hN1
  · by_cases h3 : 0 < e.size
    · exact rk5a_fn d e hA hB N hN0 hN1 h3
    by_cases h4 : 0 < d.size
    · exact rk5c_fn d e hA hB N hN0 hN1 (by omega) h4
    · exact rk5b_fn d e hA hB N hN0 hN1 (by omega) (by omega)
  · by_cases h4 : 0 < d.size
    · exact rk6c_fn d e hA hB N hN0 hN1 h4
    · exact rk6b_fn d e hA hB N hN0 hN1 (by omega)
  · by_cases h3 : 0 < e.size
    · exact rk7a_fn d e hA hB N hN0 hN1 h3
    by_cases h4 : 0 < d.size
    · exact rk7c_fn d e hA hB N hN0 hN1 (by omega) h4
    · exact rk7b_fn d e hA hB N hN0 hN1 (by omega) (by omega)
  · exact rk8_fn d e hA hB N hN0 hN1
  · exact rk9_fn d e hA hB N hN0 hN1
  · exact rk10_fn d e hA hB N hN0 hN1
  · exact rk11_fn d e hA hB N hN0 hN1
  · exact rk12_fn d e hA hB N hN0 hN1
  · by_cases h3 : 0 < e.size
    · exact rk13a_fn d e hA hB N hN0 hN1 h3
    by_cases h4 : 0 < d.size
    · exact rk13c_fn d e hA hB N hN0 hN1 (by omega) h4
    · exact rk13b_fn d e hA hB N hN0 hN1 (by omega) (by omega)
  · by_cases h3 : 0 < e.size
    · exact rk14a_fn d e hA hB N hN0 hN1 h3
    by_cases h4 : 0 < d.size
    · exact rk14c_fn d e hA hB N hN0 hN1 (by omega) h4
    · exact rk14b_fn d e hA hB N hN0 hN1 (by omega) (by omega)
  · exact rk15_fn d e hA hB N hN0 hN1
  · exact rk16_fn d e hA hB N hN0 hN1
end Go.Proofs.Ytnlkkgpcikkpoaa
