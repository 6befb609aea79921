/- Index, Compact, and the document's has and unlike, on bytes: what they compute. -/
import Derived.Test.YtnlkkgpcikkpoaaSos
import Derived.Test.YtnlkkgpcikkpoaaSr6
import Derived.Test.YtnlkkgpcikkpoaaSrx
import Derived.KernelRfl
namespace Go.Proofs.Ytnlkkgpcikkpoaa
open Go Vm Go.RowKit
set_option maxRecDepth 100000
noncomputable def hasA (d : Array UInt8) (v : Int) : Bool := @decide (∃ j, j < d.size ∧ (d[j]!.toNat : Int) = v) (Classical.propDecidable _)
theorem hasA_iff {d : Array UInt8} {v : Int} : hasA d v = true ↔ ∃ j, j < d.size ∧ (d[j]!.toNat : Int) = v := by unfold hasA; exact @decide_eq_true_iff _ (Classical.propDecidable _)
theorem hasA_no {d : Array UInt8} {v : Int} (h : ∀ j, j < d.size → (d[j]!.toNat : Int) ≠ v) : hasA d v = false := by
  cases g : hasA d v with
  | false => rfl
  | true => obtain ⟨j, h1, h2⟩ := hasA_iff.1 g; exact absurd h2 (h j h1)
def idxF (d : Array UInt8) (v : Int) (j : Nat) : Int := if j < d.size then (if v = (d[j]!.toNat : Int) then (j : Int) else idxF d v (j + 1)) else -1
termination_by d.size - j
theorem idxF_eq (d : Array UInt8) (v : Int) (j : Nat) : idxF d v j = if j < d.size then (if v = (d[j]!.toNat : Int) then (j : Int) else idxF d v (j + 1)) else -1 := by rw [idxF]
theorem idxF_has (d : Array UInt8) (v : Int) (j : Nat) : 0 ≤ idxF d v j ↔ ∃ i, j ≤ i ∧ i < d.size ∧ (d[i]!.toNat : Int) = v := by
  induction h : d.size - j generalizing j with
  | zero => rw [idxF_eq, if_neg (by omega)]; constructor
            · intro g; omega
            · rintro ⟨i, h1, h2, _⟩; omega
  | succ k ih =>
    rw [idxF_eq, if_pos (by omega)]
    by_cases e : v = (d[j]!.toNat : Int)
    · rw [if_pos e]; exact ⟨fun _ => ⟨j, Nat.le_refl _, by omega, e.symm⟩, fun _ => by omega⟩
    · rw [if_neg e, ih (j + 1) (by omega)]
      constructor
      · rintro ⟨i, h1, h2, h3⟩; exact ⟨i, by omega, h2, h3⟩
      · rintro ⟨i, h1, h2, h3⟩
        by_cases g : i = j
        · subst g; exact absurd h3.symm e
        · exact ⟨i, by omega, h2, h3⟩
theorem idxF_hasA (d : Array UInt8) (v : Int) : decide (idxF d v 0 ≥ 0) = hasA d v := by
  rw [Bool.eq_iff_iff, decide_eq_true_iff, hasA_iff]
  exact (idxF_has d v 0).trans ⟨fun ⟨i, _, h⟩ => ⟨i, h⟩, fun ⟨i, h⟩ => ⟨i, Nat.zero_le _, h⟩⟩
def cpt2 (k0 : Nat) (d : Array UInt8) (x k : Nat) : Nat × Array UInt8 :=
  if k0 + x < d.size then (if d[k0 + x]! ≠ d[k0 + x - 1]! then cpt2 k0 (d.setIfInBounds k d[k0 + x]!) (x + 1) (k + 1) else cpt2 k0 d (x + 1) k) else (k, d)
termination_by d.size - (k0 + x)
decreasing_by all_goals first | (simp only [Array.size_setIfInBounds]; omega) | omega
theorem cpt2_eq (k0 : Nat) (d : Array UInt8) (x k : Nat) : cpt2 k0 d x k =
  if k0 + x < d.size then (if d[k0 + x]! ≠ d[k0 + x - 1]! then cpt2 k0 (d.setIfInBounds k d[k0 + x]!) (x + 1) (k + 1) else cpt2 k0 d (x + 1) k) else (k, d) := by rw [cpt2]
theorem cpt2_le (k0 : Nat) (d : Array UInt8) (x k : Nat) : (cpt2 k0 d x k).1 ≤ k + (d.size - (k0 + x)) := by
  induction h : d.size - (k0 + x) generalizing d x k with
  | zero => rw [cpt2_eq, if_neg (by omega)]; exact Nat.le_refl _
  | succ n ih =>
    rw [cpt2_eq, if_pos (by omega)]
    split
    · have := ih (d.setIfInBounds k d[k0 + x]!) (x + 1) (k + 1) (by rw [Array.size_setIfInBounds]; omega)
      omega
    · have := ih d (x + 1) k (by omega)
      omega
def cpt1 (d : Array UInt8) (k : Nat) : Nat × List Value :=
  if k < d.size then (if d[k]! = d[k - 1]! then ((cpt2 k d 1 k).1, splice (bytesC (arB (cpt2 k d 1 k).2)) (cpt2 k d 1 k).1 (repl [.int .u8 0] (d.size - (cpt2 k d 1 k).1))) else cpt1 d (k + 1)) else (d.size, bytesC (arB d))
termination_by d.size - k
theorem cpt1_eq (d : Array UInt8) (k : Nat) : cpt1 d k =
  if k < d.size then (if d[k]! = d[k - 1]! then ((cpt2 k d 1 k).1, splice (bytesC (arB (cpt2 k d 1 k).2)) (cpt2 k d 1 k).1 (repl [.int .u8 0] (d.size - (cpt2 k d 1 k).1))) else cpt1 d (k + 1)) else (d.size, bytesC (arB d)) := by rw [cpt1]
def cpt (d : Array UInt8) : Nat × List Value := if d.size < 2 then (d.size, bytesC (arB d)) else cpt1 d 1
theorem cpt1_len (d : Array UInt8) (k : Nat) : (cpt1 d k).1 ≤ d.size ∧ ((cpt1 d k).1 = d.size ↔ ∀ i, k ≤ i → i < d.size → d[i]! ≠ d[i - 1]!) := by
  induction h : d.size - k generalizing k with
  | zero => rw [cpt1_eq, if_neg (by omega)]; exact ⟨Nat.le_refl _, fun _ i h1 h2 => by omega, fun _ => rfl⟩
  | succ n ih =>
    rw [cpt1_eq, if_pos (by omega)]
    by_cases e : d[k]! = d[k - 1]!
    · rw [if_pos e]
      have := cpt2_le k d 1 k
      dsimp only
      exact ⟨by omega, fun g => by omega, fun g => absurd e (g k (Nat.le_refl _) (by omega))⟩
    · rw [if_neg e]
      obtain ⟨h1, h2⟩ := ih (k + 1) (by omega)
      refine ⟨h1, h2.trans ⟨fun g i h3 h4 => ?_, fun g i h3 h4 => g i (by omega) h4⟩⟩
      by_cases g2 : i = k
      · subst g2; exact e
      · exact g i (by omega) h4
theorem cpt_len (d : Array UInt8) : (cpt d).1 ≤ d.size ∧ ((cpt d).1 = d.size ↔ ∀ i, 1 ≤ i → i < d.size → d[i]! ≠ d[i - 1]!) := by
  unfold cpt
  split
  · exact ⟨Nat.le_refl _, fun _ i h1 h2 => by omega, fun _ => rfl⟩
  · exact cpt1_len d 1
theorem cpt_sort (d : Array UInt8) : decide ((cpt (Sort.sort ltB d)).1 = d.size) = unl d := by
  rw [Bool.eq_iff_iff, decide_eq_true_iff, sort_adj, ← sort_size d]
  exact (cpt_len _).2
abbrev rowR (d : Array UInt8) (ro : Bool) : VObj := .cells (bytesC (arB d)) 5 ro
theorem ix_fn (d : Array UInt8) (n : Nat) (v : Int) (hd : d.size = n) (hn : n ≤ 10000) (ro : Bool) :
    FnT Try.prog 33 [slA n, .int .u8 v] [rowR d ro] fun r o => r = .ret (.int .i64 (idxF d v 0)) ∧ o = [rowR d ro] := by
  have hsz : n ≤ (arB d).size := by rw [arB_size]; omega
  refine FnT.ofT (n := slotsC Try.prog 33) (by kernel_rfl) ?_
  apply ix_a (arB d) n v ro hsz
  case pl0 => simp
  case l1 =>
    refine TriL.blockAt 2 0 (by kernel_rfl) ?_
    refine TriL.loopAt (fun j : Nat => ⟨[(0, slA n), (1, .int .u8 v), (7, iA n), (8, iA j)], [rowR d ro]⟩) (fun j => n - j) (fun j => j ≤ n ∧ idxF d v j = idxF d v 0) 0 (by kernel_rfl) ⟨Nat.zero_le _, rfl⟩ ?_
    rintro j ⟨h1, h2⟩
    apply ix_b (arB d) n (j : Nat) v ro hsz (by omega)
    case pl0 => simp
    case n0 => intro g; have g := of_decide_eq_true g; rw [atN]; exact ia_arB (by omega)
    case l2 =>
      intro g g2
      have g := of_decide_eq_true g
      rw [atN, int_arB (by omega)] at g2
      repeat (first | with_reducible refine QL.ret ?_ | with_reducible refine QL.exit ?_ | with_reducible refine QB.ret ?_ | with_reducible refine QB.hit ?_ | with_reducible refine QB.normal ?_ | with_reducible refine QB.miss (by rfl) ?_)
      refine ix_b_r0 (arB d) n (j : Nat) v ro (by simp) ?_
      rw [← h2, idxF_eq, if_pos (by omega), if_pos (by simpa using g2)]
      exact ⟨rfl, rfl⟩
    case l3 =>
      intro g g2
      have g := of_decide_eq_true g
      rw [atN, int_arB (by omega)] at g2
      rw [idxF_eq, if_pos (by omega), if_neg (by simpa using g2)] at h2
      repeat (first | with_reducible refine QL.ret ?_ | with_reducible refine QL.exit ?_ | with_reducible refine QB.ret ?_ | with_reducible refine QB.hit ?_ | with_reducible refine QB.normal ?_ | with_reducible refine QB.miss (by rfl) ?_)
      exact QL.to (j + 1) ⟨by omega, h2⟩ (by omega) (by unfold ix_b_d1; rw [iA_add1 (by omega)])
    case l4 =>
      intro g
      have g := of_decide_eq_false g
      rw [idxF_eq, if_neg (by omega)] at h2
      repeat (first | with_reducible refine QL.ret ?_ | with_reducible refine QL.exit ?_ | with_reducible refine QB.ret ?_ | with_reducible refine QB.hit ?_ | with_reducible refine QB.normal ?_ | with_reducible refine QB.miss (by rfl) ?_)
      apply ix_z (arB d) n ro hsz
      case pl0 => simp
      case l1 =>
        repeat (first | with_reducible refine QL.ret ?_ | with_reducible refine QL.exit ?_ | with_reducible refine QB.ret ?_ | with_reducible refine QB.hit ?_ | with_reducible refine QB.normal ?_ | with_reducible refine QB.miss (by rfl) ?_)
        refine ix_z_r0 (arB d) n ro (by simp) ?_
        rw [← h2]
        exact ⟨rfl, rfl⟩
theorem hs_fn (d : Array UInt8) (n : Nat) (v : Int) (hd : d.size = n) (hn : n ≤ 10000) (ro : Bool) :
    FnT Try.prog 22 [slA n, .int .u8 v] [rowR d ro] fun r o => r = .ret (.bool (hasA d v)) ∧ o = [rowR d ro] := by
  have hsz : n ≤ (arB d).size := by rw [arB_size]; omega
  refine FnT.ofT (n := slotsC Try.prog 22) (by kernel_rfl) ?_
  apply hs_a (arB d) n v ro hsz
  case pl0 => simp
  case l1 =>
    refine TriL.blockAt 2 0 (by kernel_rfl) ?_
    refine TriL.loopAt (fun j : Nat => ⟨[(0, slA n), (1, .int .u8 v), (5, iA j)], [rowR d ro]⟩) (fun j => n - j) (fun j => j ≤ n ∧ ∀ i, i < j → (d[i]!.toNat : Int) ≠ v) 0 (by kernel_rfl) ⟨Nat.zero_le _, fun i h => by omega⟩ ?_
    rintro j ⟨h1, h2⟩
    apply hs_b (arB d) n (j : Nat) v ro hsz (by omega)
    case pl0 => simp
    case n0 => intro g; have g := of_decide_eq_true g; rw [atN]; exact ia_arB (by omega)
    case l2 =>
      intro g g2
      have g := of_decide_eq_true g
      rw [atN, int_arB (by omega)] at g2
      repeat (first | with_reducible refine QL.ret ?_ | with_reducible refine QL.exit ?_ | with_reducible refine QB.ret ?_ | with_reducible refine QB.hit ?_ | with_reducible refine QB.normal ?_ | with_reducible refine QB.miss (by rfl) ?_)
      refine hs_b_r0 (arB d) n (j : Nat) v ro (by simp) ?_
      rw [hasA_iff.2 ⟨j, by omega, by simpa using g2⟩]
      exact ⟨rfl, rfl⟩
    case l3 =>
      intro g g2
      have g := of_decide_eq_true g
      rw [atN, int_arB (by omega)] at g2
      repeat (first | with_reducible refine QL.ret ?_ | with_reducible refine QL.exit ?_ | with_reducible refine QB.ret ?_ | with_reducible refine QB.hit ?_ | with_reducible refine QB.normal ?_ | with_reducible refine QB.miss (by rfl) ?_)
      refine QL.to (j + 1) ⟨by omega, fun i hi => ?_⟩ (by omega) (by unfold hs_b_d1; rw [iA_add1 (by omega)])
      by_cases e : i = j
      · subst e; simpa using g2
      · exact h2 i (by omega)
    case l4 =>
      intro g
      have g := of_decide_eq_false g
      repeat (first | with_reducible refine QL.ret ?_ | with_reducible refine QL.exit ?_ | with_reducible refine QB.ret ?_ | with_reducible refine QB.hit ?_ | with_reducible refine QB.normal ?_ | with_reducible refine QB.miss (by rfl) ?_)
      apply hs_z (arB d) n ro hsz
      case pl0 => simp
      case l1 =>
        repeat (first | with_reducible refine QL.ret ?_ | with_reducible refine QL.exit ?_ | with_reducible refine QB.ret ?_ | with_reducible refine QB.hit ?_ | with_reducible refine QB.normal ?_ | with_reducible refine QB.miss (by rfl) ?_)
        refine hs_z_r0 (arB d) n ro (by simp) ?_
        rw [hasA_no fun i hi => h2 i (by omega)]
        exact ⟨rfl, rfl⟩
theorem unl_no {d : Array UInt8} {i j : Nat} (h : i < j) (hj : j < d.size) (e : d[i]! = d[j]!) : unl d = false := by
  cases g : unl d with
  | false => rfl
  | true => exact absurd e (nodup_arr.1 (unl_iff.1 g) i j h hj)
theorem un_fn (d : Array UInt8) (n : Nat) (hd : d.size = n) (hn : n ≤ 10000) (ro : Bool) :
    FnT Try.prog 23 [slA n] [rowR d ro] fun r o => r = .ret (.bool (unl d)) ∧ o = [rowR d ro] := by
  have hsz : n ≤ (arB d).size := by rw [arB_size]; omega
  refine FnT.ofT (n := slotsC Try.prog 23) (by kernel_rfl) ?_
  apply un_a (arB d) n ro hsz
  case pl0 => simp
  case l1 =>
    refine TriL.blockAt 2 0 (by kernel_rfl) ?_
    refine TriL.loopAt (fun j : Nat => ⟨[(0, slA n), (3, iA j)], [rowR d ro]⟩) (fun j => n - j) (fun j => j ≤ n ∧ ∀ p q, p < q → q < j → d[p]! ≠ d[q]!) 0 (by kernel_rfl) ⟨Nat.zero_le _, fun p q h h2 => by omega⟩ ?_
    rintro i ⟨h1, h2⟩
    apply un_b (arB d) n (i : Nat) ro hsz
    case pl0 => simp
    case l2 =>
      intro g
      have g := of_decide_eq_false g
      repeat (first | with_reducible refine QL.ret ?_ | with_reducible refine QL.exit ?_ | with_reducible refine QB.ret ?_ | with_reducible refine QB.hit ?_ | with_reducible refine QB.normal ?_ | with_reducible refine QB.miss (by rfl) ?_)
      apply un_z (arB d) n ro hsz
      case pl0 => simp
      case l1 =>
        repeat (first | with_reducible refine QL.ret ?_ | with_reducible refine QL.exit ?_ | with_reducible refine QB.ret ?_ | with_reducible refine QB.hit ?_ | with_reducible refine QB.normal ?_ | with_reducible refine QB.miss (by rfl) ?_)
        refine un_z_r0 (arB d) n ro (by simp) ?_
        rw [unl_iff.2 (nodup_arr.2 fun p q hpq hq => h2 p q hpq (by omega))]
        exact ⟨rfl, rfl⟩
    case l1 =>
      intro g
      have g := of_decide_eq_true g
      refine TriL.blockAt 2 1 (by kernel_rfl) ?_
      apply un_c (arB d) n (i : Nat) ro hsz
      case pl0 => simp
      case l1 =>
        refine TriL.blockAt 1 2 (by kernel_rfl) ?_
        refine TriL.loopAt (fun k : Nat => ⟨[(0, slA n), (3, iA i), (4, iA k)], [rowR d ro]⟩) (fun k => i - k) (fun k => k ≤ i ∧ ∀ p, p < k → d[p]! ≠ d[i]!) 0 (by kernel_rfl) ⟨Nat.zero_le _, fun p h => by omega⟩ ?_
        rintro k ⟨h3, h4⟩
        apply un_d (arB d) n (i : Nat) (k : Nat) ro hsz (by omega) (by omega) (by omega)
        case pl0 => simp
        case n0 => intro g; have g := of_decide_eq_true g; rw [atN]; exact ia_arB (by omega)
        case n1 => intro g; have g := of_decide_eq_true g; rw [atN]; exact ia_arB (by omega)
        case l3 =>
          intro g g2
          have g := of_decide_eq_true g
          rw [atN, atN, int_arB (by omega), int_arB (by omega)] at g2
          have g3 := beq_iff_eq.1 g2
          have g2 : d[k]! = d[i]! := UInt8.toNat_inj.1 (by omega)
          repeat (first | with_reducible refine QL.ret ?_ | with_reducible refine QL.exit ?_ | with_reducible refine QB.ret ?_ | with_reducible refine QB.hit ?_ | with_reducible refine QB.normal ?_ | with_reducible refine QB.miss (by rfl) ?_)
          refine un_d_r0 (arB d) n (i : Nat) (k : Nat) ro (by simp) ?_
          rw [unl_no (show k < i by omega) (by omega) g2]
          exact ⟨rfl, rfl⟩
        case l4 =>
          intro g g2
          have g := of_decide_eq_true g
          rw [atN, atN, int_arB (by omega), int_arB (by omega)] at g2
          repeat (first | with_reducible refine QL.ret ?_ | with_reducible refine QL.exit ?_ | with_reducible refine QB.ret ?_ | with_reducible refine QB.hit ?_ | with_reducible refine QB.normal ?_ | with_reducible refine QB.miss (by rfl) ?_)
          refine QL.to (k + 1) ⟨by omega, fun p hp => ?_⟩ (by omega) (by unfold un_d_d1; rw [iA_add1 (by omega)])
          by_cases e : p = k
          · subst e; intro e; rw [e] at g2; simp at g2
          · exact h4 p (by omega)
        case l5 =>
          intro g
          have g := of_decide_eq_false g
          repeat (first | with_reducible refine QL.ret ?_ | with_reducible refine QL.exit ?_ | with_reducible refine QB.ret ?_ | with_reducible refine QB.hit ?_ | with_reducible refine QB.normal ?_ | with_reducible refine QB.miss (by rfl) ?_)
          refine TriL.done (by kernel_rfl) ?_
          repeat (first | with_reducible refine QL.ret ?_ | with_reducible refine QL.exit ?_ | with_reducible refine QB.ret ?_ | with_reducible refine QB.hit ?_ | with_reducible refine QB.normal ?_ | with_reducible refine QB.miss (by rfl) ?_)
          apply un_e (arB d) n (i : Nat) ro hsz
          case pl0 => simp
          case l1 =>
            refine QL.to (i + 1) ⟨by omega, fun p q hp hq => ?_⟩ (by omega) (by unfold un_e_d0; rw [iA_add1 (by omega)])
            by_cases e : q = i
            · subst e; exact h4 p (by omega)
            · exact h2 p q hp (by omega)
theorem set_arB {d : Array UInt8} {p q i j : Nat} (hp : p = i) (hq : q = j) (hi : i < d.size) (hj : j < d.size) :
    splice (bytesC (arB d)) p [.int .u8 (intAt (bytesC (arB d)) q)] = bytesC (arB (d.setIfInBounds i d[j]!)) := by
  subst hp; subst hq
  have hl : (bytesC (arB d)).length = d.size := bytesC_length _
  have e1 : p + [Value.int IntKind.u8 (intAt (bytesC (arB d)) q)].length ≤ (bytesC (arB d)).length := by rw [hl]; show p + 1 ≤ d.size; omega
  refine List.ext_getElem? fun k => ?_
  rw [splice_get e1, bytesC_get, bytesC_get, int_arB hj]
  simp only [List.length_singleton, Array.getElem?_setIfInBounds]
  by_cases h1 : k = p
  · subst h1
    rw [if_pos (by omega), if_pos rfl, if_pos hi]; simp
  · rw [if_neg (fun h : p ≤ k ∧ k < p + 1 => h1 (by omega)), if_neg (fun h : p = k => h1 h.symm)]
def coI (n : Nat) (d : Array UInt8) (k : Nat) : Desc := ⟨[(0, slA n), (3, iA k)], [rowA d]⟩
def coJ (n k0 : Nat) (s : Array UInt8 × Nat × Nat) : Desc := ⟨[(0, slA n), (3, iA s.2.2), (4, .slice (some ⟨0, k0, none⟩) (n - k0) (n - k0)), (5, iA s.2.1)], [rowA s.1]⟩
structure coOk (n k0 : Nat) (d : Array UInt8) (s : Array UInt8 × Nat × Nat) : Prop where
  h1 : s.1.size = n
  h2 : 1 ≤ s.2.1
  h3 : s.2.1 ≤ n - k0
  h4 : s.2.2 + 1 ≤ k0 + s.2.1
  h5 : cpt2 k0 s.1 s.2.1 s.2.2 = cpt2 k0 d 1 k0
noncomputable abbrev Lco : List Code := flat2 (inner (flat2 (inner (Lslices_Compact___byte_byte_.drop 4))))
noncomputable abbrev Lca : List Code := flat2 (arm true ((flat2 (inner (Lco.drop 2))).drop 1))
noncomputable abbrev Lcb : List Code := flat2 (inner (flat2 (inner (Lca.drop 2))))
theorem co_fn (d : Array UInt8) (n : Nat) (hd : d.size = n) (hn : n ≤ 10000) :
    FnT Try.prog 32 [slA n] [rowA d] fun r o => r = .ret (.slice (some ⟨0, 0, none⟩) (cpt d).1 n) ∧ o = [.cells (cpt d).2 5 false] := by
  have hsz : n ≤ (arB d).size := by rw [arB_size]; omega
  refine FnT.ofT (n := slotsC Try.prog 32) (by kernel_rfl) ?_
  apply co_a (arB d) n hsz
  case pl0 => simp
  case l1 =>
    intro g
    have g := of_decide_eq_true g
    repeat (first | with_reducible refine QL.ret ?_ | with_reducible refine QL.exit ?_ | with_reducible refine QB.ret ?_ | with_reducible refine QB.hit ?_ | with_reducible refine QB.normal ?_ | with_reducible refine QB.miss (by rfl) ?_)
    refine co_a_r0 (arB d) n (by simp) ?_
    unfold cpt
    rw [if_pos (by omega), hd]
    exact ⟨rfl, rfl⟩
  case l2 =>
    intro g
    have g := of_decide_eq_false g
    refine TriL.blockAt 4 0 (by kernel_rfl) ?_
    refine TriL.loopAt (coI n d) (fun k => n - k) (fun k => 1 ≤ k ∧ k ≤ n ∧ cpt1 d k = cpt d) 1 (by kernel_rfl) ⟨Nat.le_refl _, by omega, by unfold cpt; rw [if_neg (by omega)]⟩ ?_
    rintro k ⟨h1, h2, h3⟩
    apply co_b (arB d) n (k : Nat) hsz
    case pl0 => simp
    case l2 =>
      intro g
      have g := of_decide_eq_false g
      rw [cpt1_eq, if_neg (by omega)] at h3
      repeat (first | with_reducible refine QL.ret ?_ | with_reducible refine QL.exit ?_ | with_reducible refine QB.ret ?_ | with_reducible refine QB.hit ?_ | with_reducible refine QB.normal ?_ | with_reducible refine QB.miss (by rfl) ?_)
      apply co_z (arB d) n hsz
      case pl0 => simp
      case l1 =>
        repeat (first | with_reducible refine QL.ret ?_ | with_reducible refine QL.exit ?_ | with_reducible refine QB.ret ?_ | with_reducible refine QB.hit ?_ | with_reducible refine QB.normal ?_ | with_reducible refine QB.miss (by rfl) ?_)
        refine co_z_r0 (arB d) n (by simp) ?_
        rw [← h3, hd]
        exact ⟨rfl, rfl⟩
    case l1 =>
      intro g
      have g := of_decide_eq_true g
      refine TriL.blockAt 2 1 (by kernel_rfl) ?_
      apply co_c (arB d) n (k : Nat) hsz (by omega) (by omega) (w64 (by omega) (by omega))
      case pl0 => simp
      case n0 => rw [atN]; exact ia_arB (by omega)
      case n1 => rw [atN1 (by omega) (by omega)]; exact ia_arB (by omega)
      case l3 =>
        have ed : co_c_d0 (arB d) n (k : Nat) = ⟨[(0, slA n), (3, iA k), (25, .bool (decide (d[k]! = d[k - 1]!)))], [rowA d]⟩ := by
          unfold co_c_d0
          rw [atN, atN1 (by omega) (by omega), int_arB (by omega), int_arB (by omega), show ((d[k]!.toNat : Int) == (d[k - 1]!.toNat : Int)) = decide (d[k]! = d[k - 1]!) by
            rw [Bool.eq_iff_iff, decide_eq_true_iff, beq_iff_eq, Int.ofNat_inj, UInt8.toNat_inj]]
        rw [ed]
        rw [cpt1_eq, if_pos (by omega)] at h3
        by_cases e : d[k]! = d[k - 1]!
        · rw [if_pos e] at h3
          rw [decide_eq_true e]
          refine TriL.condAt 1 (c := 25) (b := true) (by kernel_rfl) (by rfl) (by rfl) ?_
          rw [show (flat2 (inner (Lco.drop 2))).drop (1 + 1) = [] by kernel_rfl, List.append_nil]
          apply co_d (arB d) n (k : Nat) hsz (by omega) (by omega)
          case pl0 => simp
          case l1 =>
            have e2 : co_d_d0 (arB d) n (k : Nat) = coJ n k (d, 1, k) := by unfold co_d_d0 coJ; rw [atN, Int.toNat_natCast]; rfl
            rw [e2]
            refine TriL.blockAt 2 2 (by kernel_rfl) ?_
            refine TriL.loopAt (coJ n k) (fun s => n - s.2.1) (coOk n k d) (d, 1, k) (by kernel_rfl) ⟨hd, Nat.le_refl _, by dsimp only; omega, Nat.le_refl _, rfl⟩ ?_
            rintro ⟨d2, x, m⟩ hs
            have q1 := hs.h1; have q2 := hs.h2; have q3 := hs.h3; have q4 := hs.h4; have q5 := hs.h5
            dsimp only at q1 q2 q3 q4 q5
            have hsz2 : n ≤ (arB d2).size := by rw [arB_size]; omega
            apply co_e (arB d2) n (m : Nat) (x : Nat) k (n - k) hsz2
            case pl0 => simp
            case l2 =>
              intro g
              have g := of_decide_eq_false g
              rw [cpt2_eq, if_neg (by omega)] at q5
              rw [← q5] at h3
              dsimp only at h3
              repeat (first | with_reducible refine QL.ret ?_ | with_reducible refine QL.exit ?_ | with_reducible refine QB.ret ?_ | with_reducible refine QB.hit ?_ | with_reducible refine QB.normal ?_ | with_reducible refine QB.miss (by rfl) ?_)
              apply co_h (arB d2) n (m : Nat) hsz2 (by omega) (by omega)
              repeat (first | with_reducible refine QL.ret ?_ | with_reducible refine QL.exit ?_ | with_reducible refine QB.ret ?_ | with_reducible refine QB.hit ?_ | with_reducible refine QB.normal ?_ | with_reducible refine QB.miss (by rfl) ?_)
              refine co_h_r0 (arB d2) n (m : Nat) ?_
              rw [← h3, atN, Int.toNat_natCast, hd]
              exact ⟨rfl, rfl⟩
            case l1 =>
              intro g
              have g := of_decide_eq_true g
              refine TriL.blockAt 2 3 (by kernel_rfl) ?_
              have ea : k + Int.toNat (x : Int) * 1 = k + x := by simp
              have eb : k + Int.toNat (IntKind.wrap IntKind.i64 ((x : Int) - 1)) * 1 = k + x - 1 := by rw [w64 (by omega) (by omega)]; omega
              apply co_f (arB d2) n (m : Nat) (x : Nat) k (n - k) hsz2 (by omega) (by omega) (by omega) (w64 (by omega) (by omega))
              case pl0 => simp
              case n0 => rw [ea]; exact ia_arB (by omega)
              case n1 => rw [eb]; exact ia_arB (by omega)
              case l3 =>
                have e3 : co_f_d0 (arB d2) n (m : Nat) (x : Nat) k (n - k) = ⟨[(0, slA n), (3, iA m), (4, .slice (some ⟨0, k, none⟩) (n - k) (n - k)), (5, iA x), (44, .bool (decide (d2[k + x]! ≠ d2[k + x - 1]!)))], [rowA d2]⟩ := by
                  unfold co_f_d0
                  rw [ea, eb, int_arB (by omega), int_arB (by omega), show ((d2[k + x]!.toNat : Int) != (d2[k + x - 1]!.toNat : Int)) = decide (d2[k + x]! ≠ d2[k + x - 1]!) by
                    rw [Bool.eq_iff_iff, decide_eq_true_iff, bne_iff_ne, ne_eq, ne_eq, Int.ofNat_inj, UInt8.toNat_inj]]
                rw [e3]
                rw [cpt2_eq, if_pos (by omega)] at q5
                by_cases e4 : d2[k + x]! ≠ d2[k + x - 1]!
                · rw [if_pos e4] at q5
                  rw [decide_eq_true e4]
                  refine TriL.condAt 1 (c := 44) (b := true) (by kernel_rfl) (by rfl) (by rfl) ?_
                  rw [show (flat2 (inner (Lcb.drop 2))).drop (1 + 1) = [] by kernel_rfl, List.append_nil]
                  apply co_s (arB d2) n (m : Nat) (x : Nat) k (n - k) hsz2 (by omega) (by omega) (by omega) (by omega) (by omega) (w64 (by omega) (by omega))
                  case n0 => rw [ea]; exact ia_arB (by omega)
                  have e5 : co_s_d0 (arB d2) n (m : Nat) (x : Nat) k (n - k) = coJ n k (d2.setIfInBounds m d2[k + x]!, x, m + 1) := by
                    unfold co_s_d0 coJ
                    rw [set_arB atN ea (by omega) (by omega), iA_add1 (by omega)]
                  rw [e5]
                  have hs3 : (d2.setIfInBounds m d2[k + x]!).size = n := by rw [Array.size_setIfInBounds]; exact q1
                  generalize d2.setIfInBounds m d2[k + x]! = d3 at q5 hs3
                  repeat (first | with_reducible refine QL.ret ?_ | with_reducible refine QL.exit ?_ | with_reducible refine QB.ret ?_ | with_reducible refine QB.hit ?_ | with_reducible refine QB.normal ?_ | with_reducible refine QB.miss (by rfl) ?_)
                  apply co_g (arB d3) n (m + 1 : Nat) (x : Nat) k (n - k) (by rw [arB_size]; omega)
                  case pl0 => simp
                  case l1 =>
                    exact QL.to (d3, x + 1, m + 1) ⟨hs3, by dsimp only; omega, by dsimp only; omega, by dsimp only; omega, q5⟩ (by dsimp only; omega) (by unfold co_g_d0 coJ; rw [iA_add1 (by omega)])
                · rw [if_neg e4] at q5
                  rw [decide_eq_false e4]
                  refine TriL.condAt 1 (c := 44) (b := false) (by kernel_rfl) (by rfl) (by rfl) ?_
                  rw [show flat2 (arm false ((flat2 (inner (Lcb.drop 2))).drop 1)) ++ (flat2 (inner (Lcb.drop 2))).drop (1 + 1) = [Code.skip] by kernel_rfl]
                  refine TriL.skip (TriL.nil ?_)
                  repeat (first | with_reducible refine QL.ret ?_ | with_reducible refine QL.exit ?_ | with_reducible refine QB.ret ?_ | with_reducible refine QB.hit ?_ | with_reducible refine QB.normal ?_ | with_reducible refine QB.miss (by rfl) ?_)
                  apply co_gf (arB d2) n (m : Nat) (x : Nat) k (n - k) hsz2
                  case pl0 => simp
                  case l1 =>
                    exact QL.to (d2, x + 1, m) ⟨q1, by dsimp only; omega, by dsimp only; omega, by dsimp only; omega, q5⟩ (by dsimp only; omega) (by unfold co_gf_d0 coJ; rw [iA_add1 (by omega)])
        · rw [if_neg e] at h3
          rw [decide_eq_false e]
          refine TriL.condAt 1 (c := 25) (b := false) (by kernel_rfl) (by rfl) (by rfl) ?_
          rw [show flat2 (arm false ((flat2 (inner (Lco.drop 2))).drop 1)) ++ (flat2 (inner (Lco.drop 2))).drop (1 + 1) = [Code.skip] by kernel_rfl]
          refine TriL.skip (TriL.nil ?_)
          repeat (first | with_reducible refine QL.ret ?_ | with_reducible refine QL.exit ?_ | with_reducible refine QB.ret ?_ | with_reducible refine QB.hit ?_ | with_reducible refine QB.normal ?_ | with_reducible refine QB.miss (by rfl) ?_)
          apply co_if (arB d) n (k : Nat) hsz
          case pl0 => simp
          case l1 =>
            exact QL.to (k + 1) ⟨by omega, by omega, h3⟩ (by omega) (by unfold co_if_d0 coI; rw [iA_add1 (by omega)])
end Go.Proofs.Ytnlkkgpcikkpoaa
