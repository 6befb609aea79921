/- The sort of bytes: heap sort computes what Derived.Sort.Defs says. -/
import Derived.Test.YtnlkkgpcikkpoaaSru
import Derived.Test.YtnlkkgpcikkpoaaSod
import Derived.KernelRfl
namespace Go.Proofs.Ytnlkkgpcikkpoaa
open Go Vm Go.RowKit
set_option maxRecDepth 100000
def hpI (n fs hi : Nat) (s : Array UInt8 × Int) : Desc := ⟨[(0, slA n), (6, iA fs), (7, .int .i64 0), (8, iA hi), (9, .int .i64 s.2)], [rowA s.1]⟩
def hpJ (n fs : Nat) (s : Array UInt8 × Int) : Desc := ⟨[(0, slA n), (6, iA fs), (7, .int .i64 0), (10, .int .i64 s.2)], [rowA s.1]⟩
structure hpOk (d : Array UInt8) (n a hi : Nat) (s : Array UInt8 × Int) : Prop where
  h1 : s.1.size = n
  h2 : -1 ≤ s.2
  h3 : s.2 ≤ n
  h4 : Sort.heapBuild ltB hi a (s.2 + 1).toNat s.1 = Sort.heapBuild ltB hi a ((hi - 1) / 2 + 1) d
structure hpOk2 (d : Array UInt8) (n a hi : Nat) (s : Array UInt8 × Int) : Prop where
  h1 : s.1.size = n
  h2 : -1 ≤ s.2
  h3 : s.2 < hi
  h4 : Sort.heapPop ltB a (s.2 + 1).toNat s.1 = Sort.heapPop ltB a hi d
theorem sift_size (hi fs r : Nat) (d : Array UInt8) : (Sort.siftDown ltB hi fs r d).size = d.size := by
  induction h : hi - r using Nat.strongRecOn generalizing r d with
  | ind m ih =>
    subst h
    rw [sift_eq]
    by_cases h1 : 2 * r + 1 ≥ hi
    · rw [if_pos h1]
    · rw [if_neg h1]
      by_cases h2 : 2 * r + 1 + 1 < hi ∧ ltB d[fs + (2 * r + 1)]! d[fs + (2 * r + 1) + 1]! = true
      · rw [if_pos h2]
        split
        · rw [ih _ (by omega) _ _ rfl, swp_size]
        · rfl
      · rw [if_neg h2]
        split
        · rw [ih _ (by omega) _ _ rfl, swp_size]
        · rfl
theorem hp_fn (d : Array UInt8) (n a z : Nat) (hd : d.size = n) (hn : n ≤ 10000) (hz : z ≤ n) (ha : a ≤ z) :
    FnT Try.prog 37 [slA n, iA a, iA z] [rowA d] fun r o => r = .ret (.tuple #[]) ∧ o = [rowA (Sort.heapSort ltB d a z)] := by
  refine FnT.ofT (n := slotsC Try.prog 37) (by kernel_rfl) ?_
  have ez : IntKind.wrap IntKind.i64 ((z : Int) - a) = ((z - a : Nat) : Int) := by rw [w64 (by omega) (by omega)]; omega
  apply hp_a (arB d) n a z (by rw [arB_size]; omega) (w64 (by omega) (by omega)) (w64 (by omega) (by omega))
  case pl0 => simp
  case l1 =>
    have e : hp_a_d0 (arB d) n a z = hpI n a (z - a) (d, (((z - a - 1) / 2 : Nat) : Int)) := by
      unfold hp_a_d0 hpI
      rw [ez, w64 (x := ((z - a : Nat) : Int) - 1) (by omega) (by omega)]
      have : Int.tdiv (((z - a : Nat) : Int) - 1) 2 = (((z - a - 1) / 2 : Nat) : Int) := by
        rcases Nat.eq_zero_or_pos (z - a) with h | h
        · rw [h]; decide
        · rw [show ((z - a : Nat) : Int) - 1 = ((z - a - 1 : Nat) : Int) by omega]; rfl
      rw [this, w64 (by omega) (by omega)]
    rw [e]
    generalize hh : z - a = hi
    refine TriL.blockAt 4 0 (by kernel_rfl) ?_
    refine TriL.loopAt (hpI n a hi) (fun s => (s.2 + 1).toNat) (hpOk d n a hi) (d, (((hi - 1) / 2 : Nat) : Int)) (by kernel_rfl) ⟨hd, by dsimp only; omega, by dsimp only; omega, rfl⟩ ?_
    rintro ⟨d', i⟩ hs
    have h1 := hs.h1; have h2 := hs.h2; have h3 := hs.h3; have h4 := hs.h4
    dsimp only at h1 h2 h3 h4
    have hsz : n ≤ (arB d').size := by rw [arB_size]; omega
    apply hp_b (arB d') n a 0 hi i hsz
    case pl0 => simp
    case l1 =>
      intro g
      have g := of_decide_eq_true g
      refine TriL.blockAt 2 1 (by kernel_rfl) ?_
      apply hp_c (arB d') n a 0 hi i hsz
      case n0 => exact okA_arB ⟨rfl, rfl, by rw [bytesC_length]; exact h1, hn, by omega, by omega, by omega, by simp; omega, by omega⟩
      case l1 =>
        repeat (first | with_reducible refine QL.ret ?_ | with_reducible refine QL.exit ?_ | with_reducible refine QB.ret ?_ | with_reducible refine QB.hit ?_ | with_reducible refine QB.normal ?_ | with_reducible refine QB.miss (by rfl) ?_)
        have e2 : hp_c_d0 (arB d') n a 0 hi i = ⟨[(0, slA n), (6, iA a), (7, .int .i64 0), (8, iA hi), (9, .int .i64 i)], [rowA (Sort.siftDown ltB hi a i.toNat d')]⟩ := by
          unfold hp_c_d0; rw [arrOf_bytes]; simp
        rw [e2]
        apply hp_d (arB (Sort.siftDown ltB hi a i.toNat d')) n a 0 hi i (by rw [arB_size, sift_size]; omega) (w64 (by omega) (by omega))
        case pl0 => simp
        case l1 =>
          refine QL.to (Sort.siftDown ltB hi a i.toNat d', i - 1) ⟨by rw [sift_size]; exact h1, by dsimp only; omega, by dsimp only; omega, ?_⟩ (by dsimp only; omega) (by unfold hp_d_d0 hpI; rw [w64 (x := i - 1) (by omega) (by omega)])
          dsimp only
          rw [← h4, show (i + 1).toNat = (i - 1 + 1).toNat + 1 by omega, Sort.heapBuild]
          congr 2
          omega
    case l2 =>
      intro g
      have g := of_decide_eq_false g
      rw [show (i + 1).toNat = 0 by omega] at h4
      replace h4 : d' = _ := h4
      repeat (first | with_reducible refine QL.ret ?_ | with_reducible refine QL.exit ?_ | with_reducible refine QB.ret ?_ | with_reducible refine QB.hit ?_ | with_reducible refine QB.normal ?_ | with_reducible refine QB.miss (by rfl) ?_)
      apply hp_e (arB d') n a 0 hi hsz (w64 (by omega) (by omega))
      case pl0 => simp
      case l1 =>
        have e2 : hp_e_d0 (arB d') n a 0 hi = hpJ n a (d', (hi : Int) - 1) := by unfold hp_e_d0 hpJ; rw [w64 (by omega) (by omega)]
        rw [e2, List.drop_drop]
        refine TriL.blockAt 6 2 (by kernel_rfl) ?_
        refine TriL.loopAt (hpJ n a) (fun s => (s.2 + 1).toNat) (hpOk2 d' n a hi) (d', (hi : Int) - 1) (by kernel_rfl) ⟨h1, by dsimp only; omega, by dsimp only; omega, by dsimp only; congr 1; omega⟩ ?_
        clear hs h1 h2 h3 hsz
        rintro ⟨d2, k⟩ hs
        have h1 := hs.h1; have h2 := hs.h2; have h3 := hs.h3; have h5 := hs.h4
        dsimp only at h1 h2 h3 h5
        have hsz : n ≤ (arB d2).size := by rw [arB_size]; omega
        apply hp_f (arB d2) n a 0 k hsz
        case pl0 => simp
        case l2 =>
          intro g
          have g := of_decide_eq_false g
          rw [show (k + 1).toNat = 0 by omega] at h5
          replace h5 : d2 = _ := h5
          repeat (first | with_reducible refine QL.ret ?_ | with_reducible refine QL.exit ?_ | with_reducible refine QB.ret ?_ | with_reducible refine QB.hit ?_ | with_reducible refine QB.normal ?_ | with_reducible refine QB.miss (by rfl) ?_)
          refine TriL.done (by kernel_rfl) ?_
          refine FinT.normal (vs := []) (l := []) (bs := [0]) (pl := [0]) (q := [bytesC (arB d2)]) (r' := .ret (.tuple #[])) (o' := [rowA d2]) (fun u => by kernel_rfl) (by kernel_rfl) (pls_cons (by simp) pls_nil) ⟨rfl, ?_⟩
          unfold Sort.heapSort
          rw [hh, ← h4, ← h5]
        case l1 =>
          intro g
          have g := of_decide_eq_true g
          obtain ⟨j, rfl⟩ : ∃ j : Nat, k = j := ⟨k.toNat, by omega⟩
          refine TriL.blockAt 2 3 (by kernel_rfl) ?_
          apply hp_g (arB d2) n a 0 j hsz (by omega) (by omega) (by omega) (w64 (by omega) (by omega))
          case n0 => rw [atS (by omega)]; exact ia_arB (by omega)
          case n1 => rw [atN]; exact ia_arB (by omega)
          case n2 => rw [atS (by omega), atN]; exact ls_arB (by omega) (by omega)
          case l3 =>
            have e3 : hp_g_d0 (arB d2) n a 0 j = ⟨[(0, slA n), (6, iA a), (7, .int .i64 0), (10, iA j)], [rowA (Sort.swp d2 a (a + j))]⟩ := by
              unfold hp_g_d0
              rw [spl_arB atN (atS (by omega)) atN (atS (by omega)) (by omega) (by omega)]
            rw [e3]
            apply hp_h (arB (Sort.swp d2 a (a + j))) n a 0 j (by rw [arB_size, swp_size]; omega)
            case n0 => exact okA_arB ⟨rfl, rfl, by rw [bytesC_length, arB_size, swp_size]; exact h1, hn, by omega, by omega, by omega, by simp; omega, by simp⟩
            case l1 =>
              repeat (first | with_reducible refine QL.ret ?_ | with_reducible refine QL.exit ?_ | with_reducible refine QB.ret ?_ | with_reducible refine QB.hit ?_ | with_reducible refine QB.normal ?_ | with_reducible refine QB.miss (by rfl) ?_)
              have e4 : hp_h_d0 (arB (Sort.swp d2 a (a + j))) n a 0 j = ⟨[(0, slA n), (6, iA a), (7, .int .i64 0), (10, iA j)], [rowA (Sort.siftDown ltB j a 0 (Sort.swp d2 a (a + j)))]⟩ := by
                unfold hp_h_d0; rw [arrOf_bytes]; simp
              rw [e4]
              apply hp_i (arB (Sort.siftDown ltB j a 0 (Sort.swp d2 a (a + j)))) n a 0 j (by rw [arB_size, sift_size, swp_size]; omega) (w64 (by omega) (by omega))
              case pl0 => simp
              case l1 =>
                refine QL.to (Sort.siftDown ltB j a 0 (Sort.swp d2 a (a + j)), (j : Int) - 1) ⟨by rw [sift_size, swp_size]; exact h1, by dsimp only; omega, by dsimp only; omega, ?_⟩ (by dsimp only; omega) (by unfold hp_i_d0 hpJ; rw [w64 (x := (j : Int) - 1) (by omega) (by omega)])
                dsimp only
                rw [← h5, show ((j : Int) + 1).toNat = j + 1 by omega, Sort.heapPop]
                congr 1
                omega
end Go.Proofs.Ytnlkkgpcikkpoaa
