/- The sort of bytes: insertion sort, sift down, heap sort, the reversal compute what Derived.Sort.Defs says. -/
import Derived.Test.YtnlkkgpcikkpoaaSrp
import Derived.Test.YtnlkkgpcikkpoaaSoa
import Derived.KernelRfl
namespace Go.Proofs.Ytnlkkgpcikkpoaa
open Go Vm Go.RowKit
set_option maxRecDepth 100000
theorem atN {x : Nat} : 0 + Int.toNat (x : Int) * 1 = x := by simp
theorem atN1 {x : Nat} (h : 1 ≤ x) (hb : x ≤ 100000) : 0 + Int.toNat (IntKind.wrap IntKind.i64 ((x : Int) - 1)) * 1 = x - 1 := by rw [w64 (by omega) (by omega)]; omega
theorem iA_add {x y : Nat} (h : x + y ≤ 100000) : Value.int .i64 (IntKind.wrap IntKind.i64 ((x : Int) + (y : Int))) = iA (x + y) := by rw [w64 (by omega) (by omega)]; rfl
theorem iA_add1 {x : Nat} (h : x ≤ 100000) : Value.int .i64 (IntKind.wrap IntKind.i64 ((x : Int) + 1)) = iA (x + 1) := by rw [w64 (by omega) (by omega)]; rfl
theorem iA_sub1 {x : Nat} (h : x ≤ 100000) (h1 : 1 ≤ x) : Value.int .i64 (IntKind.wrap IntKind.i64 ((x : Int) - 1)) = iA (x - 1) := by
  rw [w64 (by omega) (by omega)]; unfold iA; congr 1; omega
theorem atS {x y : Nat} (h : x + y ≤ 100000) : 0 + Int.toNat (IntKind.wrap IntKind.i64 ((x : Int) + (y : Int))) * 1 = x + y := by rw [w64 (by omega) (by omega)]; omega
theorem atS1 {x y : Nat} (h : x + y < 100000) : 0 + Int.toNat (IntKind.wrap IntKind.i64 (IntKind.wrap IntKind.i64 ((x : Int) + (y : Int)) + 1)) * 1 = x + y + 1 := by rw [w64 (x := (x : Int) + y) (by omega) (by omega), w64 (by omega) (by omega)]; omega
def insI (n a z : Nat) (s : Array UInt8 × Nat) : Desc := ⟨[(0, slA n), (1, iA a), (2, iA z), (6, iA s.2)], [rowA s.1]⟩
def insJ (n a z i : Nat) (s : Array UInt8 × Nat) : Desc := ⟨[(0, slA n), (1, iA a), (2, iA z), (6, iA i), (7, iA s.2)], [rowA s.1]⟩
structure insOk (d : Array UInt8) (n a z : Nat) (s : Array UInt8 × Nat) : Prop where
  h1 : s.1.size = n
  h2 : a + 1 ≤ s.2
  h3 : s.2 ≤ 100000
  h4 : Sort.insOuter ltB a z s.2 s.1 = Sort.insertionSort ltB d a z
structure insOk2 (d : Array UInt8) (n a i : Nat) (s : Array UInt8 × Nat) : Prop where
  h1 : s.1.size = n
  h2 : s.2 ≤ i
  h3 : Sort.insInner ltB a s.2 s.1 = Sort.insInner ltB a i d
theorem insOuter_eq (a z i : Nat) (d : Array UInt8) : Sort.insOuter ltB a z i d = if i < z then Sort.insOuter ltB a z (i + 1) (Sort.insInner ltB a i d) else d := by rw [Sort.insOuter]
theorem insInner_eq (a k : Nat) (d : Array UInt8) : Sort.insInner ltB a k d = if k > a ∧ ltB d[k]! d[k - 1]! = true then Sort.insInner ltB a (k - 1) (Sort.swp d k (k - 1)) else d := by
  cases k with
  | zero => rw [if_neg (by omega)]; rfl
  | succ k => rw [Sort.insInner]; simp
theorem ins_fn (d : Array UInt8) (n a z : Nat) (hd : d.size = n) (hn : n ≤ 10000) (hz : z ≤ n) (ha : a ≤ n) :
    FnT Try.prog 36 [slA n, iA a, iA z] [rowA d] fun r o => r = .ret (.tuple #[]) ∧ o = [rowA (Sort.insertionSort ltB d a z)] := by
  refine FnT.ofT (n := slotsC Try.prog 36) (by kernel_rfl) ?_
  apply in_a (arB d) n a z (by rw [arB_size]; omega) (w64 (by omega) (by omega))
  case pl0 => simp
  case l1 =>
    have e : in_a_d0 (arB d) n a z = insI n a z (d, a + 1) := by unfold in_a_d0 insI; rw [iA_add1 (by omega)]
    rw [e]
    refine TriL.blockAt 1 0 (by kernel_rfl) ?_
    refine TriL.loopAt (insI n a z) (fun s => z - s.2) (insOk d n a z) (d, a + 1) (by kernel_rfl) ⟨hd, Nat.le_refl _, by dsimp only; omega, rfl⟩ ?_
    rintro ⟨d', i⟩ hs
    have h1 := hs.h1; have h2 := hs.h2; have h3 := hs.h3; have h4 := hs.h4
    dsimp only at h1 h2 h3 h4
    have hsz : n ≤ (arB d').size := by rw [arB_size]; omega
    apply in_b (arB d') n a z i hsz
    case pl0 => simp
    case l2 =>
      intro g
      have g := of_decide_eq_false g
      rw [insOuter_eq, if_neg (by omega)] at h4
      repeat (first | with_reducible refine QL.ret ?_ | with_reducible refine QL.exit ?_ | with_reducible refine QB.ret ?_ | with_reducible refine QB.hit ?_ | with_reducible refine QB.normal ?_ | with_reducible refine QB.miss (by rfl) ?_)
      refine TriL.done (by kernel_rfl) ?_
      refine FinT.normal (vs := []) (l := []) (bs := [0]) (pl := [0]) (q := [bytesC (arB d')]) (fun u => by kernel_rfl) (by kernel_rfl) (pls_cons (by simp) pls_nil) ⟨rfl, by rw [← h4]⟩
    case l1 =>
      intro g
      have g := of_decide_eq_true g
      refine TriL.blockAt 2 1 (by kernel_rfl) ?_
      apply in_c (arB d') n a z i hsz
      case pl0 => simp
      case l1 =>
        refine TriL.blockAt 1 2 (by kernel_rfl) ?_
        refine TriL.loopAt (insJ n a z i) (fun s => s.2) (insOk2 d' n a i) (d', i) (by kernel_rfl) ⟨h1, Nat.le_refl _, rfl⟩ ?_
        rintro ⟨d2, k⟩ hs2
        have q1 := hs2.h1; have q2 := hs2.h2; have q3 := hs2.h3
        dsimp only at q1 q2 q3
        have hsz2 : n ≤ (arB d2).size := by rw [arB_size]; omega
        by_cases hk : k > a
        · apply in_d (arB d2) n a z i k hsz2 (by simp; omega) (by omega) (by omega) (w64 (by omega) (by omega))
          case n0 => rw [atN]; exact ia_arB (by omega)
          case n1 => rw [atN1 (by omega) (by omega)]; exact ia_arB (by omega)
          case pl0 => simp
          case l4 =>
            intro g
            rw [lt_arB atN (atN1 (by omega) (by omega)) (by omega) (by omega)] at g
            have key : Sort.insInner ltB a i d' = d2 := by rw [← q3, insInner_eq, if_neg (by rw [g]; simp)]
            repeat (first | with_reducible refine QL.ret ?_ | with_reducible refine QL.exit ?_ | with_reducible refine QB.ret ?_ | with_reducible refine QB.hit ?_ | with_reducible refine QB.normal ?_ | with_reducible refine QB.miss (by rfl) ?_)
            refine TriL.done (by kernel_rfl) ?_
            repeat (first | with_reducible refine QL.ret ?_ | with_reducible refine QL.exit ?_ | with_reducible refine QB.ret ?_ | with_reducible refine QB.hit ?_ | with_reducible refine QB.normal ?_ | with_reducible refine QB.miss (by rfl) ?_)
            apply in_e (arB d2) n a z i hsz2 (w64 (by omega) (by omega))
            case pl0 => simp
            case l1 =>
              refine QL.to (d2, i + 1) ⟨q1, by dsimp only; omega, by dsimp only; omega, ?_⟩ (by dsimp only; omega) (by unfold in_e_d0 insI; rw [iA_add1 (by omega)])
              dsimp only
              rw [← h4, insOuter_eq a z i, if_pos (by omega), key]
          case l3 =>
            intro g
            rw [lt_arB atN (atN1 (by omega) (by omega)) (by omega) (by omega)] at g
            apply in_s (arB d2) n a z i k hsz2 (by omega) (by omega) (w64 (by omega) (by omega))
            case n0 => rw [atN1 (by omega) (by omega)]; exact ia_arB (by omega)
            case n1 => rw [atN]; exact ia_arB (by omega)
            case n2 => rw [atN1 (by omega) (by omega), atN]; exact ls_arB (by omega) (by omega)
            case l3 =>
              refine QL.to (Sort.swp d2 k (k - 1), k - 1) ⟨by rw [swp_size]; exact q1, by dsimp only; omega, ?_⟩ (by dsimp only; omega) ?_
              · dsimp only
                rw [← q3, insInner_eq a k, if_pos ⟨hk, g⟩]
              · unfold in_s_d0 insJ
                rw [spl_arB atN (atN1 (by omega) (by omega)) atN (atN1 (by omega) (by omega)) (by omega) (by omega), iA_sub1 (by omega) (by omega)]
        · apply in_df (arB d2) n a z i k hsz2 (by simp; omega)
          case pl0 => simp
          case l1 =>
            have key : Sort.insInner ltB a i d' = d2 := by rw [← q3, insInner_eq, if_neg (fun h => hk h.1)]
            repeat (first | with_reducible refine QL.ret ?_ | with_reducible refine QL.exit ?_ | with_reducible refine QB.ret ?_ | with_reducible refine QB.hit ?_ | with_reducible refine QB.normal ?_ | with_reducible refine QB.miss (by rfl) ?_)
            refine TriL.done (by kernel_rfl) ?_
            repeat (first | with_reducible refine QL.ret ?_ | with_reducible refine QL.exit ?_ | with_reducible refine QB.ret ?_ | with_reducible refine QB.hit ?_ | with_reducible refine QB.normal ?_ | with_reducible refine QB.miss (by rfl) ?_)
            apply in_e (arB d2) n a z i hsz2 (w64 (by omega) (by omega))
            case pl0 => simp
            case l1 =>
              refine QL.to (d2, i + 1) ⟨q1, by dsimp only; omega, by dsimp only; omega, ?_⟩ (by dsimp only; omega) (by unfold in_e_d0 insI; rw [iA_add1 (by omega)])
              dsimp only
              rw [← h4, insOuter_eq a z i, if_pos (by omega), key]
def rvI (n : Nat) (s : Array UInt8 × Nat × Int) : Desc := ⟨[(0, slA n), (6, iA s.2.1), (7, .int .i64 s.2.2)], [rowA s.1]⟩
structure rvOk (d : Array UInt8) (n a z : Nat) (s : Array UInt8 × Nat × Int) : Prop where
  h1 : s.1.size = n
  h2 : -1 ≤ s.2.2
  h3 : s.2.2 < n
  h5 : s.2.1 ≤ n
  h4 : Sort.reverseLoop s.2.1 s.2.2.toNat s.1 = Sort.reverseRange d a z
theorem reverseLoop_eq (i j : Nat) (d : Array UInt8) : Sort.reverseLoop i j d = if i < j then Sort.reverseLoop (i + 1) (j - 1) (Sort.swp d i j) else d := by rw [Sort.reverseLoop]
theorem rv_fn (d : Array UInt8) (n a z : Nat) (hd : d.size = n) (hn : n ≤ 10000) (hz : z ≤ n) (ha : a ≤ n) :
    FnT Try.prog 40 [slA n, iA a, iA z] [rowA d] fun r o => r = .ret (.tuple #[]) ∧ o = [rowA (Sort.reverseRange d a z)] := by
  refine FnT.ofT (n := slotsC Try.prog 40) (by kernel_rfl) ?_
  apply rv_a (arB d) n a z (by rw [arB_size]; omega) (w64 (by omega) (by omega))
  case pl0 => simp
  case l1 =>
    have e : rv_a_d0 (arB d) n a z = rvI n (d, a, (z : Int) - 1) := by unfold rv_a_d0 rvI; rw [w64 (by omega) (by omega)]
    rw [e]
    refine TriL.blockAt 2 0 (by kernel_rfl) ?_
    refine TriL.loopAt (rvI n) (fun s => (s.2.2 - s.2.1 + 1).toNat) (rvOk d n a z) (d, a, (z : Int) - 1) (by kernel_rfl) ⟨hd, by dsimp only; omega, by dsimp only; omega, ha, ?_⟩ ?_
    · dsimp only
      unfold Sort.reverseRange
      congr 1
      omega
    rintro ⟨d', i, j⟩ hs
    have h1 := hs.h1; have h2 := hs.h2; have h3 := hs.h3; have h4 := hs.h4; have h5 := hs.h5
    dsimp only at h1 h2 h3 h4 h5
    have hsz : n ≤ (arB d').size := by rw [arB_size]; omega
    apply rv_b (arB d') n i j hsz
    case pl0 => simp
    case l2 =>
      intro g
      have g := of_decide_eq_false g
      rw [reverseLoop_eq, if_neg (by omega)] at h4
      repeat (first | with_reducible refine QL.ret ?_ | with_reducible refine QL.exit ?_ | with_reducible refine QB.ret ?_ | with_reducible refine QB.hit ?_ | with_reducible refine QB.normal ?_ | with_reducible refine QB.miss (by rfl) ?_)
      refine TriL.done (by kernel_rfl) ?_
      refine FinT.normal (vs := []) (l := []) (bs := [0]) (pl := [0]) (q := [bytesC (arB d')]) (fun u => by kernel_rfl) (by kernel_rfl) (pls_cons (by simp) pls_nil) ⟨rfl, by rw [← h4]⟩
    case l1 =>
      intro g
      have g := of_decide_eq_true g
      refine TriL.blockAt 2 1 (by kernel_rfl) ?_
      have ej : 0 + j.toNat * 1 = j.toNat := by omega
      apply rv_c (arB d') n i j hsz (by omega) (by omega) (by omega) (by omega) (w64 (by omega) (by omega)) (w64 (by omega) (by omega))
      case n0 => rw [ej]; exact ia_arB (by omega)
      case n1 => rw [atN]; exact ia_arB (by omega)
      case n2 => rw [ej, atN]; exact ls_arB (by omega) (by omega)
      case l3 =>
        repeat (first | with_reducible refine QL.ret ?_ | with_reducible refine QL.exit ?_ | with_reducible refine QB.ret ?_ | with_reducible refine QB.hit ?_ | with_reducible refine QB.normal ?_ | with_reducible refine QB.miss (by rfl) ?_)
        refine TriL.done (by kernel_rfl) ?_
        refine QL.to (Sort.swp d' i j.toNat, i + 1, j - 1) ⟨by rw [swp_size]; exact h1, by dsimp only; omega, by dsimp only; omega, by dsimp only; omega, ?_⟩ (by dsimp only; omega) ?_
        · dsimp only
          rw [← h4, reverseLoop_eq i, if_pos (by omega)]
          congr 1
          omega
        · unfold rv_c_d0 rvI
          rw [spl_arB atN ej atN ej (by omega) (by omega), iA_add1 (by omega), w64 (x := j - 1) (by omega) (by omega)]
theorem sift_eq (hi fs r : Nat) (d : Array UInt8) : Sort.siftDown ltB hi fs r d =
    if 2 * r + 1 ≥ hi then d else if ltB d[fs + r]! d[fs + (if 2 * r + 1 + 1 < hi ∧ ltB d[fs + (2 * r + 1)]! d[fs + (2 * r + 1) + 1]! = true then 2 * r + 2 else 2 * r + 1)]! = true then
      Sort.siftDown ltB hi fs (if 2 * r + 1 + 1 < hi ∧ ltB d[fs + (2 * r + 1)]! d[fs + (2 * r + 1) + 1]! = true then 2 * r + 2 else 2 * r + 1)
        (Sort.swp d (fs + r) (fs + (if 2 * r + 1 + 1 < hi ∧ ltB d[fs + (2 * r + 1)]! d[fs + (2 * r + 1) + 1]! = true then 2 * r + 2 else 2 * r + 1))) else d := by
  rw [Sort.siftDown]
  by_cases h : 2 * r + 1 ≥ hi
  · rw [dif_pos h, if_pos h]
  · rw [dif_neg h, if_neg h]
    by_cases h1 : 2 * r + 1 + 1 < hi ∧ ltB d[fs + (2 * r + 1)]! d[fs + (2 * r + 1) + 1]! = true
    · rw [if_pos (by simp; exact h1), if_pos h1]
      by_cases h2 : ltB d[fs + r]! d[fs + (2 * r + 2)]! = true
      · rw [if_neg (by simp [h2]), if_pos h2, dif_pos (by omega)]
      · rw [if_pos (by simpa using h2), if_neg h2]
    · rw [if_neg (by simp; simpa using h1), if_neg h1]
      by_cases h2 : ltB d[fs + r]! d[fs + (2 * r + 1)]! = true
      · rw [if_neg (by simp [h2]), if_pos h2]
      · rw [if_pos (by simpa using h2), if_neg h2]
def sdI (n hi fs : Nat) (s : Array UInt8 × Nat) : Desc := ⟨[(0, slA n), (2, iA hi), (3, iA fs), (8, iA s.2)], [rowA s.1]⟩
def sdC (n hi fs r c : Nat) (d : Array UInt8) : Desc := ⟨[(0, slA n), (2, iA hi), (3, iA fs), (8, iA r), (9, iA c)], [rowA d]⟩
theorem sd_tail {Q : VEx → Desc → Prop} (d : Array UInt8) (n hi fs r c : Nat) (hd : d.size = n) (hn : n ≤ 10000) (hf : fs + hi ≤ n) (hr : r < hi) (hc : c < hi)
    (h1 : ltB d[fs + r]! d[fs + c]! = false → Q .ret (sd_d_d0 (arB d) n hi fs r c)) (h2 : ltB d[fs + r]! d[fs + c]! = true → Q .normal (sdI n hi fs (Sort.swp d (fs + r) (fs + c), c))) :
    TriL Try.prog 76 1 ((flat2 (inner (flat2 (inner (flat2 (inner (Lslices_siftDownOrdered_byte_.drop 1))))))).drop 5) (sdC n hi fs r c d) Q := by
  have hsz : n ≤ (arB d).size := by rw [arB_size]; omega
  apply sd_d (arB d) n hi fs r c hsz (by omega) (by omega) (by omega) (w64 (by omega) (by omega)) (w64 (by omega) (by omega)) (by omega) (by omega)
  case n0 => rw [atS (by omega)]; exact ia_arB (by omega)
  case n1 => rw [atS (by omega)]; exact ia_arB (by omega)
  case pl0 => simp
  case l3 =>
    intro g
    rw [lt_arB (atS (by omega)) (atS (by omega)) (by omega) (by omega)] at g
    exact h1 (by simpa using g)
  case l4 =>
    intro g
    rw [lt_arB (atS (by omega)) (atS (by omega)) (by omega) (by omega)] at g
    rw [List.drop_drop]
    apply sd_e (arB d) n hi fs r c hsz (by omega) (by omega) (by omega) (w64 (by omega) (by omega)) (w64 (by omega) (by omega)) (by omega) (by omega)
    case n0 => rw [atS (by omega)]; exact ia_arB (by omega)
    case n1 => rw [atS (by omega)]; exact ia_arB (by omega)
    case n2 => rw [atS (by omega), atS (by omega)]; exact ls_arB (by omega) (by omega)
    case l3 =>
      have e : sd_e_d0 (arB d) n hi fs r c = sdI n hi fs (Sort.swp d (fs + r) (fs + c), c) := by
        unfold sd_e_d0 sdI
        rw [spl_arB (atS (by omega)) (atS (by omega)) (atS (by omega)) (atS (by omega)) (by omega) (by omega)]
      rw [e]
      exact h2 (by simpa using g)
structure sdOk (d : Array UInt8) (n hi fs lo : Nat) (s : Array UInt8 × Nat) : Prop where
  h1 : s.1.size = n
  h2 : s.2 ≤ n
  h3 : Sort.siftDown ltB hi fs s.2 s.1 = Sort.siftDown ltB hi fs lo d
theorem sd_fn (d : Array UInt8) (n lo hi fs : Nat) (hd : d.size = n) (hn : n ≤ 10000) (hf : fs + hi ≤ n) (hl : lo ≤ n) :
    FnT Try.prog 47 [slA n, iA lo, iA hi, iA fs] [rowA d] fun r o => r = .ret (.tuple #[]) ∧ o = [rowA (Sort.siftDown ltB hi fs lo d)] := by
  refine FnT.ofT (n := slotsC Try.prog 47) (by kernel_rfl) ?_
  apply sd_a (arB d) n lo hi fs (by rw [arB_size]; omega)
  case pl0 => simp
  case l1 =>
    refine TriL.blockAt 1 0 (by kernel_rfl) ?_
    refine TriL.loopAt (sdI n hi fs) (fun s => hi - s.2) (sdOk d n hi fs lo) (d, lo) (by kernel_rfl) ⟨hd, hl, rfl⟩ ?_
    rintro ⟨d', r⟩ hs
    have h1 := hs.h1; have h2 := hs.h2; have h3 := hs.h3
    dsimp only at h1 h2 h3
    have hsz : n ≤ (arB d').size := by rw [arB_size]; omega
    have ew : IntKind.wrap IntKind.i64 (IntKind.wrap IntKind.i64 (2 * (r : Int)) + 1) = ((2 * r + 1 : Nat) : Int) := by
      rw [w64 (x := 2 * (r : Int)) (by omega) (by omega), w64 (by omega) (by omega)]; omega
    refine TriL.block (id := 1) (by kernel_rfl) ?_
    apply sd_b (arB d') n hi fs r hsz (w64 (by omega) (by omega)) (by rw [ew]; omega)
    case pl0 => simp
    case l1 =>
      intro g
      rw [ew] at g
      have g := of_decide_eq_true g
      rw [sift_eq, if_pos (by omega)] at h3
      repeat (first | with_reducible refine QL.ret ?_ | with_reducible refine QL.exit ?_ | with_reducible refine QB.ret ?_ | with_reducible refine QB.hit ?_ | with_reducible refine QB.normal ?_ | with_reducible refine QB.miss (by rfl) ?_)
      refine TriL.done (by kernel_rfl) ?_
      refine FinT.normal (vs := []) (l := []) (bs := [0]) (pl := [0]) (q := [bytesC (arB d')]) (fun u => by kernel_rfl) (by kernel_rfl) (pls_cons (by simp) pls_nil) ⟨rfl, by rw [← h3]⟩
    case l2 =>
      intro g
      rw [ew] at g
      have g := of_decide_eq_false g
      have e : sd_b_d1 (arB d') n hi fs r = sdC n hi fs r (2 * r + 1) d' := by unfold sd_b_d1 sdC; rw [ew]
      rw [e]
      rw [sift_eq, if_neg (by omega)] at h3
      have fin : ∀ c : Nat, 2 * r < c → c < hi → (if 2 * r + 1 + 1 < hi ∧ ltB d'[fs + (2 * r + 1)]! d'[fs + (2 * r + 1) + 1]! = true then 2 * r + 2 else 2 * r + 1) = c →
          TriL Try.prog 76 1 ((flat2 (inner (flat2 (inner (flat2 (inner (Lslices_siftDownOrdered_byte_.drop 1))))))).drop 5) (sdC n hi fs r c d')
            (QB 1 (fun d'' => TriL Try.prog 76 1 (List.tail (flat2 (inner (flat2 (inner (Lslices_siftDownOrdered_byte_.drop 1)))))) d'' (QL (sdI n hi fs) (fun s => hi - s.2) (sdOk d n hi fs lo) (d', r) (QB 0 (fun d'' => TriL Try.prog 76 1 (Lslices_siftDownOrdered_byte_.drop (1 + 1)) d'' (FinT Try.prog 47 76 1 fun r o => r = .ret (.tuple #[]) ∧ o = [rowA (Sort.siftDown ltB hi fs lo d)])) (FinT Try.prog 47 76 1 fun r o => r = .ret (.tuple #[]) ∧ o = [rowA (Sort.siftDown ltB hi fs lo d)])))) (QL (sdI n hi fs) (fun s => hi - s.2) (sdOk d n hi fs lo) (d', r) (QB 0 (fun d'' => TriL Try.prog 76 1 (Lslices_siftDownOrdered_byte_.drop (1 + 1)) d'' (FinT Try.prog 47 76 1 fun r o => r = .ret (.tuple #[]) ∧ o = [rowA (Sort.siftDown ltB hi fs lo d)])) (FinT Try.prog 47 76 1 fun r o => r = .ret (.tuple #[]) ∧ o = [rowA (Sort.siftDown ltB hi fs lo d)])))) := fun c c1 c2 c3 => by
        rw [c3] at h3
        apply sd_tail d' n hi fs r c h1 hn hf (by omega) c2
        · intro g2
          rw [g2, if_neg (by simp)] at h3
          exact sd_d_r0 (arB d') n hi fs r c (by simp) ⟨rfl, by rw [← h3]⟩
        · intro g2
          rw [g2, if_pos rfl] at h3
          repeat (first | with_reducible refine QL.ret ?_ | with_reducible refine QL.exit ?_ | with_reducible refine QB.ret ?_ | with_reducible refine QB.hit ?_ | with_reducible refine QB.normal ?_ | with_reducible refine QB.miss (by rfl) ?_)
          refine TriL.done (by kernel_rfl) ?_
          exact QL.to (Sort.swp d' (fs + r) (fs + c), c) ⟨by rw [swp_size]; exact h1, by dsimp only; omega, h3⟩ (by dsimp only; omega) rfl
      by_cases hc : 2 * r + 1 + 1 < hi
      · apply sd_c (arB d') n hi fs r (2 * r + 1 : Nat) hsz (w64 (by omega) (by omega)) (by rw [w64 (by omega) (by omega)]; exact decide_eq_true (by omega)) (by omega) (by omega) (w64 (by omega) (by omega)) (by rw [w64 (x := (fs : Int) + _) (by omega) (by omega), w64 (by omega) (by omega)]) (by omega)
        case n0 => rw [atS (by omega)]; exact ia_arB (by omega)
        case n1 => rw [atS1 (by omega)]; exact ia_arB (by omega)
        case pl0 => simp
        case l3 =>
          intro g3
          rw [lt_arB (atS (by omega)) (atS1 (by omega)) (by omega) (by omega)] at g3
          rw [List.drop_drop]
          have e2 : sd_c_d0 (arB d') n hi fs r (2 * r + 1 : Nat) = sdC n hi fs r (2 * r + 2) d' := by unfold sd_c_d0 sdC; rw [iA_add1 (by omega)]
          rw [e2]
          exact fin (2 * r + 2) (by omega) (by omega) (by rw [if_pos ⟨hc, g3⟩])
        case l4 =>
          intro g3
          rw [lt_arB (atS (by omega)) (atS1 (by omega)) (by omega) (by omega)] at g3
          rw [List.drop_drop]
          exact fin (2 * r + 1) (by omega) (by omega) (by rw [if_neg (by simp [g3])])
      · apply sd_cf (arB d') n hi fs r (2 * r + 1 : Nat) hsz (by rw [w64 (by omega) (by omega)]; exact decide_eq_false (by omega))
        case pl0 => simp
        case l1 =>
          rw [List.drop_drop]
          exact fin (2 * r + 1) (by omega) (by omega) (by rw [if_neg (fun h => hc h.1)])
end Go.Proofs.Ytnlkkgpcikkpoaa
