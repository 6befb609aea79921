/- The sort of bytes: pdqsort computes what Derived.Sort.Defs says. -/
import Derived.Test.YtnlkkgpcikkpoaaSop
import Derived.Test.YtnlkkgpcikkpoaaSr6
import Derived.Sort.AssemblyPlain
import Derived.Sort.Walk13a
import Derived.KernelRfl
namespace Go.Proofs.Ytnlkkgpcikkpoaa
open Go Vm Go.RowKit
set_option maxRecDepth 100000
def pqI (n : Nat) (d : Array UInt8) (a z q : Nat) (x y : Bool) : Desc := ⟨[(0, slA n), (1, iA a), (2, iA z), (3, iA q), (8, .bool x), (9, .bool y)], [rowA d]⟩
noncomputable abbrev Bpq : List Code := flat2 (inner (flat2 (inner (flat2 (inner (Lslices_pdqsortOrdered_byte_.drop 2))))))
def pqJ (n : Nat) (d : Array UInt8) (a z q p : Nat) (x y : Bool) : Desc := ⟨[(0, slA n), (1, iA a), (2, iA z), (3, iA q), (8, .bool x), (9, .bool y), (10, iA (z - a)), (11, iA p)], [rowA d]⟩
def pqK (n : Nat) (d : Array UInt8) (a z q p : Nat) : Desc := ⟨[(0, slA n), (1, iA a), (2, iA z), (3, iA q), (10, iA (z - a)), (11, iA p)], [rowA d]⟩
theorem pq_rest {Q : VEx → Desc → Prop} (N : Nat) (hN : FnOk Try.prog 34 (Sum.of (gPq N))) (d : Array UInt8) (n a z q p : Nat) (hd : d.size = n) (hn : n ≤ 10000) (hz : z ≤ n) (ha : a + 12 < z) (hl : z - a ≤ N) (hq : q ≤ 100)
    (hp : a ≤ p) (hp2 : p < z) (hB : Go.Sort.Below ltB a z d)
    (h1 : (Sort.partition ltB d a z p).1 - a < z - (Sort.partition ltB d a z p).1 → Q .normal (pqI n (Sort.pdq ltB (Sort.partition ltB d a z p).2.2 a (Sort.partition ltB d a z p).1 q true true) ((Sort.partition ltB d a z p).1 + 1) z q (decide ((Sort.partition ltB d a z p).1 - a ≥ (z - a) / 8)) (Sort.partition ltB d a z p).2.1))
    (h2 : ¬ (Sort.partition ltB d a z p).1 - a < z - (Sort.partition ltB d a z p).1 → Q .normal (pqI n (Sort.pdq ltB (Sort.partition ltB d a z p).2.2 ((Sort.partition ltB d a z p).1 + 1) z q true true) a (Sort.partition ltB d a z p).1 q (decide (z - (Sort.partition ltB d a z p).1 ≥ (z - a) / 8)) (Sort.partition ltB d a z p).2.1)) :
    TriL Try.prog 134 1 (Bpq.drop 14) (pqK n d a z q p) Q := by
  have hsz : n ≤ (arB d).size := by rw [arB_size]; omega
  have hbl : (bytesC (arB d)).length = n := by rw [bytesC_length]; exact hd
  apply pq_k N (arB d) n a z q (z - a : Nat) p hN hsz
  case n0 => exact okA_arB ⟨rfl, rfl, hbl, hn, by omega, by omega, by omega, by omega, by omega, by omega⟩
  case l1 =>
    obtain ⟨g1, g2, hs4, hBa, hBr, hleft, hright⟩ := Sort.round_part swoB (Sort.partition_holds ltB) hp hp2 (by rw [hd]; exact hz) hB (show Sort.partition ltB d a z p = ((Sort.partition ltB d a z p).1, (Sort.partition ltB d a z p).2.1, (Sort.partition ltB d a z p).2.2) from rfl)
    rw [List.drop_drop]
    generalize hP : Sort.partition ltB d a z p = P at *
    obtain ⟨mid, ap, d4⟩ := P
    dsimp only at *
    have hd4 : d4.size = n := by rw [hs4]; exact hd
    have hsz4 : n ≤ (arB d4).size := by rw [arB_size]; omega
    have hbl4 : (bytesC (arB d4)).length = n := by rw [bytesC_length]; exact hd4
    have e : pq_k_d0 N (arB d) n a z q (z - a : Nat) p = ⟨[(0, slA n), (1, iA a), (2, iA z), (3, iA q), (9, .bool ap), (14, iA mid), (16, iA (mid - a)), (17, iA (z - mid)), (18, iA ((z - a) / 8)), (113, .bool (decide (mid - a < z - mid)))], [rowA d4]⟩ := by
      unfold pq_k_d0
      simp only [arrOf_bytes, Int.toNat_natCast, lock_eq, hP]
      rw [show Int.tdiv (((z - a : Nat) : Int)) 8 = (((z - a) / 8 : Nat) : Int) from rfl, w64 (x := (((z - a) / 8 : Nat) : Int)) (by omega) (by omega), w64 (x := (mid : Int) - a) (by omega) (by omega), w64 (x := (z : Int) - mid) (by omega) (by omega),
        show (mid : Int) - a = ((mid - a : Nat) : Int) by omega, show (z : Int) - mid = ((z - mid : Nat) : Int) by omega,
        show decide (((mid - a : Nat) : Int) < ((z - mid : Nat) : Int)) = decide (mid - a < z - mid) from decide_eq_decide.2 (by omega)]
    rw [e]
    by_cases hlt : mid - a < z - mid
    · rw [decide_eq_true hlt]
      apply pq_l N (arB d4) n a z q mid (mid - a : Nat) (z - mid : Nat) ((z - a) / 8 : Nat) ap hN hsz4
      case n0 => rw [arrOf_bytes]; exact okA_arB ⟨rfl, rfl, hbl4, hn, by omega, by omega, by omega, by omega, by omega, by omega, by omega, by simpa using hBa⟩
      case l1 =>
        have e2 : pq_l_d0 N (arB d4) n a z q mid (mid - a : Nat) (z - mid : Nat) ((z - a) / 8 : Nat) ap = pqI n (Sort.pdq ltB d4 a mid q true true) (mid + 1) z q (decide (mid - a ≥ (z - a) / 8)) ap := by
          unfold pq_l_d0 pqI
          rw [arrOf_bytes, Int.toNat_natCast, Int.toNat_natCast, Int.toNat_natCast, iA_add1 (by omega), show decide (((mid - a : Nat) : Int) ≥ (((z - a) / 8 : Nat) : Int)) = decide (mid - a ≥ (z - a) / 8) from decide_eq_decide.2 (by omega)]
        rw [e2]
        exact h1 hlt
    · rw [decide_eq_false hlt]
      have em : IntKind.wrap IntKind.i64 ((mid : Int) + 1) = ((mid + 1 : Nat) : Int) := by rw [w64 (by omega) (by omega)]; omega
      apply pq_m N (arB d4) n a z q mid (mid - a : Nat) (z - mid : Nat) ((z - a) / 8 : Nat) ap hN hsz4
      case n0 => rw [arrOf_bytes, em]; exact okA_arB ⟨rfl, rfl, hbl4, hn, by omega, by omega, by omega, by omega, by omega, by omega, by omega, by simpa using hBr⟩
      case l1 =>
        have e2 : pq_m_d0 N (arB d4) n a z q mid (mid - a : Nat) (z - mid : Nat) ((z - a) / 8 : Nat) ap = pqI n (Sort.pdq ltB d4 (mid + 1) z q true true) a mid q (decide (z - mid ≥ (z - a) / 8)) ap := by
          unfold pq_m_d0 pqI
          rw [em, arrOf_bytes, Int.toNat_natCast, Int.toNat_natCast, Int.toNat_natCast, show decide (((z - mid : Nat) : Int) ≥ (((z - a) / 8 : Nat) : Int)) = decide (z - mid ≥ (z - a) / 8) from decide_eq_decide.2 (by omega)]
        rw [e2]
        exact h2 hlt
theorem pq_tail {Q : VEx → Desc → Prop} (N : Nat) (hN : FnOk Try.prog 34 (Sum.of (gPq N))) (d : Array UInt8) (n a z q p : Nat) (x y : Bool) (hd : d.size = n) (hn : n ≤ 10000) (hz : z ≤ n) (ha : a + 12 < z) (hl : z - a ≤ N) (hq : q ≤ 100)
    (hp : a ≤ p) (hp2 : p < z) (hB : Go.Sort.Below ltB a z d)
    (h0 : (decide (a > 0) && !ltB d[a - 1]! d[p]!) = true → Q (.exit 1) (pqI n (Sort.partitionEqual ltB d a z p).2 (Sort.partitionEqual ltB d a z p).1 z q x y))
    (h1 : (decide (a > 0) && !ltB d[a - 1]! d[p]!) = false → (Sort.partition ltB d a z p).1 - a < z - (Sort.partition ltB d a z p).1 → Q .normal (pqI n (Sort.pdq ltB (Sort.partition ltB d a z p).2.2 a (Sort.partition ltB d a z p).1 q true true) ((Sort.partition ltB d a z p).1 + 1) z q (decide ((Sort.partition ltB d a z p).1 - a ≥ (z - a) / 8)) (Sort.partition ltB d a z p).2.1))
    (h2 : (decide (a > 0) && !ltB d[a - 1]! d[p]!) = false → ¬ (Sort.partition ltB d a z p).1 - a < z - (Sort.partition ltB d a z p).1 → Q .normal (pqI n (Sort.pdq ltB (Sort.partition ltB d a z p).2.2 ((Sort.partition ltB d a z p).1 + 1) z q true true) a (Sort.partition ltB d a z p).1 q (decide (z - (Sort.partition ltB d a z p).1 ≥ (z - a) / 8)) (Sort.partition ltB d a z p).2.1)) :
    TriL Try.prog 134 1 (Bpq.drop 12) (pqJ n d a z q p x y) Q := by
  have hsz : n ≤ (arB d).size := by rw [arB_size]; omega
  have hbl : (bytesC (arB d)).length = n := by rw [bytesC_length]; exact hd
  by_cases h0a : a > 0
  · apply pq_i N (arB d) n a z q (z - a : Nat) p x y hN hsz (decide_eq_true (by omega)) (by omega) (by omega) (by omega) (by omega) (w64 (by omega) (by omega))
    case n0 => rw [atN1 (by omega) (by omega)]; exact ia_arB (by omega)
    case n1 => rw [atN]; exact ia_arB (by omega)
    case n2 => intro g; exact okA_arB ⟨rfl, rfl, hbl, hn, by omega, by omega, by omega, by omega, by omega, by omega⟩
    case pl0 => simp
    case l3 =>
      intro g
      rw [lt_arB (atN1 (by omega) (by omega)) atN (by omega) (by omega)] at g
      have e : pq_i_d0 N (arB d) n a z q (z - a : Nat) p x y = pqI n (Sort.partitionEqual ltB d a z p).2 (Sort.partitionEqual ltB d a z p).1 z q x y := by
        unfold pq_i_d0 pqI
        simp only [arrOf_bytes, Int.toNat_natCast, lock_eq]
      rw [e]
      exact h0 (by rw [decide_eq_true h0a, g]; rfl)
    case l5 =>
      intro g
      rw [lt_arB (atN1 (by omega) (by omega)) atN (by omega) (by omega)] at g
      rw [List.drop_drop]
      have hc : (decide (a > 0) && !ltB d[a - 1]! d[p]!) = false := by rw [g, Bool.and_false]
      exact pq_rest N hN d n a z q p hd hn hz ha hl hq hp hp2 hB (h1 hc) (h2 hc)
  · apply pq_j N (arB d) n a z q (z - a : Nat) p x y hN hsz (decide_eq_false (by omega))
    case pl0 => simp
    case l1 =>
      rw [List.drop_drop]
      have hc : (decide (a > 0) && !ltB d[a - 1]! d[p]!) = false := by rw [decide_eq_false h0a, Bool.false_and]
      exact pq_rest N hN d n a z q p hd hn hz ha hl hq hp hp2 hB (h1 hc) (h2 hc)
theorem pq_mid {Q : VEx → Desc → Prop} (N : Nat) (hN : FnOk Try.prog 34 (Sum.of (gPq N))) (d : Array UInt8) (n a z q : Nat) (x y : Bool) (hd : d.size = n) (hn : n ≤ 10000) (hz : z ≤ n) (ha : a + 12 < z) (hq : q ≤ 100) (q0 : q ≠ 0) (hB : Go.Sort.Below ltB a z d)
    (hr : (Sort.rd ltB d a z q x y).pi.2 = true → Q .ret ⟨[], [rowA (Sort.rd ltB d a z q x y).pi.1]⟩)
    (ht : (Sort.rd ltB d a z q x y).pi.2 = false → TriL Try.prog 134 1 (Bpq.drop 12) (pqJ n (Sort.rd ltB d a z q x y).pi.1 a z (Sort.rd ltB d a z q x y).lim (Sort.rd ltB d a z q x y).pivot x y) Q) :
    TriL Try.prog 134 1 Bpq (pqI n d a z q x y) Q := by
  have hsz : n ≤ (arB d).size := by rw [arB_size]; omega
  have hbl : (bytesC (arB d)).length = n := by rw [bytesC_length]; exact hd
  have ez : IntKind.wrap IntKind.i64 ((z : Int) - a) = (z : Int) - a := w64 (by omega) (by omega)
  have g12 : decide (IntKind.wrap IntKind.i64 ((z : Int) - a) ≤ 12) = false := by rw [ez]; exact decide_eq_false (by omega)
  have gq : (((q : Nat) : Int) == 0) = false := by simpa using q0
  obtain ⟨f1, f2, f3, f4, f5, f6, f7, f8⟩ := Sort.rd_facts (limit := q) (wb := x) (wp := y) swoB Sort.partialInsertionSort_holds Sort.reverseRange_holds (show a < z by omega) (by omega) hB
  have rT : x = true → (Sort.rd ltB d a z q x y).d1 = d ∧ (Sort.rd ltB d a z q x y).lim = q := fun h => by subst h; exact Sort.rd_true
  have rF : x = false → (Sort.rd ltB d a z q x y).d1 = Sort.breakPatterns d a z ∧ (Sort.rd ltB d a z q x y).lim = q - 1 := fun h => by subst h; exact Sort.rd_false
  have rC : (Sort.rd ltB d a z q x y).c = Sort.choosePivot ltB (Sort.rd ltB d a z q x y).d1 a z := Sort.rd_c
  have rD := Sort.rd_dec (lt := ltB) (d := d) (a := a) (b := z) (limit := q) (wb := x) (wp := y)
  have rN := Sort.rd_not (lt := ltB) (d := d) (a := a) (b := z) (limit := q) (wb := x) (wp := y)
  have rY := Sort.rd_pi_yes (lt := ltB) (d := d) (a := a) (b := z) (limit := q) (wb := x) (wp := y)
  have rO := Sort.rd_pi_no (lt := ltB) (d := d) (a := a) (b := z) (limit := q) (wb := x) (wp := y)
  have rL := Sort.rd_lim_le (lt := ltB) (d := d) (a := a) (b := z) (limit := q) (wb := x) (wp := y)
  generalize Sort.rd ltB d a z q x y = R at *
  have M : TriL Try.prog 134 1 (Bpq.drop 10) ⟨[(0, slA n), (1, iA a), (2, iA z), (3, iA R.lim), (8, .bool x), (9, .bool y), (10, iA (z - a)), (11, iA R.pivot), (12, .int .i64 (hintI R.hint))], [rowA R.d2]⟩ Q := by
    have hsz2 : n ≤ (arB R.d2).size := by rw [arB_size]; omega
    have hbl2 : (bytesC (arB R.d2)).length = n := by rw [bytesC_length]; exact f4.trans hd
    have hno : (x && y && decide (R.hint = .increasing)) = false → TriL Try.prog 134 1 ((Bpq.drop 10).drop 2) ⟨[(0, slA n), (1, iA a), (2, iA z), (3, iA R.lim), (8, .bool x), (9, .bool y), (10, iA (z - a)), (11, iA R.pivot)], [rowA R.d2]⟩ Q := fun g => by
      have e := rO g
      rw [List.drop_drop]
      have := ht (by rw [e])
      rw [e] at this
      exact this
    have hin : (hintI R.hint == 1) = decide (R.hint = .increasing) := by cases R.hint <;> rfl
    apply pq_h N (arB R.d2) n a z R.lim (z - a : Nat) R.pivot (hintI R.hint) x y hN hsz2
    case n0 => intro _ _ _; exact okA_arB ⟨rfl, rfl, hbl2, hn, by omega, by omega, by omega, by omega⟩
    case pl0 => simp
    case l1 =>
      intro g1 g2 g3 g4
      have e := rY (by rw [g1, g2, ← hin, g3]; rfl)
      rw [arrOf_bytes, lock_eq, Int.toNat_natCast, Int.toNat_natCast, ← e] at g4
      have := hr g4
      unfold pq_h_d0
      rw [arrOf_bytes, lock_eq, Int.toNat_natCast, Int.toNat_natCast, ← e]
      exact this
    case l2 =>
      intro g1 g2 g3 g4
      have e := rY (by rw [g1, g2, ← hin, g3]; rfl)
      rw [arrOf_bytes, lock_eq, Int.toNat_natCast, Int.toNat_natCast, ← e] at g4
      have := ht g4
      unfold pq_h_d1
      rw [List.drop_drop, arrOf_bytes, lock_eq, Int.toNat_natCast, Int.toNat_natCast, ← e]
      exact this
    case l4 => intro g1 g2 g3; exact hno (by rw [g1, g2, ← hin, g3]; rfl)
    case l5 => intro g1 g2; exact hno (by rw [g1, g2]; rfl)
    case l6 => intro g1; exact hno (by rw [g1]; rfl)
  have K : TriL Try.prog 134 1 (Bpq.drop 7) ⟨[(0, slA n), (1, iA a), (2, iA z), (3, iA R.lim), (8, .bool x), (9, .bool y), (10, iA (z - a))], [rowA R.d1]⟩ Q := by
    have hsz1 : n ≤ (arB R.d1).size := by rw [arB_size]; omega
    have hbl1 : (bytesC (arB R.d1)).length = n := by rw [bytesC_length]; exact f1.trans hd
    have h2 : (hintI R.c.2 == 2) = decide (R.c.2 = .decreasing) := by cases R.c.2 <;> rfl
    apply pq_f N (arB R.d1) n a z R.lim (z - a : Nat) x y hN hsz1
    case n0 => exact okA_arB ⟨rfl, rfl, hbl1, hn, by omega, by omega, by omega, by omega⟩
    case n1 => intro _; exact okA_arB ⟨rfl, rfl, hbl1, hn, by omega, by omega, by omega, by omega⟩
    case pl0 => simp
    case l2 =>
      intro g
      rw [arrOf_bytes, lock_eq, Int.toNat_natCast, Int.toNat_natCast, ← rC, h2] at g
      obtain ⟨e1, e2, e3⟩ := rD (of_decide_eq_true g)
      have e : pq_f_d0 N (arB R.d1) n a z R.lim (z - a : Nat) x y = ⟨[(0, slA n), (1, iA a), (2, iA z), (3, iA R.lim), (8, .bool x), (9, .bool y), (10, iA (z - a)), (11, iA R.pivot), (12, .int .i64 (hintI R.hint))], [rowA R.d2]⟩ := by
        unfold pq_f_d0
        rw [arrOf_bytes, lock_eq, Int.toNat_natCast, Int.toNat_natCast, ← rC, e1, e2, e3, w64 (x := (z : Int) - 1) (by omega) (by omega), w64 (x := (z : Int) - 1 - IntKind.wrap IntKind.i64 (((R.c.1 : Nat) : Int) - a)) (by rw [w64 (by omega) (by omega)]; omega) (by rw [w64 (by omega) (by omega)]; omega), w64 (x := ((R.c.1 : Nat) : Int) - a) (by omega) (by omega),
          show (z : Int) - 1 - (((R.c.1 : Nat) : Int) - a) = ((z - 1 - (R.c.1 - a) : Nat) : Int) by omega]
        rfl
      rw [e, List.drop_drop]
      exact M
    case l4 =>
      intro g
      rw [arrOf_bytes, lock_eq, Int.toNat_natCast, Int.toNat_natCast, ← rC, h2] at g
      obtain ⟨e1, e2, e3⟩ := rN (of_decide_eq_false g)
      have e : pq_f_d1 N (arB R.d1) n a z R.lim (z - a : Nat) x y = ⟨[(0, slA n), (1, iA a), (2, iA z), (3, iA R.lim), (8, .bool x), (9, .bool y), (10, iA (z - a)), (11, iA R.pivot), (12, .int .i64 (hintI R.hint))], [rowA R.d2]⟩ := by
        unfold pq_f_d1
        rw [arrOf_bytes, lock_eq, Int.toNat_natCast, Int.toNat_natCast, ← rC, e1, e2, e3]
      rw [e, List.drop_drop]
      exact M
  have ed : (z : Int) - a = ((z - a : Nat) : Int) := by omega
  cases x with
  | true =>
    obtain ⟨e1, e2⟩ := rT rfl
    apply pq_d N (arB d) n a z q y hN hsz ez g12 gq
    case pl0 => simp
    case l1 =>
      unfold pq_d_d0
      rw [ez, ed]
      rw [e1, e2] at K
      exact K
  | false =>
    obtain ⟨e1, e2⟩ := rF rfl
    apply pq_e N (arB d) n a z q y hN hsz ez g12 gq
    case n0 => exact okA_arB ⟨rfl, rfl, hbl, hn, by omega, by omega, by omega, by omega⟩
    case l1 =>
      unfold pq_e_d0
      rw [ez, ed, arrOf_bytes, Int.toNat_natCast, Int.toNat_natCast, w64 (x := (q : Int) - 1) (by omega) (by omega), show (q : Int) - 1 = ((q - 1 : Nat) : Int) by omega]
      rw [e1, e2] at K
      exact K
structure PqS where
  d : Array UInt8
  a : Nat
  z : Nat
  q : Nat
  x : Bool
  y : Bool
structure pqOk (d : Array UInt8) (n a z q N : Nat) (s : PqS) : Prop where
  h1 : s.d.size = n
  h2 : s.z ≤ n
  h3 : s.a ≤ s.z
  h4 : s.q ≤ 100
  h5 : s.z - s.a ≤ N
  h6 : Go.Sort.Below ltB s.a s.z s.d
  h7 : Sort.pdq ltB s.d s.a s.z s.q s.x s.y = Sort.pdq ltB d a z q true true
theorem pq_step (N : Nat) (hN : FnOk Try.prog 34 (Sum.of (gPq N))) (d : Array UInt8) (n a z q : Nat) (hd : d.size = n) (hn : n ≤ 10000) (hz : z ≤ n) (ha : a ≤ z) (hl : z - a ≤ N) (hq : q ≤ 100) (hB : Go.Sort.Below ltB a z d) :
    FnT Try.prog 34 [slA n, iA a, iA z, iA q] [rowA d] fun r o => r = .ret (.tuple #[]) ∧ o = [rowA (Sort.pdq ltB d a z q true true)] := by
  refine FnT.ofT (n := slotsC Try.prog 34) (by kernel_rfl) ?_
  apply pq_a N (arB d) n a z q hN (by rw [arB_size]; omega)
  case pl0 => simp
  case l1 =>
    refine TriL.blockAt 2 0 (by kernel_rfl) ?_
    refine TriL.loopAt (fun s : PqS => pqI n s.d s.a s.z s.q s.x s.y) (fun s => s.z - s.a) (pqOk d n a z q N) ⟨d, a, z, q, true, true⟩ (by kernel_rfl) ⟨hd, hz, ha, hq, hl, hB, rfl⟩ ?_
    rintro ⟨d1, a1, z1, q1, x, y⟩ hs
    have h1 := hs.h1; have h2 := hs.h2; have h3 := hs.h3; have h4 := hs.h4; have h5 := hs.h5; have h6 := hs.h6; have h7 := hs.h7
    dsimp only at h1 h2 h3 h4 h5 h6 h7 ⊢
    have hsz : n ≤ (arB d1).size := by rw [arB_size]; omega
    have hbl : (bytesC (arB d1)).length = n := by rw [bytesC_length]; exact h1
    have ez : IntKind.wrap IntKind.i64 ((z1 : Int) - a1) = (z1 : Int) - a1 := w64 (by omega) (by omega)
    refine TriL.block (id := 1) (by kernel_rfl) ?_
    by_cases h12 : z1 - a1 ≤ 12
    · rw [Sort.pdq_small h12] at h7
      apply pq_b N (arB d1) n a1 z1 q1 x y hN hsz ez (by rw [ez]; exact decide_eq_true (by omega))
      case n0 => exact okA_arB ⟨rfl, rfl, hbl, hn, by omega, by omega, by omega, by omega⟩
      case l1 =>
        repeat (first | with_reducible refine QL.ret ?_ | with_reducible refine QL.exit ?_ | with_reducible refine QB.ret ?_ | with_reducible refine QB.hit ?_ | with_reducible refine QB.normal ?_ | with_reducible refine QB.miss (by rfl) ?_)
        refine pq_b_r0 N (arB d1) n a1 z1 q1 x y ?_
        rw [arrOf_bytes, Int.toNat_natCast, Int.toNat_natCast, h7]
        exact ⟨rfl, rfl⟩
    · have g12 : decide (IntKind.wrap IntKind.i64 ((z1 : Int) - a1) ≤ 12) = false := by rw [ez]; exact decide_eq_false (by omega)
      by_cases hq0 : q1 = 0
      · rw [Sort.pdq_heap h12 hq0] at h7
        apply pq_c N (arB d1) n a1 z1 q1 x y hN hsz ez g12 (by rw [hq0]; rfl)
        case n0 => exact okA_arB ⟨rfl, rfl, hbl, hn, by omega, by omega, by omega, by omega⟩
        case l1 =>
          repeat (first | with_reducible refine QL.ret ?_ | with_reducible refine QL.exit ?_ | with_reducible refine QB.ret ?_ | with_reducible refine QB.hit ?_ | with_reducible refine QB.normal ?_ | with_reducible refine QB.miss (by rfl) ?_)
          refine pq_c_r0 N (arB d1) n a1 z1 q1 x y ?_
          rw [arrOf_bytes, Int.toNat_natCast, Int.toNat_natCast, h7]
          exact ⟨rfl, rfl⟩
      · obtain ⟨f1, f2, f3, f4, f5, f6, f7, f8⟩ := Sort.rd_facts (limit := q1) (wb := x) (wp := y) swoB Sort.partialInsertionSort_holds Sort.reverseRange_holds (show a1 < z1 by omega) (by omega) h6
        have rL := Sort.rd_lim_le (lt := ltB) (d := d1) (a := a1) (b := z1) (limit := q1) (wb := x) (wp := y)
        have hd3 : (Sort.rd ltB d1 a1 z1 q1 x y).pi.1.size = n := f7.trans h1
        refine pq_mid N hN d1 n a1 z1 q1 x y h1 hn h2 (by omega) h4 hq0 h6 (fun g => ?_) (fun g => ?_)
        · rw [Sort.pdq_done h12 hq0 g] at h7
          repeat (first | with_reducible refine QL.ret ?_ | with_reducible refine QL.exit ?_ | with_reducible refine QB.ret ?_ | with_reducible refine QB.hit ?_ | with_reducible refine QB.normal ?_ | with_reducible refine QB.miss (by rfl) ?_)
          exact FinT.ret (vs := []) (l := []) (bs := [0]) (pl := [0]) (q := [bytesC (arB (Sort.rd ltB d1 a1 z1 q1 x y).pi.1)]) (r' := .ret (.tuple #[])) (o' := [rowA (Sort.rd ltB d1 a1 z1 q1 x y).pi.1]) (fun u => by kernel_rfl) (by kernel_rfl) (pls_cons (pl_u8 _) pls_nil) ⟨rfl, by rw [h7]⟩
        · refine pq_tail N hN (Sort.rd ltB d1 a1 z1 q1 x y).pi.1 n a1 z1 (Sort.rd ltB d1 a1 z1 q1 x y).lim (Sort.rd ltB d1 a1 z1 q1 x y).pivot x y hd3 hn h2 (by omega) (by omega) (by omega) f6.1 f6.2 f8 (fun g2 => ?_) (fun g2 g3 => ?_) (fun g2 g3 => ?_)
          · have ha0 : 0 < a1 ∧ ltB (Sort.rd ltB d1 a1 z1 q1 x y).pi.1[a1 - 1]! (Sort.rd ltB d1 a1 z1 q1 x y).pi.1[(Sort.rd ltB d1 a1 z1 q1 x y).pivot]! = false := by simpa using g2
            obtain ⟨m1, m2, m3, m4, _⟩ := Sort.round_eq swoB (Sort.partitionEqual_holds ltB) ha0.1 f6.1 f6.2 (by rw [hd3]; exact h2) f8 ha0.2 (show Sort.partitionEqual ltB (Sort.rd ltB d1 a1 z1 q1 x y).pi.1 a1 z1 (Sort.rd ltB d1 a1 z1 q1 x y).pivot = ((Sort.partitionEqual ltB (Sort.rd ltB d1 a1 z1 q1 x y).pi.1 a1 z1 (Sort.rd ltB d1 a1 z1 q1 x y).pivot).1, (Sort.partitionEqual ltB (Sort.rd ltB d1 a1 z1 q1 x y).pi.1 a1 z1 (Sort.rd ltB d1 a1 z1 q1 x y).pivot).2) from rfl)
            have e := Sort.pdq_eq h12 hq0 g g2 ⟨m1, m2⟩
            repeat (first | with_reducible refine QL.ret ?_ | with_reducible refine QL.exit ?_ | with_reducible refine QB.ret ?_ | with_reducible refine QB.hit ?_ | with_reducible refine QB.normal ?_ | with_reducible refine QB.miss (by rfl) ?_)
            refine TriL.done (by kernel_rfl) ?_
            exact QL.to ⟨(Sort.partitionEqual ltB (Sort.rd ltB d1 a1 z1 q1 x y).pi.1 a1 z1 (Sort.rd ltB d1 a1 z1 q1 x y).pivot).2, (Sort.partitionEqual ltB (Sort.rd ltB d1 a1 z1 q1 x y).pi.1 a1 z1 (Sort.rd ltB d1 a1 z1 q1 x y).pivot).1, z1, (Sort.rd ltB d1 a1 z1 q1 x y).lim, x, y⟩ ⟨m3.trans hd3, h2, m2, by dsimp only; omega, by dsimp only; omega, m4, by dsimp only; rw [← e]; exact h7⟩ (by dsimp only; omega) rfl
          · obtain ⟨m1, m2, m3, mA, mR, mL, _⟩ := Sort.round_part swoB (Sort.partition_holds ltB) f6.1 f6.2 (by rw [hd3]; exact h2) f8 (show Sort.partition ltB (Sort.rd ltB d1 a1 z1 q1 x y).pi.1 a1 z1 (Sort.rd ltB d1 a1 z1 q1 x y).pivot = ((Sort.partition ltB (Sort.rd ltB d1 a1 z1 q1 x y).pi.1 a1 z1 (Sort.rd ltB d1 a1 z1 q1 x y).pivot).1, (Sort.partition ltB (Sort.rd ltB d1 a1 z1 q1 x y).pi.1 a1 z1 (Sort.rd ltB d1 a1 z1 q1 x y).pivot).2.1, (Sort.partition ltB (Sort.rd ltB d1 a1 z1 q1 x y).pi.1 a1 z1 (Sort.rd ltB d1 a1 z1 q1 x y).pivot).2.2) from rfl)
            have e := Sort.pdq_left h12 hq0 g g2 ⟨m1, m2⟩ g3
            obtain ⟨l1, l2⟩ := Sort.pdq_sorts ltB swoB (Sort.partition ltB (Sort.rd ltB d1 a1 z1 q1 x y).pi.1 a1 z1 (Sort.rd ltB d1 a1 z1 q1 x y).pivot).2.2 a1 (Sort.partition ltB (Sort.rd ltB d1 a1 z1 q1 x y).pi.1 a1 z1 (Sort.rd ltB d1 a1 z1 q1 x y).pivot).1 (Sort.rd ltB d1 a1 z1 q1 x y).lim true true m1 (by rw [m3, hd3]; omega) mA
            repeat (first | with_reducible refine QL.ret ?_ | with_reducible refine QL.exit ?_ | with_reducible refine QB.ret ?_ | with_reducible refine QB.hit ?_ | with_reducible refine QB.normal ?_ | with_reducible refine QB.miss (by rfl) ?_)
            refine TriL.done (by kernel_rfl) ?_
            exact QL.to ⟨Sort.pdq ltB (Sort.partition ltB (Sort.rd ltB d1 a1 z1 q1 x y).pi.1 a1 z1 (Sort.rd ltB d1 a1 z1 q1 x y).pivot).2.2 a1 (Sort.partition ltB (Sort.rd ltB d1 a1 z1 q1 x y).pi.1 a1 z1 (Sort.rd ltB d1 a1 z1 q1 x y).pivot).1 (Sort.rd ltB d1 a1 z1 q1 x y).lim true true, (Sort.partition ltB (Sort.rd ltB d1 a1 z1 q1 x y).pi.1 a1 z1 (Sort.rd ltB d1 a1 z1 q1 x y).pivot).1 + 1, z1, (Sort.rd ltB d1 a1 z1 q1 x y).lim, decide ((Sort.partition ltB (Sort.rd ltB d1 a1 z1 q1 x y).pi.1 a1 z1 (Sort.rd ltB d1 a1 z1 q1 x y).pivot).1 - a1 ≥ (z1 - a1) / 8), (Sort.partition ltB (Sort.rd ltB d1 a1 z1 q1 x y).pi.1 a1 z1 (Sort.rd ltB d1 a1 z1 q1 x y).pivot).2.1⟩ ⟨l1.1.trans (m3.trans hd3), h2, by dsimp only; omega, by dsimp only; omega, by dsimp only; omega, (mL _ l1 l2).1, by dsimp only; rw [← e]; exact h7⟩ (by dsimp only; omega) rfl
          · obtain ⟨m1, m2, m3, mA, mR, _, mL⟩ := Sort.round_part swoB (Sort.partition_holds ltB) f6.1 f6.2 (by rw [hd3]; exact h2) f8 (show Sort.partition ltB (Sort.rd ltB d1 a1 z1 q1 x y).pi.1 a1 z1 (Sort.rd ltB d1 a1 z1 q1 x y).pivot = ((Sort.partition ltB (Sort.rd ltB d1 a1 z1 q1 x y).pi.1 a1 z1 (Sort.rd ltB d1 a1 z1 q1 x y).pivot).1, (Sort.partition ltB (Sort.rd ltB d1 a1 z1 q1 x y).pi.1 a1 z1 (Sort.rd ltB d1 a1 z1 q1 x y).pivot).2.1, (Sort.partition ltB (Sort.rd ltB d1 a1 z1 q1 x y).pi.1 a1 z1 (Sort.rd ltB d1 a1 z1 q1 x y).pivot).2.2) from rfl)
            have e := Sort.pdq_right h12 hq0 g g2 ⟨m1, m2⟩ g3
            obtain ⟨l1, l2⟩ := Sort.pdq_sorts ltB swoB (Sort.partition ltB (Sort.rd ltB d1 a1 z1 q1 x y).pi.1 a1 z1 (Sort.rd ltB d1 a1 z1 q1 x y).pivot).2.2 ((Sort.partition ltB (Sort.rd ltB d1 a1 z1 q1 x y).pi.1 a1 z1 (Sort.rd ltB d1 a1 z1 q1 x y).pivot).1 + 1) z1 (Sort.rd ltB d1 a1 z1 q1 x y).lim true true (by omega) (by rw [m3, hd3]; omega) mR
            repeat (first | with_reducible refine QL.ret ?_ | with_reducible refine QL.exit ?_ | with_reducible refine QB.ret ?_ | with_reducible refine QB.hit ?_ | with_reducible refine QB.normal ?_ | with_reducible refine QB.miss (by rfl) ?_)
            refine TriL.done (by kernel_rfl) ?_
            exact QL.to ⟨Sort.pdq ltB (Sort.partition ltB (Sort.rd ltB d1 a1 z1 q1 x y).pi.1 a1 z1 (Sort.rd ltB d1 a1 z1 q1 x y).pivot).2.2 ((Sort.partition ltB (Sort.rd ltB d1 a1 z1 q1 x y).pi.1 a1 z1 (Sort.rd ltB d1 a1 z1 q1 x y).pivot).1 + 1) z1 (Sort.rd ltB d1 a1 z1 q1 x y).lim true true, a1, (Sort.partition ltB (Sort.rd ltB d1 a1 z1 q1 x y).pi.1 a1 z1 (Sort.rd ltB d1 a1 z1 q1 x y).pivot).1, (Sort.rd ltB d1 a1 z1 q1 x y).lim, decide (z1 - (Sort.partition ltB (Sort.rd ltB d1 a1 z1 q1 x y).pi.1 a1 z1 (Sort.rd ltB d1 a1 z1 q1 x y).pivot).1 ≥ (z1 - a1) / 8), (Sort.partition ltB (Sort.rd ltB d1 a1 z1 q1 x y).pi.1 a1 z1 (Sort.rd ltB d1 a1 z1 q1 x y).pivot).2.1⟩ ⟨l1.1.trans (m3.trans hd3), by dsimp only; omega, m1, by dsimp only; omega, by dsimp only; omega, (mL _ l1 l2).1, by dsimp only; rw [← e]; exact h7⟩ (by dsimp only; omega) rfl
theorem pq_all (N : Nat) : FnOk Try.prog 34 (Sum.of (gPq N)) := by
  induction N with
  | zero => exact pq_ok_of 0 fun d n a z q hd hn hz ha hl => absurd hl (Nat.not_lt_zero _)
  | succ N ih => exact pq_ok_of (N + 1) fun d n a z q hd hn hz ha hl hq hB => pq_step N ih d n a z q hd hn hz ha (by omega) hq hB
noncomputable def few16 (x : Int) : Bool := @decide (0 ≤ x ∧ x < 65536) (Classical.propDecidable _)
theorem few16_iff {x : Int} : few16 x = true ↔ 0 ≤ x ∧ x < 65536 := by unfold few16; exact @decide_eq_true_iff _ (Classical.propDecidable _)
noncomputable def gB6L (a : List Value) (o : List VObj) : Option (Bool × CRes × List VObj) := match a, o with
  | [.int .u64 x], [] => some (few16 x, .ret (.int .i64 (lock (Sort.bitsLen x.toNat : Int))), [])
  | _, _ => none
theorem b6L_ok : FnOk Try.prog 46 (Sum.of gB6L) := FnOk.of fun a o r o' hg => by
  unfold gB6L at hg
  split at hg
  · rename_i x
    simp only [Option.some.injEq, Prod.mk.injEq, few16_iff] at hg
    obtain ⟨⟨h0, h1⟩, rfl, rfl⟩ := hg
    have := b6_fn x.toNat (by omega)
    rw [Int.toNat_of_nonneg h0] at this
    rw [lock_eq]
    exact this
  · cases hg
def isZ (x : Int) : Prop := x = 0
noncomputable def gPqL (N : Nat) (a : List Value) (o : List VObj) : Option (Bool × CRes × List VObj) := match a, o with
  | [.slice (some ⟨0, 0, none⟩) n m, .int .i64 x, .int .i64 y, .int .i64 z], [.cells l el false] =>
    some (okA l (m = n ∧ el = 5 ∧ l.length = n ∧ n ≤ 10000 ∧ isZ x ∧ y = n ∧ n < N ∧ z = (Sort.bitsLen n : Int)), .ret (.tuple #[]), [.cells (bytesC (arB (lock (Sort.sort ltB (arrOf l))))) el false])
  | _, _ => none
theorem pqL_ok (N : Nat) : FnOk Try.prog 34 (Sum.of (gPqL N)) := FnOk.of fun a o r o' hg => by
  unfold gPqL at hg
  split at hg
  · rename_i n m x y z l el
    simp only [Option.some.injEq, Prod.mk.injEq, okA_iff] at hg
    obtain ⟨⟨⟨d, rfl⟩, rfl, rfl, hl, hn, rfl, rfl, hN, rfl⟩, rfl, rfl⟩ := hg
    have hd : d.size = m := by rw [← hl, bytesC_length]; rfl
    have := pq_step N (pq_all N) d m 0 m (Sort.bitsLen m) hd hn (Nat.le_refl _) (Nat.zero_le _) (by omega) (Nat.le_trans ((Sort.bitsLen_le_iff m 14).2 (by omega)) (by decide)) (.inl rfl)
    rw [arrOf_bytes, lock_eq]
    unfold iA at this
    unfold Sort.sort
    rw [hd]
    exact this
  · cases hg
noncomputable def tblO (N : Nat) : List (FuncId × Sum) := [(34, Sum.of (gPqL N)), (46, Sum.of gB6L)]
theorem callsO (N : Nat) : CallsOk Try.prog (callT Try.prog (tblL (tblO N)) 50 40) := callT_ok plainN mixed (tblL_ok (.cons (pqL_ok N) (.cons b6L_ok .nil))) 50 40
end Go.Proofs.Ytnlkkgpcikkpoaa
