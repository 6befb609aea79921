/- The statement RingValues: the walk. -/
import Derived.Test.YtgdpahojinknmaaChecked
import Derived.WalkKit
import Derived.WalkLawsBesides
import Derived.WalkSpells
import Derived.Outline
import Derived.Below
import Derived.Lib.Hide
import Derived.OwnWalk
import Derived.Lib.SlBytesConst
import Derived.Test.YtgdpahojinknmaaReg
import Derived.Test.YtgdpahojinknmaaMem2
import Derived.Test.YtgdpahojinknmaaLaw01b
import Derived.Test.YtgdpahojinknmaaTold
namespace Go.Proofs.Ytgdpahojinknmaa
open Go.RowKit
set_option linter.unusedSimpArgs false
set_option linter.unusedVariables false

/-- Block g is an ordinary row of elements of type T. -/
def isRowT (w : World) (g : Nat) (T : TypeId) : Prop := ∃ cs, w.heap[g]? = some (.cells cs T (0, 0))
theorem isRowT.set {w : World} {g : Nat} {T : TypeId} (h : isRowT w g T) (A : Array Value) : (w.setRow g A).heap[g]? = some (.cells A T (0, 0)) := by obtain ⟨c, h⟩ := h; exact setRow_heap w g c A T _ h
theorem isRowT.past {w : World} {g k : Nat} {T : TypeId} (h : isRowT w g T) (A : Array Value) : isRowT (w.setRow k A) g T := by
  obtain ⟨c, h⟩ := h
  by_cases e : g = k
  · subst e; exact ⟨A, setRow_heap w g c A T _ h⟩
  · exact ⟨c, by rw [setRow_other w k g A e]; exact h⟩
theorem open1T {W w' : World} {g : Nat} {A : Array Value} {T : TypeId} (hb : Below W.heap.size W w') (h : W.heap[g]? = some (.cells A T (0, 0))) :
    ∃ w2, w' = w2.setRow g A ∧ isRow w2 g ∧ isRowT w2 g T ∧ Below W.heap.size W w2 ∧ W.heap.size ≤ w2.heap.size := by
  have h' := blk_kept h hb (Array.getElem?_eq_some_iff.1 h).1
  obtain ⟨w2, e, r, rfl⟩ := open_row h'
  exact ⟨w2, e, r, ⟨_, h'⟩, hb, hb.size⟩
theorem open2T {W w' : World} {g h : Nat} {A B : Array Value} {T T' : TypeId} (hb : Below W.heap.size W w') (hA : W.heap[g]? = some (.cells A T (0, 0))) (hB : W.heap[h]? = some (.cells B T' (0, 0))) :
    ∃ w2, w' = (w2.setRow h B).setRow g A ∧ isRow w2 g ∧ isRow w2 h ∧ isRowT w2 g T ∧ isRowT w2 h T' ∧ Below W.heap.size W w2 ∧ W.heap.size ≤ w2.heap.size := by
  have h1 := blk_kept hA hb (Array.getElem?_eq_some_iff.1 hA).1
  have h2 := blk_kept hB hb (Array.getElem?_eq_some_iff.1 hB).1
  obtain ⟨w2, e, r0, r1, _, rfl⟩ := open_row2 h1 h2
  exact ⟨w2, e, r0, r1, ⟨_, h1⟩, ⟨_, h2⟩, hb, hb.size⟩

/-- A slice that owns its row of strings, which reads as l. -/
def OwnStr (w : World) (v : Value) (l : List ByteArray) : Prop := w.ownsRow 0 9 1 v l.length (l.map Value.string)
theorem OwnStr.of {w : World} {v : Value} {l : List ByteArray} {b : Nat} (h : w.ownsRow b 9 1 v l.length (l.map Value.string)) : OwnStr w v l := by
  obtain ⟨h1, h | ⟨g, cap, cur, h2, _, h3⟩⟩ := h
  · exact ⟨h1, .inl h⟩
  · exact ⟨h1, .inr ⟨g, cap, cur, h2, Nat.zero_le _, h3⟩⟩
theorem OwnStr.below {w w' : World} {v : Value} {l : List ByteArray} (h : OwnStr w v l) (hb : Below w.heap.size w w') : OwnStr w' v l := by
  obtain ⟨h1, h | ⟨g, cap, cur, h2, h0, h3, h4⟩⟩ := h
  · exact ⟨h1, .inl h⟩
  · exact ⟨h1, .inr ⟨g, cap, cur, h2, h0, blk_kept h3 hb (Array.getElem?_eq_some_iff.1 h3).1, h4⟩⟩
theorem OwnStr.row {w : World} {v : Value} {l : List ByteArray} {k : Nat} {T : TypeId} (h : OwnStr w v l) (ht : isRowT w k T) (hne : T ≠ 9) (A : Array Value) : OwnStr (w.setRow k A) v l := by
  obtain ⟨h1, h | ⟨g, cap, cur, h2, h0, h3, h4⟩⟩ := h
  · exact ⟨h1, .inl h⟩
  · refine ⟨h1, .inr ⟨g, cap, cur, h2, h0, ?_, h4⟩⟩
    rw [setRow_other w k g A ?_]
    · exact h3
    · rintro rfl
      obtain ⟨c, hc⟩ := ht
      rw [hc] at h3
      cases h3
      exact hne rfl
theorem OwnStr.unrow {w : World} {v : Value} {l : List ByteArray} {k : Nat} {T : TypeId} {A : Array Value} (h : OwnStr (w.setRow k A) v l) (ht : isRowT w k T) (hne : T ≠ 9) : OwnStr w v l := by
  obtain ⟨h1, h | ⟨g, cap, cur, h2, h0, h3, h4⟩⟩ := h
  · exact ⟨h1, .inl h⟩
  · refine ⟨h1, .inr ⟨g, cap, cur, h2, h0, ?_, h4⟩⟩
    rw [setRow_other w k g A ?_] at h3
    · exact h3
    · rintro rfl
      rw [ht.set] at h3
      cases h3
      exact hne rfl
theorem OwnStr.at {w : World} {v : Value} {l : List ByteArray} (h : OwnStr w v l) : StrsAt w v l := StrsAt.own h

/-- Block B holds a ring of capacity k with the chunks l. -/
def RingRow (w : World) (B : Nat) (l : List ByteArray) (k : Nat) : Prop :=
  ∃ (s0 s1 s2 s3 s4 s5 s6 s7 : ByteArray) (f n : Nat), w.heap[B]? = some (.cells #[.string s0, .string s1, .string s2, .string s3, .string s4, .string s5, .string s6, .string s7, .int .i64 f, .int .i64 n, .int .i64 k] 25 (0, 0)) ∧ RingV (rg s0 s1 s2 s3 s4 s5 s6 s7 f n k) l k

theorem RingRow.below {w w' : World} {B n : Nat} {l : List ByteArray} {k : Nat} (h : RingRow w B l k) (hb : Below n w w') (hn : B < n) : RingRow w' B l k := by
  obtain ⟨s0, s1, s2, s3, s4, s5, s6, s7, f, n, hr, hv⟩ := h
  exact ⟨s0, s1, s2, s3, s4, s5, s6, s7, f, n, blk_kept hr hb hn, hv⟩

theorem ActsAt.below {w w' : World} {v : Value} {acts : List (Int × ByteArray)} (h : ActsAt w v acts) (hb : Below w.heap.size w w') : ActsAt w' v acts := by
  obtain ⟨a, cap, rfl, hm, h⟩ := h
  refine ⟨a, cap, rfl, hm, fun hp => ?_⟩
  obtain ⟨b, off, rfl, hlt, hc⟩ := h hp
  refine ⟨b, off, rfl, Nat.lt_of_lt_of_le hlt hb.size, fun i hi => ?_⟩
  obtain ⟨bv, h1, h2, h3, h4⟩ := hc i hi
  exact ⟨bv, (hb.cell (p := ⟨b, off + i * 2, none⟩) hlt).trans h1, (hb.cell (p := ⟨b, off + i * 2 + 1, none⟩) hlt).trans h2, h3.below hb, h4⟩

theorem ActsAt.cells {w : World} {v : Value} {acts : List (Int × ByteArray)} (h : ActsAt w v acts) {j : Nat} (hj : j < acts.length) :
    ∃ b off cap bv, v = .slice (some ⟨b, off, none⟩) acts.length cap ∧ ∀ W, Below w.heap.size w W → W.cell? ⟨b, off + j * 2, none⟩ = some (.int .i64 (acts.getD j (0, ByteArray.empty)).1) ∧ W.cell? ⟨b, off + j * 2 + 1, none⟩ = some bv ∧ BytesAt W bv (acts.getD j (0, ByteArray.empty)).2 := by
  obtain ⟨a, cap, rfl, _, h⟩ := h
  obtain ⟨b, off, rfl, hb, hc⟩ := h (by omega)
  obtain ⟨bv, h1, h2, h3, _⟩ := hc j hj
  exact ⟨b, off, cap, bv, rfl, fun W hW => ⟨(hW.cell (p := ⟨b, off + j * 2, none⟩) hb).trans h1, (hW.cell (p := ⟨b, off + j * 2 + 1, none⟩) hb).trans h2, h3.below hW⟩⟩

set_option maxRecDepth 100000 in
set_option maxHeartbeats 8000000 in
theorem ringValues_ok (c : Int) (va vb : Value) (A B : List (Int × ByteArray)) (w : World) (h1 : 1 ≤ c) (h2 : c ≤ 8) (hA : ActsAt w va A) (hB : ActsAt w vb B) :
    Calls Try.prog 4 #[.int .i64 c, va, vb] w fun e w' => e = .returned (.bool true) ∧ Below w.heap.size w w' := by
  obtain ⟨k, rfl⟩ := Int.eq_ofNat_of_zero_le (show 0 ≤ c by omega)
  have hA0 := hA
  have hB0 := hB
  obtain ⟨aa, capa, rfl, hma, -⟩ := hA0
  obtain ⟨ab, capb, rfl, hmb, -⟩ := hB0
  unfold maxLen at hma hmb
  have hnew : mNew k = (k, 0) := by unfold mNew; rw [if_neg (by omega)]; simp
  go_enter Try.func4, Try.ntmps4
  go_wp2_with fail
  refine (new_any k _).mono ?_
  rintro e w1 ⟨rfl, hC1⟩
  rw [hnew]
  dsimp only
  have hz1 := hC1.size
  go_wp2_with fail
  have hC2 : Below w.heap.size w (w1.alloc (.cells #[.string ⟨#[]⟩, .string ⟨#[]⟩, .string ⟨#[]⟩, .string ⟨#[]⟩, .string ⟨#[]⟩, .string ⟨#[]⟩, .string ⟨#[]⟩, .string ⟨#[]⟩, .int .i64 0, .int .i64 0, .int .i64 k] 25)) := hC1.alloc hz1 _
  refine (few_any _ A _ (hA.below hC2)).mono ?_
  rintro e w2 ⟨ra, rfl, hra, rfl⟩
  cases ra with
  | false =>
    go_wp2_with (go_at_call 12; refine (awake_any _).mono ?_; rintro e w3 ⟨rfl, hb3⟩)
    go_ret
    exact ⟨rfl, hC2.trans (hb3.mono hC2.size)⟩
  | true =>
    obtain ⟨ha5, -⟩ := hra rfl
    clear hra
    go_wp2_with fail
    refine (few_any _ B _ (hB.below hC2)).mono ?_
    rintro e w2 ⟨rb, rfl, hrb, rfl⟩
    cases rb with
    | false =>
      go_wp2_with (go_at_call 12; refine (awake_any _).mono ?_; rintro e w3 ⟨rfl, hb3⟩)
      go_ret
      exact ⟨rfl, hC2.trans (hb3.mono hC2.size)⟩
    | true =>
      obtain ⟨hb5, -⟩ := hrb rfl
      clear hrb
      go_wp2_with fail
      have hR0 : RingRow (w1.alloc (.cells #[.string ⟨#[]⟩, .string ⟨#[]⟩, .string ⟨#[]⟩, .string ⟨#[]⟩, .string ⟨#[]⟩, .string ⟨#[]⟩, .string ⟨#[]⟩, .string ⟨#[]⟩, .int .i64 0, .int .i64 0, .int .i64 k] 25)) w1.heap.size [] k := ⟨_, _, _, _, _, _, _, _, 0, 0, blk_new _ _, ringV_new k (by omega)⟩
      go_loopw [9] (fun i wr => ∃ (j : Nat) (l : List ByteArray) (k' : Nat), j ≤ A.length ∧ i = .int .i64 j ∧ RingRow wr w1.heap.size l k' ∧ Below w.heap.size w wr) (fun i _ => A.length - (intOf i).toNat)
      case atStart => exact ⟨0, [], k, Nat.zero_le _, rfl, hR0, hC2⟩
      case round =>
        obtain ⟨j, l, k', hj, rfl, hR, hC⟩ := hrel
        obtain ⟨s0, s1, s2, s3, s4, s5, s6, s7, f, n, hrow, hv⟩ := hR
        clear hR0
        obtain ⟨w2, hw, r2, hw2⟩ := open_row hrow
        have q2 : isRowT w2 w1.heap.size 25 := by rw [hw2]; exact ⟨_, hrow⟩
        have hC0 : Below w.heap.size w w2 := by rw [hw2]; exact hC
        clear hw2 hrow
        subst hw
        by_cases hlt : j < A.length
        · obtain ⟨b, off, cap', bv, hsl, hact⟩ := hA.cells hlt
          cases hsl
          have hE : ∀ w', Below (w2.setRow w1.heap.size #[.string s0, .string s1, .string s2, .string s3, .string s4, .string s5, .string s6, .string s7, .int .i64 f, .int .i64 n, .int .i64 k']).heap.size (w2.setRow w1.heap.size #[.string s0, .string s1, .string s2, .string s3, .string s4, .string s5, .string s6, .string s7, .int .i64 f, .int .i64 n, .int .i64 k']) w' → _ := fun w' hJ => hact w' (hC.trans (hJ.mono hC.size))
          have hRR : ∀ w', Below (w2.setRow w1.heap.size #[.string s0, .string s1, .string s2, .string s3, .string s4, .string s5, .string s6, .string s7, .int .i64 f, .int .i64 n, .int .i64 k']).heap.size (w2.setRow w1.heap.size #[.string s0, .string s1, .string s2, .string s3, .string s4, .string s5, .string s6, .string s7, .int .i64 f, .int .i64 n, .int .i64 k']) w' → Row w' w1.heap.size #[.string s0, .string s1, .string s2, .string s3, .string s4, .string s5, .string s6, .string s7, .int .i64 f, .int .i64 n, .int .i64 k'] := fun w' hJ => (Row.set r2 _).kept hJ (by simpa using isRow_lt r2)
          generalize A.getD j (0, ByteArray.empty) = x at hE hact
          obtain ⟨d, sb⟩ := x
          dsimp only at hE
          clear hact
          have hj1 : (0 : Int) ≤ j := by omega
          have hj2 : (j : Int) < A.length := by omega
          replace hE := Lib.hid hE
          replace hRR := Lib.hid hRR
          go_wp2_with fail
          apply wp_region_last [[], [], [], [1, 2], [1, 2, 3], [0, 1, 2, 3, 4], [0, 1, 2, 3, 4, 5]] (fun _ _ => True) [eqv _, eqv _, eqv _, eqv _, eqv _, ⟨fun v _ => ∃ l' k', RingV v l' k', fun _ _ _ _ h => h⟩] (fun w' => Below (w2.setRow w1.heap.size #[.string s0, .string s1, .string s2, .string s3, .string s4, .string s5, .string s6, .string s7, .int .i64 f, .int .i64 n, .int .i64 k']).heap.size (w2.setRow w1.heap.size #[.string s0, .string s1, .string s2, .string s3, .string s4, .string s5, .string s6, .string s7, .int .i64 f, .int .i64 n, .int .i64 k']) w')
          case hm => kernel_rfl
          case hok => decide +kernel
          case h0 => exact (Below.refl _ _).drew
          case hstep =>
            refine ⟨?s0, ?s1, ?s2, ?s3, ?s4, ?s5, ?s6⟩
            case s0 =>
              intro x w' hJ hd; simp only [List.getD_cons_zero, List.getD_cons_succ, List.forall_mem_cons, List.forall_mem_nil, fillA, fillT, List.setIfInBounds_toArray, List.set_cons_succ, List.set_cons_zero, Nat.reduceAdd, Nat.zero_add, eqv, and_true] at hd ⊢; try simp only [hd]
              have c3 := (hRR.out w' hJ).cell
              go_wp2_with (fail)
              exact ⟨⟨_, rfl, rfl⟩, trivial, hJ⟩
            case s1 =>
              intro x w' hJ hd; simp only [List.getD_cons_zero, List.getD_cons_succ, List.forall_mem_cons, List.forall_mem_nil, fillA, fillT, List.setIfInBounds_toArray, List.set_cons_succ, List.set_cons_zero, Nat.reduceAdd, Nat.zero_add, eqv, and_true] at hd ⊢; try simp only [hd]
              go_wp2_with (fail)
              exact ⟨⟨_, rfl, rfl⟩, trivial, hJ⟩
            case s2 =>
              intro x w' hJ hd; simp only [List.getD_cons_zero, List.getD_cons_succ, List.forall_mem_cons, List.forall_mem_nil, fillA, fillT, List.setIfInBounds_toArray, List.set_cons_succ, List.set_cons_zero, Nat.reduceAdd, Nat.zero_add, eqv, and_true] at hd ⊢; try simp only [hd]
              go_wp2_with (fail)
              exact ⟨⟨_, rfl, rfl⟩, trivial, hJ⟩
            case s3 =>
              intro x w' hJ hd; simp only [List.getD_cons_zero, List.getD_cons_succ, List.forall_mem_cons, List.forall_mem_nil, fillA, fillT, List.setIfInBounds_toArray, List.set_cons_succ, List.set_cons_zero, Nat.reduceAdd, Nat.zero_add, eqv, and_true] at hd ⊢; try simp only [hd]
              go_wp2_with (fail)
              exact ⟨⟨_, rfl, rfl⟩, trivial, hJ⟩
            case s4 =>
              intro x w' hJ hd; simp only [List.getD_cons_zero, List.getD_cons_succ, List.forall_mem_cons, List.forall_mem_nil, fillA, fillT, List.setIfInBounds_toArray, List.set_cons_succ, List.set_cons_zero, Nat.reduceAdd, Nat.zero_add, eqv, and_true] at hd ⊢; try simp only [hd]
              have c1 := (hE.out w' hJ).1; have c2 := (hE.out w' hJ).2.1
              go_wp2_with (fail)
              exact ⟨⟨_, rfl, rfl⟩, trivial, hJ⟩
            case s5 =>
              intro x w' hJ hd; simp only [List.getD_cons_zero, List.getD_cons_succ, List.forall_mem_cons, List.forall_mem_nil, fillA, fillT, List.setIfInBounds_toArray, List.set_cons_succ, List.set_cons_zero, Nat.reduceAdd, Nat.zero_add, eqv, and_true] at hd ⊢; try simp only [hd]
              go_wp2_with (go_at_call 20; refine (after_any _ bv l k' d sb _ hv (hE.out w' hJ).2.2).mono ?_; rintro e w3 ⟨⟨v', rfl, hv', hb⟩⟩)
              exact ⟨⟨_, rfl, _, _, hv'⟩, trivial, hJ.trans (hb.mono hJ.size)⟩
            case s6 =>
              intro x w' hJ hd; simp only [VsAll, List.take_succ_cons, List.take_zero, fillA, fillT, List.setIfInBounds_toArray, List.set_cons_succ, List.set_cons_zero, Nat.reduceAdd, Nat.zero_add, eqv, and_true] at hd ⊢; try simp only [hd]
              obtain ⟨l2, k2, hv2⟩ := hd.2.2.2.2.2
              have hx := hv2
              obtain ⟨t0, t1, t2, t3, t4, t5, t6, t7, f2, n2, hx5, -⟩ := hx
              simp only [hx5]
              rw [hx5] at hv2
              clear hx5 hd
              obtain ⟨w4, rfl, r4, q4, hB4, hz4⟩ := open1T hJ (q2.set _)
              go_wp2
              go_roundw
              case rel => exact ⟨j + 1, l2, k2, by omega, by go_num, ⟨t0, t1, t2, t3, t4, t5, t6, t7, f2, n2, q4.set _, hv2⟩, below_rows (below_step0 hC0 hz1 hC0.size hB4) hz1 _⟩
              case measure => simp [intOf]; omega

        · have hRR : ∀ w', Below (w2.setRow w1.heap.size #[.string s0, .string s1, .string s2, .string s3, .string s4, .string s5, .string s6, .string s7, .int .i64 f, .int .i64 n, .int .i64 k']).heap.size (w2.setRow w1.heap.size #[.string s0, .string s1, .string s2, .string s3, .string s4, .string s5, .string s6, .string s7, .int .i64 f, .int .i64 n, .int .i64 k']) w' → w'.heap[w1.heap.size]? = some (.cells #[.string s0, .string s1, .string s2, .string s3, .string s4, .string s5, .string s6, .string s7, .int .i64 f, .int .i64 n, .int .i64 k'] 25 (0, 0)) := fun w' hJ => blk_kept (q2.set _) hJ (by simpa using isRow_lt r2)
          replace hRR := Lib.hid hRR
          go_wp2_with fail
          apply wp_region_last [[], [0], [], [0, 1, 2], [], [], [0, 1, 2, 3, 5], [0, 1, 2, 3, 5, 6], [0, 1, 2, 3, 4, 5, 6, 7]] (fun w w' => Below w.heap.size w w') [eqv _, ⟨fun v w => OwnStr w v l, fun _ _ _ hE h => h.below hE⟩, eqv _, eqv _, eqv _, ⟨fun v w => ∃ b, v = .pointer (some ⟨b, 0, none⟩) ∧ w.heap[b]? = some (.cells #[.string ⟨#[]⟩, .string ⟨#[]⟩, .string ⟨#[]⟩, .string ⟨#[]⟩, .string ⟨#[]⟩, .string ⟨#[]⟩, .string ⟨#[]⟩, .string ⟨#[]⟩, .int .i64 0, .int .i64 0, .int .i64 0] 25 (0, 0)) ∧ w1.heap.size < b, fun _ _ _ hE h => by obtain ⟨b, e, r, hb⟩ := h; exact ⟨b, e, blk_kept r hE (Array.getElem?_eq_some_iff.1 r).1, hb⟩⟩, ⟨fun v w => OwnStr w v l, fun _ _ _ hE h => h.below hE⟩, eqv _] (fun w' => Below (w2.setRow w1.heap.size #[.string s0, .string s1, .string s2, .string s3, .string s4, .string s5, .string s6, .string s7, .int .i64 f, .int .i64 n, .int .i64 k']).heap.size (w2.setRow w1.heap.size #[.string s0, .string s1, .string s2, .string s3, .string s4, .string s5, .string s6, .string s7, .int .i64 f, .int .i64 n, .int .i64 k']) w')
          case hm => kernel_rfl
          case hok => decide +kernel
          case h0 => exact (Below.refl _ _).drew
          case hstep =>
            refine ⟨?s0, ?s1, ?s2, ?s3, ?s4, ?s5, ?s6, ?s7, ?s8⟩
            case s0 =>
              intro x w' hJ hd; simp only [List.getD_cons_zero, List.getD_cons_succ, List.forall_mem_cons, List.forall_mem_nil, fillA, fillT, List.setIfInBounds_toArray, List.set_cons_succ, List.set_cons_zero, Nat.reduceAdd, Nat.zero_add, eqv, and_true] at hd ⊢; try simp only [hd]
              have c3 := (show Row _ _ _ from ⟨_, hRR.out w' hJ⟩).cell
              go_wp2_with (fail)
              exact ⟨⟨_, rfl, rfl⟩, Below.refl _ _, hJ⟩
            case s1 =>
              intro x w' hJ hd; simp only [List.getD_cons_zero, List.getD_cons_succ, List.forall_mem_cons, List.forall_mem_nil, fillA, fillT, List.setIfInBounds_toArray, List.set_cons_succ, List.set_cons_zero, Nat.reduceAdd, Nat.zero_add, eqv, and_true] at hd ⊢; try simp only [hd]
              go_wp2_with (go_at_call 17; refine (told_any _ l k' _ hv).mono ?_; rintro e w3 ⟨lv, rfl, hlv, hb⟩)
              exact ⟨⟨_, rfl, OwnStr.of hlv⟩, hb, hJ.trans (hb.mono hJ.size)⟩
            case s2 =>
              intro x w' hJ hd; simp only [List.getD_cons_zero, List.getD_cons_succ, List.forall_mem_cons, List.forall_mem_nil, fillA, fillT, List.setIfInBounds_toArray, List.set_cons_succ, List.set_cons_zero, Nat.reduceAdd, Nat.zero_add, eqv, and_true] at hd ⊢; try simp only [hd]
              have c3 := (show Row _ _ _ from ⟨_, hRR.out w' hJ⟩).cell
              go_wp2_with (fail)
              exact ⟨⟨_, rfl, rfl⟩, Below.refl _ _, hJ⟩
            case s3 =>
              intro x w' hJ hd; simp only [List.getD_cons_zero, List.getD_cons_succ, List.forall_mem_cons, List.forall_mem_nil, fillA, fillT, List.setIfInBounds_toArray, List.set_cons_succ, List.set_cons_zero, Nat.reduceAdd, Nat.zero_add, eqv, and_true] at hd ⊢; try simp only [hd]
              go_wp2_with (go_at_call 19; refine (cap_any _ l k' _ hv).mono ?_; rintro e w3 ⟨rfl, hb⟩)
              exact ⟨⟨_, rfl, rfl⟩, hb, hJ.trans (hb.mono hJ.size)⟩
            case s4 =>
              intro x w' hJ hd; simp only [List.getD_cons_zero, List.getD_cons_succ, List.forall_mem_cons, List.forall_mem_nil, fillA, fillT, List.setIfInBounds_toArray, List.set_cons_succ, List.set_cons_zero, Nat.reduceAdd, Nat.zero_add, eqv, and_true] at hd ⊢; try simp only [hd]
              have c3 := (show Row _ _ _ from ⟨_, hRR.out w' hJ⟩).cell
              go_wp2_with (fail)
              exact ⟨⟨_, rfl, rfl⟩, Below.refl _ _, hJ⟩
            case s5 =>
              intro x w' hJ hd; simp only [List.getD_cons_zero, List.getD_cons_succ, List.forall_mem_cons, List.forall_mem_nil, fillA, fillT, List.setIfInBounds_toArray, List.set_cons_succ, List.set_cons_zero, Nat.reduceAdd, Nat.zero_add, eqv, and_true] at hd ⊢; try simp only [hd]
              go_wp2_with (fail)
              exact ⟨⟨_, rfl, _, rfl, blk_new _ _, Nat.lt_of_lt_of_le (by simpa using isRow_lt r2) hJ.size⟩, (Below.refl _ _).alloc (Nat.le_refl _) _, hJ.alloc hJ.size _⟩
            case s6 =>
              intro x w' hJ hd; simp only [List.getD_cons_zero, List.getD_cons_succ, List.forall_mem_cons, List.forall_mem_nil, fillA, fillT, List.setIfInBounds_toArray, List.set_cons_succ, List.set_cons_zero, Nat.reduceAdd, Nat.zero_add, eqv, and_true] at hd ⊢; try simp only [hd]
              go_wp2_with (fail)
              exact ⟨⟨_, rfl, hd.2.1⟩, Below.refl _ _, hJ⟩
            case s7 =>
              intro x w' hJ hd; simp only [List.getD_cons_zero, List.getD_cons_succ, List.forall_mem_cons, List.forall_mem_nil, fillA, fillT, List.setIfInBounds_toArray, List.set_cons_succ, List.set_cons_zero, Nat.reduceAdd, Nat.zero_add, eqv, and_true] at hd ⊢; try simp only [hd]
              go_wp2_with (fail)
              exact ⟨⟨_, rfl, rfl⟩, Below.refl _ _, hJ⟩
            case s8 =>
              intro x w' hJ hd; simp only [VsAll, List.take_succ_cons, List.take_zero, fillA, fillT, List.setIfInBounds_toArray, List.set_cons_succ, List.set_cons_zero, Nat.reduceAdd, Nat.zero_add, eqv, and_true] at hd ⊢; try simp only [hd]
              obtain ⟨-, -, -, -, -, ⟨b, hx5, hrb, hbb⟩, hs, -⟩ := hd
              simp only [hx5]
              clear hx5
              have hCJ : Below w.heap.size w w' := hC.trans (hJ.mono hC.size)
              obtain ⟨w4, rfl, r4, r5, q4, q5, hB4, hz4⟩ := open2T (Below.refl _ _) (hRR.out w' hJ) hrb
              have hC4 : Below w.heap.size w w4 := hCJ.trans (hB4.mono hCJ.size)
              clear hCJ hB4 hz4 hRR hrb hJ
              generalize x 6 = was at hs ⊢
              replace hs := ((hs.unrow (q4.past _) (by decide)).unrow q5 (by decide))
              have hneb : b ≠ w1.heap.size := by omega
              go_wp2_with fail
              have hlb : b < w4.heap.size := isRow_lt r5
              go_loopw [13] (fun i wr => ∃ (j2 : Nat) (l2 : List ByteArray) (k2 : Nat), j2 ≤ B.length ∧ i = .int .i64 j2 ∧ RingRow wr b l2 k2 ∧ wr.heap[w1.heap.size]? = some (.cells #[.string s0, .string s1, .string s2, .string s3, .string s4, .string s5, .string s6, .string s7, .int .i64 f, .int .i64 n, .int .i64 k'] 25 (0, 0)) ∧ OwnStr wr was l ∧ Below w.heap.size w wr) (fun i _ => B.length - (intOf i).toNat)
              case atStart => exact ⟨0, l, k', Nat.zero_le _, rfl, ⟨s0, s1, s2, s3, s4, s5, s6, s7, f, n, by rw [setRow_other _ _ _ _ hneb]; exact q5.set _, hv⟩, (q4.past _).set _, (hs.row q5 (by decide) _).row (q4.past _) (by decide) _, below_rows (below_rows hC4 (by omega) _) hz1 _⟩
              case round =>
                obtain ⟨j2, l2, k2, hj2, rfl, hR2, hRK, hS2, hC5⟩ := hrel
                obtain ⟨t0, t1, t2, t3, t4, t5, t6, t7, f2, n2, hrow2, hv2⟩ := hR2
                obtain ⟨w5, hw5, p4, p5, o4, o5, hB5, -⟩ := open2T (Below.refl _ _) hRK hrow2
                have hC6 : Below w.heap.size w w5 := hC5.trans (hB5.mono hC5.size)
                clear hB5 hRK hrow2
                subst hw5
                replace hS2 := ((hS2.unrow (o4.past _) (by decide)).unrow o5 (by decide))
                clear r4 r5 q4 q5 hC4 hs hlb r2 q2 hC0 hC
                have hlb := isRow_lt p5
                have hlB := isRow_lt p4
                by_cases hlt2 : j2 < B.length
                · obtain ⟨bb, off, cap', bv, hsl, hact⟩ := hB.cells hlt2
                  cases hsl
                  have hE : ∀ w', Below ((w5.setRow b #[.string t0, .string t1, .string t2, .string t3, .string t4, .string t5, .string t6, .string t7, .int .i64 f2, .int .i64 n2, .int .i64 k2]).setRow w1.heap.size #[.string s0, .string s1, .string s2, .string s3, .string s4, .string s5, .string s6, .string s7, .int .i64 f, .int .i64 n, .int .i64 k']).heap.size ((w5.setRow b #[.string t0, .string t1, .string t2, .string t3, .string t4, .string t5, .string t6, .string t7, .int .i64 f2, .int .i64 n2, .int .i64 k2]).setRow w1.heap.size #[.string s0, .string s1, .string s2, .string s3, .string s4, .string s5, .string s6, .string s7, .int .i64 f, .int .i64 n, .int .i64 k']) w' → _ := fun w' hJ => hact w' (hC5.trans (hJ.mono hC5.size))
                  have hRb : ∀ w', Below ((w5.setRow b #[.string t0, .string t1, .string t2, .string t3, .string t4, .string t5, .string t6, .string t7, .int .i64 f2, .int .i64 n2, .int .i64 k2]).setRow w1.heap.size #[.string s0, .string s1, .string s2, .string s3, .string s4, .string s5, .string s6, .string s7, .int .i64 f, .int .i64 n, .int .i64 k']).heap.size ((w5.setRow b #[.string t0, .string t1, .string t2, .string t3, .string t4, .string t5, .string t6, .string t7, .int .i64 f2, .int .i64 n2, .int .i64 k2]).setRow w1.heap.size #[.string s0, .string s1, .string s2, .string s3, .string s4, .string s5, .string s6, .string s7, .int .i64 f, .int .i64 n, .int .i64 k']) w' → Row w' b #[.string t0, .string t1, .string t2, .string t3, .string t4, .string t5, .string t6, .string t7, .int .i64 f2, .int .i64 n2, .int .i64 k2] := fun w' hJ => (Row.past hneb (Row.set p5 _) _).kept hJ (by simpa using hlb)
                  generalize B.getD j2 (0, ByteArray.empty) = x at hE hact
                  obtain ⟨d, sb⟩ := x
                  dsimp only at hE
                  clear hact
                  have hj3 : (0 : Int) ≤ j2 := by omega
                  have hj4 : (j2 : Int) < B.length := by omega
                  replace hE := Lib.hid hE
                  replace hRb := Lib.hid hRb
                  go_wp2_with fail
                  apply wp_region_last [[], [], [], [1, 2], [1, 2, 3], [0, 1, 2, 3, 4], [0, 1, 2, 3, 4, 5]] (fun _ _ => True) [eqv _, eqv _, eqv _, eqv _, eqv _, ⟨fun v _ => ∃ l' k', RingV v l' k', fun _ _ _ _ h => h⟩] (fun w' => Below ((w5.setRow b #[.string t0, .string t1, .string t2, .string t3, .string t4, .string t5, .string t6, .string t7, .int .i64 f2, .int .i64 n2, .int .i64 k2]).setRow w1.heap.size #[.string s0, .string s1, .string s2, .string s3, .string s4, .string s5, .string s6, .string s7, .int .i64 f, .int .i64 n, .int .i64 k']).heap.size ((w5.setRow b #[.string t0, .string t1, .string t2, .string t3, .string t4, .string t5, .string t6, .string t7, .int .i64 f2, .int .i64 n2, .int .i64 k2]).setRow w1.heap.size #[.string s0, .string s1, .string s2, .string s3, .string s4, .string s5, .string s6, .string s7, .int .i64 f, .int .i64 n, .int .i64 k']) w')
                  case hm => kernel_rfl
                  case hok => decide +kernel
                  case h0 => exact (Below.refl _ _).drew
                  case hstep =>
                    refine ⟨?s0, ?s1, ?s2, ?s3, ?s4, ?s5, ?s6⟩
                    case s0 =>
                      intro x w' hJ hd; simp only [List.getD_cons_zero, List.getD_cons_succ, List.forall_mem_cons, List.forall_mem_nil, fillA, fillT, List.setIfInBounds_toArray, List.set_cons_succ, List.set_cons_zero, Nat.reduceAdd, Nat.zero_add, eqv, and_true] at hd ⊢; try simp only [hd]
                      have c3 := (hRb.out w' hJ).cell
                      go_wp2_with (fail)
                      exact ⟨⟨_, rfl, rfl⟩, trivial, hJ⟩
                    case s1 =>
                      intro x w' hJ hd; simp only [List.getD_cons_zero, List.getD_cons_succ, List.forall_mem_cons, List.forall_mem_nil, fillA, fillT, List.setIfInBounds_toArray, List.set_cons_succ, List.set_cons_zero, Nat.reduceAdd, Nat.zero_add, eqv, and_true] at hd ⊢; try simp only [hd]
                      go_wp2_with (fail)
                      exact ⟨⟨_, rfl, rfl⟩, trivial, hJ⟩
                    case s2 =>
                      intro x w' hJ hd; simp only [List.getD_cons_zero, List.getD_cons_succ, List.forall_mem_cons, List.forall_mem_nil, fillA, fillT, List.setIfInBounds_toArray, List.set_cons_succ, List.set_cons_zero, Nat.reduceAdd, Nat.zero_add, eqv, and_true] at hd ⊢; try simp only [hd]
                      go_wp2_with (fail)
                      exact ⟨⟨_, rfl, rfl⟩, trivial, hJ⟩
                    case s3 =>
                      intro x w' hJ hd; simp only [List.getD_cons_zero, List.getD_cons_succ, List.forall_mem_cons, List.forall_mem_nil, fillA, fillT, List.setIfInBounds_toArray, List.set_cons_succ, List.set_cons_zero, Nat.reduceAdd, Nat.zero_add, eqv, and_true] at hd ⊢; try simp only [hd]
                      go_wp2_with (fail)
                      exact ⟨⟨_, rfl, rfl⟩, trivial, hJ⟩
                    case s4 =>
                      intro x w' hJ hd; simp only [List.getD_cons_zero, List.getD_cons_succ, List.forall_mem_cons, List.forall_mem_nil, fillA, fillT, List.setIfInBounds_toArray, List.set_cons_succ, List.set_cons_zero, Nat.reduceAdd, Nat.zero_add, eqv, and_true] at hd ⊢; try simp only [hd]
                      have c1 := (hE.out w' hJ).1; have c2 := (hE.out w' hJ).2.1
                      go_wp2_with (fail)
                      exact ⟨⟨_, rfl, rfl⟩, trivial, hJ⟩
                    case s5 =>
                      intro x w' hJ hd; simp only [List.getD_cons_zero, List.getD_cons_succ, List.forall_mem_cons, List.forall_mem_nil, fillA, fillT, List.setIfInBounds_toArray, List.set_cons_succ, List.set_cons_zero, Nat.reduceAdd, Nat.zero_add, eqv, and_true] at hd ⊢; try simp only [hd]
                      go_wp2_with (go_at_call 20; refine (after_any _ bv l2 k2 d sb _ hv2 (hE.out w' hJ).2.2).mono ?_; rintro e w3 ⟨⟨v', rfl, hv', hb⟩⟩)
                      exact ⟨⟨_, rfl, _, _, hv'⟩, trivial, hJ.trans (hb.mono hJ.size)⟩
                    case s6 =>
                      intro x w' hJ hd; simp only [VsAll, List.take_succ_cons, List.take_zero, fillA, fillT, List.setIfInBounds_toArray, List.set_cons_succ, List.set_cons_zero, Nat.reduceAdd, Nat.zero_add, eqv, and_true] at hd ⊢; try simp only [hd]
                      obtain ⟨l3, k3, hv3⟩ := hd.2.2.2.2.2
                      have hx := hv3
                      obtain ⟨z0, z1, z2, z3, z4, z5, z6, z7, f3, n3, hx5, -⟩ := hx
                      simp only [hx5]
                      rw [hx5] at hv3
                      clear hx5 hd
                      have hSJ := ((hS2.row o5 (by decide) #[.string t0, .string t1, .string t2, .string t3, .string t4, .string t5, .string t6, .string t7, .int .i64 f2, .int .i64 n2, .int .i64 k2]).row (o4.past _) (by decide) #[.string s0, .string s1, .string s2, .string s3, .string s4, .string s5, .string s6, .string s7, .int .i64 f, .int .i64 n, .int .i64 k']).below hJ
                      obtain ⟨w6, rfl, r6, r7, o6, o7, hB6, -⟩ := open2T hJ ((o4.past _).set _) (by rw [setRow_other _ _ _ _ hneb]; exact o5.set _)
                      have hC7 : Below w.heap.size w w6 := hC5.trans (hB6.mono hC5.size)
                      clear hB6 hJ
                      replace hSJ := ((hSJ.unrow (o6.past _) (by decide)).unrow o7 (by decide))
                      go_wp2
                      go_roundw
                      case rel => exact ⟨j2 + 1, l3, k3, by omega, by go_num, ⟨z0, z1, z2, z3, z4, z5, z6, z7, f3, n3, by rw [setRow_other _ _ _ _ hneb]; exact o7.set _, hv3⟩, (o6.past _).set _, (hSJ.row o7 (by decide) _).row (o6.past _) (by decide) _, below_rows (below_rows hC7 (by omega) _) hz1 _⟩
                      case measure => simp [intOf]; omega
                · go_wp2_with fail
                  refine (told_any _ l k' _ hv).mono ?_
                  rintro e u1 ⟨lv, rfl, hlv, hb1⟩
                  have hSu := ((hS2.row o5 (by decide) #[.string t0, .string t1, .string t2, .string t3, .string t4, .string t5, .string t6, .string t7, .int .i64 f2, .int .i64 n2, .int .i64 k2]).row (o4.past _) (by decide) #[.string s0, .string s1, .string s2, .string s3, .string s4, .string s5, .string s6, .string s7, .int .i64 f, .int .i64 n, .int .i64 k']).below hb1
                  obtain ⟨w6, rfl, r6, o6, hB6, -⟩ := open1T hb1 ((o4.past _).set _)
                  have hC7 : Below w.heap.size w w6 := hC5.trans (hB6.mono hC5.size)
                  clear hB6 hb1
                  go_wp2_with fail
                  refine (same_any lv was l l _ (OwnStr.of hlv).at hSu.at (by have := hv.len; unfold maxLen; omega)).mono ?_
                  rintro e u2 ⟨⟨rfl, hb2⟩⟩
                  rw [decide_eq_true (rfl : l = l)]
                  obtain ⟨w7, rfl, r7, o7, hB7, -⟩ := open1T hb2 (o6.set _)
                  have hC8 : Below w.heap.size w w7 := below_step0 hC7 hz1 hC7.size hB7
                  clear hB7 hb2 hlv hSu
                  go_wp2_with fail
                  refine (cap_any _ l k' _ hv).mono ?_
                  rintro e u3 ⟨rfl, hb3⟩
                  go_wp2_with fail
                  refine (awake_any _).mono ?_
                  rintro e u4 ⟨rfl, hb4⟩
                  go_wp2_with fail
                  go_ret
                  have hC9 : Below w.heap.size w u3 := below_step0 hC8 hz1 hC8.size hb3
                  exact ⟨rfl, hC9.trans (hb4.mono hC9.size)⟩


set_option maxRecDepth 100000 in
set_option maxHeartbeats 4000000 in
theorem ringValues_no (c : Int) (va vb : Value) (A B : List (Int × ByteArray)) (w : World) (h1 : c < 1 ∨ 8 < c) (hA : ActsAt w va A) (hB : ActsAt w vb B) :
    Calls Try.prog 4 #[.int .i64 c, va, vb] w fun e w' => e = .returned (.bool true) ∧ Below w.heap.size w w' := by
  have hA0 := hA
  have hB0 := hB
  obtain ⟨aa, capa, rfl, hma, -⟩ := hA0
  obtain ⟨ab, capb, rfl, hmb, -⟩ := hB0
  have hnew : mNew c = (0, 16) := by unfold mNew; rw [if_pos h1]
  clear h1
  go_enter Try.func4, Try.ntmps4
  go_wp2_with fail
  refine (new_any c _).mono ?_
  rintro e w1 ⟨rfl, hC1⟩
  rw [hnew]
  dsimp only
  clear hnew
  have hz1 := hC1.size
  go_wp2_with fail
  have hC2 : Below w.heap.size w (w1.alloc (.cells #[.string ⟨#[]⟩, .string ⟨#[]⟩, .string ⟨#[]⟩, .string ⟨#[]⟩, .string ⟨#[]⟩, .string ⟨#[]⟩, .string ⟨#[]⟩, .string ⟨#[]⟩, .int .i64 0, .int .i64 0, .int .i64 0] 25)) := hC1.alloc hz1 _
  refine (few_any _ A _ (hA.below hC2)).mono ?_
  rintro e w2 ⟨ra, rfl, -, rfl⟩
  cases ra with
  | false =>
    go_wp2_with (go_at_call 12; refine (awake_any _).mono ?_; rintro e w3 ⟨rfl, hb3⟩)
    go_ret
    exact ⟨rfl, hC2.trans (hb3.mono hC2.size)⟩
  | true =>
    go_wp2_with fail
    refine (few_any _ B _ (hB.below hC2)).mono ?_
    rintro e w2 ⟨rb, rfl, -, rfl⟩
    cases rb with
    | false =>
      go_wp2_with (go_at_call 12; refine (awake_any _).mono ?_; rintro e w3 ⟨rfl, hb3⟩)
      go_ret
      exact ⟨rfl, hC2.trans (hb3.mono hC2.size)⟩
    | true =>
      go_wp2_with (go_at_call 12; refine (awake_any _).mono ?_; rintro e w3 ⟨rfl, hb3⟩)
      go_ret
      exact ⟨rfl, hC2.trans (hb3.mono hC2.size)⟩

theorem ringValues_any (c : Int) (va vb : Value) (A B : List (Int × ByteArray)) (w : World) (hA : ActsAt w va A) (hB : ActsAt w vb B) :
    Calls Try.prog 4 #[.int .i64 c, va, vb] w fun e w' => e = .returned (.bool true) ∧ Below w.heap.size w w' := by
  by_cases h : c < 1 ∨ 8 < c
  · exact ringValues_no c va vb A B w h hA hB
  · exact ringValues_ok c va vb A B w (by omega) (by omega) hA hB
end Go.Proofs.Ytgdpahojinknmaa
