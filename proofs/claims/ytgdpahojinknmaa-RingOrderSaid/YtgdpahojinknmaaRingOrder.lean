/- The statement RingOrder: the walk. -/
import Derived.Test.YtgdpahojinknmaaChecked
import Derived.WalkKit
import Derived.WalkLawsBesides
import Derived.WalkSpells
import Derived.Outline
import Derived.Below
import Derived.Lib.Hide
import Derived.OwnWalk
import Derived.Lib.SlBytesConst
import Derived.Test.YtgdpahojinknmaaReg
import Derived.Test.YtgdpahojinknmaaMem2
import Derived.Test.YtgdpahojinknmaaRingValues
import Derived.Test.YtgdpahojinknmaaStrs
import Derived.Test.YtgdpahojinknmaaReg3
import Derived.Deep.CutBlock
import Derived.Deep.CutRange
namespace Go.Proofs.Ytgdpahojinknmaa
open Go.RowKit
set_option linter.unusedSimpArgs false
set_option linter.unusedVariables false

theorem mPush_ok {l : List ByteArray} {k : Nat} {b : ByteArray} (h : (mPush l k b).2 = 0) : (mPush l k b).1 = l ++ [b] := by
  unfold mPush at h ⊢; split at h <;> rename_i h1
  · simp at h
  · rw [if_neg h1]; split at h <;> rename_i h2
    · simp at h
    · rw [if_neg h2]
theorem mPush_no {l : List ByteArray} {k : Nat} {b : ByteArray} (h : (mPush l k b).2 ≠ 0) : (mPush l k b).1 = l := by
  unfold mPush at h ⊢; split <;> rename_i h1
  · rfl
  · rw [if_neg h1] at h; split <;> rename_i h2
    · rfl
    · rw [if_neg h2] at h; simp at h

theorem own0 {b : Nat} (w : World) (h : b ≤ w.heap.size) : OwnS b (w.alloc (.cells #[] 9)) (.slice (some ⟨w.heap.size, 0, none⟩) 0 0) [] :=
  ⟨rfl, .inr ⟨w.heap.size, 0, #[], rfl, h, blk_new _ _, Nat.le_refl _, by decide, rfl, rfl⟩⟩
theorem apart_symm {α : Type} {a b : Option α} (h : a = none ∨ a ≠ b) : b = none ∨ b ≠ a := by
  rcases h with rfl | h
  · cases b with
    | none => exact .inl rfl
    | some x => exact .inr (by simp)
  · exact .inr (Ne.symm h)

set_option maxRecDepth 100000 in
set_option maxHeartbeats 8000000 in
theorem ringOrder_ok (c : Int) (va : Value) (A : List (Int × ByteArray)) (w : World) (h1 : 1 ≤ c) (h2 : c ≤ 8) (hA : ActsAt w va A) :
    Calls Try.prog 3 #[.int .i64 c, va] w fun e w' => e = .returned (.bool true) ∧ Below w.heap.size w w' := by
  obtain ⟨k, rfl⟩ := Int.eq_ofNat_of_zero_le (show 0 ≤ c by omega)
  have hA0 := hA
  obtain ⟨aa, capa, rfl, hma, -⟩ := hA0
  unfold maxLen at hma
  have hnew : mNew k = (k, 0) := by unfold mNew; rw [if_neg (by omega)]; simp
  go_enter Try.func3, Try.ntmps3
  go_wp2_with fail
  refine (new_any k _).mono ?_
  rintro e w1 ⟨rfl, hC1⟩
  rw [hnew]
  dsimp only
  have hz1 := hC1.size
  go_wp2_with fail
  have hC2 : Below w.heap.size w (w1.alloc (.cells #[.string ⟨#[]⟩, .string ⟨#[]⟩, .string ⟨#[]⟩, .string ⟨#[]⟩, .string ⟨#[]⟩, .string ⟨#[]⟩, .string ⟨#[]⟩, .string ⟨#[]⟩, .int .i64 0, .int .i64 0, .int .i64 k] 25)) := hC1.alloc hz1 _
  refine (few_any _ A _ (hA.below hC2)).mono ?_
  rintro e w2 ⟨ra, rfl, hra, rfl⟩
  cases ra with
  | false =>
    go_wp2_with (go_at_call 12; refine (awake_any _).mono ?_; rintro e w3 ⟨rfl, hb3⟩)
    go_ret
    exact ⟨rfl, hC2.trans (hb3.mono hC2.size)⟩
  | true =>
    obtain ⟨ha5, -⟩ := hra rfl
    clear hra hnew
    go_wp2_with fail
    have hR0 : RingRow (w1.alloc (.cells #[.string ⟨#[]⟩, .string ⟨#[]⟩, .string ⟨#[]⟩, .string ⟨#[]⟩, .string ⟨#[]⟩, .string ⟨#[]⟩, .string ⟨#[]⟩, .string ⟨#[]⟩, .int .i64 0, .int .i64 0, .int .i64 k] 25)) w1.heap.size [] k := ⟨_, _, _, _, _, _, _, _, 0, 0, blk_new _ _, ringV_new k (by omega)⟩
    go_loopw [7, 8, 9] (fun vi vo i wr => ∃ (j : Nat) (li lo l : List ByteArray) (k' : Nat), j ≤ A.length ∧ i = .int .i64 j ∧ OwnS w.heap.size wr vi li ∧ OwnS w.heap.size wr vo lo ∧ (vi.ownBlock = none ∨ vi.ownBlock ≠ vo.ownBlock) ∧ li = lo ++ l ∧ li.length ≤ j ∧ RingRow wr w1.heap.size l k' ∧ Below w.heap.size w wr ∧ w1.heap.size < wr.heap.size) (fun _ _ i _ => A.length - (intOf i).toNat)
    case atStart => exact ⟨0, [], [], [], k, Nat.zero_le _, rfl, OwnS.nil _ _, OwnS.nil _ _, .inl rfl, rfl, by simp, hR0, hC2, by simp⟩
    case round =>
      obtain ⟨j, li, lo, l, k', hj, rfl, hli, hlo, hap, hcat, hlen, hR, hC, hlB⟩ := hrel
      obtain ⟨s0, s1, s2, s3, s4, s5, s6, s7, f, n, hrow, hv⟩ := hR
      clear hR0
      replace hcat := Lib.hid hcat
      replace hap := Lib.hid hap
      by_cases hlt : j < A.length
      · obtain ⟨b, off, cap', bv, hsl, hact⟩ := hA.cells hlt
        cases hsl
        generalize A.getD j (0, ByteArray.empty) = x at hact
        obtain ⟨d, sb⟩ := x
        dsimp only at hact
        have hj1 : (0 : Int) ≤ j := by omega
        have hj2 : (j : Int) < A.length := by omega
        replace hact := Lib.hid hact
        have e1 := (hact.out _ (hC.alloc hC.size (.cells #[.string s0, .string s1, .string s2, .string s3, .string s4, .string s5, .string s6, .string s7, .int .i64 f, .int .i64 n, .int .i64 k'] 25))).1
        have c1 := (show Row _ _ _ from ⟨_, hrow⟩).cell
        go_upto_block 2 with (fail)
        clear e1 c1
        have hJ0 := Below.alloc (Below.refl wr.heap.size wr) (Nat.le_refl _) (.cells #[.string s0, .string s1, .string s2, .string s3, .string s4, .string s5, .string s6, .string s7, .int .i64 f, .int .i64 n, .int .i64 k'] 25)
        have hB1 := blk_old hrow (.cells #[.string s0, .string s1, .string s2, .string s3, .string s4, .string s5, .string s6, .string s7, .int .i64 f, .int .i64 n, .int .i64 k'] 25)
        have hB2 := blk_new wr (.cells #[.string s0, .string s1, .string s2, .string s3, .string s4, .string s5, .string s6, .string s7, .int .i64 f, .int .i64 n, .int .i64 k'] 25)
        have hCW := hC.trans (hJ0.mono hC.size)
        have hliW := hli.below hJ0
        have hloW := hlo.below hJ0
        have hlS : w1.heap.size < wr.heap.size := hlB
        have hlSW : wr.heap.size < (wr.alloc (.cells #[.string s0, .string s1, .string s2, .string s3, .string s4, .string s5, .string s6, .string s7, .int .i64 f, .int .i64 n, .int .i64 k'] 25)).heap.size := by simp
        have hlBW : w1.heap.size < (wr.alloc (.cells #[.string s0, .string s1, .string s2, .string s3, .string s4, .string s5, .string s6, .string s7, .int .i64 f, .int .i64 n, .int .i64 k'] 25)).heap.size := by simp; omega
        clear hli hlo hrow hJ0 hC hlB
        generalize wr.alloc (.cells #[.string s0, .string s1, .string s2, .string s3, .string s4, .string s5, .string s6, .string s7, .int .i64 f, .int .i64 n, .int .i64 k'] 25) = W at *
        generalize wr.heap.size = S at *
        have hlB := hlBW
        clear hlBW
        go_cut [7, 8, 11] from 34 to 122 (fun vi vo fv wr => ∃ (li2 lo2 l2 : List ByteArray) (k2 : Nat) (fz : Int), fv = .int .i64 fz ∧ (fz ≠ 0 → l2 = l) ∧ OwnS w.heap.size wr vi li2 ∧ OwnS w.heap.size wr vo lo2 ∧ (vi.ownBlock = none ∨ vi.ownBlock ≠ vo.ownBlock) ∧ li2 = lo2 ++ l2 ∧ li2.length ≤ j + 1 ∧ wr.heap[w1.heap.size]? = some (.cells #[.string s0, .string s1, .string s2, .string s3, .string s4, .string s5, .string s6, .string s7, .int .i64 f, .int .i64 n, .int .i64 k'] 25 (0, 0)) ∧ RingRow wr S l2 k2 ∧ Below w.heap.size w wr ∧ w1.heap.size < wr.heap.size ∧ S < wr.heap.size)
        case first =>
          by_cases d0 : d = 0
          · subst d0
            go_wp2_with fail
            apply wp_region_ph [[], [], [], [1, 2], [1, 2, 3], [1, 2, 3, 4], [0, 1, 2, 3, 4, 5], [0, 1, 2, 3, 4, 5, 6], [0, 1, 2, 3, 4, 5, 6, 7], [0, 1, 2, 3, 4, 5, 6, 7], [0, 1, 2, 3, 4, 5, 6, 7, 8], [0, 1, 2, 3, 4, 5, 6, 7, 8, 9, 10]] [false, false, false, false, false, false, false, false, false, false, true, true] [[0], [0], [0], [0], [0], [0], [0], [0], [0], [0, 1], [0], [1]] 1 (fun _ _ => True) [eqv _, eqv _, eqv _, eqv _, eqv _, eqv _, ⟨fun v _ => ∃ v', v = .tuple #[v', .int .i64 (mPush l k' sb).2] ∧ RingV v' (mPush l k' sb).1 k', fun _ _ _ _ h => h⟩, ⟨fun v _ => ∃ v', v = .tuple #[v', .int .i64 (mPush l k' sb).2] ∧ RingV v' (mPush l k' sb).1 k', fun _ _ _ _ h => h⟩, ⟨fun v _ => RingV v (mPush l k' sb).1 k', fun _ _ _ _ h => h⟩, eqv _, StV.any] (fun p w' => match p with | 0 => Below W.heap.size W w' | _ => ∃ (w4 : World) (v : Value) (cs : Array Value), v = .agg cs ∧ RingV v (mPush l k' sb).1 k' ∧ w' = w4.setRow S cs ∧ isRow w4 S ∧ isRowT w4 S 25 ∧ Below W.heap.size W w4)
            case hm => kernel_rfl
            case hok => decide +kernel
            case h0 => exact (Below.refl _ _).drew
            case hstep =>
              refine ⟨?s0, ?s1, ?s2, ?s3, ?s4, ?s5, ?s6, ?s7, ?s8, ?s9, ?s10, ?s11⟩
              case s0 =>
                intro p hp; obtain rfl : p = 0 := by simpa using hp
                intro x w' hJ hd; simp only [List.getD_cons_zero, List.getD_cons_succ, List.forall_mem_cons, List.forall_mem_nil, fillA, fillT, List.setIfInBounds_toArray, List.set_cons_succ, List.set_cons_zero, Nat.reduceAdd, Nat.zero_add, eqv, and_true] at hd ⊢; try simp only [hd]
                have c1 := (Row.kept (show Row W _ _ from ⟨_, hB1⟩) hJ hlB).cell
                go_wp2_with (fail)
                exact ⟨⟨_, rfl, rfl⟩, trivial, hJ⟩
              case s1 =>
                intro p hp; obtain rfl : p = 0 := by simpa using hp
                intro x w' hJ hd; simp only [List.getD_cons_zero, List.getD_cons_succ, List.forall_mem_cons, List.forall_mem_nil, fillA, fillT, List.setIfInBounds_toArray, List.set_cons_succ, List.set_cons_zero, Nat.reduceAdd, Nat.zero_add, eqv, and_true] at hd ⊢; try simp only [hd]
                go_wp2_with (fail)
                exact ⟨⟨_, rfl, rfl⟩, trivial, hJ⟩
              case s2 =>
                intro p hp; obtain rfl : p = 0 := by simpa using hp
                intro x w' hJ hd; simp only [List.getD_cons_zero, List.getD_cons_succ, List.forall_mem_cons, List.forall_mem_nil, fillA, fillT, List.setIfInBounds_toArray, List.set_cons_succ, List.set_cons_zero, Nat.reduceAdd, Nat.zero_add, eqv, and_true] at hd ⊢; try simp only [hd]
                go_wp2_with (fail)
                exact ⟨⟨_, rfl, rfl⟩, trivial, hJ⟩
              case s3 =>
                intro p hp; obtain rfl : p = 0 := by simpa using hp
                intro x w' hJ hd; simp only [List.getD_cons_zero, List.getD_cons_succ, List.forall_mem_cons, List.forall_mem_nil, fillA, fillT, List.setIfInBounds_toArray, List.set_cons_succ, List.set_cons_zero, Nat.reduceAdd, Nat.zero_add, eqv, and_true] at hd ⊢; try simp only [hd]
                go_wp2_with (fail)
                exact ⟨⟨_, rfl, rfl⟩, trivial, hJ⟩
              case s4 =>
                intro p hp; obtain rfl : p = 0 := by simpa using hp
                intro x w' hJ hd; simp only [List.getD_cons_zero, List.getD_cons_succ, List.forall_mem_cons, List.forall_mem_nil, fillA, fillT, List.setIfInBounds_toArray, List.set_cons_succ, List.set_cons_zero, Nat.reduceAdd, Nat.zero_add, eqv, and_true] at hd ⊢; try simp only [hd]
                have e1 := (hact.out w' (hCW.trans (hJ.mono hCW.size))).2.1
                go_wp2_with (fail)
                exact ⟨⟨_, rfl, rfl⟩, trivial, hJ⟩
              case s5 =>
                intro p hp; obtain rfl : p = 0 := by simpa using hp
                intro x w' hJ hd; simp only [List.getD_cons_zero, List.getD_cons_succ, List.forall_mem_cons, List.forall_mem_nil, fillA, fillT, List.setIfInBounds_toArray, List.set_cons_succ, List.set_cons_zero, Nat.reduceAdd, Nat.zero_add, eqv, and_true] at hd ⊢; try simp only [hd]
                have e1 := (hact.out w' (hCW.trans (hJ.mono hCW.size))).2.1
                go_wp2_with (fail)
                exact ⟨⟨_, rfl, rfl⟩, trivial, hJ⟩
              case s6 =>
                intro p hp; obtain rfl : p = 0 := by simpa using hp
                intro x w' hJ hd; simp only [List.getD_cons_zero, List.getD_cons_succ, List.forall_mem_cons, List.forall_mem_nil, fillA, fillT, List.setIfInBounds_toArray, List.set_cons_succ, List.set_cons_zero, Nat.reduceAdd, Nat.zero_add, eqv, and_true] at hd ⊢; try simp only [hd]
                go_wp2_with (go_at_call 13; refine (push_any _ bv l k' sb _ hv (hact.out w' (hCW.trans (hJ.mono hCW.size))).2.2).mono ?_; rintro e w3 ⟨v', rfl, hv', hb⟩)
                exact ⟨⟨_, rfl, _, rfl, hv'⟩, trivial, hJ.trans (hb.mono hJ.size)⟩
              case s7 =>
                intro p hp; obtain rfl : p = 0 := by simpa using hp
                intro x w' hJ hd; simp only [List.getD_cons_zero, List.getD_cons_succ, List.forall_mem_cons, List.forall_mem_nil, fillA, fillT, List.setIfInBounds_toArray, List.set_cons_succ, List.set_cons_zero, Nat.reduceAdd, Nat.zero_add, eqv, and_true] at hd ⊢; try simp only [hd]
                obtain ⟨-, -, -, -, -, -, ⟨v', hx, hv'⟩, -⟩ := hd; simp only [hx]
                go_wp2_with (fail)
                exact ⟨⟨_, rfl, v', rfl, hv'⟩, trivial, hJ⟩
              case s8 =>
                intro p hp; obtain rfl : p = 0 := by simpa using hp
                intro x w' hJ hd; simp only [List.getD_cons_zero, List.getD_cons_succ, List.forall_mem_cons, List.forall_mem_nil, fillA, fillT, List.setIfInBounds_toArray, List.set_cons_succ, List.set_cons_zero, Nat.reduceAdd, Nat.zero_add, eqv, and_true] at hd ⊢; try simp only [hd]
                obtain ⟨-, -, -, -, -, -, -, ⟨v', hx, hv'⟩, -⟩ := hd; simp only [hx]
                go_wp2_with (fail)
                exact ⟨⟨_, rfl, hv'⟩, trivial, hJ⟩
              case s9 =>
                intro p hp; obtain rfl | rfl : p = 0 ∨ p = 1 := by simpa using hp
                · intro x w' hJ hd; simp only [List.getD_cons_zero, List.getD_cons_succ, List.forall_mem_cons, List.forall_mem_nil, fillA, fillT, List.setIfInBounds_toArray, List.set_cons_succ, List.set_cons_zero, Nat.reduceAdd, Nat.zero_add, eqv, and_true] at hd ⊢; try simp only [hd]
                  obtain ⟨-, -, -, -, -, -, -, ⟨v', hx, hv'⟩, -⟩ := hd; simp only [hx]
                  go_wp2_with (fail)
                  exact ⟨⟨_, rfl, rfl⟩, trivial, hJ⟩
                · intro x w' hJ hd; simp only [List.getD_cons_zero, List.getD_cons_succ, List.forall_mem_cons, List.forall_mem_nil, fillA, fillT, List.setIfInBounds_toArray, List.set_cons_succ, List.set_cons_zero, Nat.reduceAdd, Nat.zero_add, eqv, and_true] at hd ⊢; try simp only [hd]
                  obtain ⟨-, -, -, -, -, -, -, ⟨v', hx, hv'⟩, -⟩ := hd; simp only [hx]
                  go_wp2_with (fail)
                  exact ⟨⟨_, rfl, rfl⟩, trivial, hJ⟩
              case s10 =>
                intro p hp; obtain rfl : p = 0 := by simpa using hp
                intro x w' hJ hd; simp only [List.getD_cons_zero, List.getD_cons_succ, List.forall_mem_cons, List.forall_mem_nil, fillA, fillT, List.setIfInBounds_toArray, List.set_cons_succ, List.set_cons_zero, Nat.reduceAdd, Nat.zero_add, eqv, and_true] at hd ⊢; try simp only [hd]
                obtain ⟨w4, rfl, r4, q4, hB4, -⟩ := open1T hJ hB2; obtain ⟨-, -, -, -, -, -, -, -, hd0, -⟩ := hd; have hd1 := hd0; obtain ⟨t0, t1, t2, t3, t4, t5, t6, t7, f2, n2, hx5, -⟩ := hd1; rw [hx5] at hd0; simp only [hx5]; clear hx5
                go_wp2_with (fail)
                exact ⟨⟨.bool true, rfl, trivial⟩, trivial, ⟨w4, _, _, rfl, hd0, rfl, r4, q4, hB4⟩⟩
              case s11 =>
                intro x w' hJ hd; simp only [VsAll, List.take_succ_cons, List.take_zero, fillA, fillT, List.setIfInBounds_toArray, List.set_cons_succ, List.set_cons_zero, Nat.reduceAdd, Nat.zero_add, eqv, and_true] at hd ⊢; try simp only [hd]
                obtain ⟨w4, v4, cs, rfl, hv4, rfl, r4, q4, hB4⟩ := hJ
                have hx := hv4
                obtain ⟨t0, t1, t2, t3, t4, t5, t6, t7, f2, n2, hx5, -⟩ := hx
                cases hx5
                clear hd
                have hC4 : Below w.heap.size w w4 := hCW.trans (hB4.mono hCW.size)
                have hC5 : Below w.heap.size w (w4.setRow S #[.string t0, .string t1, .string t2, .string t3, .string t4, .string t5, .string t6, .string t7, .int .i64 f2, .int .i64 n2, .int .i64 k']) := below_rows hC4 (by omega) _
                have hneS : w1.heap.size ≠ S := by omega
                have hB5 : (w4.setRow S #[.string t0, .string t1, .string t2, .string t3, .string t4, .string t5, .string t6, .string t7, .int .i64 f2, .int .i64 n2, .int .i64 k']).heap[w1.heap.size]? = _ := (setRow_other _ _ _ _ hneS).trans (blk_kept hB1 hB4 hlB)
                have hS5 := q4.set #[.string t0, .string t1, .string t2, .string t3, .string t4, .string t5, .string t6, .string t7, .int .i64 f2, .int .i64 n2, .int .i64 k']
                have hli5 := (hliW.below hB4).row q4 (by decide) #[.string t0, .string t1, .string t2, .string t3, .string t4, .string t5, .string t6, .string t7, .int .i64 f2, .int .i64 n2, .int .i64 k']
                have hlo5 := (hloW.below hB4).row q4 (by decide) #[.string t0, .string t1, .string t2, .string t3, .string t4, .string t5, .string t6, .string t7, .int .i64 f2, .int .i64 n2, .int .i64 k']
                have hlb5 := (Array.getElem?_eq_some_iff.1 hB5).1
                have hls5 := (Array.getElem?_eq_some_iff.1 hS5).1
                have hlS4 := isRow_lt r4
                by_cases hp : (mPush l k' sb).2 = 0
                · rw [mPush_ok hp] at hv4
                  have e2 := (hact.out _ hC5).2.1
                  have hcv := (hact.out _ hC5).2.2.conv (P := Try.prog) 32 5 9 Try.underlying32 Try.underlying5 Try.underlying9
                  simp only [hp]
                  go_wp2_with (at_builtin; refine wpList_append_strs (by simp [Region.wanted]) _ _ rfl w.heap.size _ _ li [sb] rfl rfl (hli5.below ((Below.refl _ _).alloc (Nat.le_refl _) _)) (strs_one _ _ (by simp)) (by simp; omega) (by have := hC5.size; simp; omega) ?_; intro v6 w6 hown hgrow hat)
                  have hal := Below.alloc (Below.refl (w4.setRow S #[.string t0, .string t1, .string t2, .string t3, .string t4, .string t5, .string t6, .string t7, .int .i64 f2, .int .i64 n2, .int .i64 k']).heap.size (w4.setRow S #[.string t0, .string t1, .string t2, .string t3, .string t4, .string t5, .string t6, .string t7, .int .i64 f2, .int .i64 n2, .int .i64 k'])) (Nat.le_refl _) (.cells #[.string sb] 9)
                  have hB6 := (hli5.below hal).far hgrow (blk_old hB5 _) (by decide)
                  have hS6 := (hli5.below hal).far hgrow (blk_old hS5 _) (by decide)
                  have hC6 := (hli5.below hal).under hgrow (hC5.trans (hal.mono hC5.size)) (Nat.le_refl _) (by have := hC5.size; simp; omega)
                  go_meet
                  case rel => exact ⟨li ++ [sb], lo, l ++ [sb], k', 0, rfl, fun h => absurd rfl h, hown, (hlo5.below hal).grow hgrow hap.out, (hlo5.below hal).apart (by simp) hap.out hat, by rw [hcat.out, List.append_assoc], by simp; omega, hB6, ⟨t0, t1, t2, t3, t4, t5, t6, t7, f2, n2, hS6, hv4⟩, hC6, (Array.getElem?_eq_some_iff.1 hB6).1, (Array.getElem?_eq_some_iff.1 hS6).1⟩
                · rw [mPush_no hp] at hv4
                  have hp2 : ((mPush l k' sb).2 == 0) = false := by simpa using hp
                  go_wp2_with fail
                  go_meet
                  case rel => exact ⟨li, lo, l, k', (mPush l k' sb).2, rfl, fun _ => rfl, hli5, hlo5, hap.out, hcat.out, by omega, hB5, ⟨t0, t1, t2, t3, t4, t5, t6, t7, f2, n2, hS5, hv4⟩, hC5, hlb5, hls5⟩

          · have e0 : (d == 0) = false := by simp [d0]
            by_cases d1 : d = 1
            · subst d1
              clear d0
              have c1 := (show Row W _ _ from ⟨_, hB1⟩).cell
              go_wp2_with fail
              refine (pop_any _ l k' _ hv).mono ?_
              rintro e w3 ⟨v4, bv2, rfl, hv4, hbv, hb⟩
              obtain ⟨w4, rfl, r4, q4, hB4, -⟩ := open1T hb hB2
              have hx := hv4
              obtain ⟨t0, t1, t2, t3, t4, t5, t6, t7, f2, n2, rfl, -⟩ := hx
              have hC4 : Below w.heap.size w w4 := hCW.trans (hB4.mono hCW.size)
              have hC5 : Below w.heap.size w (w4.setRow S #[.string t0, .string t1, .string t2, .string t3, .string t4, .string t5, .string t6, .string t7, .int .i64 f2, .int .i64 n2, .int .i64 k']) := below_rows hC4 (by omega) _
              have hneS : w1.heap.size ≠ S := by omega
              have hB5 : (w4.setRow S #[.string t0, .string t1, .string t2, .string t3, .string t4, .string t5, .string t6, .string t7, .int .i64 f2, .int .i64 n2, .int .i64 k']).heap[w1.heap.size]? = _ := (setRow_other _ _ _ _ hneS).trans (blk_kept hB1 hB4 hlB)
              have hS5 := q4.set #[.string t0, .string t1, .string t2, .string t3, .string t4, .string t5, .string t6, .string t7, .int .i64 f2, .int .i64 n2, .int .i64 k']
              have hli5 := (hliW.below hB4).row q4 (by decide) #[.string t0, .string t1, .string t2, .string t3, .string t4, .string t5, .string t6, .string t7, .int .i64 f2, .int .i64 n2, .int .i64 k']
              have hlo5 := (hloW.below hB4).row q4 (by decide) #[.string t0, .string t1, .string t2, .string t3, .string t4, .string t5, .string t6, .string t7, .int .i64 f2, .int .i64 n2, .int .i64 k']
              have hlb5 := (Array.getElem?_eq_some_iff.1 hB5).1
              have hls5 := (Array.getElem?_eq_some_iff.1 hS5).1
              have hlS4 := isRow_lt r4
              rcases hbv with ⟨hl0, rfl⟩ | ⟨hne, hbn⟩
              · subst hl0
                simp only [mPop] at hv4 ⊢
                go_wp2_with fail
                go_meet
                case rel => exact ⟨li, lo, [], k', 3, rfl, fun _ => rfl, hli5, hlo5, hap.out, hcat.out, by omega, hB5, ⟨t0, t1, t2, t3, t4, t5, t6, t7, f2, n2, hS5, hv4⟩, hC5, hlb5, hls5⟩
              · cases l with
                | nil => exact absurd rfl hne
                | cons b1 r1 =>
                  simp only [mPop] at hv4 hbn ⊢
                  have hbn2 := (hbn.unrow hlSW).row hlSW #[.string t0, .string t1, .string t2, .string t3, .string t4, .string t5, .string t6, .string t7, .int .i64 f2, .int .i64 n2, .int .i64 k']
                  have hcv := hbn2.at.conv (P := Try.prog) 32 5 9 Try.underlying32 Try.underlying5 Try.underlying9
                  have hlo6 : lo.length ≤ li.length := by rw [hcat.out]; simp
                  go_wp2_with (at_builtin; refine wpList_append_strs (by simp [Region.wanted]) _ _ rfl w.heap.size _ _ lo [b1] rfl rfl (hlo5.below ((Below.refl _ _).alloc (Nat.le_refl _) _)) (strs_one _ _ (by simp)) (by simp; omega) (by have := hC5.size; simp; omega) ?_; intro v6 w6 hown hgrow hat)
                  have hal := Below.alloc (Below.refl (w4.setRow S #[.string t0, .string t1, .string t2, .string t3, .string t4, .string t5, .string t6, .string t7, .int .i64 f2, .int .i64 n2, .int .i64 k']).heap.size (w4.setRow S #[.string t0, .string t1, .string t2, .string t3, .string t4, .string t5, .string t6, .string t7, .int .i64 f2, .int .i64 n2, .int .i64 k'])) (Nat.le_refl _) (.cells #[.string b1] 9)
                  have hB6 := (hlo5.below hal).far hgrow (blk_old hB5 _) (by decide)
                  have hS6 := (hlo5.below hal).far hgrow (blk_old hS5 _) (by decide)
                  have hC6 := (hlo5.below hal).under hgrow (hC5.trans (hal.mono hC5.size)) (Nat.le_refl _) (by have := hC5.size; simp; omega)
                  go_meet
                  case rel => exact ⟨li, lo ++ [b1], r1, k', 0, rfl, fun h => absurd rfl h, (hli5.below hal).grow hgrow (apart_symm hap.out), hown, apart_symm ((hli5.below hal).apart (by simp) (apart_symm hap.out) hat), by rw [hcat.out, List.append_assoc]; rfl, by omega, hB6, ⟨t0, t1, t2, t3, t4, t5, t6, t7, f2, n2, hS6, hv4⟩, hC6, (Array.getElem?_eq_some_iff.1 hB6).1, (Array.getElem?_eq_some_iff.1 hS6).1⟩
            · have e1 : (d == 1) = false := by simp [d1]
              by_cases d2 : d = 2
              · subst d2
                clear d0 d1
                have c1 := (show Row W _ _ from ⟨_, hB1⟩).cell
                go_wp2_with fail
                refine (grow_any _ l k' _ hv).mono ?_
                rintro e w3 ⟨v4, rfl, hv4, hb⟩
                obtain ⟨w4, rfl, r4, q4, hB4, -⟩ := open1T hb hB2
                have hx := hv4
                obtain ⟨t0, t1, t2, t3, t4, t5, t6, t7, f2, n2, rfl, -⟩ := hx
                have hC4 : Below w.heap.size w w4 := hCW.trans (hB4.mono hCW.size)
                have hC5 : Below w.heap.size w (w4.setRow S #[.string t0, .string t1, .string t2, .string t3, .string t4, .string t5, .string t6, .string t7, .int .i64 f2, .int .i64 n2, .int .i64 ((mGrow k').1 : Nat)]) := below_rows hC4 (by omega) _
                have hneS : w1.heap.size ≠ S := by omega
                have hB5 : (w4.setRow S #[.string t0, .string t1, .string t2, .string t3, .string t4, .string t5, .string t6, .string t7, .int .i64 f2, .int .i64 n2, .int .i64 ((mGrow k').1 : Nat)]).heap[w1.heap.size]? = _ := (setRow_other _ _ _ _ hneS).trans (blk_kept hB1 hB4 hlB)
                have hS5 := q4.set #[.string t0, .string t1, .string t2, .string t3, .string t4, .string t5, .string t6, .string t7, .int .i64 f2, .int .i64 n2, .int .i64 ((mGrow k').1 : Nat)]
                have hli5 := (hliW.below hB4).row q4 (by decide) #[.string t0, .string t1, .string t2, .string t3, .string t4, .string t5, .string t6, .string t7, .int .i64 f2, .int .i64 n2, .int .i64 ((mGrow k').1 : Nat)]
                have hlo5 := (hloW.below hB4).row q4 (by decide) #[.string t0, .string t1, .string t2, .string t3, .string t4, .string t5, .string t6, .string t7, .int .i64 f2, .int .i64 n2, .int .i64 ((mGrow k').1 : Nat)]
                have hlb5 := (Array.getElem?_eq_some_iff.1 hB5).1
                have hls5 := (Array.getElem?_eq_some_iff.1 hS5).1
                have hlS4 := isRow_lt r4
                go_wp2_with fail
                go_meet
                case rel => exact ⟨li, lo, l, (mGrow k').1, (mGrow k').2, rfl, fun _ => rfl, hli5, hlo5, hap.out, hcat.out, by omega, hB5, ⟨t0, t1, t2, t3, t4, t5, t6, t7, f2, n2, hS5, hv4⟩, hC5, hlb5, hls5⟩
              · have e2 : (d == 2) = false := by simp [d2]
                clear d0 d1 d2
                go_wp2_with fail
                go_meet
                case rel => exact ⟨li, lo, l, k', 0, rfl, fun h => absurd rfl h, hliW, hloW, hap.out, hcat.out, by omega, hB1, ⟨s0, s1, s2, s3, s4, s5, s6, s7, f, n, hB2, hv⟩, hCW, hlB, hlSW⟩
        case rest =>
          obtain ⟨li2, lo2, l2, k2, fz, rfl, hfz, hli2, hlo2, hap2, hcat2, hlen2, hB5, hRS, hC5, hlB5, hlS5⟩ := hcut
          obtain ⟨t0, t1, t2, t3, t4, t5, t6, t7, f2, n2, hS5, hv2⟩ := hRS
          replace hcat2 := Lib.hid hcat2
          replace hap2 := Lib.hid hap2
          have hk2 := hv2.len
          go_wp2_with fail
          apply wp_region_neu [[], [0], [0, 1], [0, 1, 2], [0, 1, 2, 3], [0, 1, 2], [0, 1, 2, 3, 4, 5], [0, 1, 2, 3, 4, 5, 6], [0, 1, 2, 3, 4, 5, 6, 7], [0, 1, 2, 3, 4, 5, 6, 7, 8]] (fun w w' => Below w.heap.size w w') [eqv _, eqv _, eqv _, ⟨fun v w => fz ≠ 0 → v = rg t0 t1 t2 t3 t4 t5 t6 t7 f2 n2 k2, fun _ _ _ _ h => h⟩, ⟨fun v w => fz ≠ 0 → StrsAt w v l2, fun _ _ _ hE h hn => (h hn).below hE⟩, ⟨fun v w => fz ≠ 0 → v = rg s0 s1 s2 s3 s4 s5 s6 s7 f n k', fun _ _ _ _ h => h⟩, ⟨fun v w => fz ≠ 0 → StrsAt w v l, fun _ _ _ hE h hn => (h hn).below hE⟩, ⟨fun v w => fz ≠ 0 → v = .bool true, fun _ _ _ _ h => h⟩, ⟨fun v w => fz ≠ 0 → v = .bool false, fun _ _ _ _ h => h⟩, eqv _] (fun w' => Below wc.heap.size wc w')
          case hm => kernel_rfl
          case hok => decide +kernel
          case h0 => exact (Below.refl _ _).drew
          case hstep =>
            refine ⟨?s0, ?s1, ?s2, ?s3, ?s4, ?s5, ?s6, ?s7, ?s8, ?s9, trivial⟩
            case s0 =>
              intro x w' hJ hd; simp only [List.getD_cons_zero, List.getD_cons_succ, List.forall_mem_cons, List.forall_mem_nil, fillA, fillT, List.setIfInBounds_toArray, List.set_cons_succ, List.set_cons_zero, Nat.reduceAdd, Nat.zero_add, eqv, and_true] at hd ⊢; try simp only [hd]
              go_wp2_with (fail)
              exact ⟨⟨_, rfl, rfl⟩, Below.refl _ _, hJ⟩
            case s1 =>
              intro x w' hJ hd; simp only [List.getD_cons_zero, List.getD_cons_succ, List.forall_mem_cons, List.forall_mem_nil, fillA, fillT, List.setIfInBounds_toArray, List.set_cons_succ, List.set_cons_zero, Nat.reduceAdd, Nat.zero_add, eqv, and_true] at hd ⊢; try simp only [hd]
              go_wp2_with (fail)
              exact ⟨⟨_, rfl, rfl⟩, Below.refl _ _, hJ⟩
            case s2 =>
              intro x w' hJ hd; simp only [List.getD_cons_zero, List.getD_cons_succ, List.forall_mem_cons, List.forall_mem_nil, fillA, fillT, List.setIfInBounds_toArray, List.set_cons_succ, List.set_cons_zero, Nat.reduceAdd, Nat.zero_add, eqv, and_true] at hd ⊢; try simp only [hd]
              go_wp2_with (fail)
              exact ⟨⟨_, rfl, rfl⟩, Below.refl _ _, hJ⟩
            case s3 =>
              intro x w' hJ hd; simp only [List.getD_cons_zero, List.getD_cons_succ, List.forall_mem_cons, List.forall_mem_nil, fillA, fillT, List.setIfInBounds_toArray, List.set_cons_succ, List.set_cons_zero, Nat.reduceAdd, Nat.zero_add, eqv, and_true] at hd ⊢; try simp only [hd]
              by_cases hf : fz = 0
              · subst hf
                go_wp2_with fail
                exact ⟨⟨_, rfl, fun h => absurd rfl h⟩, Below.refl _ _, hJ⟩
              · have hf' : (fz != 0) = true := by simpa using hf
                simp only [hf', ne_eq, hf, not_false_eq_true, forall_const] at hd ⊢
                try simp only [hd]
                have c2 := (Row.kept (show Row wc _ _ from ⟨_, hS5⟩) hJ hlS5).cell
                go_wp2_with (fail)
                exact ⟨⟨_, rfl, rfl⟩, Below.refl _ _, hJ⟩
            case s4 =>
              intro x w' hJ hd; simp only [List.getD_cons_zero, List.getD_cons_succ, List.forall_mem_cons, List.forall_mem_nil, fillA, fillT, List.setIfInBounds_toArray, List.set_cons_succ, List.set_cons_zero, Nat.reduceAdd, Nat.zero_add, eqv, and_true] at hd ⊢; try simp only [hd]
              by_cases hf : fz = 0
              · subst hf
                go_wp2_with fail
                exact ⟨⟨_, rfl, fun h => absurd rfl h⟩, Below.refl _ _, hJ⟩
              · have hf' : (fz != 0) = true := by simpa using hf
                simp only [hf', ne_eq, hf, not_false_eq_true, forall_const] at hd ⊢
                try simp only [hd]
                go_wp2_with (go_at_call 17; refine (told_any _ l2 k2 _ hv2).mono ?_; rintro e w3 ⟨lv, rfl, hlv, hb⟩)
                exact ⟨⟨_, rfl, (OwnStr.of hlv).at⟩, hb, hJ.trans (hb.mono hJ.size)⟩
            case s5 =>
              intro x w' hJ hd; simp only [List.getD_cons_zero, List.getD_cons_succ, List.forall_mem_cons, List.forall_mem_nil, fillA, fillT, List.setIfInBounds_toArray, List.set_cons_succ, List.set_cons_zero, Nat.reduceAdd, Nat.zero_add, eqv, and_true] at hd ⊢; try simp only [hd]
              by_cases hf : fz = 0
              · subst hf
                go_wp2_with fail
                exact ⟨⟨_, rfl, fun h => absurd rfl h⟩, Below.refl _ _, hJ⟩
              · have hf' : (fz != 0) = true := by simpa using hf
                simp only [hf', ne_eq, hf, not_false_eq_true, forall_const] at hd ⊢
                try simp only [hd]
                have c1 := (Row.kept (show Row wc _ _ from ⟨_, hB5⟩) hJ hlB5).cell
                go_wp2_with (fail)
                exact ⟨⟨_, rfl, rfl⟩, Below.refl _ _, hJ⟩
            case s6 =>
              intro x w' hJ hd; simp only [List.getD_cons_zero, List.getD_cons_succ, List.forall_mem_cons, List.forall_mem_nil, fillA, fillT, List.setIfInBounds_toArray, List.set_cons_succ, List.set_cons_zero, Nat.reduceAdd, Nat.zero_add, eqv, and_true] at hd ⊢; try simp only [hd]
              by_cases hf : fz = 0
              · subst hf
                go_wp2_with fail
                exact ⟨⟨_, rfl, fun h => absurd rfl h⟩, Below.refl _ _, hJ⟩
              · have hf' : (fz != 0) = true := by simpa using hf
                simp only [hf', ne_eq, hf, not_false_eq_true, forall_const] at hd ⊢
                try simp only [hd]
                go_wp2_with (go_at_call 17; refine (told_any _ l k' _ hv).mono ?_; rintro e w3 ⟨lv, rfl, hlv, hb⟩)
                exact ⟨⟨_, rfl, (OwnStr.of hlv).at⟩, hb, hJ.trans (hb.mono hJ.size)⟩
            case s7 =>
              intro x w' hJ hd; simp only [List.getD_cons_zero, List.getD_cons_succ, List.forall_mem_cons, List.forall_mem_nil, fillA, fillT, List.setIfInBounds_toArray, List.set_cons_succ, List.set_cons_zero, Nat.reduceAdd, Nat.zero_add, eqv, and_true] at hd ⊢; try simp only [hd]
              by_cases hf : fz = 0
              · subst hf
                go_wp2_with fail
                exact ⟨⟨_, rfl, fun h => absurd rfl h⟩, Below.refl _ _, hJ⟩
              · have hf' : (fz != 0) = true := by simpa using hf
                simp only [hf', ne_eq, hf, not_false_eq_true, forall_const] at hd ⊢
                try simp only [hd]
                go_wp2_with (go_at_call 16; refine (same_any _ _ l2 l _ hd.2.2.2.2.1 hd.2.2.2.2.2.2.1 (by have := hv2.len; unfold maxLen; omega)).mono ?_; rintro e w3 ⟨⟨rfl, hb⟩⟩)
                exact ⟨⟨_, rfl, rfl⟩, hb, hJ.trans (hb.mono hJ.size)⟩
            case s8 =>
              intro x w' hJ hd; simp only [List.getD_cons_zero, List.getD_cons_succ, List.forall_mem_cons, List.forall_mem_nil, fillA, fillT, List.setIfInBounds_toArray, List.set_cons_succ, List.set_cons_zero, Nat.reduceAdd, Nat.zero_add, eqv, and_true] at hd ⊢; try simp only [hd]
              by_cases hf : fz = 0
              · subst hf
                go_wp2_with fail
                exact ⟨⟨_, rfl, fun h => absurd rfl h⟩, Below.refl _ _, hJ⟩
              · have hf' : (fz != 0) = true := by simpa using hf
                simp only [hf', ne_eq, hf, not_false_eq_true, forall_const] at hd ⊢
                try simp only [hd]
                go_wp2_with (fail)
                exact ⟨⟨_, rfl, rfl⟩, Below.refl _ _, hJ⟩
            case s9 =>
              intro x w' hJ hd; simp only [List.getD_cons_zero, List.getD_cons_succ, List.forall_mem_cons, List.forall_mem_nil, fillA, fillT, List.setIfInBounds_toArray, List.set_cons_succ, List.set_cons_zero, Nat.reduceAdd, Nat.zero_add, eqv, and_true] at hd ⊢; try simp only [hd]
              by_cases hf : fz = 0
              · subst hf
                go_wp2_with fail
                exact ⟨⟨.bool false, rfl, rfl⟩, Below.refl _ _, hJ⟩
              · have hf' : (fz != 0) = true := by simpa using hf
                simp only [hf', ne_eq, hf, not_false_eq_true, forall_const] at hd ⊢
                try simp only [hd]
                go_wp2_with fail
                exact ⟨⟨.bool false, rfl, rfl⟩, Below.refl _ _, hJ⟩
          case hend =>
            intro x w' hJ hd; simp only [VsAll, List.take_succ_cons, List.take_zero, fillA, fillT, List.setIfInBounds_toArray, List.set_cons_succ, List.set_cons_zero, Nat.reduceAdd, Nat.zero_add, eqv, and_true] at hd ⊢; try simp only [hd]
            have h9 : x 9 = .bool false := hd.2.2.2.2.2.2.2.2.2.1
            simp only [h9]
            have c2 := (Row.kept (show Row wc _ _ from ⟨_, hS5⟩) hJ hlS5).cell
            have hli6 := hli2.below hJ
            have hlo6 := hlo2.below hJ
            have hC6 := hC5.trans (hJ.mono hC5.size)
            obtain ⟨w5, rfl, r5, q5, hB6, -⟩ := open1T hJ hB5
            clear hJ hd
            go_wp2_with fail
            have hli8 := (hli6.unrow q5 (by decide)).row q5 (by decide) #[.string t0, .string t1, .string t2, .string t3, .string t4, .string t5, .string t6, .string t7, .int .i64 f2, .int .i64 n2, .int .i64 k2]
            have hlo8 := (hlo6.unrow q5 (by decide)).row q5 (by decide) #[.string t0, .string t1, .string t2, .string t3, .string t4, .string t5, .string t6, .string t7, .int .i64 f2, .int .i64 n2, .int .i64 k2]
            have hB8 := q5.set #[.string t0, .string t1, .string t2, .string t3, .string t4, .string t5, .string t6, .string t7, .int .i64 f2, .int .i64 n2, .int .i64 k2]
            have hC8 := below_rows (hC5.trans (hB6.mono hC5.size)) hz1 #[.string t0, .string t1, .string t2, .string t3, .string t4, .string t5, .string t6, .string t7, .int .i64 f2, .int .i64 n2, .int .i64 k2]
            clear hli6 hlo6 hC6 c2
            generalize w5.setRow w1.heap.size #[.string t0, .string t1, .string t2, .string t3, .string t4, .string t5, .string t6, .string t7, .int .i64 f2, .int .i64 n2, .int .i64 k2] = W8 at hli8 hlo8 hB8 hC8 ⊢
            clear q5 r5 hB6
            have hlB8 := (Array.getElem?_eq_some_iff.1 hB8).1
            apply wp_region_3 [[], [0], [], [0, 1, 2], [0, 1, 2, 3], [0, 1, 2, 3, 4], [0, 1, 2, 3, 4, 5], [0, 1, 2, 3, 4, 5, 6], [0, 1, 2, 3, 4, 5, 6, 7], [0, 1, 2, 3, 4, 5, 6, 7, 8], [0, 1, 2, 3, 4, 5, 6, 7, 8, 9], [0, 1, 2, 3, 4, 5, 6, 7, 8, 9, 10], [0, 1, 2, 3, 4, 5, 6, 7, 8, 9, 10], [0, 1, 2, 3, 4, 5, 6, 7, 8, 9, 10, 11, 12], [0, 1, 2, 3, 4, 5, 6, 7, 8, 9, 10], [0, 1, 2, 3, 4, 5, 6, 7, 8, 9, 10, 11, 12, 13, 14], [0, 1, 2, 3, 4, 5, 6, 7, 8, 9, 10, 11, 12, 13, 14, 15], [0, 1, 2, 3, 4, 5, 6, 7, 8, 9, 10], [0, 1, 2, 3, 4, 5, 6, 7, 8, 9, 10, 11, 12, 13, 14, 15, 16, 17], [0, 1, 2, 3, 4, 5, 6, 7, 8, 9, 10, 11, 12, 13, 14, 15, 16, 17, 18], [0, 1, 2, 3, 4, 5, 6, 7, 8, 9, 10, 11, 12, 13, 14, 15, 16, 17, 18, 19]] [false, false, false, false, false, false, false, false, false, false, false, false, false, true, false, false, true, false, false, false, true] [[0], [0], [0], [0], [0], [0], [0], [0], [0], [0], [0], [0], [0], [0], [0, 1, 2], [1], [1], [0, 1, 2], [2], [2], [2]] 2 (fun p q w w' => p ≤ q ∧ q ≤ 2 ∧ (if p = q then Below w.heap.size w w' else Below W8.heap.size w w')) [eqr _, eqr _, eqr _, eqr _, eqr _, eqr _, eqr _, eqr _, eqr _, eqr _, eqr _, ⟨[], fun p v _ w => p = 0 → OwnS W8.heap.size w v [], fun p q v r w w' hE h hq => by obtain ⟨h1, h2, h3⟩ := hE; obtain rfl : q = 0 := hq; obtain rfl : p = 0 := (by omega); rw [if_pos rfl] at h3; exact (h rfl).below h3⟩, eqr _, ⟨[], fun p v _ w => p ≠ 0 ∧ (p = 1 → OwnS W8.heap.size w v lo2), fun p q v r w w' hE h => by obtain ⟨h1, h2, h3⟩ := hE; refine ⟨by omega, fun hq => ?_⟩; obtain rfl : q = 1 := hq; obtain rfl : p = 1 := (by omega); rw [if_pos rfl] at h3; exact (h.2 rfl).below h3⟩, eqr _, ⟨[13], fun p v r w => p ≠ 0 ∧ (p = 1 → ∃ n, OwnS n w v l2 ∧ ∀ k, (r.getD 0 undef).ownBlock = some k → k < n), fun p q v r w w' hE h => by obtain ⟨h1, h2, h3⟩ := hE; refine ⟨by omega, fun hq => ?_⟩; obtain rfl : q = 1 := hq; obtain rfl : p = 1 := (by omega); rw [if_pos rfl] at h3; obtain ⟨n, ho, hn⟩ := h.2 rfl; exact ⟨n, ho.below h3, hn⟩⟩, ⟨[], fun p v _ w => p = 2 ∧ OwnS W8.heap.size w v (lo2 ++ l2), fun p q v r w w' hE h => by obtain ⟨h1, h2, h3⟩ := hE; obtain ⟨rfl, h⟩ := h; obtain rfl : q = 2 := (by omega); rw [if_pos rfl] at h3; exact ⟨rfl, h.below h3⟩⟩, eqr _, eqr (.bool true), eqr (.bool false), StR.any] (fun _ w' => Below W8.heap.size W8 w') (Rf := [[], [], [], [], [], [], [], [], [], [], [], [], [], [], [], [13], [], [], [], [], []])
            case hm => kernel_rfl
            case hrf => rfl
            case hok => decide +kernel
            case h0 => exact (Below.refl _ _).drew
            case hstep =>
              refine ⟨?s0, ?s1, ?s2, ?s3, ?s4, ?s5, ?s6, ?s7, ?s8, ?s9, ?s10, ?s11, ?s12, ?s13, ?s14, ?s15, ?s16, ?s17, ?s18, ?s19, ?s20⟩
              case s0 =>
                intro p hp; obtain rfl : p = 0 := by simpa using hp
                intro x w' hJ hd; simp only [List.getD_cons_zero, List.getD_cons_succ, List.forall_mem_cons, List.forall_mem_nil, fillA, eqr, List.map_cons, List.map_nil, StR.any, fillT, List.setIfInBounds_toArray, List.set_cons_succ, List.set_cons_zero, Nat.reduceAdd, Nat.zero_add, eqv, and_true] at hd ⊢; try simp only [hd]
                have c3 := (Row.kept (show Row W8 _ _ from ⟨_, hB8⟩) hJ hlB8).cell
                go_wp2_with (fail)
                exact ⟨⟨_, rfl, rfl⟩, (by first | exact Below.refl _ _ | exact ⟨Nat.le_refl _, by decide, by rw [if_pos rfl]; exact Below.refl _ _⟩), hJ⟩
              case s1 =>
                intro p hp; obtain rfl : p = 0 := by simpa using hp
                intro x w' hJ hd; simp only [List.getD_cons_zero, List.getD_cons_succ, List.forall_mem_cons, List.forall_mem_nil, fillA, eqr, List.map_cons, List.map_nil, StR.any, fillT, List.setIfInBounds_toArray, List.set_cons_succ, List.set_cons_zero, Nat.reduceAdd, Nat.zero_add, eqv, and_true] at hd ⊢; try simp only [hd]
                go_wp2_with (go_at_call 18; refine (len_any _ l2 k2 _ hv2).mono ?_; rintro e w3 ⟨rfl, hb⟩)
                exact ⟨⟨_, rfl, rfl⟩, (by first | exact hb | exact ⟨Nat.le_refl _, by decide, by rw [if_pos rfl]; exact hb⟩), hJ.trans (hb.mono hJ.size)⟩
              case s2 =>
                intro p hp; obtain rfl : p = 0 := by simpa using hp
                intro x w' hJ hd; simp only [List.getD_cons_zero, List.getD_cons_succ, List.forall_mem_cons, List.forall_mem_nil, fillA, eqr, List.map_cons, List.map_nil, StR.any, fillT, List.setIfInBounds_toArray, List.set_cons_succ, List.set_cons_zero, Nat.reduceAdd, Nat.zero_add, eqv, and_true] at hd ⊢; try simp only [hd]
                have c3 := (Row.kept (show Row W8 _ _ from ⟨_, hB8⟩) hJ hlB8).cell
                go_wp2_with (fail)
                exact ⟨⟨_, rfl, rfl⟩, (by first | exact Below.refl _ _ | exact ⟨Nat.le_refl _, by decide, by rw [if_pos rfl]; exact Below.refl _ _⟩), hJ⟩
              case s3 =>
                intro p hp; obtain rfl : p = 0 := by simpa using hp
                intro x w' hJ hd; simp only [List.getD_cons_zero, List.getD_cons_succ, List.forall_mem_cons, List.forall_mem_nil, fillA, eqr, List.map_cons, List.map_nil, StR.any, fillT, List.setIfInBounds_toArray, List.set_cons_succ, List.set_cons_zero, Nat.reduceAdd, Nat.zero_add, eqv, and_true] at hd ⊢; try simp only [hd]
                go_wp2_with (go_at_call 19; refine (cap_any _ l2 k2 _ hv2).mono ?_; rintro e w3 ⟨rfl, hb⟩)
                exact ⟨⟨_, rfl, rfl⟩, (by first | exact hb | exact ⟨Nat.le_refl _, by decide, by rw [if_pos rfl]; exact hb⟩), hJ.trans (hb.mono hJ.size)⟩
              case s4 =>
                intro p hp; obtain rfl : p = 0 := by simpa using hp
                intro x w' hJ hd; simp only [List.getD_cons_zero, List.getD_cons_succ, List.forall_mem_cons, List.forall_mem_nil, fillA, eqr, List.map_cons, List.map_nil, StR.any, fillT, List.setIfInBounds_toArray, List.set_cons_succ, List.set_cons_zero, Nat.reduceAdd, Nat.zero_add, eqv, and_true] at hd ⊢; try simp only [hd]
                go_wp2_with (fail)
                exact ⟨⟨_, rfl, rfl⟩, (by first | exact Below.refl _ _ | exact ⟨Nat.le_refl _, by decide, by rw [if_pos rfl]; exact Below.refl _ _⟩), hJ⟩
              case s5 =>
                intro p hp; obtain rfl : p = 0 := by simpa using hp
                intro x w' hJ hd; simp only [List.getD_cons_zero, List.getD_cons_succ, List.forall_mem_cons, List.forall_mem_nil, fillA, eqr, List.map_cons, List.map_nil, StR.any, fillT, List.setIfInBounds_toArray, List.set_cons_succ, List.set_cons_zero, Nat.reduceAdd, Nat.zero_add, eqv, and_true] at hd ⊢; try simp only [hd]
                go_wp2_with (fail)
                exact ⟨⟨_, rfl, rfl⟩, (by first | exact Below.refl _ _ | exact ⟨Nat.le_refl _, by decide, by rw [if_pos rfl]; exact Below.refl _ _⟩), hJ⟩
              case s6 =>
                intro p hp; obtain rfl : p = 0 := by simpa using hp
                intro x w' hJ hd; simp only [List.getD_cons_zero, List.getD_cons_succ, List.forall_mem_cons, List.forall_mem_nil, fillA, eqr, List.map_cons, List.map_nil, StR.any, fillT, List.setIfInBounds_toArray, List.set_cons_succ, List.set_cons_zero, Nat.reduceAdd, Nat.zero_add, eqv, and_true] at hd ⊢; try simp only [hd]
                have c3 := (Row.kept (show Row W8 _ _ from ⟨_, hB8⟩) hJ hlB8).cell
                go_wp2_with (fail)
                exact ⟨⟨_, rfl, rfl⟩, (by first | exact Below.refl _ _ | exact ⟨Nat.le_refl _, by decide, by rw [if_pos rfl]; exact Below.refl _ _⟩), hJ⟩
              case s7 =>
                intro p hp; obtain rfl : p = 0 := by simpa using hp
                intro x w' hJ hd; simp only [List.getD_cons_zero, List.getD_cons_succ, List.forall_mem_cons, List.forall_mem_nil, fillA, eqr, List.map_cons, List.map_nil, StR.any, fillT, List.setIfInBounds_toArray, List.set_cons_succ, List.set_cons_zero, Nat.reduceAdd, Nat.zero_add, eqv, and_true] at hd ⊢; try simp only [hd]
                go_wp2_with (go_at_call 19; refine (cap_any _ l2 k2 _ hv2).mono ?_; rintro e w3 ⟨rfl, hb⟩)
                exact ⟨⟨_, rfl, rfl⟩, (by first | exact hb | exact ⟨Nat.le_refl _, by decide, by rw [if_pos rfl]; exact hb⟩), hJ.trans (hb.mono hJ.size)⟩
              case s8 =>
                intro p hp; obtain rfl : p = 0 := by simpa using hp
                intro x w' hJ hd; simp only [List.getD_cons_zero, List.getD_cons_succ, List.forall_mem_cons, List.forall_mem_nil, fillA, eqr, List.map_cons, List.map_nil, StR.any, fillT, List.setIfInBounds_toArray, List.set_cons_succ, List.set_cons_zero, Nat.reduceAdd, Nat.zero_add, eqv, and_true] at hd ⊢; try simp only [hd]
                go_wp2_with (fail)
                exact ⟨⟨_, rfl, rfl⟩, (by first | exact Below.refl _ _ | exact ⟨Nat.le_refl _, by decide, by rw [if_pos rfl]; exact Below.refl _ _⟩), hJ⟩
              case s9 =>
                intro p hp; obtain rfl : p = 0 := by simpa using hp
                intro x w' hJ hd; simp only [List.getD_cons_zero, List.getD_cons_succ, List.forall_mem_cons, List.forall_mem_nil, fillA, eqr, List.map_cons, List.map_nil, StR.any, fillT, List.setIfInBounds_toArray, List.set_cons_succ, List.set_cons_zero, Nat.reduceAdd, Nat.zero_add, eqv, and_true] at hd ⊢; try simp only [hd]
                go_wp2_with (fail)
                exact ⟨⟨_, rfl, rfl⟩, (by first | exact Below.refl _ _ | exact ⟨Nat.le_refl _, by decide, by rw [if_pos rfl]; exact Below.refl _ _⟩), hJ⟩
              case s10 =>
                intro p hp; obtain rfl : p = 0 := by simpa using hp
                intro x w' hJ hd; simp only [List.getD_cons_zero, List.getD_cons_succ, List.forall_mem_cons, List.forall_mem_nil, fillA, eqr, List.map_cons, List.map_nil, StR.any, fillT, List.setIfInBounds_toArray, List.set_cons_succ, List.set_cons_zero, Nat.reduceAdd, Nat.zero_add, eqv, and_true] at hd ⊢; try simp only [hd]
                go_wp2_with (fail)
                exact ⟨⟨_, rfl, rfl⟩, (by first | exact Below.refl _ _ | exact ⟨Nat.le_refl _, by decide, by rw [if_pos rfl]; exact Below.refl _ _⟩), hJ⟩
              case s11 =>
                intro p hp; obtain rfl : p = 0 := by simpa using hp
                intro x w' hJ hd; simp only [List.getD_cons_zero, List.getD_cons_succ, List.forall_mem_cons, List.forall_mem_nil, fillA, eqr, List.map_cons, List.map_nil, StR.any, fillT, List.setIfInBounds_toArray, List.set_cons_succ, List.set_cons_zero, Nat.reduceAdd, Nat.zero_add, eqv, and_true] at hd ⊢; try simp only [hd]
                go_wp2_with (fail)
                exact ⟨⟨_, rfl, by first | exact own0 _ hJ.size | exact fun _ => own0 _ hJ.size⟩, (by first | exact (Below.refl _ _).alloc (Nat.le_refl _) _ | exact ⟨by decide, by decide, (Below.refl _ _).alloc (Nat.le_refl _) _⟩), hJ.alloc hJ.size _⟩
              case s12 =>
                intro p hp; obtain rfl : p = 0 := by simpa using hp
                intro x w' hJ hd; simp only [List.getD_cons_zero, List.getD_cons_succ, List.forall_mem_cons, List.forall_mem_nil, fillA, eqr, List.map_cons, List.map_nil, StR.any, fillT, List.setIfInBounds_toArray, List.set_cons_succ, List.set_cons_zero, Nat.reduceAdd, Nat.zero_add, eqv, and_true] at hd ⊢; try simp only [hd]
                go_wp2_with (fail)
                exact ⟨⟨_, rfl, rfl⟩, (by first | exact Below.refl _ _ | exact ⟨Nat.le_refl _, by decide, by rw [if_pos rfl]; exact Below.refl _ _⟩), hJ⟩
              case s13 =>
                intro p hp; obtain rfl : p = 0 := by simpa using hp
                intro x w' hJ hd; simp only [List.getD_cons_zero, List.getD_cons_succ, List.forall_mem_cons, List.forall_mem_nil, fillA, eqr, List.map_cons, List.map_nil, StR.any, fillT, List.setIfInBounds_toArray, List.set_cons_succ, List.set_cons_zero, Nat.reduceAdd, Nat.zero_add, eqv, and_true] at hd ⊢; try simp only [hd]
                obtain ⟨-, -, -, -, -, -, -, -, -, -, -, hd11, -⟩ := id hd; have hd11 : OwnS W8.heap.size w' (x 11) [] := (by first | exact hd11 | exact hd11 rfl | exact hd11 trivial); have hlo7 : lo2.length ≤ li2.length := by rw [hcat2.out]; simp
                go_wp2_with (at_builtin; refine wpList_append_strs (by simp [Region.wanted, yielded, hd] <;> omega) _ _ rfl W8.heap.size _ _ [] lo2 rfl rfl hd11 (hlo8.below hJ).at (by simp; omega) hJ.size ?_; intro v6 w6 hown hgrow hat)
                exact ⟨⟨_, rfl, by first | exact hown | exact ⟨by decide, fun _ => hown⟩⟩, (by first | exact hd11.under hgrow (Below.mono (Below.refl _ _) hJ.size) (Nat.le_refl _) hJ.size | exact ⟨by decide, by decide, hd11.under hgrow (Below.mono (Below.refl _ _) hJ.size) (Nat.le_refl _) hJ.size⟩), hd11.under hgrow hJ (Nat.le_refl _) hJ.size⟩
              case s14 =>
                intro p hp; obtain rfl | rfl | rfl : p = 0 ∨ p = 1 ∨ p = 2 := by simpa using hp
                · intro x w' hJ hd; simp only [List.getD_cons_zero, List.getD_cons_succ, List.forall_mem_cons, List.forall_mem_nil, fillA, eqr, List.map_cons, List.map_nil, StR.any, fillT, List.setIfInBounds_toArray, List.set_cons_succ, List.set_cons_zero, Nat.reduceAdd, Nat.zero_add, eqv, and_true] at hd ⊢; try simp only [hd]
                  have c3 := (Row.kept (show Row W8 _ _ from ⟨_, hB8⟩) hJ hlB8).cell
                  go_wp2_with (fail)
                  exact ⟨⟨_, rfl, rfl⟩, (by first | exact Below.refl _ _ | exact ⟨Nat.le_refl _, by decide, by rw [if_pos rfl]; exact Below.refl _ _⟩), hJ⟩
                · intro x w' hJ hd; simp only [List.getD_cons_zero, List.getD_cons_succ, List.forall_mem_cons, List.forall_mem_nil, fillA, eqr, List.map_cons, List.map_nil, StR.any, fillT, List.setIfInBounds_toArray, List.set_cons_succ, List.set_cons_zero, Nat.reduceAdd, Nat.zero_add, eqv, and_true] at hd ⊢; try simp only [hd]
                  have c3 := (Row.kept (show Row W8 _ _ from ⟨_, hB8⟩) hJ hlB8).cell
                  go_wp2_with (fail)
                  exact ⟨⟨_, rfl, rfl⟩, (by first | exact Below.refl _ _ | exact ⟨Nat.le_refl _, by decide, by rw [if_pos rfl]; exact Below.refl _ _⟩), hJ⟩
                · intro x w' hJ hd; simp only [List.getD_cons_zero, List.getD_cons_succ, List.forall_mem_cons, List.forall_mem_nil, fillA, eqr, List.map_cons, List.map_nil, StR.any, fillT, List.setIfInBounds_toArray, List.set_cons_succ, List.set_cons_zero, Nat.reduceAdd, Nat.zero_add, eqv, and_true] at hd ⊢; try simp only [hd]
                  have c3 := (Row.kept (show Row W8 _ _ from ⟨_, hB8⟩) hJ hlB8).cell
                  go_wp2_with (fail)
                  exact ⟨⟨_, rfl, rfl⟩, (by first | exact Below.refl _ _ | exact ⟨Nat.le_refl _, by decide, by rw [if_pos rfl]; exact Below.refl _ _⟩), hJ⟩
              case s15 =>
                intro p hp; obtain rfl : p = 1 := by simpa using hp
                intro x w' hJ hd; simp only [List.getD_cons_zero, List.getD_cons_succ, List.forall_mem_cons, List.forall_mem_nil, fillA, eqr, List.map_cons, List.map_nil, StR.any, fillT, List.setIfInBounds_toArray, List.set_cons_succ, List.set_cons_zero, Nat.reduceAdd, Nat.zero_add, eqv, and_true] at hd ⊢; try simp only [hd]
                obtain ⟨-, -, -, -, -, -, -, -, -, -, -, -, -, hd13, -⟩ := id hd; have hd13 : OwnS W8.heap.size w' (x 13) lo2 := (by first | exact hd13 | exact hd13.2 | exact hd13.2 rfl | exact hd13.2 trivial)
                go_wp2_with (go_at_call 17; refine (told_any _ l2 k2 _ hv2).mono ?_; rintro e w3 ⟨lv, rfl, hlv, hb⟩)
                exact ⟨⟨_, rfl, by first | exact ⟨_, hlv, fun k hk => (hd13.lt hk).2⟩ | exact ⟨by decide, fun _ => ⟨_, hlv, fun k hk => (hd13.lt hk).2⟩⟩⟩, (by first | exact hb | exact ⟨Nat.le_refl _, by decide, by rw [if_pos rfl]; exact hb⟩), hJ.trans (hb.mono hJ.size)⟩
              case s16 =>
                intro p hp; obtain rfl : p = 1 := by simpa using hp
                intro x w' hJ hd; simp only [List.getD_cons_zero, List.getD_cons_succ, List.forall_mem_cons, List.forall_mem_nil, fillA, eqr, List.map_cons, List.map_nil, StR.any, fillT, List.setIfInBounds_toArray, List.set_cons_succ, List.set_cons_zero, Nat.reduceAdd, Nat.zero_add, eqv, and_true] at hd ⊢; try simp only [hd]
                obtain ⟨-, -, -, -, -, -, -, -, -, -, -, -, -, hd13, -, hd15, -⟩ := id hd; have hd13 : OwnS W8.heap.size w' (x 13) lo2 := (by first | exact hd13 | exact hd13.2 | exact hd13.2 rfl | exact hd13.2 trivial); obtain ⟨n15, hd15, -⟩ : ∃ n, OwnS n w' (x 15) l2 ∧ _ := (by first | exact hd15 | exact hd15.2 | exact hd15.2 rfl | exact hd15.2 trivial); have hl7 : lo2.length + l2.length = li2.length := by rw [hcat2.out]; simp
                go_wp2_with (at_builtin; refine wpList_append_strs (by simp [Region.wanted, yielded, hd] <;> omega) _ _ rfl W8.heap.size _ _ lo2 l2 rfl rfl hd13 hd15.at (by omega) hJ.size ?_; intro v6 w6 hown hgrow hat)
                exact ⟨⟨_, rfl, by first | exact hown | exact ⟨rfl, hown⟩⟩, (by first | exact hd13.under hgrow (Below.mono (Below.refl _ _) hJ.size) (Nat.le_refl _) hJ.size | exact ⟨by decide, by decide, hd13.under hgrow (Below.mono (Below.refl _ _) hJ.size) (Nat.le_refl _) hJ.size⟩), hd13.under hgrow hJ (Nat.le_refl _) hJ.size⟩
              case s17 =>
                intro p hp; obtain rfl | rfl | rfl : p = 0 ∨ p = 1 ∨ p = 2 := by simpa using hp
                · intro x w' hJ hd; simp only [List.getD_cons_zero, List.getD_cons_succ, List.forall_mem_cons, List.forall_mem_nil, fillA, eqr, List.map_cons, List.map_nil, StR.any, fillT, List.setIfInBounds_toArray, List.set_cons_succ, List.set_cons_zero, Nat.reduceAdd, Nat.zero_add, eqv, and_true] at hd ⊢; try simp only [hd]
                  go_wp2_with (fail)
                  exact ⟨⟨_, rfl, rfl⟩, (by first | exact Below.refl _ _ | exact ⟨Nat.le_refl _, by decide, by rw [if_pos rfl]; exact Below.refl _ _⟩), hJ⟩
                · intro x w' hJ hd; simp only [List.getD_cons_zero, List.getD_cons_succ, List.forall_mem_cons, List.forall_mem_nil, fillA, eqr, List.map_cons, List.map_nil, StR.any, fillT, List.setIfInBounds_toArray, List.set_cons_succ, List.set_cons_zero, Nat.reduceAdd, Nat.zero_add, eqv, and_true] at hd ⊢; try simp only [hd]
                  go_wp2_with (fail)
                  exact ⟨⟨_, rfl, rfl⟩, (by first | exact Below.refl _ _ | exact ⟨Nat.le_refl _, by decide, by rw [if_pos rfl]; exact Below.refl _ _⟩), hJ⟩
                · intro x w' hJ hd; simp only [List.getD_cons_zero, List.getD_cons_succ, List.forall_mem_cons, List.forall_mem_nil, fillA, eqr, List.map_cons, List.map_nil, StR.any, fillT, List.setIfInBounds_toArray, List.set_cons_succ, List.set_cons_zero, Nat.reduceAdd, Nat.zero_add, eqv, and_true] at hd ⊢; try simp only [hd]
                  go_wp2_with (fail)
                  exact ⟨⟨_, rfl, rfl⟩, (by first | exact Below.refl _ _ | exact ⟨Nat.le_refl _, by decide, by rw [if_pos rfl]; exact Below.refl _ _⟩), hJ⟩
              case s18 =>
                intro p hp; obtain rfl : p = 2 := by simpa using hp
                intro x w' hJ hd; simp only [List.getD_cons_zero, List.getD_cons_succ, List.forall_mem_cons, List.forall_mem_nil, fillA, eqr, List.map_cons, List.map_nil, StR.any, fillT, List.setIfInBounds_toArray, List.set_cons_succ, List.set_cons_zero, Nat.reduceAdd, Nat.zero_add, eqv, and_true] at hd ⊢; try simp only [hd]
                obtain ⟨-, -, -, -, -, -, -, -, -, -, -, -, -, -, -, -, hd16, -⟩ := id hd; have hd16 : OwnS W8.heap.size w' (x 16) (lo2 ++ l2) := (by first | exact hd16 | exact hd16.2)
                go_wp2_with (go_at_call 16; refine (same_any _ _ (lo2 ++ l2) li2 _ hd16.at (hli8.below hJ).at (by unfold maxLen; rw [← hcat2.out]; omega)).mono ?_; rintro e w3 ⟨⟨rfl, hb⟩⟩)
                exact ⟨⟨_, rfl, by rw [decide_eq_true hcat2.out.symm]⟩, (by first | exact hb | exact ⟨Nat.le_refl _, by decide, by rw [if_pos rfl]; exact hb⟩), hJ.trans (hb.mono hJ.size)⟩
              case s19 =>
                intro p hp; obtain rfl : p = 2 := by simpa using hp
                intro x w' hJ hd; simp only [List.getD_cons_zero, List.getD_cons_succ, List.forall_mem_cons, List.forall_mem_nil, fillA, eqr, List.map_cons, List.map_nil, StR.any, fillT, List.setIfInBounds_toArray, List.set_cons_succ, List.set_cons_zero, Nat.reduceAdd, Nat.zero_add, eqv, and_true] at hd ⊢; try simp only [hd]
                go_wp2_with (fail)
                exact ⟨⟨_, rfl, rfl⟩, (by first | exact Below.refl _ _ | exact ⟨Nat.le_refl _, by decide, by rw [if_pos rfl]; exact Below.refl _ _⟩), hJ⟩
              case s20 =>
                intro x w' hJ hd; simp only [RsAll, eqr, List.map_cons, List.map_nil, StR.any, List.take_succ_cons, List.take_zero, fillA, fillT, List.setIfInBounds_toArray, List.set_cons_succ, List.set_cons_zero, Nat.reduceAdd, Nat.zero_add, eqv, and_true] at hd ⊢; try simp only [hd]
                clear hd
                go_wp2_with fail
                go_roundw
                case rel => exact ⟨j + 1, li2, lo2, l2, k2, by omega, by go_num, hli8.below hJ, hlo8.below hJ, hap2.out, hcat2.out, hlen2, ⟨t0, t1, t2, t3, t4, t5, t6, t7, f2, n2, blk_kept hB8 hJ hlB8, hv2⟩, hC8.trans (hJ.mono hC8.size), Nat.lt_of_lt_of_le hlB8 hJ.size⟩
                case measure => simp [intOf]; omega
      · obtain rfl : j = A.length := by omega
        go_wp2_with (go_at_call 12; refine (awake_any _).mono ?_; rintro e w3 ⟨rfl, hb3⟩)
        go_ret
        exact ⟨rfl, hC.trans (hb3.mono hC.size)⟩
end Go.Proofs.Ytgdpahojinknmaa
