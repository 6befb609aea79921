/- The walk over the ring's Push. -/
import Derived.Test.YtgdpahojinknmaaChecked
import Derived.WalkKit
import Derived.WalkLawsBesides
import Derived.WalkSpells
import Derived.RegionTactic
import Derived.ChangeAlike
import Derived.Outline
import Derived.Below
import Derived.Lib.Hide
import Derived.OwnWalk
import Derived.Deep.QuietTactic
import Derived.BigQuiet
import Derived.StillTailTactics
import Derived.Deep.RegionHeld3
import Derived.Laws.Rows
import Derived.Test.YtgdpahojinknmaaReg
import Derived.Test.YtgdpahojinknmaaMem
import Derived.Test.YtgdpahojinknmaaRingW
import Derived.Test.YtgdpahojinknmaaRingM
namespace Go.Proofs.Ytgdpahojinknmaa
open Go.RowKit
set_option linter.unusedSimpArgs false

set_option maxRecDepth 100000 in
set_option maxHeartbeats 4000000 in
theorem push_ok (s0 s1 s2 s3 s4 s5 s6 s7 : ByteArray) (f n k : Nat) (v : Value) (sb : ByteArray) (w : World) (hf' : f < 8) (hn' : n < k) (hk : k ≤ 8)
    (hv : BytesAt w v sb) (h1 : 1 ≤ sb.size) (h2 : sb.size ≤ 32) :
    Calls Try.prog 13 #[rg s0 s1 s2 s3 s4 s5 s6 s7 f n k, v] w <| Post fun e w' =>
      ∃ v', e = .returned (.tuple #[v', .int .i64 0]) ∧ RingV v' (cont [s0, s1, s2, s3, s4, s5, s6, s7] f n ++ [sb]) k ∧ Below w.heap.size w w' := by
  have hv' := hv
  obtain ⟨a, cap, rfl, _⟩ := hv'
  have hk0 : ((k : Int) == 0) = false := by simp; omega
  have hnk : ((n : Int) == (k : Int)) = false := by simp; omega
  have hl1 : decide ((sb.size : Int) < 1) = false := by simp; omega
  have hi0 : 0 ≤ ((f : Int) + n) % 8 := by omega
  have hi1 : ((f : Int) + n) % 8 < 8 := by omega
  have hl2 : decide (32 < (sb.size : Int)) = false := by simp; omega
  go_enter Try.func13, Try.ntmps13
  go_wp2_with fail
  generalize hW : World.alloc _ _ = W
  obtain ⟨H0, H1, HZ, HB⟩ := heap_of2 hW
  clear hW
  replace HZ := Lib.hid HZ
  have B0 := fun w' (h : Below W.heap.size W w') => blk_cell H0 h (by rw [HZ.out]; omega)
  have F0 := fun w' (h : Below W.heap.size W w') => blk_free H0 h (by rw [HZ.out]; omega)
  have hc := fun w' (h : Below W.heap.size W w') => ((hv.below HB).below h).conv (P := Try.prog) 32 5 9 Try.underlying32 Try.underlying5 Try.underlying9
  apply wp_region_last [[], [], [1], [0, 1, 2], [], [4], [], [0, 1, 2, 3, 4, 5, 6], [0, 1, 2, 3, 4, 5, 6, 7]] (fun _ _ => True) [eqv _, eqv _, eqv _, eqv _, eqv _, eqv _, eqv _, eqv _] (fun w' => Below W.heap.size W w')
  case hm => kernel_rfl
  case hok => decide +kernel
  case h0 => exact (Below.refl _ _).drew
  case hstep =>
    refine ⟨?s0, ?s1, ?s2, ?s3, ?s4, ?s5, ?s6, ?s7, ?s8⟩
    case s0 =>
      intro x w' hJ hd; simp only [List.getD_cons_zero, List.getD_cons_succ, List.forall_mem_cons, List.forall_mem_nil, fillA, fillT, List.setIfInBounds_toArray, List.set_cons_succ, List.set_cons_zero, Nat.reduceAdd, Nat.zero_add, eqv, and_true] at hd ⊢; try simp only [hd]
      go_wp2_with (fail)
      exact ⟨⟨_, rfl, rfl⟩, trivial, by first | exact hJ | exact hJ.trans (Below.mono hb1 hJ.size)⟩
    case s1 =>
      intro x w' hJ hd; simp only [List.getD_cons_zero, List.getD_cons_succ, List.forall_mem_cons, List.forall_mem_nil, fillA, fillT, List.setIfInBounds_toArray, List.set_cons_succ, List.set_cons_zero, Nat.reduceAdd, Nat.zero_add, eqv, and_true] at hd ⊢; try simp only [hd]
      go_wp2_with (fail)
      exact ⟨⟨_, rfl, rfl⟩, trivial, by first | exact hJ | exact hJ.trans (Below.mono hb1 hJ.size)⟩
    case s2 =>
      intro x w' hJ hd; simp only [List.getD_cons_zero, List.getD_cons_succ, List.forall_mem_cons, List.forall_mem_nil, fillA, fillT, List.setIfInBounds_toArray, List.set_cons_succ, List.set_cons_zero, Nat.reduceAdd, Nat.zero_add, eqv, and_true] at hd ⊢; try simp only [hd]
      go_wp2_with (fail)
      exact ⟨⟨_, rfl, rfl⟩, trivial, by first | exact hJ | exact hJ.trans (Below.mono hb1 hJ.size)⟩
    case s3 =>
      intro x w' hJ hd; simp only [List.getD_cons_zero, List.getD_cons_succ, List.forall_mem_cons, List.forall_mem_nil, fillA, fillT, List.setIfInBounds_toArray, List.set_cons_succ, List.set_cons_zero, Nat.reduceAdd, Nat.zero_add, eqv, and_true] at hd ⊢; try simp only [hd]
      go_wp2_with (go_at_call 45; refine (at_any s0 s1 s2 s3 s4 s5 s6 s7 (f : Int) (n : Int) (k : Int) (n : Int) _ (by omega) (by omega) (by omega) (by omega)).mono ?_; rintro e w1 ⟨rfl, hb1⟩)
      exact ⟨⟨_, rfl, rfl⟩, trivial, by first | exact hJ | exact hJ.trans (Below.mono hb1 hJ.size)⟩
    case s4 =>
      intro x w' hJ hd; simp only [List.getD_cons_zero, List.getD_cons_succ, List.forall_mem_cons, List.forall_mem_nil, fillA, fillT, List.setIfInBounds_toArray, List.set_cons_succ, List.set_cons_zero, Nat.reduceAdd, Nat.zero_add, eqv, and_true] at hd ⊢; try simp only [hd]
      go_wp2_with (fail)
      exact ⟨⟨_, rfl, rfl⟩, trivial, by first | exact hJ | exact hJ.trans (Below.mono hb1 hJ.size)⟩
    case s5 =>
      intro x w' hJ hd; simp only [List.getD_cons_zero, List.getD_cons_succ, List.forall_mem_cons, List.forall_mem_nil, fillA, fillT, List.setIfInBounds_toArray, List.set_cons_succ, List.set_cons_zero, Nat.reduceAdd, Nat.zero_add, eqv, and_true] at hd ⊢; try simp only [hd]
      go_wp2_with (fail)
      exact ⟨⟨_, rfl, rfl⟩, trivial, by first | exact hJ | exact hJ.trans (Below.mono hb1 hJ.size)⟩
    case s6 =>
      intro x w' hJ hd; simp only [List.getD_cons_zero, List.getD_cons_succ, List.forall_mem_cons, List.forall_mem_nil, fillA, fillT, List.setIfInBounds_toArray, List.set_cons_succ, List.set_cons_zero, Nat.reduceAdd, Nat.zero_add, eqv, and_true] at hd ⊢; try simp only [hd]
      go_wp2_with (fail)
      exact ⟨⟨_, rfl, rfl⟩, trivial, by first | exact hJ | exact hJ.trans (Below.mono hb1 hJ.size)⟩
    case s7 =>
      intro x w' hJ hd; simp only [List.getD_cons_zero, List.getD_cons_succ, List.forall_mem_cons, List.forall_mem_nil, fillA, fillT, List.setIfInBounds_toArray, List.set_cons_succ, List.set_cons_zero, Nat.reduceAdd, Nat.zero_add, eqv, and_true] at hd ⊢; try simp only [hd]
      go_wp2_with (fail)
      exact ⟨⟨_, rfl, rfl⟩, trivial, by first | exact hJ | exact hJ.trans (Below.mono hb1 hJ.size)⟩
    case s8 =>
      intro x w' hJ hd
      simp only [VsAll, List.take_succ_cons, List.take_zero, fillA, fillT, List.setIfInBounds_toArray, List.set_cons_succ, List.set_cons_zero, Nat.reduceAdd, Nat.zero_add, eqv, and_true] at hd ⊢
      simp only [hd]
      clear hd
      obtain ⟨w2, rfl, r0, r1, r2, hw2⟩ := open_row2 (blk_kept (B := w.heap.size) H0 hJ (by rw [HZ.out]; omega)) (blk_kept (B := w.heap.size + 1) H1 hJ (by rw [HZ.out]; omega))
      have hB : Below w.heap.size w w2 := HB.trans ((hw2 ▸ hJ : Below W.heap.size W w2).mono HB.size)
      clear B0 F0 hc hJ hw2 H0 H1
      have hi : (f + n) % 8 = 0 ∨ (f + n) % 8 = 1 ∨ (f + n) % 8 = 2 ∨ (f + n) % 8 = 3 ∨ (f + n) % 8 = 4 ∨ (f + n) % 8 = 5 ∨ (f + n) % 8 = 6 ∨ (f + n) % 8 = 7 := by omega
      have hcp := cont_push [s0, s1, s2, s3, s4, s5, s6, s7] f n sb rfl (by omega)
      clear hi0 hi1
      generalize (f + n) % 8 = i at hi hcp ⊢
      rcases hi with rfl | rfl | rfl | rfl | rfl | rfl | rfl | rfl
      case inl =>
        have hc : Hid (cont [sb, s1, s2, s3, s4, s5, s6, s7] f (n + 1) = _) := hcp
        clear hcp
        go_wp2
        refine bodyPost_ret (v := .tuple #[rg sb s1 s2 s3 s4 s5 s6 s7 f ((n + 1 : Nat) : Int) k, .int .i64 0]) ?_ rfl (Post.mk ⟨_, rfl, ⟨sb, s1, s2, s3, s4, s5, s6, s7, f, n + 1, rfl, hf', by omega, hk, hc.out.symm⟩, ?_⟩)
        · simp [results, Try.results13, go_sem, r0, r1, r2]
        · exact below_rows (below_rows hB (by omega) _) (by omega) _
      case inr.inl =>
        have hc : Hid (cont [s0, sb, s2, s3, s4, s5, s6, s7] f (n + 1) = _) := hcp
        clear hcp
        go_wp2
        refine bodyPost_ret (v := .tuple #[rg s0 sb s2 s3 s4 s5 s6 s7 f ((n + 1 : Nat) : Int) k, .int .i64 0]) ?_ rfl (Post.mk ⟨_, rfl, ⟨s0, sb, s2, s3, s4, s5, s6, s7, f, n + 1, rfl, hf', by omega, hk, hc.out.symm⟩, ?_⟩)
        · simp [results, Try.results13, go_sem, r0, r1, r2]
        · exact below_rows (below_rows hB (by omega) _) (by omega) _
      case inr.inr.inl =>
        have hc : Hid (cont [s0, s1, sb, s3, s4, s5, s6, s7] f (n + 1) = _) := hcp
        clear hcp
        go_wp2
        refine bodyPost_ret (v := .tuple #[rg s0 s1 sb s3 s4 s5 s6 s7 f ((n + 1 : Nat) : Int) k, .int .i64 0]) ?_ rfl (Post.mk ⟨_, rfl, ⟨s0, s1, sb, s3, s4, s5, s6, s7, f, n + 1, rfl, hf', by omega, hk, hc.out.symm⟩, ?_⟩)
        · simp [results, Try.results13, go_sem, r0, r1, r2]
        · exact below_rows (below_rows hB (by omega) _) (by omega) _
      case inr.inr.inr.inl =>
        have hc : Hid (cont [s0, s1, s2, sb, s4, s5, s6, s7] f (n + 1) = _) := hcp
        clear hcp
        go_wp2
        refine bodyPost_ret (v := .tuple #[rg s0 s1 s2 sb s4 s5 s6 s7 f ((n + 1 : Nat) : Int) k, .int .i64 0]) ?_ rfl (Post.mk ⟨_, rfl, ⟨s0, s1, s2, sb, s4, s5, s6, s7, f, n + 1, rfl, hf', by omega, hk, hc.out.symm⟩, ?_⟩)
        · simp [results, Try.results13, go_sem, r0, r1, r2]
        · exact below_rows (below_rows hB (by omega) _) (by omega) _
      case inr.inr.inr.inr.inl =>
        have hc : Hid (cont [s0, s1, s2, s3, sb, s5, s6, s7] f (n + 1) = _) := hcp
        clear hcp
        go_wp2
        refine bodyPost_ret (v := .tuple #[rg s0 s1 s2 s3 sb s5 s6 s7 f ((n + 1 : Nat) : Int) k, .int .i64 0]) ?_ rfl (Post.mk ⟨_, rfl, ⟨s0, s1, s2, s3, sb, s5, s6, s7, f, n + 1, rfl, hf', by omega, hk, hc.out.symm⟩, ?_⟩)
        · simp [results, Try.results13, go_sem, r0, r1, r2]
        · exact below_rows (below_rows hB (by omega) _) (by omega) _
      case inr.inr.inr.inr.inr.inl =>
        have hc : Hid (cont [s0, s1, s2, s3, s4, sb, s6, s7] f (n + 1) = _) := hcp
        clear hcp
        go_wp2
        refine bodyPost_ret (v := .tuple #[rg s0 s1 s2 s3 s4 sb s6 s7 f ((n + 1 : Nat) : Int) k, .int .i64 0]) ?_ rfl (Post.mk ⟨_, rfl, ⟨s0, s1, s2, s3, s4, sb, s6, s7, f, n + 1, rfl, hf', by omega, hk, hc.out.symm⟩, ?_⟩)
        · simp [results, Try.results13, go_sem, r0, r1, r2]
        · exact below_rows (below_rows hB (by omega) _) (by omega) _
      case inr.inr.inr.inr.inr.inr.inl =>
        have hc : Hid (cont [s0, s1, s2, s3, s4, s5, sb, s7] f (n + 1) = _) := hcp
        clear hcp
        go_wp2
        refine bodyPost_ret (v := .tuple #[rg s0 s1 s2 s3 s4 s5 sb s7 f ((n + 1 : Nat) : Int) k, .int .i64 0]) ?_ rfl (Post.mk ⟨_, rfl, ⟨s0, s1, s2, s3, s4, s5, sb, s7, f, n + 1, rfl, hf', by omega, hk, hc.out.symm⟩, ?_⟩)
        · simp [results, Try.results13, go_sem, r0, r1, r2]
        · exact below_rows (below_rows hB (by omega) _) (by omega) _
      case inr.inr.inr.inr.inr.inr.inr =>
        have hc : Hid (cont [s0, s1, s2, s3, s4, s5, s6, sb] f (n + 1) = _) := hcp
        clear hcp
        go_wp2
        refine bodyPost_ret (v := .tuple #[rg s0 s1 s2 s3 s4 s5 s6 sb f ((n + 1 : Nat) : Int) k, .int .i64 0]) ?_ rfl (Post.mk ⟨_, rfl, ⟨s0, s1, s2, s3, s4, s5, s6, sb, f, n + 1, rfl, hf', by omega, hk, hc.out.symm⟩, ?_⟩)
        · simp [results, Try.results13, go_sem, r0, r1, r2]
        · exact below_rows (below_rows hB (by omega) _) (by omega) _

theorem push_any (v bv : Value) (l : List ByteArray) (k : Nat) (sb : ByteArray) (w : World) (hv : RingV v l k) (hb : BytesAt w bv sb) :
    Calls Try.prog 13 #[v, bv] w fun e w' =>
      ∃ v', e = .returned (.tuple #[v', .int .i64 (mPush l k sb).2]) ∧ RingV v' (mPush l k sb).1 k ∧ Below w.heap.size w w' := by
  have hv0 := hv
  have hb0 := hb
  obtain ⟨s0, s1, s2, s3, s4, s5, s6, s7, f, n, rfl, hf, h1, h2, rfl⟩ := hv
  obtain ⟨a, cap, rfl, _⟩ := hb
  unfold mPush
  rw [cont_length]
  by_cases hk : k = 0
  · rw [if_pos (Or.inl hk)]
    subst hk
    go_enter Try.func13, Try.ntmps13
    go_wp2_with fail
    refine bodyPost_ret (v := .tuple #[rg s0 s1 s2 s3 s4 s5 s6 s7 f n 0, .int .i64 1]) ?_ rfl ⟨_, rfl, hv0, ?_⟩
    · simp [results, Try.results13, go_sem]
    · exact ((Below.refl _ _).alloc (Nat.le_refl _) _).alloc (by simp) _
  · have hk0 : ((k : Int) == 0) = false := by simp; omega
    by_cases hl : sb.size < 1
    · rw [if_pos (Or.inr (Or.inl hl))]
      have hl1 : decide ((sb.size : Int) < 1) = true := by simp; omega
      clear hk hl
      go_enter Try.func13, Try.ntmps13
      go_wp2_with fail
      refine bodyPost_ret (v := .tuple #[rg s0 s1 s2 s3 s4 s5 s6 s7 f n k, .int .i64 1]) ?_ rfl ⟨_, rfl, hv0, ?_⟩
      · simp [results, Try.results13, go_sem]
      · exact ((Below.refl _ _).alloc (Nat.le_refl _) _).alloc (by simp) _
    · have hl1 : decide ((sb.size : Int) < 1) = false := by simp; omega
      by_cases hm : 32 < sb.size
      · rw [if_pos (Or.inr (Or.inr hm))]
        have hl2 : decide (32 < (sb.size : Int)) = true := by simp; omega
        clear hk hl hm
        go_enter Try.func13, Try.ntmps13
        go_wp2_with fail
        refine bodyPost_ret (v := .tuple #[rg s0 s1 s2 s3 s4 s5 s6 s7 f n k, .int .i64 1]) ?_ rfl ⟨_, rfl, hv0, ?_⟩
        · simp [results, Try.results13, go_sem]
        · exact ((Below.refl _ _).alloc (Nat.le_refl _) _).alloc (by simp) _
      · rw [if_neg (by omega)]
        by_cases hn : n = k
        · rw [if_pos hn]
          have hl2 : decide (32 < (sb.size : Int)) = false := by simp; omega
          have hnk : ((n : Int) == (k : Int)) = true := by simp; omega
          clear hk hl hm hn
          go_enter Try.func13, Try.ntmps13
          go_wp2_with fail
          refine bodyPost_ret (v := .tuple #[rg s0 s1 s2 s3 s4 s5 s6 s7 f n k, .int .i64 2]) ?_ rfl ⟨_, rfl, hv0, ?_⟩
          · simp [results, Try.results13, go_sem]
          · exact ((Below.refl _ _).alloc (Nat.le_refl _) _).alloc (by simp) _
        · rw [if_neg hn]
          exact push_ok s0 s1 s2 s3 s4 s5 s6 s7 f n k _ sb w hf (by omega) h2 hb0 (by omega) (by omega)
end Go.Proofs.Ytgdpahojinknmaa
