/- The walk over the ring's Pop. -/
import Derived.Test.YtgdpahojinknmaaChecked
import Derived.WalkKit
import Derived.WalkLawsBesides
import Derived.WalkSpells
import Derived.RegionTactic
import Derived.ChangeAlike
import Derived.Outline
import Derived.Below
import Derived.Lib.Hide
import Derived.OwnWalk
import Derived.Deep.QuietTactic
import Derived.BigQuiet
import Derived.StillTailTactics
import Derived.Deep.RegionHeld3
import Derived.Laws.Rows
import Derived.Test.YtgdpahojinknmaaReg
import Derived.Test.YtgdpahojinknmaaMem
import Derived.Test.YtgdpahojinknmaaRingW
import Derived.Test.YtgdpahojinknmaaRingM
namespace Go.Proofs.Ytgdpahojinknmaa
open Go.RowKit
set_option linter.unusedSimpArgs false


set_option maxRecDepth 100000 in
set_option maxHeartbeats 4000000 in
theorem pop_0 (s0 s1 s2 s3 s4 s5 s6 s7 : ByteArray) (m k : Nat) (w : World) (hn' : m + 1 ≤ k) (hk : k ≤ 8) :
    Calls Try.prog 14 #[rg s0 s1 s2 s3 s4 s5 s6 s7 0 ((m + 1 : Nat) : Int) k] w <| Post fun e w' =>
      ∃ bv, e = .returned (.tuple #[rg ⟨#[]⟩ s1 s2 s3 s4 s5 s6 s7 1 m k, bv, .int .i64 0]) ∧ BytesNew w.heap.size w' bv s0 ∧ Below w.heap.size w w' := by
  have hn0 : (((m + 1 : Nat) : Int) == 0) = false := by simp; omega
  go_enter Try.func14, Try.ntmps14
  go_wp2_with fail
  refine (at_any _ _ _ _ _ _ _ _ _ _ _ _ _ (by omega) (by omega) (by omega) (by omega)).mono ?_
  rintro e w1 ⟨rfl, hb1⟩
  obtain ⟨w2, rfl, r0, r1, hB, hz⟩ := after2 hb1
  clear hb1
  go_wp2_with (refine wpList_sb rfl 9 32 5 _ rfl _ rfl Try.underlying9 Try.underlying32 Try.underlying5 ?_; intro cap w3 hbn hb3 _; obtain ⟨w4, rfl, r3, r4, hB4, hz4⟩ := again2 hb3 r0 r1 (by omega); clear hb3 r0 r1)
  simp only [setRow_size] at hbn
  refine bodyPost_ret (v := .tuple #[rg ⟨#[]⟩ s1 s2 s3 s4 s5 s6 s7 1 m k, .slice (some ⟨w2.heap.size, 0, none⟩) s0.size cap, .int .i64 0]) ?_ rfl (Post.mk ⟨_, rfl, ?_, ?_⟩)
  · simp [results, Try.results14, go_sem, r3, r4]
  · exact hbn.rows2 (by omega) (by omega) (by omega) _ _
  · exact below_rows (below_rows (below_unrows hB hB4 (by omega) (by omega) hB.size) (by omega) _) (by omega) _

set_option maxRecDepth 100000 in
set_option maxHeartbeats 4000000 in
theorem pop_1 (s0 s1 s2 s3 s4 s5 s6 s7 : ByteArray) (m k : Nat) (w : World) (hn' : m + 1 ≤ k) (hk : k ≤ 8) :
    Calls Try.prog 14 #[rg s0 s1 s2 s3 s4 s5 s6 s7 1 ((m + 1 : Nat) : Int) k] w <| Post fun e w' =>
      ∃ bv, e = .returned (.tuple #[rg s0 ⟨#[]⟩ s2 s3 s4 s5 s6 s7 2 m k, bv, .int .i64 0]) ∧ BytesNew w.heap.size w' bv s1 ∧ Below w.heap.size w w' := by
  have hn0 : (((m + 1 : Nat) : Int) == 0) = false := by simp; omega
  go_enter Try.func14, Try.ntmps14
  go_wp2_with fail
  refine (at_any _ _ _ _ _ _ _ _ _ _ _ _ _ (by omega) (by omega) (by omega) (by omega)).mono ?_
  rintro e w1 ⟨rfl, hb1⟩
  obtain ⟨w2, rfl, r0, r1, hB, hz⟩ := after2 hb1
  clear hb1
  go_wp2_with (refine wpList_sb rfl 9 32 5 _ rfl _ rfl Try.underlying9 Try.underlying32 Try.underlying5 ?_; intro cap w3 hbn hb3 _; obtain ⟨w4, rfl, r3, r4, hB4, hz4⟩ := again2 hb3 r0 r1 (by omega); clear hb3 r0 r1)
  simp only [setRow_size] at hbn
  refine bodyPost_ret (v := .tuple #[rg s0 ⟨#[]⟩ s2 s3 s4 s5 s6 s7 2 m k, .slice (some ⟨w2.heap.size, 0, none⟩) s1.size cap, .int .i64 0]) ?_ rfl (Post.mk ⟨_, rfl, ?_, ?_⟩)
  · simp [results, Try.results14, go_sem, r3, r4]
  · exact hbn.rows2 (by omega) (by omega) (by omega) _ _
  · exact below_rows (below_rows (below_unrows hB hB4 (by omega) (by omega) hB.size) (by omega) _) (by omega) _

set_option maxRecDepth 100000 in
set_option maxHeartbeats 4000000 in
theorem pop_2 (s0 s1 s2 s3 s4 s5 s6 s7 : ByteArray) (m k : Nat) (w : World) (hn' : m + 1 ≤ k) (hk : k ≤ 8) :
    Calls Try.prog 14 #[rg s0 s1 s2 s3 s4 s5 s6 s7 2 ((m + 1 : Nat) : Int) k] w <| Post fun e w' =>
      ∃ bv, e = .returned (.tuple #[rg s0 s1 ⟨#[]⟩ s3 s4 s5 s6 s7 3 m k, bv, .int .i64 0]) ∧ BytesNew w.heap.size w' bv s2 ∧ Below w.heap.size w w' := by
  have hn0 : (((m + 1 : Nat) : Int) == 0) = false := by simp; omega
  go_enter Try.func14, Try.ntmps14
  go_wp2_with fail
  refine (at_any _ _ _ _ _ _ _ _ _ _ _ _ _ (by omega) (by omega) (by omega) (by omega)).mono ?_
  rintro e w1 ⟨rfl, hb1⟩
  obtain ⟨w2, rfl, r0, r1, hB, hz⟩ := after2 hb1
  clear hb1
  go_wp2_with (refine wpList_sb rfl 9 32 5 _ rfl _ rfl Try.underlying9 Try.underlying32 Try.underlying5 ?_; intro cap w3 hbn hb3 _; obtain ⟨w4, rfl, r3, r4, hB4, hz4⟩ := again2 hb3 r0 r1 (by omega); clear hb3 r0 r1)
  simp only [setRow_size] at hbn
  refine bodyPost_ret (v := .tuple #[rg s0 s1 ⟨#[]⟩ s3 s4 s5 s6 s7 3 m k, .slice (some ⟨w2.heap.size, 0, none⟩) s2.size cap, .int .i64 0]) ?_ rfl (Post.mk ⟨_, rfl, ?_, ?_⟩)
  · simp [results, Try.results14, go_sem, r3, r4]
  · exact hbn.rows2 (by omega) (by omega) (by omega) _ _
  · exact below_rows (below_rows (below_unrows hB hB4 (by omega) (by omega) hB.size) (by omega) _) (by omega) _

set_option maxRecDepth 100000 in
set_option maxHeartbeats 4000000 in
theorem pop_3 (s0 s1 s2 s3 s4 s5 s6 s7 : ByteArray) (m k : Nat) (w : World) (hn' : m + 1 ≤ k) (hk : k ≤ 8) :
    Calls Try.prog 14 #[rg s0 s1 s2 s3 s4 s5 s6 s7 3 ((m + 1 : Nat) : Int) k] w <| Post fun e w' =>
      ∃ bv, e = .returned (.tuple #[rg s0 s1 s2 ⟨#[]⟩ s4 s5 s6 s7 4 m k, bv, .int .i64 0]) ∧ BytesNew w.heap.size w' bv s3 ∧ Below w.heap.size w w' := by
  have hn0 : (((m + 1 : Nat) : Int) == 0) = false := by simp; omega
  go_enter Try.func14, Try.ntmps14
  go_wp2_with fail
  refine (at_any _ _ _ _ _ _ _ _ _ _ _ _ _ (by omega) (by omega) (by omega) (by omega)).mono ?_
  rintro e w1 ⟨rfl, hb1⟩
  obtain ⟨w2, rfl, r0, r1, hB, hz⟩ := after2 hb1
  clear hb1
  go_wp2_with (refine wpList_sb rfl 9 32 5 _ rfl _ rfl Try.underlying9 Try.underlying32 Try.underlying5 ?_; intro cap w3 hbn hb3 _; obtain ⟨w4, rfl, r3, r4, hB4, hz4⟩ := again2 hb3 r0 r1 (by omega); clear hb3 r0 r1)
  simp only [setRow_size] at hbn
  refine bodyPost_ret (v := .tuple #[rg s0 s1 s2 ⟨#[]⟩ s4 s5 s6 s7 4 m k, .slice (some ⟨w2.heap.size, 0, none⟩) s3.size cap, .int .i64 0]) ?_ rfl (Post.mk ⟨_, rfl, ?_, ?_⟩)
  · simp [results, Try.results14, go_sem, r3, r4]
  · exact hbn.rows2 (by omega) (by omega) (by omega) _ _
  · exact below_rows (below_rows (below_unrows hB hB4 (by omega) (by omega) hB.size) (by omega) _) (by omega) _

set_option maxRecDepth 100000 in
set_option maxHeartbeats 4000000 in
theorem pop_4 (s0 s1 s2 s3 s4 s5 s6 s7 : ByteArray) (m k : Nat) (w : World) (hn' : m + 1 ≤ k) (hk : k ≤ 8) :
    Calls Try.prog 14 #[rg s0 s1 s2 s3 s4 s5 s6 s7 4 ((m + 1 : Nat) : Int) k] w <| Post fun e w' =>
      ∃ bv, e = .returned (.tuple #[rg s0 s1 s2 s3 ⟨#[]⟩ s5 s6 s7 5 m k, bv, .int .i64 0]) ∧ BytesNew w.heap.size w' bv s4 ∧ Below w.heap.size w w' := by
  have hn0 : (((m + 1 : Nat) : Int) == 0) = false := by simp; omega
  go_enter Try.func14, Try.ntmps14
  go_wp2_with fail
  refine (at_any _ _ _ _ _ _ _ _ _ _ _ _ _ (by omega) (by omega) (by omega) (by omega)).mono ?_
  rintro e w1 ⟨rfl, hb1⟩
  obtain ⟨w2, rfl, r0, r1, hB, hz⟩ := after2 hb1
  clear hb1
  go_wp2_with (refine wpList_sb rfl 9 32 5 _ rfl _ rfl Try.underlying9 Try.underlying32 Try.underlying5 ?_; intro cap w3 hbn hb3 _; obtain ⟨w4, rfl, r3, r4, hB4, hz4⟩ := again2 hb3 r0 r1 (by omega); clear hb3 r0 r1)
  simp only [setRow_size] at hbn
  refine bodyPost_ret (v := .tuple #[rg s0 s1 s2 s3 ⟨#[]⟩ s5 s6 s7 5 m k, .slice (some ⟨w2.heap.size, 0, none⟩) s4.size cap, .int .i64 0]) ?_ rfl (Post.mk ⟨_, rfl, ?_, ?_⟩)
  · simp [results, Try.results14, go_sem, r3, r4]
  · exact hbn.rows2 (by omega) (by omega) (by omega) _ _
  · exact below_rows (below_rows (below_unrows hB hB4 (by omega) (by omega) hB.size) (by omega) _) (by omega) _

set_option maxRecDepth 100000 in
set_option maxHeartbeats 4000000 in
theorem pop_5 (s0 s1 s2 s3 s4 s5 s6 s7 : ByteArray) (m k : Nat) (w : World) (hn' : m + 1 ≤ k) (hk : k ≤ 8) :
    Calls Try.prog 14 #[rg s0 s1 s2 s3 s4 s5 s6 s7 5 ((m + 1 : Nat) : Int) k] w <| Post fun e w' =>
      ∃ bv, e = .returned (.tuple #[rg s0 s1 s2 s3 s4 ⟨#[]⟩ s6 s7 6 m k, bv, .int .i64 0]) ∧ BytesNew w.heap.size w' bv s5 ∧ Below w.heap.size w w' := by
  have hn0 : (((m + 1 : Nat) : Int) == 0) = false := by simp; omega
  go_enter Try.func14, Try.ntmps14
  go_wp2_with fail
  refine (at_any _ _ _ _ _ _ _ _ _ _ _ _ _ (by omega) (by omega) (by omega) (by omega)).mono ?_
  rintro e w1 ⟨rfl, hb1⟩
  obtain ⟨w2, rfl, r0, r1, hB, hz⟩ := after2 hb1
  clear hb1
  go_wp2_with (refine wpList_sb rfl 9 32 5 _ rfl _ rfl Try.underlying9 Try.underlying32 Try.underlying5 ?_; intro cap w3 hbn hb3 _; obtain ⟨w4, rfl, r3, r4, hB4, hz4⟩ := again2 hb3 r0 r1 (by omega); clear hb3 r0 r1)
  simp only [setRow_size] at hbn
  refine bodyPost_ret (v := .tuple #[rg s0 s1 s2 s3 s4 ⟨#[]⟩ s6 s7 6 m k, .slice (some ⟨w2.heap.size, 0, none⟩) s5.size cap, .int .i64 0]) ?_ rfl (Post.mk ⟨_, rfl, ?_, ?_⟩)
  · simp [results, Try.results14, go_sem, r3, r4]
  · exact hbn.rows2 (by omega) (by omega) (by omega) _ _
  · exact below_rows (below_rows (below_unrows hB hB4 (by omega) (by omega) hB.size) (by omega) _) (by omega) _

set_option maxRecDepth 100000 in
set_option maxHeartbeats 4000000 in
theorem pop_6 (s0 s1 s2 s3 s4 s5 s6 s7 : ByteArray) (m k : Nat) (w : World) (hn' : m + 1 ≤ k) (hk : k ≤ 8) :
    Calls Try.prog 14 #[rg s0 s1 s2 s3 s4 s5 s6 s7 6 ((m + 1 : Nat) : Int) k] w <| Post fun e w' =>
      ∃ bv, e = .returned (.tuple #[rg s0 s1 s2 s3 s4 s5 ⟨#[]⟩ s7 7 m k, bv, .int .i64 0]) ∧ BytesNew w.heap.size w' bv s6 ∧ Below w.heap.size w w' := by
  have hn0 : (((m + 1 : Nat) : Int) == 0) = false := by simp; omega
  go_enter Try.func14, Try.ntmps14
  go_wp2_with fail
  refine (at_any _ _ _ _ _ _ _ _ _ _ _ _ _ (by omega) (by omega) (by omega) (by omega)).mono ?_
  rintro e w1 ⟨rfl, hb1⟩
  obtain ⟨w2, rfl, r0, r1, hB, hz⟩ := after2 hb1
  clear hb1
  go_wp2_with (refine wpList_sb rfl 9 32 5 _ rfl _ rfl Try.underlying9 Try.underlying32 Try.underlying5 ?_; intro cap w3 hbn hb3 _; obtain ⟨w4, rfl, r3, r4, hB4, hz4⟩ := again2 hb3 r0 r1 (by omega); clear hb3 r0 r1)
  simp only [setRow_size] at hbn
  refine bodyPost_ret (v := .tuple #[rg s0 s1 s2 s3 s4 s5 ⟨#[]⟩ s7 7 m k, .slice (some ⟨w2.heap.size, 0, none⟩) s6.size cap, .int .i64 0]) ?_ rfl (Post.mk ⟨_, rfl, ?_, ?_⟩)
  · simp [results, Try.results14, go_sem, r3, r4]
  · exact hbn.rows2 (by omega) (by omega) (by omega) _ _
  · exact below_rows (below_rows (below_unrows hB hB4 (by omega) (by omega) hB.size) (by omega) _) (by omega) _

set_option maxRecDepth 100000 in
set_option maxHeartbeats 4000000 in
theorem pop_7 (s0 s1 s2 s3 s4 s5 s6 s7 : ByteArray) (m k : Nat) (w : World) (hn' : m + 1 ≤ k) (hk : k ≤ 8) :
    Calls Try.prog 14 #[rg s0 s1 s2 s3 s4 s5 s6 s7 7 ((m + 1 : Nat) : Int) k] w <| Post fun e w' =>
      ∃ bv, e = .returned (.tuple #[rg s0 s1 s2 s3 s4 s5 s6 ⟨#[]⟩ 0 m k, bv, .int .i64 0]) ∧ BytesNew w.heap.size w' bv s7 ∧ Below w.heap.size w w' := by
  have hn0 : (((m + 1 : Nat) : Int) == 0) = false := by simp; omega
  go_enter Try.func14, Try.ntmps14
  go_wp2_with fail
  refine (at_any _ _ _ _ _ _ _ _ _ _ _ _ _ (by omega) (by omega) (by omega) (by omega)).mono ?_
  rintro e w1 ⟨rfl, hb1⟩
  obtain ⟨w2, rfl, r0, r1, hB, hz⟩ := after2 hb1
  clear hb1
  go_wp2_with (refine wpList_sb rfl 9 32 5 _ rfl _ rfl Try.underlying9 Try.underlying32 Try.underlying5 ?_; intro cap w3 hbn hb3 _; obtain ⟨w4, rfl, r3, r4, hB4, hz4⟩ := again2 hb3 r0 r1 (by omega); clear hb3 r0 r1)
  simp only [setRow_size] at hbn
  refine bodyPost_ret (v := .tuple #[rg s0 s1 s2 s3 s4 s5 s6 ⟨#[]⟩ 0 m k, .slice (some ⟨w2.heap.size, 0, none⟩) s7.size cap, .int .i64 0]) ?_ rfl (Post.mk ⟨_, rfl, ?_, ?_⟩)
  · simp [results, Try.results14, go_sem, r3, r4]
  · exact hbn.rows2 (by omega) (by omega) (by omega) _ _
  · exact below_rows (below_rows (below_unrows hB hB4 (by omega) (by omega) hB.size) (by omega) _) (by omega) _


theorem pop_any (v : Value) (l : List ByteArray) (k : Nat) (w : World) (hv : RingV v l k) :
    Calls Try.prog 14 #[v] w fun e w' => ∃ v' bv, e = .returned (.tuple #[v', bv, .int .i64 (mPop l).2.2]) ∧ RingV v' (mPop l).1 k ∧
      ((l = [] ∧ bv = .slice none 0 0) ∨ (l ≠ [] ∧ BytesNew w.heap.size w' bv (mPop l).2.1)) ∧ Below w.heap.size w w' := by
  have hv0 := hv
  obtain ⟨s0, s1, s2, s3, s4, s5, s6, s7, f, n, rfl, hf, h1, h2, rfl⟩ := hv
  cases n with
  | zero =>
    go_enter Try.func14, Try.ntmps14
    go_wp2_with fail
    refine bodyPost_ret (v := .tuple #[rg s0 s1 s2 s3 s4 s5 s6 s7 f 0 k, .slice none 0 0, .int .i64 3]) ?_ rfl ⟨_, _, rfl, hv0, .inl ⟨rfl, rfl⟩, ?_⟩
    · simp [results, Try.results14, go_sem]
    · exact ((Below.refl _ _).alloc (Nat.le_refl _) _).alloc (by simp) _
  | succ m =>
    have hne : cont [s0, s1, s2, s3, s4, s5, s6, s7] f (m + 1) ≠ [] := fun h => by have := congrArg List.length h; rw [cont_length] at this; simp at this
    have hp := cont_pop [s0, s1, s2, s3, s4, s5, s6, s7] f m ⟨#[]⟩ hf (by omega)
    have hr : f = 0 ∨ f = 1 ∨ f = 2 ∨ f = 3 ∨ f = 4 ∨ f = 5 ∨ f = 6 ∨ f = 7 := by omega
    rw [hp]
    have key : ∀ (f' : Nat) (t0 t1 t2 t3 t4 t5 t6 t7 b : ByteArray), f' < 8 → [s0, s1, s2, s3, s4, s5, s6, s7].getD f ByteArray.empty = b → [s0, s1, s2, s3, s4, s5, s6, s7].set f ⟨#[]⟩ = [t0, t1, t2, t3, t4, t5, t6, t7] → (f + 1) % 8 = f' →
        Calls Try.prog 14 #[rg s0 s1 s2 s3 s4 s5 s6 s7 f ((m + 1 : Nat) : Int) k] w (Post fun e w' => ∃ bv, e = .returned (.tuple #[rg t0 t1 t2 t3 t4 t5 t6 t7 f' m k, bv, .int .i64 0]) ∧ BytesNew w.heap.size w' bv b ∧ Below w.heap.size w w') → 
        Calls Try.prog 14 #[rg s0 s1 s2 s3 s4 s5 s6 s7 f ((m + 1 : Nat) : Int) k] w fun e w' => ∃ v' bv, e = .returned (.tuple #[v', bv, .int .i64 (mPop ([s0, s1, s2, s3, s4, s5, s6, s7].getD f ByteArray.empty :: cont ([s0, s1, s2, s3, s4, s5, s6, s7].set f ⟨#[]⟩) ((f + 1) % 8) m)).2.2]) ∧
          RingV v' (mPop ([s0, s1, s2, s3, s4, s5, s6, s7].getD f ByteArray.empty :: cont ([s0, s1, s2, s3, s4, s5, s6, s7].set f ⟨#[]⟩) ((f + 1) % 8) m)).1 k ∧
          (([s0, s1, s2, s3, s4, s5, s6, s7].getD f ByteArray.empty :: cont ([s0, s1, s2, s3, s4, s5, s6, s7].set f ⟨#[]⟩) ((f + 1) % 8) m = [] ∧ bv = .slice none 0 0) ∨
            ([s0, s1, s2, s3, s4, s5, s6, s7].getD f ByteArray.empty :: cont ([s0, s1, s2, s3, s4, s5, s6, s7].set f ⟨#[]⟩) ((f + 1) % 8) m ≠ [] ∧ BytesNew w.heap.size w' bv (mPop ([s0, s1, s2, s3, s4, s5, s6, s7].getD f ByteArray.empty :: cont ([s0, s1, s2, s3, s4, s5, s6, s7].set f ⟨#[]⟩) ((f + 1) % 8) m)).2.1)) ∧ Below w.heap.size w w' := by
      intro f' t0 t1 t2 t3 t4 t5 t6 t7 b hf' e1 e2 e3 h
      rw [e1, e2, e3]
      refine h.mono ?_
      rintro e w' ⟨bv, rfl, hb, hB⟩
      exact ⟨_, bv, rfl, ⟨t0, t1, t2, t3, t4, t5, t6, t7, f', m, rfl, hf', by omega, h2, rfl⟩, .inr ⟨by simp, hb⟩, hB⟩
    clear hp hne hv0
    rcases hr with rfl | rfl | rfl | rfl | rfl | rfl | rfl | rfl
    · exact key 1 _ _ _ _ _ _ _ _ _ (by omega) rfl rfl rfl (pop_0 s0 s1 s2 s3 s4 s5 s6 s7 m k w h1 h2)
    · exact key 2 _ _ _ _ _ _ _ _ _ (by omega) rfl rfl rfl (pop_1 s0 s1 s2 s3 s4 s5 s6 s7 m k w h1 h2)
    · exact key 3 _ _ _ _ _ _ _ _ _ (by omega) rfl rfl rfl (pop_2 s0 s1 s2 s3 s4 s5 s6 s7 m k w h1 h2)
    · exact key 4 _ _ _ _ _ _ _ _ _ (by omega) rfl rfl rfl (pop_3 s0 s1 s2 s3 s4 s5 s6 s7 m k w h1 h2)
    · exact key 5 _ _ _ _ _ _ _ _ _ (by omega) rfl rfl rfl (pop_4 s0 s1 s2 s3 s4 s5 s6 s7 m k w h1 h2)
    · exact key 6 _ _ _ _ _ _ _ _ _ (by omega) rfl rfl rfl (pop_5 s0 s1 s2 s3 s4 s5 s6 s7 m k w h1 h2)
    · exact key 7 _ _ _ _ _ _ _ _ _ (by omega) rfl rfl rfl (pop_6 s0 s1 s2 s3 s4 s5 s6 s7 m k w h1 h2)
    · exact key 0 _ _ _ _ _ _ _ _ _ (by omega) rfl rfl rfl (pop_7 s0 s1 s2 s3 s4 s5 s6 s7 m k w h1 h2)
end Go.Proofs.Ytgdpahojinknmaa
