/- Walks over the ring's functions. -/
import Derived.Test.YtgdpahojinknmaaChecked
import Derived.WalkKit
import Derived.WalkLawsBesides
import Derived.WalkSpells
import Derived.RegionTactic
import Derived.ChangeAlike
import Derived.Outline
import Derived.Below
import Derived.Lib.Hide
import Derived.OwnWalk
import Derived.Deep.QuietTactic
import Derived.BigQuiet
import Derived.StillTailTactics
import Derived.Deep.RegionHeld3
import Derived.Laws.Rows
import Derived.Test.YtgdpahojinknmaaReg
import Derived.Test.YtgdpahojinknmaaMem
import Derived.Test.YtgdpahojinknmaaRingM
namespace Go.Proofs.Ytgdpahojinknmaa
open Go.RowKit
set_option linter.unusedSimpArgs false

/-- A ring, as a value: eight cells, the first one's place, how many, the capacity. -/
abbrev rg (s0 s1 s2 s3 s4 s5 s6 s7 : ByteArray) (f n k : Int) : Value :=
  .agg #[.string s0, .string s1, .string s2, .string s3, .string s4, .string s5, .string s6, .string s7, .int .i64 f, .int .i64 n, .int .i64 k]

/-- A value that is a ring of capacity k with the chunks l. -/
def RingV (v : Value) (l : List ByteArray) (k : Nat) : Prop :=
  ∃ (s0 s1 s2 s3 s4 s5 s6 s7 : ByteArray) (f n : Nat), v = rg s0 s1 s2 s3 s4 s5 s6 s7 f n k ∧ f < 8 ∧ n ≤ k ∧ k ≤ 8 ∧ l = cont [s0, s1, s2, s3, s4, s5, s6, s7] f n

theorem RingV.len {v : Value} {l : List ByteArray} {k : Nat} (h : RingV v l k) : l.length ≤ k ∧ k ≤ 8 := by
  obtain ⟨s0, s1, s2, s3, s4, s5, s6, s7, f, n, rfl, _, h1, h2, rfl⟩ := h
  rw [cont_length]; exact ⟨h1, h2⟩

theorem at_any (s0 s1 s2 s3 s4 s5 s6 s7 : ByteArray) (f n k i : Int) (w : World) (hf : 0 ≤ f) (hf' : f ≤ 8) (hi : 0 ≤ i) (hi' : i ≤ 8) :
    Calls Try.prog 45 #[rg s0 s1 s2 s3 s4 s5 s6 s7 f n k, .int .i64 i] w fun e w' =>
      e = .returned (.int .i64 ((f + i) % 8)) ∧ Below w.heap.size w w' := by
  go_enter Try.func45, Try.ntmps45
  go_wp2
  go_ret
  exact ⟨rfl, (Below.refl _ _).alloc (Nat.le_refl _) _⟩

theorem len_any (v : Value) (l : List ByteArray) (k : Nat) (w : World) (hv : RingV v l k) :
    Calls Try.prog 18 #[v] w fun e w' => e = .returned (.int .i64 l.length) ∧ Below w.heap.size w w' := by
  obtain ⟨s0, s1, s2, s3, s4, s5, s6, s7, f, n, rfl, _, h1, h2, rfl⟩ := hv
  rw [cont_length]
  go_enter Try.func18, Try.ntmps18
  go_wp2
  go_ret
  exact ⟨rfl, (Below.refl _ _).alloc (Nat.le_refl _) _⟩

theorem cap_any (v : Value) (l : List ByteArray) (k : Nat) (w : World) (hv : RingV v l k) :
    Calls Try.prog 19 #[v] w fun e w' => e = .returned (.int .i64 k) ∧ Below w.heap.size w w' := by
  obtain ⟨s0, s1, s2, s3, s4, s5, s6, s7, f, n, rfl, _, h1, h2, rfl⟩ := hv
  go_enter Try.func19, Try.ntmps19
  go_wp2
  go_ret
  exact ⟨rfl, (Below.refl _ _).alloc (Nat.le_refl _) _⟩

abbrev rg0 (k : Int) : Value := rg ⟨#[]⟩ ⟨#[]⟩ ⟨#[]⟩ ⟨#[]⟩ ⟨#[]⟩ ⟨#[]⟩ ⟨#[]⟩ ⟨#[]⟩ 0 0 k
theorem ringV_new (k : Nat) (hk : k ≤ 8) : RingV (rg0 k) [] k := ⟨_, _, _, _, _, _, _, _, 0, 0, rfl, by omega, by omega, hk, rfl⟩

theorem clear_any (v : Value) (l : List ByteArray) (k : Nat) (w : World) (hv : RingV v l k) :
    Calls Try.prog 47 #[v] w fun e w' => e = .returned (rg0 k) ∧ Below w.heap.size w w' := by
  obtain ⟨s0, s1, s2, s3, s4, s5, s6, s7, f, n, rfl, _, h1, h2, rfl⟩ := hv
  go_enter Try.func47, Try.ntmps47
  go_wp2
  refine bodyPost_ret (v := rg0 k) ?_ rfl ⟨rfl, ?_⟩
  · simp [results, Try.results47, go_sem]
  · exact ((Below.refl _ _).alloc (Nat.le_refl _) _).alloc (by simp) _

theorem new_any (k : Int) (w : World) :
    Calls Try.prog 10 #[.int .i64 k] w fun e w' => e = .returned (.tuple #[rg0 (mNew k).1, .int .i64 (mNew k).2]) ∧ Below w.heap.size w w' := by
  have fin : ∀ k', (k < 1 ∨ 8 < k → k' = (0 : Int)) → (¬ (k < 1 ∨ 8 < k) → k' = k) → (((mNew k).1 : Nat) : Int) = k' ∧ (mNew k).2 = if k < 1 ∨ 8 < k then 16 else 0 := by
    intro k' h1 h2
    unfold mNew
    by_cases h : k < 1 ∨ 8 < k
    · simp [h, h1 h]
    · simp [h, h2 h]; omega
  by_cases h : k < 1 ∨ 8 < k
  · obtain ⟨e1, e2⟩ := fin 0 (fun _ => rfl) (fun h' => absurd h h')
    rw [e1, e2, if_pos h]
    clear fin e1 e2
    rcases h with h | h
    · go_enter Try.func10, Try.ntmps10
      go_wp2
      refine bodyPost_ret (v := .tuple #[rg0 0, .int .i64 16]) ?_ rfl ⟨rfl, ?_⟩
      · simp [results, Try.results10, go_sem]
      · exact (Below.refl _ _).alloc (Nat.le_refl _) _
    · have h1 : decide (k < 1) = false := by simp; omega
      go_enter Try.func10, Try.ntmps10
      go_wp2
      refine bodyPost_ret (v := .tuple #[rg0 0, .int .i64 16]) ?_ rfl ⟨rfl, ?_⟩
      · simp [results, Try.results10, go_sem]
      · exact (Below.refl _ _).alloc (Nat.le_refl _) _
  · obtain ⟨e1, e2⟩ := fin k (fun h' => absurd h' h) (fun _ => rfl)
    rw [e1, e2, if_neg h]
    clear fin e1 e2
    have h1 : decide (k < 1) = false := by simp; omega
    have h2 : decide (8 < k) = false := by simp; omega
    clear h
    go_enter Try.func10, Try.ntmps10
    go_wp2
    refine bodyPost_ret (v := .tuple #[rg0 k, .int .i64 0]) ?_ rfl ⟨rfl, ?_⟩
    · simp [results, Try.results10, go_sem]
    · exact (Below.refl _ _).alloc (Nat.le_refl _) _

theorem grow_any (v : Value) (l : List ByteArray) (k : Nat) (w : World) (hv : RingV v l k) :
    Calls Try.prog 15 #[v] w fun e w' => ∃ v', e = .returned (.tuple #[v', .int .i64 (mGrow k).2]) ∧ RingV v' l (mGrow k).1 ∧ Below w.heap.size w w' := by
  have hv0 := hv
  obtain ⟨s0, s1, s2, s3, s4, s5, s6, s7, f, n, rfl, hf, h1, h2, rfl⟩ := hv
  unfold mGrow
  by_cases hk : k = 0
  · subst hk
    go_enter Try.func15, Try.ntmps15
    go_wp2
    refine bodyPost_ret (v := .tuple #[rg s0 s1 s2 s3 s4 s5 s6 s7 f n 0, .int .i64 1]) ?_ rfl ⟨_, rfl, hv0, ?_⟩
    · simp [results, Try.results15, go_sem]
    · exact ((Below.refl _ _).alloc (Nat.le_refl _) _).alloc (by simp) _
  · by_cases h8 : k = 8
    · subst h8
      go_enter Try.func15, Try.ntmps15
      go_wp2
      refine bodyPost_ret (v := .tuple #[rg s0 s1 s2 s3 s4 s5 s6 s7 f n 8, .int .i64 2]) ?_ rfl ⟨_, rfl, hv0, ?_⟩
      · simp [results, Try.results15, go_sem]
      · exact ((Below.refl _ _).alloc (Nat.le_refl _) _).alloc (by simp) _
    · rw [if_neg hk, if_neg h8]
      have hk0 : ((k : Int) == 0) = false := by simp; omega
      have hk8 : ((k : Int) == 8) = false := by simp; omega
      go_enter Try.func15, Try.ntmps15
      go_wp2
      refine bodyPost_ret (v := .tuple #[rg s0 s1 s2 s3 s4 s5 s6 s7 f n ((k + 1 : Nat) : Int), .int .i64 0]) ?_ rfl ⟨_, rfl, ⟨s0, s1, s2, s3, s4, s5, s6, s7, f, n, rfl, hf, by omega, by omega, rfl⟩, ?_⟩
      · simp [results, Try.results15, go_sem]
      · exact ((Below.refl _ _).alloc (Nat.le_refl _) _).alloc (by simp) _

end Go.Proofs.Ytgdpahojinknmaa
