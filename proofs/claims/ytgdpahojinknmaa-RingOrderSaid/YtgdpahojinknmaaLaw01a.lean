/- Walks of the small helpers of package penstocklaw01. -/
import Derived.Test.YtgdpahojinknmaaChecked
import Derived.WalkKit
import Derived.WalkLawsBesides
import Derived.WalkSpells
import Derived.Outline
import Derived.Below
import Derived.Lib.Hide
import Derived.OwnWalk
import Derived.Lib.SlBytesConst
import Derived.Test.YtgdpahojinknmaaReg
import Derived.Test.YtgdpahojinknmaaMem2
import Derived.Test.YtgdpahojinknmaaRingP
import Derived.Test.YtgdpahojinknmaaRingO
namespace Go.Proofs.Ytgdpahojinknmaa
open Go.RowKit
set_option linter.unusedSimpArgs false
set_option linter.unusedVariables false

/-- A slice of calls (a number, and bytes) that reads as acts. -/
def ActsAt (w : World) (v : Value) (acts : List (Int × ByteArray)) : Prop :=
  ∃ a cap, v = .slice a acts.length cap ∧ acts.length ≤ maxLen ∧ (0 < acts.length → ∃ b off, a = some ⟨b, off, none⟩ ∧ b < w.heap.size ∧
    ∀ i, i < acts.length → ∃ bv, w.cell? ⟨b, off + i * 2, none⟩ = some (.int .i64 (acts.getD i (0, ByteArray.empty)).1) ∧ w.cell? ⟨b, off + i * 2 + 1, none⟩ = some bv ∧ BytesAt w bv (acts.getD i (0, ByteArray.empty)).2 ∧ (acts.getD i (0, ByteArray.empty)).2.size ≤ 140737488351232)

def total (acts : List (Int × ByteArray)) : Nat := (acts.map fun x => x.2.size).sum

theorem total_succ (acts : List (Int × ByteArray)) (k : Nat) (h : k < acts.length) : total (acts.take (k + 1)) = total (acts.take k) + (acts.getD k (0, ByteArray.empty)).2.size := by
  unfold total
  rw [List.take_succ_eq_append_getElem h, List.map_append, List.sum_append]
  simp [List.getD, h]

structure FewPost (acts : List (Int × ByteArray)) (w : World) (e : Ending) (w' : World) : Prop where
  h : ∃ r : Bool, e = .returned (.bool r) ∧ (r = true → acts.length ≤ 500 ∧ total acts ≤ 65536) ∧ w = w'

theorem few_any (v : Value) (acts : List (Int × ByteArray)) (w : World) (hv : ActsAt w v acts) :
    Calls Try.prog 11 #[v] w (FewPost acts w) := by
  obtain ⟨a, cap, rfl, hm, h⟩ := hv
  by_cases h5 : 500 < acts.length
  · have h5' : decide (500 < (acts.length : Int)) = true := by simp; omega
    go_enter Try.func11, Try.ntmps11
    go_wp2
    go_ret
    exact ⟨false, rfl, by simp, rfl⟩
  · have h5' : decide (500 < (acts.length : Int)) = false := by simp; omega
    unfold maxLen at hm
    go_enter Try.func11, Try.ntmps11
    go_wp2_with fail
    go_loop [3, 4] (fun t i => ∃ k : Nat, k ≤ acts.length ∧ i = .int .i64 k ∧ t = .int .i64 (total (acts.take k)) ∧ total (acts.take k) ≤ 65536) (fun _ i => acts.length - (intOf i).toNat)
    case atStart => exact ⟨0, Nat.zero_le _, rfl, rfl, by simp [total]⟩
    case round =>
      obtain ⟨k, hk, rfl, rfl, ht⟩ := hrel
      by_cases hlt : k < acts.length
      · obtain ⟨b, off, rfl, hb, hc⟩ := h (by omega)
        obtain ⟨bv, hc1, hc2, hbv, hsz⟩ := hc k hlt
        have hs := total_succ acts k hlt
        clear h hc
        generalize acts.getD k (0, ByteArray.empty) = x at hc1 hc2 hbv hs hsz
        obtain ⟨d, s⟩ := x
        obtain ⟨a', cap', rfl, hbig⟩ := hbv
        clear hbig
        generalize total (acts.take k) = t0 at ht hs ⊢
        have HS : Hid (total (acts.take (k + 1)) = t0 + s.size) := hs
        clear hs
        dsimp only at hc1 hc2 hsz
        by_cases hbig : 65536 < t0 + s.size
        · go_wp2
          go_ret
          exact ⟨false, rfl, by simp, rfl⟩
        · go_wp2
          go_round
          case rel => exact ⟨k + 1, by omega, by go_num, by rw [HS.out]; go_num, by rw [HS.out]; omega⟩
          case measure => simp [intOf]; omega
      · have hkk : k = acts.length := by omega
        go_wp2
        go_ret
        refine ⟨true, rfl, fun _ => ⟨by omega, ?_⟩, rfl⟩
        rwa [hkk, List.take_length] at ht

set_option maxRecDepth 100000 in
set_option maxHeartbeats 4000000 in
theorem awake_any (w : World) : Calls Try.prog 12 #[] w fun e w' => e = .returned (.bool true) ∧ Below w.heap.size w w' := by
  have kc := conv_const (P := Try.prog) 32 5 Try.underlying32 Try.underlying5
  go_enter Try.func12, Try.ntmps12
  go_wp2_with fail
  refine (new_any 2 _).mono ?_
  rintro e w1 ⟨rfl, hC1⟩
  rw [show (mNew 2).1 = 2 from rfl, show (mNew 2).2 = 0 from rfl]
  have hv0 := ringV_new 2 (by omega)
  have hz1 := hC1.size
  go_wp2_with fail
  refine (push_any _ _ [] 2 ⟨#[97]⟩ _ hv0 ?_).mono ?_
  · exact bytes_lit (A := #[.int .u8 97]) ⟨#[97]⟩ (by repeat (first | exact Rowf.new' _ _ _ (by simp; try omega) | refine Rowf.old ?_ _ | refine Rowf.past (by omega) ?_ _ | assumption)) rfl
  rintro e u1 ⟨v1, rfl, hv1, hb⟩
  rw [show mPush [] 2 ⟨#[97]⟩ = ([⟨#[97]⟩], 0) from rfl] at hv1 ⊢
  dsimp only at hv1 ⊢
  have hx := hv1
  obtain ⟨a00, a01, a02, a03, a04, a05, a06, a07, f0, n0, rfl, -⟩ := hx
  obtain ⟨w2, rfl, r2, hB, hz2⟩ := open1 hb (Row.old (Row.new _ _ _) _)
  have hC2 : Below w.heap.size w w2 := ((hC1.alloc hz1 _).alloc (by simp; omega) _).trans (hB.mono (by simp; omega))
  clear hb hB
  simp only [setRow_size, World.size_alloc] at hz2
  have hl2 := isRow_lt r2
  go_wp2_with fail
  refine (push_any _ _ [⟨#[97]⟩] 2 ⟨#[98]⟩ _ hv1 ?_).mono ?_
  · exact bytes_lit (A := #[.int .u8 98]) ⟨#[98]⟩ (by repeat (first | exact Rowf.new' _ _ _ (by simp; try omega) | refine Rowf.old ?_ _ | refine Rowf.past (by omega) ?_ _ | assumption)) rfl
  rintro e u2 ⟨v2, rfl, hv2, hb⟩
  rw [show mPush [⟨#[97]⟩] 2 ⟨#[98]⟩ = ([⟨#[97]⟩, ⟨#[98]⟩], 0) from rfl] at hv2 ⊢
  dsimp only at hv2 ⊢
  have hx := hv2
  obtain ⟨a10, a11, a12, a13, a14, a15, a16, a17, f1, n1, rfl, -⟩ := hx
  obtain ⟨w3, rfl, r3, hB, hz3⟩ := open1 hb (Row.old (Row.set r2 _) _)
  have hC3 : Below w.heap.size w w3 := below_step1 hC2 hz1 hC2.size hB
  clear hb hB
  simp only [setRow_size, World.size_alloc] at hz3
  have hl3 := isRow_lt r3
  go_wp2_with fail
  refine (push_any _ _ [⟨#[97]⟩, ⟨#[98]⟩] 2 ⟨#[99]⟩ _ hv2 ?_).mono ?_
  · exact bytes_lit (A := #[.int .u8 99]) ⟨#[99]⟩ (by repeat (first | exact Rowf.new' _ _ _ (by simp; try omega) | refine Rowf.old ?_ _ | refine Rowf.past (by omega) ?_ _ | assumption)) rfl
  rintro e u3 ⟨v3, rfl, hv3, hb⟩
  rw [show mPush [⟨#[97]⟩, ⟨#[98]⟩] 2 ⟨#[99]⟩ = ([⟨#[97]⟩, ⟨#[98]⟩], 2) from rfl] at hv3 ⊢
  dsimp only at hv3 ⊢
  have hx := hv3
  obtain ⟨a20, a21, a22, a23, a24, a25, a26, a27, f2, n2, rfl, -⟩ := hx
  obtain ⟨w4, rfl, r4, hB, hz4⟩ := open1 hb (Row.old (Row.set r3 _) _)
  have hC4 : Below w.heap.size w w4 := below_step1 hC3 hz1 hC3.size hB
  clear hb hB
  simp only [setRow_size, World.size_alloc] at hz4
  have hl4 := isRow_lt r4
  go_wp2_with fail
  refine (pop_any _ [⟨#[97]⟩, ⟨#[98]⟩] 2 _ hv2).mono ?_
  rintro e u4 ⟨v4, p4, rfl, hv4, hp4, hb⟩
  rw [show mPop [⟨#[97]⟩, ⟨#[98]⟩] = ([⟨#[98]⟩], ⟨#[97]⟩, 0) from rfl] at hv4 hp4 ⊢
  dsimp only at hv4 hp4 ⊢
  replace hp4 := (hp4.resolve_left (by simp)).2
  have hx := hv4
  obtain ⟨a30, a31, a32, a33, a34, a35, a36, a37, f3, n3, rfl, -⟩ := hx
  obtain ⟨w5, rfl, r5, hB, hz5⟩ := open1 hb (Row.old (Row.set r4 _) _)
  have hC5 : Below w.heap.size w w5 := below_step1 hC4 hz1 hC4.size hB
  clear hb hB
  simp only [setRow_size, World.size_alloc] at hz5
  have hl5 := isRow_lt r5
  go_wp2_with fail
  refine (pop_any _ [⟨#[98]⟩] 2 _ hv4).mono ?_
  rintro e u5 ⟨v5, p5, rfl, hv5, hp5, hb⟩
  rw [show mPop [⟨#[98]⟩] = ([], ⟨#[98]⟩, 0) from rfl] at hv5 hp5 ⊢
  dsimp only at hv5 hp5 ⊢
  replace hp5 := (hp5.resolve_left (by simp)).2
  replace hp4 := hp4.step (by simp; omega) hb
  have hx := hv5
  obtain ⟨a40, a41, a42, a43, a44, a45, a46, a47, f4, n4, rfl, -⟩ := hx
  obtain ⟨w6, rfl, r6, hB, hz6⟩ := open1 hb (Row.set r5 _)
  have hC6 : Below w.heap.size w w6 := below_step0 hC5 hz1 hC5.size hB
  clear hb hB
  simp only [setRow_size, World.size_alloc] at hz6
  have hl6 := isRow_lt r6
  go_wp2_with fail
  refine (pop_any _ [] 2 _ hv5).mono ?_
  rintro e u6 ⟨v6, p6, rfl, hv6, hp6, hb⟩
  rw [show mPop [] = ([], ByteArray.empty, 3) from rfl] at hv6 hp6 ⊢
  dsimp only at hv6 hp6 ⊢
  obtain rfl := (hp6.resolve_right (by simp)).2
  replace hp4 := hp4.step (by simp; omega) hb
  replace hp5 := hp5.step (by simp; omega) hb
  have hx := hv6
  obtain ⟨a50, a51, a52, a53, a54, a55, a56, a57, f5, n5, rfl, -⟩ := hx
  obtain ⟨w7, rfl, r7, hB, hz7⟩ := open1 hb (Row.set r6 _)
  have hC7 : Below w.heap.size w w7 := below_step0 hC6 hz1 hC6.size hB
  clear hb hB
  simp only [setRow_size, World.size_alloc] at hz7
  have hl7 := isRow_lt r7
  have c4 := fun o => ((hp4.below ((Below.refl _ _).alloc (Nat.le_refl _) o)).at).conv (P := Try.prog) 32 5 9 Try.underlying32 Try.underlying5 Try.underlying9
  have c5 := fun o => ((hp5.below ((Below.refl _ _).alloc (Nat.le_refl _) o)).at).conv (P := Try.prog) 32 5 9 Try.underlying32 Try.underlying5 Try.underlying9
  go_wp2_with (go_at_call 19; refine (cap_any _ _ _ _ hv5).mono ?_; rintro e w9 ⟨rfl, hb9⟩)
  go_ret
  refine ⟨rfl, ((below_rows hC7 hz1 _).alloc ?_ _).trans (hb9.mono ?_)⟩
  · simp; exact hC7.size
  · have := hC7.size; simp; omega
end Go.Proofs.Ytgdpahojinknmaa
