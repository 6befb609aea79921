/- The ring's iterator. -/
import Derived.Test.YtgdpahojinknmaaChecked
import Derived.WalkKit
import Derived.WalkLawsBesides
import Derived.WalkSpells
import Derived.Outline
import Derived.Below
import Derived.Lib.Hide
import Derived.OwnWalk
import Derived.Lib.SlBytesConst
import Derived.Test.YtgdpahojinknmaaReg
import Derived.Test.YtgdpahojinknmaaMem2
import Derived.RangeFuncNested
import Derived.RangeFuncBound
import Derived.RangeFuncCalls
import Derived.RangeFuncLeaves
import Derived.Shelf.Abstract
import Derived.Shelf.RegionOpen
import Derived.OwnWalkIn
import Derived.TacticsInMore
import Derived.LoopNIn
import Derived.LoopIn
import Derived.Test.YtgdpahojinknmaaRange
import Derived.Test.YtgdpahojinknmaaRingW
namespace Go.Proofs.Ytgdpahojinknmaa
open Go.RowKit Go.Shelf
set_option linter.unusedSimpArgs false
set_option linter.unusedVariables false
attribute [local go_sem] Oper.semAt_some

/-- What a round of the ring's All is handed. -/
def AllX (B0 : Nat) (l : List ByteArray) (i : Nat) (xs : Array Value) (W : World) : Prop :=
  ∃ v, xs = #[.int .i64 i, v] ∧ BytesNew B0 W v (l.getD i ByteArray.empty)

theorem AllX.from (B0 : Nat) (l : List ByteArray) (k B : Nat) : OwnFrom B (AllX B0 l k) := by
  rintro xs W W' row ⟨v, rfl, b, cap, rfl, hB, hlt, hc⟩ hg hr
  refine ⟨_, rfl, b, cap, rfl, hB, Nat.lt_of_lt_of_le hlt hg.size, fun i hi => ?_⟩
  have hne : some b ≠ row := by
    rintro rfl
    obtain ⟨o, ho, hcell⟩ := (hr b rfl).2
    have := (hc i hi).1
    simp only [World.cell?, ho] at this
    cases o <;> simp [Obj.isCells] at hcell this
  have hb := hg.block b hlt hne
  exact ⟨(World.cell?_of_block (a := ⟨b, i, none⟩) hb).trans (hc i hi).1, (World.frozen?_of_block (a := ⟨b, i, none⟩) hb).trans (hc i hi).2⟩

theorem all_any (v : Value) (w : World) (s0 s1 s2 s3 s4 s5 s6 s7 : ByteArray) (f m k : Nat) (n : Nat) :
    CallsIn Fence.wide n Try.prog 46 #[rg s0 s1 s2 s3 s4 s5 s6 s7 f m k] w fun e w' => e = .returned (.func (.func 71) #[] #[.pointer (some ⟨w.heap.size, 0, none⟩)]) ∧
      w' = w.alloc (.cells #[.string s0, .string s1, .string s2, .string s3, .string s4, .string s5, .string s6, .string s7, .int .i64 f, .int .i64 m, .int .i64 k] 25) := by
  refine callsIn_of_wp Try.func46 rfl trivial ?_ rfl
  simp only [Try.ntmps46, List.size_toArray, List.length_cons, List.length_nil, Nat.reduceAdd, Nat.reduceSub, Array.replicate_succ, Array.replicate_zero, List.push_toArray, List.append_toArray, List.nil_append, List.cons_append]
  gi_wp2
  go_ret
  exact ⟨rfl, rfl⟩

/-- What the rounds keep: the iterator's own copy; and that there are so many blocks. -/
def AllK (B0 B : Nat) (c : Array Value) (W : World) : Prop := W.heap[B]? = some (.cells c 25 (0, 0)) ∧ B0 ≤ W.heap.size
theorem AllK.row {B0 B : Nat} {c : Array Value} {W : World} (h : AllK B0 B c W) : Row W B c := ⟨_, h.1⟩
/-- A slice's own row of another type is not the iterator's copy. -/
theorem AllK.not_row {B0 B : Nat} {c : Array Value} {W : World} (h : AllK B0 B c W) {e : TypeId} (hne : 25 ≠ e) {base size k : Nat} {v : Value} {xs : List Value} (hr : W.ownsRow base e size v k xs) : some B ≠ v.ownBlock := by
  rcases hr.2 with ⟨rfl, _⟩ | ⟨g, cap, cur, rfl, _, hgb, _⟩
  · simp [Value.ownBlock]
  · intro e'
    obtain rfl : B = g := by simpa [Value.ownBlock] using e'
    rw [h.1] at hgb
    cases hgb
    exact hne rfl
theorem AllK.from (B0 B : Nat) (c : Array Value) (n : Nat) : OwnFrom n (fun (_ : Unit) => AllK B0 B c) := by
  rintro _ W W' row ⟨h, hs⟩ hg hr
  have hlt := (Array.getElem?_eq_some_iff.1 h).1
  refine ⟨(hg.block B hlt ?_).trans h, Nat.le_trans hs hg.size⟩
  rintro rfl
  obtain ⟨o, ho, hc⟩ := (hr B rfl).2
  rw [h] at ho; cases ho; cases hc

set_option maxRecDepth 100000 in
set_option maxHeartbeats 2000000 in
theorem all1_gives (B0 B : Nat) (s0 s1 s2 s3 s4 s5 s6 s7 : ByteArray) (f m k : Nat) (hf : f < 8) (hm : m ≤ 8) (n : Nat) (hn : 2 ≤ n)
    (hBB : B < B0) :
    IterGives Fence.wide n Try.prog 71 #[.pointer (some ⟨B, 0, none⟩)] m (AllX B0 (cont [s0, s1, s2, s3, s4, s5, s6, s7] f m))
      (AllK B0 B #[.string s0, .string s1, .string s2, .string s3, .string s4, .string s5, .string s6, .string s7, .int .i64 f, .int .i64 m, .int .i64 k]) := by
  intro l J W hW hJ hY h0
  refine callsIn_of_wp Try.func71 rfl trivial ?_ rfl
  simp only [Try.ntmps71, List.size_toArray, List.length_cons, List.length_nil, Nat.reduceAdd, Nat.reduceSub, Array.replicate_succ, Array.replicate_zero, List.push_toArray, List.append_toArray, List.nil_append, List.cons_append]
  have hc := hW.row.cell
  have g9 := hc 9
  have g8 := hc 8
  gi_wp2
  gi_loopw [6] (fun i wr => ∃ k' : Nat, k' ≤ m ∧ i = .int .i64 k' ∧ J k' wr ∧ AllK B0 B #[.string s0, .string s1, .string s2, .string s3, .string s4, .string s5, .string s6, .string s7, .int .i64 f, .int .i64 m, .int .i64 k] wr) (fun i _ => m - (intOf i).toNat)
  case atStart => exact ⟨0, Nat.zero_le _, rfl, h0, hW⟩
  case round =>
    obtain ⟨i, hi, rfl, hJi, hBi⟩ := hrel
    have hrow := hBi.row
    have hrowt := hBi.1
    have hBs := hBi.2
    clear hc g9 g8
    by_cases him : i < m
    · have hs : ∃ b, [s0, s1, s2, s3, s4, s5, s6, s7].getD ((f + i) % 8) ByteArray.empty = b ∧ (cont [s0, s1, s2, s3, s4, s5, s6, s7] f m).getD i ByteArray.empty = b := by
        refine ⟨_, rfl, ?_⟩
        unfold cont
        simp [List.getD, him]
      obtain ⟨b, hb1, hb2⟩ := hs
      have hcell : wr.cell? ⟨B, (f + i) % 8, none⟩ = some (.string b) := by
        rw [hrow.cell]
        have h8 : (f + i) % 8 < 8 := by omega
        generalize (f + i) % 8 = q at hb1 h8
        have : q = 0 ∨ q = 1 ∨ q = 2 ∨ q = 3 ∨ q = 4 ∨ q = 5 ∨ q = 6 ∨ q = 7 := by omega
        rcases this with rfl | rfl | rfl | rfl | rfl | rfl | rfl | rfl <;> (subst hb1; rfl)
      replace hb1 := Lib.hid hb1
      replace hb2 := Lib.hid hb2
      have c := hrow.cell
      have hi0 : ((f : Int) + i) % 8 < 8 := by omega
      replace hrowt := Lib.hid hrowt
      gi_wp2_with fail
      refine ⟨trivial, fun _ => by omega, ?_⟩
      refine (callsIn_wide.2 (at_any s0 s1 s2 s3 s4 s5 s6 s7 f m k i _ (by omega) (by omega) (by omega) (by omega))).mono ?_
      rintro e w1 ⟨rfl, hb⟩
      have hcell1 : w1.cell? ⟨B, (f + i) % 8, none⟩ = some (.string b) := (hb.cell (p := ⟨B, (f + i) % 8, none⟩) hrow.lt).trans hcell
      clear c hcell
      gi_wp2_with (refine wpListIn_sb rfl 9 32 5 _ rfl _ rfl Try.underlying9 Try.underlying32 Try.underlying5 ?_; intro cap w2 hbn hbw hg2 hz2; obtain ⟨fn, tmps, assign, body, hy, hR⟩ := hY i #[.int .i64 i, .slice (some ⟨w1.heap.size, 0, none⟩) b.size cap] w2 him (hJ i _ _ (hJ i _ _ hJi ⟨hb.os, hb.tape, hb.output, hb.size, fun k hk _ => hb.block k hk⟩) hg2) ⟨_, rfl, by rw [hb2.out]; exact hbn.mono (Nat.le_trans hBs hb.size)⟩ ⟨blk_kept (blk_kept hrowt.out hb hrow.lt) hbw (Nat.lt_of_lt_of_le hrow.lt hb.size), Nat.le_trans (Nat.le_trans hBs hb.size) hbw.size⟩)
      refine ⟨fun _ => by omega, ?_⟩
      refine hR.mono ?_
      rintro e w3 ⟨rfl, hJ3, hB3⟩
      gi_wp2
      go_roundw
      case rel => exact ⟨i + 1, by omega, by go_num, hJ3, hB3⟩
      case measure => simp [intOf]; omega
    · obtain rfl : i = m := by omega
      gi_wp2
      go_end0
      exact ⟨⟨_, rfl⟩, hJi⟩
end Go.Proofs.Ytgdpahojinknmaa
