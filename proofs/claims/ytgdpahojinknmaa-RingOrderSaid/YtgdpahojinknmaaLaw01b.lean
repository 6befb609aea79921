/- Walks of penstocklaw01.same and .after. -/
import Derived.Test.YtgdpahojinknmaaChecked
import Derived.WalkKit
import Derived.WalkLawsBesides
import Derived.WalkSpells
import Derived.Outline
import Derived.Below
import Derived.Lib.Hide
import Derived.OwnWalk
import Derived.Lib.SlBytesConst
import Derived.Test.YtgdpahojinknmaaReg
import Derived.Test.YtgdpahojinknmaaMem2
import Derived.Deep.QuietTactic
import Derived.BigQuiet
import Derived.WalkSmall
import Derived.Test.YtgdpahojinknmaaLaw01a
namespace Go.Proofs.Ytgdpahojinknmaa
open Go.RowKit
set_option linter.unusedSimpArgs false
set_option linter.unusedVariables false

/-- A slice of strings that reads as l. -/
def StrsAt (w : World) (v : Value) (l : List ByteArray) : Prop :=
  ∃ a cap, v = .slice a l.length cap ∧ (0 < l.length → ∃ b off, a = some ⟨b, off, none⟩ ∧ b < w.heap.size ∧ ∀ i, i < l.length → w.cell? ⟨b, off + i, none⟩ = some (.string (l.getD i ByteArray.empty)))

theorem StrsAt.below {w w' : World} {v : Value} {l : List ByteArray} (h : StrsAt w v l) (hb : Below w.heap.size w w') : StrsAt w' v l := by
  obtain ⟨a, cap, rfl, h⟩ := h
  refine ⟨a, cap, rfl, fun hp => ?_⟩
  obtain ⟨b, off, rfl, hlt, hc⟩ := h hp
  exact ⟨b, off, rfl, Nat.lt_of_lt_of_le hlt hb.size, fun i hi => (hb.cell (p := ⟨b, off + i, none⟩) hlt).trans (hc i hi)⟩

theorem StrsAt.own {w : World} {v : Value} {l : List ByteArray} {base : Nat} {e : TypeId} (h : w.ownsRow base e 1 v l.length (l.map Value.string)) : StrsAt w v l := by
  obtain ⟨hl, h⟩ := h
  rcases h with ⟨rfl, h0⟩ | ⟨g, cap, cur, rfl, hb, hg, hn, hm, hsz, hx⟩
  · exact ⟨none, 0, by rw [h0], fun hp => by omega⟩
  · refine ⟨_, cap, rfl, fun hp => ⟨g, 0, rfl, (Array.getElem?_eq_some_iff.1 hg).1, fun i hi => ?_⟩⟩
    rw [Nat.zero_add]
    simp only [World.cell?, hg]
    have : (cur.toList.take (l.length * 1))[i]? = some (.string (l.getD i ByteArray.empty)) := by
      rw [hx]; simp [List.getD, hi]
    rw [Nat.mul_one, List.getElem?_take, if_pos hi] at this
    simpa using this

structure SamePost (r : Bool) (w : World) (e : Ending) (w' : World) : Prop where
  h : e = .returned (.bool r) ∧ Below w.heap.size w w'

set_option maxRecDepth 100000 in
set_option maxHeartbeats 2000000 in
theorem same_any (va vb : Value) (la lb : List ByteArray) (w : World) (ha : StrsAt w va la) (hb : StrsAt w vb lb) (hm : la.length ≤ maxLen) :
    Calls Try.prog 16 #[va, vb] w (SamePost (decide (la = lb)) w) := by
  obtain ⟨a, cap, rfl, ha⟩ := ha
  obtain ⟨b, cap', rfl, hb⟩ := hb
  unfold maxLen at hm
  by_cases hl : la.length = lb.length
  · have hne : ((la.length : Int) != (lb.length : Int)) = false := by simp; omega
    have HL := Lib.hid hl
    clear hl
    go_enter Try.func16, Try.ntmps16
    go_wp2_with fail
    go_loopw [5] (fun i wr => ∃ k : Nat, k ≤ la.length ∧ i = .int .i64 k ∧ (∀ j, j < k → la.getD j ByteArray.empty = lb.getD j ByteArray.empty) ∧ Below w.heap.size w wr) (fun i _ => la.length - (intOf i).toNat)
    case atStart => exact ⟨0, Nat.zero_le _, rfl, fun j hj => by omega, Below.refl _ _⟩
    case round =>
      obtain ⟨k, hk, rfl, heq, hB⟩ := hrel
      replace heq := Lib.hid heq
      by_cases hlt : k < la.length
      · have hltb : k < lb.length := by rw [← HL.out]; exact hlt
        obtain ⟨ba, oa, rfl, hba, hca⟩ := ha (by omega)
        obtain ⟨bb, ob, rfl, hbb, hcb⟩ := hb (by omega)
        have ca : ∀ W, Below w.heap.size w W → W.cell? ⟨ba, oa + k, none⟩ = some (.string (la.getD k ByteArray.empty)) := fun W hW => (hW.cell (p := ⟨ba, oa + k, none⟩) hba).trans (hca k hlt)
        have cb : ∀ W, Below w.heap.size w W → W.cell? ⟨bb, ob + k, none⟩ = some (.string (lb.getD k ByteArray.empty)) := fun W hW => (hW.cell (p := ⟨bb, ob + k, none⟩) hbb).trans (hcb k hltb)
        clear ha hb hca hcb
        generalize hxa : la.getD k ByteArray.empty = xa at ca
        generalize hxb : lb.getD k ByteArray.empty = xb at cb
        replace hxa := Lib.hid hxa
        replace hxb := Lib.hid hxb
        have c1 := ca wr hB
        have c2 := cb wr hB
        clear ca cb
        have hk1 : (0 : Int) ≤ k := by omega
        have hk2 : (k : Int) < la.length := by omega
        have hk3 : (k : Int) < lb.length := by omega
        by_cases hx : xa = xb
        · have hne2 : (xa.toList == xb.toList) = true := by rw [beq_str, hx]; simp
          replace hx := Lib.hid hx
          go_wp2_with fail
          go_quiet (fail)
          go_wp2
          go_roundw
          case rel => exact ⟨k + 1, by omega, by go_num, fun j hj => by
            by_cases hjk : j = k
            · subst hjk; rw [hxa.out, hxb.out, hx.out]
            · exact heq.out j (by omega), drewN_below hB nq⟩
          case measure => simp [intOf]; omega
        · have hne2 : (xa.toList == xb.toList) = false := by rw [beq_str]; simp [hx]
          have hno : decide (la = lb) = false := by
            rw [decide_eq_false_iff_not]
            rintro rfl
            exact hx (hxa.out.symm.trans hxb.out)
          rw [hno]
          replace hx := Lib.hid hx
          clear hno
          go_wp2_with fail
          go_quiet (fail)
          go_wp2
          go_ret
          exact ⟨rfl, drewN_below hB nq⟩
      · have hkk : k = la.length := by omega
        have hyes : decide (la = lb) = true := by
          rw [decide_eq_true_eq]
          apply List.ext_getElem HL.out
          intro j h1 h2
          have := heq.out j (by omega)
          simpa [List.getD, h1, h2] using this
        replace hyes := Lib.hid hyes
        clear hkk
        go_wp2
        go_ret
        exact ⟨by rw [hyes.out]; rfl, hB⟩
  · have hne : ((la.length : Int) != (lb.length : Int)) = true := by simp; omega
    have hno : decide (la = lb) = false := by
      rw [decide_eq_false_iff_not]
      rintro rfl
      exact hl rfl
    rw [hno]
    clear hno hl
    go_enter Try.func16, Try.ntmps16
    go_wp2
    go_ret
    exact ⟨rfl, Below.refl _ _⟩

/-- What a call of the laws' makes of a ring. -/
def mAfter (l : List ByteArray) (k : Nat) (d : Int) (s : ByteArray) : List ByteArray × Nat :=
  if d = 0 then ((mPush l k s).1, k) else if d = 1 then ((mPop l).1, k) else if d = 2 then (l, (mGrow k).1) else if d = 3 then ([], k) else (l, k)

structure AfterPost (l : List ByteArray) (k : Nat) (w : World) (e : Ending) (w' : World) : Prop where
  h : ∃ v', e = .returned v' ∧ RingV v' l k ∧ Below w.heap.size w w'

set_option maxRecDepth 100000 in
set_option maxHeartbeats 4000000 in
theorem after_any (v bv : Value) (l : List ByteArray) (k : Nat) (d : Int) (sb : ByteArray) (w : World) (hv : RingV v l k) (hb : BytesAt w bv sb) :
    Calls Try.prog 20 #[v, .agg #[.int .i64 d, bv]] w (AfterPost (mAfter l k d sb).1 (mAfter l k d sb).2 w) := by
  have hv0 := hv
  have hb0 := hb
  obtain ⟨s0, s1, s2, s3, s4, s5, s6, s7, f, n, rfl, hf, h1, h2, hl⟩ := hv
  obtain ⟨a, cap, rfl, _⟩ := hb
  replace hl := Lib.hid hl
  unfold mAfter
  by_cases d0 : d = 0
  · subst d0
    rw [if_pos rfl]
    dsimp only
    go_enter Try.func20, Try.ntmps20
    go_wp2_with fail
    refine (push_any _ _ l k sb _ hv0 (hb0.below ((((Below.refl _ _).alloc (Nat.le_refl _) _).alloc (by simp) _).alloc (by simp; omega) _))).mono ?_
    rintro e u ⟨v', rfl, hv', hb⟩
    have hx := hv'
    obtain ⟨t0, t1, t2, t3, t4, t5, t6, t7, f', n', rfl, -⟩ := hx
    obtain ⟨w2, rfl, r2, hB2, hz2⟩ := open1 (g := w.heap.size + 1 + 1) hb (Row.new' _ _ (by simp))
    have hC : Below w.heap.size w w2 := ((((Below.refl _ _).alloc (Nat.le_refl _) _).alloc (by simp) _).alloc (by simp; omega) _).trans (hB2.mono (by simp; omega))
    have hl2 := isRow_lt r2
    clear hb hB2 hz2
    go_wp2_with fail
    refine bodyPost_ret (v := rg t0 t1 t2 t3 t4 t5 t6 t7 f' n' k) ?_ rfl ⟨_, rfl, hv', ?_⟩
    · simp [results, Try.results20, go_sem, r2, hl2]
    · first | exact below_rows (hC.alloc hC.size _) (by omega) _ | exact (below_rows hC (by omega) _).alloc (by simpa using hC.size) _ | exact below_rows hC (by omega) _
  · rw [if_neg d0]
    have e0 : (d == 0) = false := by simp [d0]
    by_cases d1 : d = 1
    · subst d1
      rw [if_pos rfl]
      dsimp only
      go_enter Try.func20, Try.ntmps20
      go_wp2_with fail
      refine (pop_any _ l k _ hv0).mono ?_
      rintro e u ⟨v', pv, rfl, hv', -, hb⟩
      have hx := hv'
      obtain ⟨t0, t1, t2, t3, t4, t5, t6, t7, f', n', rfl, -⟩ := hx
      obtain ⟨w2, rfl, r2, hB2, hz2⟩ := open1 (g := w.heap.size + 1 + 1) hb (Row.new' _ _ (by simp))
      have hC : Below w.heap.size w w2 := ((((Below.refl _ _).alloc (Nat.le_refl _) _).alloc (by simp) _).alloc (by simp; omega) _).trans (hB2.mono (by simp; omega))
      have hl2 := isRow_lt r2
      clear hb hB2 hz2
      go_wp2_with fail
      refine bodyPost_ret (v := rg t0 t1 t2 t3 t4 t5 t6 t7 f' n' k) ?_ rfl ⟨_, rfl, hv', ?_⟩
      · simp [results, Try.results20, go_sem, r2, hl2]
      · first | exact below_rows (hC.alloc hC.size _) (by omega) _ | exact (below_rows hC (by omega) _).alloc (by simpa using hC.size) _ | exact below_rows hC (by omega) _
    · rw [if_neg d1]
      have e1 : (d == 1) = false := by simp [d1]
      by_cases d2 : d = 2
      · subst d2
        rw [if_pos rfl]
        dsimp only
        go_enter Try.func20, Try.ntmps20
        go_wp2_with fail
        refine (grow_any _ l k _ hv0).mono ?_
        rintro e u ⟨v', rfl, hv', hb⟩
        have hx := hv'
        obtain ⟨t0, t1, t2, t3, t4, t5, t6, t7, f', n', rfl, -⟩ := hx
        obtain ⟨w2, rfl, r2, hB2, hz2⟩ := open1 (g := w.heap.size + 1 + 1) hb (Row.new' _ _ (by simp))
        have hC : Below w.heap.size w w2 := ((((Below.refl _ _).alloc (Nat.le_refl _) _).alloc (by simp) _).alloc (by simp; omega) _).trans (hB2.mono (by simp; omega))
        have hl2 := isRow_lt r2
        clear hb hB2 hz2
        go_wp2_with fail
        refine bodyPost_ret (v := rg t0 t1 t2 t3 t4 t5 t6 t7 f' n' ((mGrow k).1 : Nat)) ?_ rfl ⟨_, rfl, hv', ?_⟩
        · simp [results, Try.results20, go_sem, r2, hl2]
        · first | exact below_rows (hC.alloc hC.size _) (by omega) _ | exact (below_rows hC (by omega) _).alloc (by simpa using hC.size) _ | exact below_rows hC (by omega) _
      · rw [if_neg d2]
        have e2 : (d == 2) = false := by simp [d2]
        by_cases d3 : d = 3
        · subst d3
          rw [if_pos rfl]
          dsimp only
          go_enter Try.func20, Try.ntmps20
          go_wp2_with fail
          refine (clear_any _ l k _ hv0).mono ?_
          rintro e u ⟨rfl, hb⟩
          have hv' := ringV_new k h2
          obtain ⟨w2, rfl, r2, hB2, hz2⟩ := open1 (g := w.heap.size + 1 + 1) hb (Row.new' _ _ (by simp))
          have hC : Below w.heap.size w w2 := ((((Below.refl _ _).alloc (Nat.le_refl _) _).alloc (by simp) _).alloc (by simp; omega) _).trans (hB2.mono (by simp; omega))
          have hl2 := isRow_lt r2
          clear hb hB2 hz2
          go_wp2_with fail
          refine bodyPost_ret (v := rg0 k) ?_ rfl ⟨_, rfl, hv', ?_⟩
          · simp [results, Try.results20, go_sem, r2, hl2]
          · first | exact below_rows (hC.alloc hC.size _) (by omega) _ | exact (below_rows hC (by omega) _).alloc (by simpa using hC.size) _ | exact below_rows hC (by omega) _
        · rw [if_neg d3]
          have e3 : (d == 3) = false := by simp [d3]
          clear d0 d1 d2 d3
          go_enter Try.func20, Try.ntmps20
          go_wp2_with fail
          refine bodyPost_ret (v := rg s0 s1 s2 s3 s4 s5 s6 s7 f n k) ?_ rfl ⟨_, rfl, hv0, ?_⟩
          · simp [results, Try.results20, go_sem]
          · exact ((((Below.refl _ _).alloc (Nat.le_refl _) _).alloc (by simp) _).alloc (by simp; omega) _)
end Go.Proofs.Ytgdpahojinknmaa
