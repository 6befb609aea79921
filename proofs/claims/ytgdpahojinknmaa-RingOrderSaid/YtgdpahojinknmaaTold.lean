/- The walk of penstocklaw01.told. -/
import Derived.Test.YtgdpahojinknmaaChecked
import Derived.WalkKit
import Derived.WalkLawsBesides
import Derived.WalkSpells
import Derived.Outline
import Derived.Below
import Derived.Lib.Hide
import Derived.OwnWalk
import Derived.Lib.SlBytesConst
import Derived.Test.YtgdpahojinknmaaReg
import Derived.Test.YtgdpahojinknmaaMem2
import Derived.RangeFuncNested
import Derived.RangeFuncBound
import Derived.RangeFuncCalls
import Derived.RangeFuncLeaves
import Derived.Shelf.Abstract
import Derived.Shelf.RegionOpen
import Derived.OwnWalkIn
import Derived.TacticsInMore
import Derived.LoopNIn
import Derived.LoopIn
import Derived.Test.YtgdpahojinknmaaRange
import Derived.Test.YtgdpahojinknmaaRingA
import Derived.Maps.AppendAt
namespace Go.Proofs.Ytgdpahojinknmaa
open Go.RowKit Go.Shelf
set_option linter.unusedSimpArgs false
set_option linter.unusedVariables false
attribute [local go_sem] Oper.semAt_some

theorem infoS : (Try.prog.info? 9).map (fun i => (i.zero, i.size, i.bytes)) = some (some (.string ⟨#[]⟩), 1, 16) := by kernel_rfl

theorem not_nil (p : Value) (w : World) : (binOp .eql 91 (.func (.func 71) #[] #[p]) .nilFunc).run Try.prog w = .ok (.bool false) w := by kernel_rfl

set_option maxRecDepth 100000 in
set_option maxHeartbeats 2000000 in
theorem told_any (v : Value) (l : List ByteArray) (k : Nat) (w : World) (hv : RingV v l k) :
    Calls Try.prog 17 #[v] w fun e w' => ∃ lv, e = .returned lv ∧ w'.ownsRow w.heap.size 9 1 lv l.length (l.map Value.string) ∧ Below w.heap.size w w' := by
  obtain ⟨s0, s1, s2, s3, s4, s5, s6, s7, f, m, rfl, hf, h1, h2, rfl⟩ := hv
  have hnn := not_nil
  obtain ⟨i0, hi0, hz0, hz1, hz2⟩ := info_parts infoS
  refine (callsIn_wide (n := 5)).1 ?_
  refine callsIn_of_wp_marks Try.func17 rfl trivial ?_ rfl
  simp only [Try.ntmps17, List.size_toArray, List.length_cons, List.length_nil, Nat.reduceAdd, Nat.reduceSub, Array.replicate_succ, Array.replicate_zero, List.push_toArray, List.append_toArray, List.nil_append, List.cons_append]
  gi_wp2_with ((first | (refine ⟨trivial, fun _ => by omega, ?_⟩; gi_at_call 46) | (refine ⟨trivial, ?_⟩; gi_at_call 46) | (refine ⟨fun _ => by omega, ?_⟩; gi_at_call 46) | gi_at_call 46); refine (all_any (.agg #[]) _ s0 s1 s2 s3 s4 s5 s6 s7 f m k _).mono ?_; rintro e w1 ⟨rfl, rfl⟩)
  have HX := blk_new ((((w.alloc (.cells #[.string s0, .string s1, .string s2, .string s3, .string s4, .string s5, .string s6, .string s7, .int .i64 f, .int .i64 m, .int .i64 k] 25)).alloc (.cells #[.slice none 0 0] 31)).alloc (.cells #[.string s0, .string s1, .string s2, .string s3, .string s4, .string s5, .string s6, .string s7, .int .i64 f, .int .i64 m, .int .i64 k] 25)).alloc (.cells #[.string s0, .string s1, .string s2, .string s3, .string s4, .string s5, .string s6, .string s7, .int .i64 f, .int .i64 m, .int .i64 k] 25)) (.cells #[.string s0, .string s1, .string s2, .string s3, .string s4, .string s5, .string s6, .string s7, .int .i64 f, .int .i64 m, .int .i64 k] 25)
  have HL := Boxed.new (w.alloc (.cells #[.string s0, .string s1, .string s2, .string s3, .string s4, .string s5, .string s6, .string s7, .int .i64 f, .int .i64 m, .int .i64 k] 25)) 31 (.slice none 0 0)
  simp only [World.size_alloc] at HX HL
  refine wpIn_range_fresh rfl (by omega) (gf := 71) (lb := #[.pointer (some ⟨w.heap.size + 1 + 1 + 1 + 1, 0, none⟩)]) rfl trivial (enters_of Try.func71 (by kernel_rfl) rfl)
    (all1_gives (w.heap.size + 5) (w.heap.size + 4) s0 s1 s2 s3 s4 s5 s6 s7 f m k hf (by omega) _ (by omega) (by omega)) ⟨HX, by simp⟩ (AllK.from _ _ _ _) (fun k xs W hx => by obtain ⟨v, rfl, _⟩ := hx; rfl) (fun k => AllX.from _ _ k _)
    (fun k W => (∃ v, Boxed W (w.heap.size + 1) 31 v ∧ W.ownsRow w.heap.size 9 1 v k (((cont [s0, s1, s2, s3, s4, s5, s6, s7] f m).take k).map Value.string) ∧ True) ∧ Below w.heap.size w W)
    (OwnFrom.and (Own.from (holdsRow_own w.heap.size (w.heap.size + 1) _ _ 1 (fun k => k) (fun k => ((cont [s0, s1, s2, s3, s4, s5, s6, s7] f m).take k).map Value.string) (fun _ _ => True)) _) (ownFrom_below (Nat.le_refl _) (by simp; omega)))
    ⟨⟨_, (((HL.alloc _).alloc _).alloc _), World.ownsRow_nil _ _ _ _, trivial⟩, ?h0⟩
    (fun xs => { tmps := #[rg s0 s1 s2 s3 s4 s5 s6 s7 f m k, .pointer (some ⟨w.heap.size, 0, none⟩), .slice none 0 0, .pointer (some ⟨w.heap.size + 1, 0, none⟩), undef, sndV xs, Value.agg #[.string s0, .string s1, .string s2, .string s3, .string s4, .string s5, .string s6, .string s7, .int .i64 f, .int .i64 m, .int .i64 k], Value.func (.func 71) #[] #[.pointer (some ⟨w.heap.size + 1 + 1, 0, none⟩)], .bool false, Value.agg #[.string s0, .string s1, .string s2, .string s3, .string s4, .string s5, .string s6, .string s7, .int .i64 f, .int .i64 m, .int .i64 k], Value.func (.func 71) #[] #[.pointer (some ⟨w.heap.size + 1 + 1 + 1, 0, none⟩)], .bool false, Value.agg #[.string s0, .string s1, .string s2, .string s3, .string s4, .string s5, .string s6, .string s7, .int .i64 f, .int .i64 m, .int .i64 k], Value.func (.func 71) #[] #[.pointer (some ⟨w.heap.size + 1 + 1 + 1 + 1, 0, none⟩)], fstV xs, sndV xs, undef, undef, undef, undef, undef, undef], defers := [] }) ?assign ?body ?done
  case h0 => exact (((((Below.refl _ _).alloc (Nat.le_refl _) _).alloc (by simp) _).alloc (by simp; omega) _).alloc (by simp; omega) _).alloc (by simp; omega) _
  case assign =>
    rintro l k' xs W K ⟨v, rfl, _⟩ hK
    gi_wp2
    exact hK
  case body =>
    rintro l k' xs W hl hr hd hk ⟨⟨lv, hbx, hrow, -⟩, hB⟩ ⟨v, rfl, hv⟩ hB0
    have hne := hB0.not_row (e := 9) (by decide) hrow
    replace hB0 := Lib.hid hB0
    have hcv := hv.at.conv (P := Try.prog) 32 5 9 Try.underlying32 Try.underlying5 Try.underlying9
    have hc := hbx.cell
    have hlen : ((cont [s0, s1, s2, s3, s4, s5, s6, s7] f m).take k').length = k' := by rw [List.length_take, cont_length]; omega
    have hsucc : ((cont [s0, s1, s2, s3, s4, s5, s6, s7] f m).take (k' + 1)).map Value.string = ((cont [s0, s1, s2, s3, s4, s5, s6, s7] f m).take k').map Value.string ++ [.string ((cont [s0, s1, s2, s3, s4, s5, s6, s7] f m).getD k' ByteArray.empty)] := by
      rw [List.take_succ_eq_append_getElem (by rw [cont_length]; exact hk), List.map_append]
      simp [List.getD, cont_length, hk]
    have HS := Lib.hid hsucc
    clear hsucc hlen
    generalize (cont [s0, s1, s2, s3, s4, s5, s6, s7] f m).getD k' ByteArray.empty = b at hcv HS hv
    simp only [fstV_mk, sndV_mk]
    gi_wp2_with (gi_at_builtin; refine wpListIn_append_own _ rfl _ _ 31 rfl w.heap.size 9 i0 (.string ⟨#[]⟩) 1 16 Try.underlying31 hi0 hz0 hz1 hz2 rfl (by decide) _ _ _ rfl (hrow.alloc _) ⟨W.heap.size, 0, none⟩ 1 1 [.string b] rfl rfl (cell_one_new _ _ _) (by simp [Value.oneCell']) (by unfold maxLen; omega) (by omega) (by have := hB.size; simp; omega) ?_; intro v' w1 hown' hgrow _; obtain ⟨g', cap', rfl⟩ := ownsRow_succ hown'; obtain ⟨hv1, hv2, hr2, hk2, hb2⟩ := hbx.appended (by decide) hrow hB.size (by omega) hown' hgrow; have hc1 := hv1.cell; have hf1 := hv1.frozen)
    refine ⟨hk2, ⟨?_, ?_⟩, ⟨⟨_, hv2, ?_, trivial⟩, hB.trans hb2⟩⟩
    · rw [Below.heap_setCell _ _ _ _ (by simp)]
      exact (hgrow.block _ (by have := (Array.getElem?_eq_some_iff.1 hB0.out.1).1; simp; omega) hne).trans (blk_old hB0.out.1 _)
    · have := hB0.out.2
      have := hb2.size
      omega
    · rw [HS.out]; exact hr2
  case done =>
    rintro D W hD ⟨⟨lv, hbx, hrow, -⟩, hB⟩ - hK
    have hc := hbx.cell
    gi_wp2
    refine ⟨by simp, .inl ⟨_, _, rfl, run_takeDeferred hK, ?_⟩⟩
    refine ⟨_, results_tmp rfl _ _ _, lv, rfl, ?_, ?_⟩
    · have hfull : (cont [s0, s1, s2, s3, s4, s5, s6, s7] f m).take m = cont [s0, s1, s2, s3, s4, s5, s6, s7] f m := List.take_of_length_le (by rw [cont_length]; exact Nat.le_refl _)
      rw [hfull] at hrow
      rw [cont_length]
      exact ownsRow_putObj hrow _ hK rfl
    · simp only [World.size_alloc] at hD
      exact hB.grown (grownBy_putObj' W D _) hB.size (fun r e => by cases e; omega)
end Go.Proofs.Ytgdpahojinknmaa
