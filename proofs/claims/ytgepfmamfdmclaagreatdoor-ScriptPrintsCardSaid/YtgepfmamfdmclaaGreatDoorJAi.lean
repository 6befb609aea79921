/- Part of the proof: Hpb. -/
import Derived.Test.YtgepfmamfdmclaaGreatDoorJAf
import Derived.Test.YtgepfmamfdmclaaGreatDoorJAh
set_option linter.unusedVariables false
set_option linter.unusedSimpArgs false
set_option maxRecDepth 100000
namespace Go.Proofs.YtgepfmamfdmclaaGreatDoor
open Go Vm Go.RowKit
theorem sumNeed {t x y : ByteArray} (e : x = y) (h : t.size + y.size ≤ 10000000) : Nat.ble (t.size + x.size) 9223372036854775807 = true := by
 subst e
 exact Nat.ble_eq_true_of_le (by omega)
abbrev qOb (J : JobV) : List VObj := [pvRows J.ps, d5Rows J.ds, srcRows J.ss, t4Rows J.pan, t4Rows J.sto, filRows J.fl, .cells (intsC J.sch) 3 true, boxJ J]
theorem Print_fn (J : JobV) (ho : JobOk J) (hl : JLight J) : FnT Tryz.prog 14 [.agg (jobA J 0).toArray] (jobO J) fun r q => r = .ret (.tuple #[.string (outB J).1, .int .i64 (outB J).2]) ∧ q = jobO J := by
 have pp : (intsC J.sch).all isScal = true := by simp
 have z1 := t1B_size ho hl
 have z2 := t2B_size ho hl
 have z3 := t3B_size ho hl
 have z4 := t4B_size ho hl
 have z5 := t5B_size ho hl
 have z6 := t6B_size ho hl
 refine FnT.ofT (n := slotsC Tryz.prog 14) (by kernel_rfl) ?_
 apply q0_a J pp
 apply q1_a J ByteArray.empty pp
 rw [List.drop_drop]
 refine TriL.blockAt 3 0 (by kernel_rfl) ?_
 refine TriL.loopAt (fun i : Nat => ⟨[(1, .pointer (some ⟨7, 0, none⟩)), (4, .string (linesB stageB ByteArray.empty (J.ps.take i))), (5, .int .i64 (i : Int))], qOb J⟩) (fun i => J.ps.length - i) (fun i => i ≤ J.ps.length) 0 (by kernel_rfl) (Nat.zero_le _) ?_
 intro i hi
 have hlen1 := hl.ps
 have hz : (linesB stageB ByteArray.empty (J.ps.take i)).size ≤ ByteArray.empty.size + 1300 * i := by
  have := linesB_size stageB 1300 (J.ps.take i) ByteArray.empty fun x hx => e1B ho hl x (List.mem_of_mem_take hx)
  rw [List.length_take] at this
  have h2 : 1300 * min i J.ps.length ≤ 1300 * i := Nat.mul_le_mul_left _ (Nat.min_le_left _ _)
  omega
 apply q1_b J (linesB stageB ByteArray.empty (J.ps.take i)) i pp
 case l1 =>
  intro g
  have g := of_decide_eq_true g
  have hlt : i < J.ps.length := by omega
  have hs := getD_at (z := pvZ) hlt
  have hmem := List.getElem_mem hlt
  obtain ⟨k1, k2⟩ := ho.ps _ hmem
  obtain ⟨a1, a2⟩ := hl.pe _ hmem
  have i1 := itB_size k1
  have i2 := itB_size k2
  have x1 := hexB_size J.ps[i].a
  have x2 := hexB_size J.ps[i].b
  have e0 : ByteArray.empty.size = 0 := rfl
  apply q1_c J (linesB stageB ByteArray.empty (J.ps.take i)) i hlt (by omega) (by omega)
  case n0 => rw [hs]; exact okB_iff.2 k1
  case n3 => rw [hs]; exact okB_iff.2 k2
  case n6 => rw [hs]; exact hexNeed (by omega)
  case n9 => rw [hs]; exact hexNeed (by omega)
  case l13 =>
   refine QL.to (i + 1) (by omega) (by omega) ?_
   unfold q1_c_d0
   simp only [hs, hex_eq]
   rw [w64' (z := (i : Int) + 1) (by omega) (by omega), linesB_take stageB ByteArray.empty J.ps i hlt]
   unfold stageB
   simp only [ByteArray.append_assoc]
   rfl
  all_goals (apply Nat.ble_eq_true_of_le; simp only [hs, hex_eq, ByteArray.size_append, bm_size, List.size_toArray, List.length_cons, List.length_nil]; omega)
 case l2 =>
  intro g
  have g := of_decide_eq_false g
  rw [List.take_of_length_le (by omega)]
  clear hz
  repeat (first | with_reducible refine QL.ret ?_ | with_reducible refine QL.exit ?_ | with_reducible refine QB.ret ?_ | with_reducible refine QB.hit ?_ | with_reducible refine QB.normal ?_ | with_reducible refine QB.miss (by rfl) ?_)
  apply q2_a J (t1B J) pp
  rw [List.drop_drop]
  refine TriL.blockAt 5 2 (by kernel_rfl) ?_
  refine TriL.loopAt (fun i : Nat => ⟨[(1, .pointer (some ⟨7, 0, none⟩)), (4, .string (linesB ductB (t1B J) (J.ds.take i))), (7, .int .i64 (i : Int))], qOb J⟩) (fun i => J.ds.length - i) (fun i => i ≤ J.ds.length) 0 (by kernel_rfl) (Nat.zero_le _) ?_
  intro i hi
  have hlen2 := hl.ds
  have hz : (linesB ductB (t1B J) (J.ds.take i)).size ≤ (t1B J).size + 115 * i := by
   have := linesB_size ductB 115 (J.ds.take i) (t1B J) fun x hx => e2B ho x (List.mem_of_mem_take hx)
   rw [List.length_take] at this
   have h2 : 115 * min i J.ds.length ≤ 115 * i := Nat.mul_le_mul_left _ (Nat.min_le_left _ _)
   omega
  apply q2_b J (linesB ductB (t1B J) (J.ds.take i)) i pp
  case l1 =>
   intro g
   have g := of_decide_eq_true g
   have hlt : i < J.ds.length := by omega
   have hs := getD_at (z := d5Z) hlt
   have hmem := List.getElem_mem hlt
   obtain ⟨ba, bb, bc, bd, be⟩ := ho.ds _ hmem
   have hr := rowB_size [J.ds[i].a, J.ds[i].b, J.ds[i].c, J.ds[i].d, J.ds[i].e] sDuct (all5 ba bb bc bd be)
   have hzr : (22 : Nat) * [J.ds[i].a, J.ds[i].b, J.ds[i].c, J.ds[i].d, J.ds[i].e].length = 110 := rfl
   have hsw : sDuct.size = 4 := rfl
   apply q2_c J (linesB ductB (t1B J) (J.ds.take i)) i hlt (by omega) (by omega)
   case n0 => simp only [hs]; exact rowNeed (l := [J.ds[i].a, J.ds[i].b, J.ds[i].c, J.ds[i].d, J.ds[i].e]) rfl (all5 ba bb bc bd be) rfl (by decide) (by show 5 ≤ 20000; decide)
   case n1 => simp only [hs]; exact sumNeed (y := rowB sDuct [J.ds[i].a, J.ds[i].b, J.ds[i].c, J.ds[i].d, J.ds[i].e]) (row_eq (l := [J.ds[i].a, J.ds[i].b, J.ds[i].c, J.ds[i].d, J.ds[i].e]) rfl) (by omega)
   case l3 =>
    refine QL.to (i + 1) (by omega) (by omega) ?_
    unfold q2_c_d0
    simp only [hs]
    rw [row_eq (c := [Value.int IntKind.i64 J.ds[i].a, Value.int IntKind.i64 J.ds[i].b, Value.int IntKind.i64 J.ds[i].c, Value.int IntKind.i64 J.ds[i].d, Value.int IntKind.i64 J.ds[i].e]) (l := [J.ds[i].a, J.ds[i].b, J.ds[i].c, J.ds[i].d, J.ds[i].e]) rfl, w64' (z := (i : Int) + 1) (by omega) (by omega), linesB_take ductB (t1B J) J.ds i hlt]
    rfl
  case l2 =>
   intro g
   have g := of_decide_eq_false g
   rw [List.take_of_length_le (by omega)]
   clear hz
   repeat (first | with_reducible refine QL.ret ?_ | with_reducible refine QL.exit ?_ | with_reducible refine QB.ret ?_ | with_reducible refine QB.hit ?_ | with_reducible refine QB.normal ?_ | with_reducible refine QB.miss (by rfl) ?_)
   apply q3_a J (t2B J) pp
   rw [List.drop_drop]
   refine TriL.blockAt 7 4 (by kernel_rfl) ?_
   refine TriL.loopAt (fun i : Nat => ⟨[(1, .pointer (some ⟨7, 0, none⟩)), (4, .string (linesB srcB (t2B J) (J.ss.take i))), (9, .int .i64 (i : Int))], qOb J⟩) (fun i => J.ss.length - i) (fun i => i ≤ J.ss.length) 0 (by kernel_rfl) (Nat.zero_le _) ?_
   intro i hi
   have hlen3 := hl.ss
   have hz : (linesB srcB (t2B J) (J.ss.take i)).size ≤ (t2B J).size + 17000 * i := by
    have := linesB_size srcB 17000 (J.ss.take i) (t2B J) fun x hx => e3B ho hl x (List.mem_of_mem_take hx)
    rw [List.length_take] at this
    have h2 : 17000 * min i J.ss.length ≤ 17000 * i := Nat.mul_le_mul_left _ (Nat.min_le_left _ _)
    omega
   apply q3_b J (linesB srcB (t2B J) (J.ss.take i)) i pp
   case l1 =>
    intro g
    have g := of_decide_eq_true g
    have hlt : i < J.ss.length := by omega
    have hs := getD_at (z := srcZ) hlt
    have hmem := List.getElem_mem hlt
    obtain ⟨sb, sc⟩ := hl.se _ hmem
    have hk := ho.ss _ hmem
    have hx := hexB_size J.ss[i].b
    have hsw : sSource.size = 7 := rfl
    refine TriL.blockAt 2 5 (by kernel_rfl) ?_
    apply q3_c J (linesB srcB (t2B J) (J.ss.take i)) i hlt (by omega) pp
    case l1 =>
     intro gf
     have hfl : ((1 : Int)) = (if J.ss[i].f then 1 else 0) := by rw [hs] at gf; rw [gf]; rfl
     have hok := srcOk hk 1 ⟨by omega, by omega⟩
     have hr := rowB_size ([1, J.ss[i].id] ++ J.ss[i].cuts) (sSource ++ hexB J.ss[i].b) hok
     have hll : ([(1 : Int), J.ss[i].id] ++ J.ss[i].cuts).length = J.ss[i].cuts.length + 2 := by rw [List.length_append]; show 2 + _ = _; omega
     rw [hll, ByteArray.size_append] at hr
     have hse : srcB J.ss[i] = rowB (sSource ++ hexB J.ss[i].b) ([1, J.ss[i].id] ++ J.ss[i].cuts) := by unfold srcB; rw [← hfl]
     have hce : ([Value.int IntKind.i64 1, Value.int IntKind.i64 (SrcV.id J.ss[i])] ++ List.take (List.length (SrcV.cuts J.ss[i]) * 1) (intsC (SrcV.cuts J.ss[i]))) = intsC ([1, J.ss[i].id] ++ J.ss[i].cuts) := by rw [take_ints, ← append_ints]; rfl
     unfold q3_c_d0
     simp only [hs]
     apply q3_d J (linesB srcB (t2B J) (J.ss.take i)) J.ss[i] 1 i (by omega) (by omega)
     case n0 => exact hexNeed (by omega)
     case n1 => rw [hex_eq]; exact Nat.ble_eq_true_of_le (by omega)
     case n2 => rw [take_ints]; exact one_of_plain (by simp)
     case n3 => rw [hce, hex_eq]; exact rowNeed (l := [1, J.ss[i].id] ++ J.ss[i].cuts) rfl hok (by rw [hll]; omega) (by rw [ByteArray.size_append]; have : (ByteArray.mk #[UInt8.ofNat 115, UInt8.ofNat 111, UInt8.ofNat 117, UInt8.ofNat 114, UInt8.ofNat 99, UInt8.ofNat 101, UInt8.ofNat 32]).size = 7 := rfl; omega) (by rw [hll]; omega)
     case n4 => rw [hex_eq]; exact sumNeed (y := rowB (sSource ++ hexB J.ss[i].b) ([1, J.ss[i].id] ++ J.ss[i].cuts)) (row_eq hce) (by omega)
     case l6 =>
      refine QB.normal ?_
      unfold q3_d_d0
      rw [hex_eq, row_eq hce]
      apply q3_e J (linesB srcB (t2B J) (J.ss.take i) ++ rowB (sSource ++ hexB J.ss[i].b) ([1, J.ss[i].id] ++ J.ss[i].cuts)) i hlt (by omega) pp
      refine QL.to (i + 1) (by omega) (by omega) ?_
      unfold q3_e_d0
      rw [w64' (z := (i : Int) + 1) (by omega) (by omega), linesB_take srcB (t2B J) J.ss i hlt, hse]
      rfl
    case l2 =>
     intro gf
     have hfl : ((0 : Int)) = (if J.ss[i].f then 1 else 0) := by rw [hs] at gf; rw [gf]; rfl
     have hok := srcOk hk 0 ⟨by omega, by omega⟩
     have hr := rowB_size ([0, J.ss[i].id] ++ J.ss[i].cuts) (sSource ++ hexB J.ss[i].b) hok
     have hll : ([(0 : Int), J.ss[i].id] ++ J.ss[i].cuts).length = J.ss[i].cuts.length + 2 := by rw [List.length_append]; show 2 + _ = _; omega
     rw [hll, ByteArray.size_append] at hr
     have hse : srcB J.ss[i] = rowB (sSource ++ hexB J.ss[i].b) ([0, J.ss[i].id] ++ J.ss[i].cuts) := by unfold srcB; rw [← hfl]
     have hce : ([Value.int IntKind.i64 0, Value.int IntKind.i64 (SrcV.id J.ss[i])] ++ List.take (List.length (SrcV.cuts J.ss[i]) * 1) (intsC (SrcV.cuts J.ss[i]))) = intsC ([0, J.ss[i].id] ++ J.ss[i].cuts) := by rw [take_ints, ← append_ints]; rfl
     unfold q3_c_d1
     simp only [hs]
     apply q3_d J (linesB srcB (t2B J) (J.ss.take i)) J.ss[i] 0 i (by omega) (by omega)
     case n0 => exact hexNeed (by omega)
     case n1 => rw [hex_eq]; exact Nat.ble_eq_true_of_le (by omega)
     case n2 => rw [take_ints]; exact one_of_plain (by simp)
     case n3 => rw [hce, hex_eq]; exact rowNeed (l := [0, J.ss[i].id] ++ J.ss[i].cuts) rfl hok (by rw [hll]; omega) (by rw [ByteArray.size_append]; have : (ByteArray.mk #[UInt8.ofNat 115, UInt8.ofNat 111, UInt8.ofNat 117, UInt8.ofNat 114, UInt8.ofNat 99, UInt8.ofNat 101, UInt8.ofNat 32]).size = 7 := rfl; omega) (by rw [hll]; omega)
     case n4 => rw [hex_eq]; exact sumNeed (y := rowB (sSource ++ hexB J.ss[i].b) ([0, J.ss[i].id] ++ J.ss[i].cuts)) (row_eq hce) (by omega)
     case l6 =>
      refine QB.normal ?_
      unfold q3_d_d0
      rw [hex_eq, row_eq hce]
      apply q3_e J (linesB srcB (t2B J) (J.ss.take i) ++ rowB (sSource ++ hexB J.ss[i].b) ([0, J.ss[i].id] ++ J.ss[i].cuts)) i hlt (by omega) pp
      refine QL.to (i + 1) (by omega) (by omega) ?_
      unfold q3_e_d0
      rw [w64' (z := (i : Int) + 1) (by omega) (by omega), linesB_take srcB (t2B J) J.ss i hlt, hse]
      rfl
   case l2 =>
    intro g
    have g := of_decide_eq_false g
    rw [List.take_of_length_le (by omega)]
    clear hz
    repeat (first | with_reducible refine QL.ret ?_ | with_reducible refine QL.exit ?_ | with_reducible refine QB.ret ?_ | with_reducible refine QB.hit ?_ | with_reducible refine QB.normal ?_ | with_reducible refine QB.miss (by rfl) ?_)
    apply q4_a J (t3B J) pp
    rw [List.drop_drop]
    refine TriL.blockAt 9 6 (by kernel_rfl) ?_
    refine TriL.loopAt (fun i : Nat => ⟨[(1, .pointer (some ⟨7, 0, none⟩)), (4, .string (linesB panB (t3B J) (J.pan.take i))), (12, .int .i64 (i : Int))], qOb J⟩) (fun i => J.pan.length - i) (fun i => i ≤ J.pan.length) 0 (by kernel_rfl) (Nat.zero_le _) ?_
    intro i hi
    have hlen4 := hl.pan
    have hz : (linesB panB (t3B J) (J.pan.take i)).size ≤ (t3B J).size + 100 * i := by
     have := linesB_size panB 100 (J.pan.take i) (t3B J) fun x hx => e4B ho x (List.mem_of_mem_take hx)
     rw [List.length_take] at this
     have h2 : 100 * min i J.pan.length ≤ 100 * i := Nat.mul_le_mul_left _ (Nat.min_le_left _ _)
     omega
    apply q4_b J (linesB panB (t3B J) (J.pan.take i)) i pp
    case l1 =>
     intro g
     have g := of_decide_eq_true g
     have hlt : i < J.pan.length := by omega
     have hs := getD_at (z := t4Z) hlt
     have hmem := List.getElem_mem hlt
     obtain ⟨ba, bb, bc, bd⟩ := ho.pan _ hmem
     have hr := rowB_size [J.pan[i].a, J.pan[i].b, J.pan[i].c, J.pan[i].d] sPanic (all4 ba bb bc bd)
     have hzr : (22 : Nat) * [J.pan[i].a, J.pan[i].b, J.pan[i].c, J.pan[i].d].length = 88 := rfl
     have hsw : sPanic.size = 5 := rfl
     apply q4_c J (linesB panB (t3B J) (J.pan.take i)) i hlt (by omega) (by omega)
     case n0 => simp only [hs]; exact rowNeed (l := [J.pan[i].a, J.pan[i].b, J.pan[i].c, J.pan[i].d]) rfl (all4 ba bb bc bd) rfl (by decide) (by show 4 ≤ 20000; decide)
     case n1 => simp only [hs]; exact sumNeed (y := rowB sPanic [J.pan[i].a, J.pan[i].b, J.pan[i].c, J.pan[i].d]) (row_eq (l := [J.pan[i].a, J.pan[i].b, J.pan[i].c, J.pan[i].d]) rfl) (by omega)
     case l3 =>
      refine QL.to (i + 1) (by omega) (by omega) ?_
      unfold q4_c_d0
      simp only [hs]
      rw [row_eq (c := [Value.int IntKind.i64 J.pan[i].a, Value.int IntKind.i64 J.pan[i].b, Value.int IntKind.i64 J.pan[i].c, Value.int IntKind.i64 J.pan[i].d]) (l := [J.pan[i].a, J.pan[i].b, J.pan[i].c, J.pan[i].d]) rfl, w64' (z := (i : Int) + 1) (by omega) (by omega), linesB_take panB (t3B J) J.pan i hlt]
      rfl
    case l2 =>
     intro g
     have g := of_decide_eq_false g
     rw [List.take_of_length_le (by omega)]
     clear hz
     repeat (first | with_reducible refine QL.ret ?_ | with_reducible refine QL.exit ?_ | with_reducible refine QB.ret ?_ | with_reducible refine QB.hit ?_ | with_reducible refine QB.normal ?_ | with_reducible refine QB.miss (by rfl) ?_)
     apply q5_a J (t4B J) pp
     rw [List.drop_drop]
     refine TriL.blockAt 11 8 (by kernel_rfl) ?_
     refine TriL.loopAt (fun i : Nat => ⟨[(1, .pointer (some ⟨7, 0, none⟩)), (4, .string (linesB stoB (t4B J) (J.sto.take i))), (14, .int .i64 (i : Int))], qOb J⟩) (fun i => J.sto.length - i) (fun i => i ≤ J.sto.length) 0 (by kernel_rfl) (Nat.zero_le _) ?_
     intro i hi
     have hlen5 := hl.sto
     have hz : (linesB stoB (t4B J) (J.sto.take i)).size ≤ (t4B J).size + 100 * i := by
      have := linesB_size stoB 100 (J.sto.take i) (t4B J) fun x hx => e5B ho x (List.mem_of_mem_take hx)
      rw [List.length_take] at this
      have h2 : 100 * min i J.sto.length ≤ 100 * i := Nat.mul_le_mul_left _ (Nat.min_le_left _ _)
      omega
     apply q5_b J (linesB stoB (t4B J) (J.sto.take i)) i pp
     case l1 =>
      intro g
      have g := of_decide_eq_true g
      have hlt : i < J.sto.length := by omega
      have hs := getD_at (z := t4Z) hlt
      have hmem := List.getElem_mem hlt
      obtain ⟨ba, bb, bc, bd⟩ := ho.sto _ hmem
      have hr := rowB_size [J.sto[i].a, J.sto[i].b, J.sto[i].c, J.sto[i].d] sStop (all4 ba bb bc bd)
      have hzr : (22 : Nat) * [J.sto[i].a, J.sto[i].b, J.sto[i].c, J.sto[i].d].length = 88 := rfl
      have hsw : sStop.size = 4 := rfl
      apply q5_c J (linesB stoB (t4B J) (J.sto.take i)) i hlt (by omega) (by omega)
      case n0 => simp only [hs]; exact rowNeed (l := [J.sto[i].a, J.sto[i].b, J.sto[i].c, J.sto[i].d]) rfl (all4 ba bb bc bd) rfl (by decide) (by show 4 ≤ 20000; decide)
      case n1 => simp only [hs]; exact sumNeed (y := rowB sStop [J.sto[i].a, J.sto[i].b, J.sto[i].c, J.sto[i].d]) (row_eq (l := [J.sto[i].a, J.sto[i].b, J.sto[i].c, J.sto[i].d]) rfl) (by omega)
      case l3 =>
       refine QL.to (i + 1) (by omega) (by omega) ?_
       unfold q5_c_d0
       simp only [hs]
       rw [row_eq (c := [Value.int IntKind.i64 J.sto[i].a, Value.int IntKind.i64 J.sto[i].b, Value.int IntKind.i64 J.sto[i].c, Value.int IntKind.i64 J.sto[i].d]) (l := [J.sto[i].a, J.sto[i].b, J.sto[i].c, J.sto[i].d]) rfl, w64' (z := (i : Int) + 1) (by omega) (by omega), linesB_take stoB (t4B J) J.sto i hlt]
       rfl
     case l2 =>
      intro g
      have g := of_decide_eq_false g
      rw [List.take_of_length_le (by omega)]
      clear hz
      repeat (first | with_reducible refine QL.ret ?_ | with_reducible refine QL.exit ?_ | with_reducible refine QB.ret ?_ | with_reducible refine QB.hit ?_ | with_reducible refine QB.normal ?_ | with_reducible refine QB.miss (by rfl) ?_)
      apply q6_a J (t5B J) pp
      rw [List.drop_drop]
      refine TriL.blockAt 13 10 (by kernel_rfl) ?_
      refine TriL.loopAt (fun i : Nat => ⟨[(1, .pointer (some ⟨7, 0, none⟩)), (4, .string (linesB filB (t5B J) (J.fl.take i))), (16, .int .i64 (i : Int))], qOb J⟩) (fun i => J.fl.length - i) (fun i => i ≤ J.fl.length) 0 (by kernel_rfl) (Nat.zero_le _) ?_
      intro i hi
      have hlen6 := hl.fl
      have hz : (linesB filB (t5B J) (J.fl.take i)).size ≤ (t5B J).size + 14000 * i := by
       have := linesB_size filB 14000 (J.fl.take i) (t5B J) fun x hx => e6B ho hl x (List.mem_of_mem_take hx)
       rw [List.length_take] at this
       have h2 : 14000 * min i J.fl.length ≤ 14000 * i := Nat.mul_le_mul_left _ (Nat.min_le_left _ _)
       omega
      apply q6_b J (linesB filB (t5B J) (J.fl.take i)) i pp
      case l1 =>
       intro g
       have g := of_decide_eq_true g
       have hlt : i < J.fl.length := by omega
       have hs := getD_at (z := filZ) hlt
       have hmem := List.getElem_mem hlt
       obtain ⟨k1, k2⟩ := ho.fl _ hmem
       have hfe := hl.fe _ hmem
       refine TriL.blockAt 2 11 (by kernel_rfl) ?_
       apply q6_c J (linesB filB (t5B J) (J.fl.take i)) i hlt (by omega) pp
       unfold q6_c_d0
       simp only [hs]
       refine TriL.blockAt 3 12 (by kernel_rfl) ?_
       refine TriL.loopAt (fun k : Nat => ⟨[(1, .pointer (some ⟨7, 0, none⟩)), (4, .string (linesB filB (t5B J) (J.fl.take i))), (16, .int .i64 (i : Int)), (17, .pointer (some ⟨8, 0, none⟩)), (18, .slice (some ⟨9, 0, none⟩) (J.fl[i].st :: flatP (J.fl[i].fs.take k)).length (J.fl[i].st :: flatP (J.fl[i].fs.take k)).length), (19, .int .i64 (k : Int))], qOb J ++ [.cells [.int .i64 J.fl[i].st, .slice (some ⟨10, 0, none⟩) J.fl[i].fs.length J.fl[i].fs.length] 62 false, .cells (intsC (J.fl[i].st :: flatP (J.fl[i].fs.take k))) 3 false, prRows J.fl[i].fs]⟩) (fun k => J.fl[i].fs.length - k) (fun k => k ≤ J.fl[i].fs.length) 0 (by kernel_rfl) (Nat.zero_le _) ?_
       intro k hk
       have hll : (J.fl[i].st :: flatP (J.fl[i].fs.take k)).length = 2 * k + 1 := by rw [List.length_cons, flatP_len, List.length_take]; omega
       apply q6_d J (linesB filB (t5B J) (J.fl.take i)) J.fl[i] (J.fl[i].st :: flatP (J.fl[i].fs.take k)) i k pp (by simp)
       case l2 =>
        intro g2
        have g2 := of_decide_eq_true g2
        have hkt : k < J.fl[i].fs.length := by omega
        have hp := getD_at (z := ((0, 0) : Int × Int)) hkt
        apply q6_e J (linesB filB (t5B J) (J.fl.take i)) J.fl[i] (J.fl[i].st :: flatP (J.fl[i].fs.take k)) i k hkt (by omega) (by omega) pp
        refine QL.to (k + 1) (by omega) (by omega) ?_
        have hnx : J.fl[i].st :: flatP (J.fl[i].fs.take (k + 1)) = (J.fl[i].st :: flatP (J.fl[i].fs.take k)) ++ [J.fl[i].fs[k].1, J.fl[i].fs[k].2] := by rw [List.take_succ_eq_append_getElem hkt, flatP_append]; rfl
        unfold q6_e_d0
        simp only [hp]
        rw [w64' (z := (k : Int) + 1) (by omega) (by omega), hnx, ← append_ints, List.length_append]
        rfl
       case l3 =>
        intro g2
        have g2 := of_decide_eq_false g2
        have hte : J.fl[i].fs.take k = J.fl[i].fs := List.take_of_length_le (by omega)
        rw [hte] at hll ⊢
        have hok : ∀ n ∈ J.fl[i].st :: flatP J.fl[i].fs, okI n := fun n hn => by
         rcases List.mem_cons.1 hn with rfl | hn
         ·exact k1
         ·exact flatP_ok k2 n hn
        have hr := rowB_size (J.fl[i].st :: flatP J.fl[i].fs) sFiles hok
        rw [hll] at hr
        have hsw : sFiles.size = 5 := rfl
        refine QL.exit ?_
        refine QB.hit ?_
        apply q6_f J (linesB filB (t5B J) (J.fl.take i)) (J.fl[i].st :: flatP J.fl[i].fs) i (by omega) (by omega)
        case n0 => exact rowNeed (l := J.fl[i].st :: flatP J.fl[i].fs) rfl hok rfl (by decide) (by omega)
        case n1 => exact sumNeed (y := rowB sFiles (J.fl[i].st :: flatP J.fl[i].fs)) (row_eq (l := J.fl[i].st :: flatP J.fl[i].fs) rfl) (by omega)
        case l3 =>
         refine QB.normal ?_
         unfold q6_f_d0
         rw [row_eq (l := J.fl[i].st :: flatP J.fl[i].fs) rfl]
         apply q6_g J (linesB filB (t5B J) (J.fl.take i) ++ rowB sFiles (J.fl[i].st :: flatP J.fl[i].fs)) i hlt (by omega) pp
         refine QL.to (i + 1) (by omega) (by omega) ?_
         unfold q6_g_d0
         rw [w64' (z := (i : Int) + 1) (by omega) (by omega), linesB_take filB (t5B J) J.fl i hlt]
         rfl
      case l2 =>
       intro g
       have g := of_decide_eq_false g
       rw [List.take_of_length_le (by omega)]
       clear hz
       repeat (first | with_reducible refine QL.ret ?_ | with_reducible refine QL.exit ?_ | with_reducible refine QB.ret ?_ | with_reducible refine QB.hit ?_ | with_reducible refine QB.normal ?_ | with_reducible refine QB.miss (by rfl) ?_)
       have hsc := hl.sch
       have hr := rowB_size J.sch sPick ho.sch
       have hsw : sPick.size = 4 := rfl
       have hend : ∀ t : ByteArray, t = textB J → t.size ≤ 10000000 → TriL Tryz.prog 222 7 (Lpenstockref27_Print.drop 16) (xpb_i11 J t) (FinT Tryz.prog 14 222 7 fun r q => r = .ret (.tuple #[.string (outB J).1, .int .i64 (outB J).2]) ∧ q = jobO J) := by
        intro t ht hts
        apply q7_b J t hts pp
        case l1 =>
         intro g
         have g := of_decide_eq_true g
         refine q7_b_r0 J t ⟨?_, rfl⟩
         unfold outB
         rw [if_pos (by rw [← ht]; omega)]
         rfl
        case l2 =>
         intro g
         have g := of_decide_eq_false g
         refine q7_b_r1 J t ⟨?_, rfl⟩
         unfold outB
         rw [if_neg (by rw [← ht]; omega), ht]
       apply q7_a J (t6B J) (by omega) (by omega)
       case n0 => intro _; exact rowNeed (l := J.sch) rfl ho.sch rfl (by decide) (by omega)
       case n1 => intro _; exact sumNeed (y := rowB sPick J.sch) (row_eq (l := J.sch) rfl) (by omega)
       case l3 =>
        intro g
        have g := of_decide_eq_true g
        rw [List.drop_drop]
        unfold q7_a_d0
        rw [row_eq (l := J.sch) rfl]
        refine hend (t6B J ++ rowB sPick J.sch) ?_ (by rw [ByteArray.size_append]; omega)
        rw [textB_eq]; unfold pickB; rw [if_pos (by omega)]
       case l4 =>
        intro g
        have g := of_decide_eq_false g
        rw [List.drop_drop]
        refine hend (t6B J) ?_ (by omega)
        rw [textB_eq]; unfold pickB; rw [if_neg (by omega)]
end Go.Proofs.YtgepfmamfdmclaaGreatDoor
