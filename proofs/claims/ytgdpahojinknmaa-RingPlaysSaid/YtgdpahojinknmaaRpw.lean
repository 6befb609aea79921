/- does of law 1: a call of both, the ring and the document's. -/
import Derived.Test.YtgdpahojinknmaaRpe
namespace Go.Proofs.Ytgdpahojinknmaa
open Go Vm Go.RowKit
set_option linter.unusedVariables false
set_option linter.unusedSimpArgs false
set_option maxRecDepth 100000

noncomputable abbrev Pg := Try.prog
noncomputable abbrev nDoes := slotsC Try.prog 23
abbrev fDoes : FuncId := 23
noncomputable abbrev LArm0 : List Code := flat2 (arm true ((flat2 (inner (Lpenstocklaw01_does.drop 2))).drop 1))
noncomputable abbrev LArm1 : List Code := flat2 (arm true ((flat2 (arm false ((flat2 (inner (Lpenstocklaw01_does.drop 2))).drop 1))).drop 1))
abbrev tupR (D : RgV) (c : Int) (sl : Value) : CRes := .ret (.tuple #[.agg (rgVC D).toArray, .agg #[.int .i64 c, sl], .bool true])
abbrev actV (d : Int) (b : ByteArray) : Value := .agg #[.int .i64 d, .slice (some ⟨1, 0, none⟩) b.size b.size]
abbrev objsD (L : List ByteArray) (b : ByteArray) : List VObj := [.cells (strsC L) 9 false, .cells (bytesC b) 5 true]
abbrev argsD (D : RgV) (c : Int) (L : List ByteArray) (d : Int) (b : ByteArray) : List Value := [.agg (rgVC D).toArray, .agg #[.int .i64 c, slL 0 L], actV d b]

section
variable {Q0 : CRes → List VObj → Prop} {N0 : Desc → Prop}

theorem do0_tail_s (E : RgV) (c : Int) (L N : List ByteArray) (b : ByteArray) (e f : Int) (he : (e == f) = true) (hb : b.size ≤ 65536) (hq : Q0 (tupR E c (slL 0 L)) (objsD L b)) :
    TriL Pg nDoes 2 (LArm0.drop 3) ⟨[(5, .pointer (some ⟨2, 0, none⟩)), (6, .pointer (some ⟨3, 0, none⟩)), (7, .pointer (some ⟨4, 0, none⟩)), (9, .slice (some ⟨5, 0, none⟩) b.size b.size), (10, .pointer (some ⟨6, 0, none⟩)), (11, .int .i64 e), (12, .pointer (some ⟨7, 0, none⟩)), (13, .int .i64 f)],
      [.cells (strsC L) 9 false, .cells (bytesC b) 5 true, .cells [.int .i64 0, .slice (some ⟨1, 0, none⟩) b.size b.size] 34 false, .cells (rgVC (ringK 0)) 25 false, .cells [.int .i64 0, .slice none 0 0] 46 false, .cells (bytesC b) 5 false, .cells (rgVC E) 25 false, .cells [.int .i64 c, .slice (some ⟨0, 0, none⟩) L.length L.length] 46 false]⟩ (QB 0 N0 (FinT Pg fDoes nDoes 2 Q0)) := by
  apply do0_es E c L N b e f he
  case n0 => exact isBytes_all b
  case pl0 => simp
  case pl1 => simp
  rw [List.drop_drop]
  have e0 : do0_es_d0 E c L N b e f = (fun t : List Value × Int => (⟨[(6, .pointer (some ⟨2, 0, none⟩)), (7, .pointer (some ⟨3, 0, none⟩)), (9, .slice (some ⟨4, 0, none⟩) t.1.length t.1.length), (10, .pointer (some ⟨5, 0, none⟩)), (12, .pointer (some ⟨6, 0, none⟩)), (14, .bool true), (15, .int .i64 t.2)], [.cells (strsC L) 9 false, .cells (bytesC b) 5 true, .cells (rgVC (ringK 0)) 25 false, .cells [.int .i64 0, .slice none 0 0] 46 false, .cells t.1 5 false, .cells (rgVC E) 25 false, .cells [.int .i64 c, .slice (some ⟨0, 0, none⟩) L.length L.length] 46 false]⟩ : Desc)) (bytesC b, 0) := by
    unfold do0_es_d0
    dsimp only
    rw [bytesC_length]
    simp only [beq_self_eq_true]
  rw [e0]
  refine TriL.blockAt 5 1 (by kernel_rfl) ?_
  refine TriL.loopAt (fun t : List Value × Int => (⟨[(6, .pointer (some ⟨2, 0, none⟩)), (7, .pointer (some ⟨3, 0, none⟩)), (9, .slice (some ⟨4, 0, none⟩) t.1.length t.1.length), (10, .pointer (some ⟨5, 0, none⟩)), (12, .pointer (some ⟨6, 0, none⟩)), (14, .bool true), (15, .int .i64 t.2)], [.cells (strsC L) 9 false, .cells (bytesC b) 5 true, .cells (rgVC (ringK 0)) 25 false, .cells [.int .i64 0, .slice none 0 0] 46 false, .cells t.1 5 false, .cells (rgVC E) 25 false, .cells [.int .i64 c, .slice (some ⟨0, 0, none⟩) L.length L.length] 46 false]⟩ : Desc)) (fun t => (b.size - t.2).toNat) (fun t => t.1.all isScal = true ∧ AllInt8 t.1 ∧ t.1.length = b.size ∧ 0 ≤ t.2 ∧ t.2 ≤ b.size) (bytesC b, 0) (by kernel_rfl) ⟨by simp, allInt8_bytes b, bytesC_length b, Int.le_refl 0, Int.natCast_nonneg _⟩ ?_
  rintro ⟨d, j⟩ ⟨k1, k2, k3, k4, k5⟩
  dsimp only at k1 k2 k3 k4 k5
  have hj : IntKind.wrap IntKind.i64 (j + 1) = j + 1 := wrap_nat (by omega) (by omega)
  apply do0_ls E c L N b d true j k1
  case n0 => intros; exact decide_eq_true k4
  case n1 => intro h; have h := of_decide_eq_true h; exact blt_iff.2 (by omega)
  case n2 => intro h; have h := of_decide_eq_true h; exact k2 _ (by omega)
  case n3 => intro h; have h := of_decide_eq_true h; exact Nat.ble_eq_true_of_le (by omega)
  case pl0 => simp
  case pl1 => simp
  case l6 =>
    intro h
    have h := of_decide_eq_true h
    have hlt : 0 + j.toNat * 1 < d.length := by omega
    refine QL.to (Vm.splice d (0 + j.toNat * 1) [.int .u8 (IntKind.wrap .u8 (intAt d (0 + j.toNat * 1) + 1))], j + 1) ⟨pl_splice k1 rfl _, k2.splice hlt _, by rw [splice1_len hlt]; exact k3, by dsimp only; omega, by dsimp only; omega⟩ ?_ ?_
    · show (b.size - (j + 1)).toNat < (b.size - j).toNat; omega
    · dsimp only
      rw [splice1_len hlt, ← hj]
  case l7 =>
    intro h
    repeat (first | with_reducible refine QL.ret ?_ | with_reducible refine QL.exit ?_ | with_reducible refine QB.ret ?_ | with_reducible refine QB.hit ?_ | with_reducible refine QB.normal ?_ | with_reducible refine QB.miss (by rfl) ?_)
    apply do0_zs E c L N b true
    case pl0 => simp
    case pl1 => simp
    case l2 =>
      repeat (first | with_reducible refine QL.ret ?_ | with_reducible refine QL.exit ?_ | with_reducible refine QB.ret ?_ | with_reducible refine QB.hit ?_ | with_reducible refine QB.normal ?_ | with_reducible refine QB.miss (by rfl) ?_)
      exact do0_zs_r0 E c L N b true (by simp) (by simp) hq

theorem do0_tail_n (E : RgV) (c : Int) (L N : List ByteArray) (b : ByteArray) (e f : Int) (he : (e == f) = true) (hb : b.size ≤ 65536) (hq : Q0 (tupR E c (slL 2 N)) (objsD L b ++ [.cells (strsC N) 9 false])) :
    TriL Pg nDoes 2 (LArm0.drop 3) ⟨[(5, .pointer (some ⟨2, 0, none⟩)), (6, .pointer (some ⟨3, 0, none⟩)), (7, .pointer (some ⟨4, 0, none⟩)), (9, .slice (some ⟨5, 0, none⟩) b.size b.size), (10, .pointer (some ⟨6, 0, none⟩)), (11, .int .i64 e), (12, .pointer (some ⟨7, 0, none⟩)), (13, .int .i64 f)],
      [.cells (strsC L) 9 false, .cells (bytesC b) 5 true, .cells [.int .i64 0, .slice (some ⟨1, 0, none⟩) b.size b.size] 34 false, .cells (rgVC (ringK 0)) 25 false, .cells [.int .i64 0, .slice none 0 0] 46 false, .cells (bytesC b) 5 false, .cells (rgVC E) 25 false, .cells [.int .i64 c, .slice (some ⟨8, 0, none⟩) N.length N.length] 46 false, .cells (strsC N) 9 false]⟩ (QB 0 N0 (FinT Pg fDoes nDoes 2 Q0)) := by
  apply do0_en E c L N b e f he
  case n0 => exact isBytes_all b
  case pl0 => simp
  case pl1 => simp
  case pl2 => simp
  rw [List.drop_drop]
  have e0 : do0_en_d0 E c L N b e f = (fun t : List Value × Int => (⟨[(6, .pointer (some ⟨2, 0, none⟩)), (7, .pointer (some ⟨3, 0, none⟩)), (9, .slice (some ⟨4, 0, none⟩) t.1.length t.1.length), (10, .pointer (some ⟨5, 0, none⟩)), (12, .pointer (some ⟨6, 0, none⟩)), (14, .bool true), (15, .int .i64 t.2)], [.cells (strsC L) 9 false, .cells (bytesC b) 5 true, .cells (rgVC (ringK 0)) 25 false, .cells [.int .i64 0, .slice none 0 0] 46 false, .cells t.1 5 false, .cells (rgVC E) 25 false, .cells [.int .i64 c, .slice (some ⟨7, 0, none⟩) N.length N.length] 46 false, .cells (strsC N) 9 false]⟩ : Desc)) (bytesC b, 0) := by
    unfold do0_en_d0
    dsimp only
    rw [bytesC_length]
    simp only [beq_self_eq_true]
  rw [e0]
  refine TriL.blockAt 5 1 (by kernel_rfl) ?_
  refine TriL.loopAt (fun t : List Value × Int => (⟨[(6, .pointer (some ⟨2, 0, none⟩)), (7, .pointer (some ⟨3, 0, none⟩)), (9, .slice (some ⟨4, 0, none⟩) t.1.length t.1.length), (10, .pointer (some ⟨5, 0, none⟩)), (12, .pointer (some ⟨6, 0, none⟩)), (14, .bool true), (15, .int .i64 t.2)], [.cells (strsC L) 9 false, .cells (bytesC b) 5 true, .cells (rgVC (ringK 0)) 25 false, .cells [.int .i64 0, .slice none 0 0] 46 false, .cells t.1 5 false, .cells (rgVC E) 25 false, .cells [.int .i64 c, .slice (some ⟨7, 0, none⟩) N.length N.length] 46 false, .cells (strsC N) 9 false]⟩ : Desc)) (fun t => (b.size - t.2).toNat) (fun t => t.1.all isScal = true ∧ AllInt8 t.1 ∧ t.1.length = b.size ∧ 0 ≤ t.2 ∧ t.2 ≤ b.size) (bytesC b, 0) (by kernel_rfl) ⟨by simp, allInt8_bytes b, bytesC_length b, Int.le_refl 0, Int.natCast_nonneg _⟩ ?_
  rintro ⟨d, j⟩ ⟨k1, k2, k3, k4, k5⟩
  dsimp only at k1 k2 k3 k4 k5
  have hj : IntKind.wrap IntKind.i64 (j + 1) = j + 1 := wrap_nat (by omega) (by omega)
  apply do0_ln E c L N b d true j k1
  case n0 => intros; exact decide_eq_true k4
  case n1 => intro h; have h := of_decide_eq_true h; exact blt_iff.2 (by omega)
  case n2 => intro h; have h := of_decide_eq_true h; exact k2 _ (by omega)
  case n3 => intro h; have h := of_decide_eq_true h; exact Nat.ble_eq_true_of_le (by omega)
  case pl0 => simp
  case pl1 => simp
  case pl2 => simp
  case l7 =>
    intro h
    have h := of_decide_eq_true h
    have hlt : 0 + j.toNat * 1 < d.length := by omega
    refine QL.to (Vm.splice d (0 + j.toNat * 1) [.int .u8 (IntKind.wrap .u8 (intAt d (0 + j.toNat * 1) + 1))], j + 1) ⟨pl_splice k1 rfl _, k2.splice hlt _, by rw [splice1_len hlt]; exact k3, by dsimp only; omega, by dsimp only; omega⟩ ?_ ?_
    · show (b.size - (j + 1)).toNat < (b.size - j).toNat; omega
    · dsimp only
      rw [splice1_len hlt, ← hj]
  case l8 =>
    intro h
    repeat (first | with_reducible refine QL.ret ?_ | with_reducible refine QL.exit ?_ | with_reducible refine QB.ret ?_ | with_reducible refine QB.hit ?_ | with_reducible refine QB.normal ?_ | with_reducible refine QB.miss (by rfl) ?_)
    apply do0_zn E c L N b true
    case pl0 => simp
    case pl1 => simp
    case pl2 => simp
    case l3 =>
      repeat (first | with_reducible refine QL.ret ?_ | with_reducible refine QL.exit ?_ | with_reducible refine QB.ret ?_ | with_reducible refine QB.hit ?_ | with_reducible refine QB.normal ?_ | with_reducible refine QB.miss (by rfl) ?_)
      exact do0_zn_r0 E c L N b true (by simp) (by simp) (by simp) hq

theorem do1_tail_n (E : RgV) (c : Int) (L N : List ByteArray) (b s : ByteArray) (hb : s.size ≤ 65536) (hq : Q0 (tupR E c (slL 2 N)) (objsD L b ++ [.cells (strsC N) 9 false])) :
    TriL Pg nDoes 2 (LArm1.drop 4) ((fun t : List Value × Int => (⟨[(6, .pointer (some ⟨2, 0, none⟩)), (7, .pointer (some ⟨3, 0, none⟩)), (16, .pointer (some ⟨4, 0, none⟩)), (17, .slice (some ⟨5, 0, none⟩) t.1.length t.1.length), (19, .pointer (some ⟨6, 0, none⟩)), (22, .bool true), (23, .int .i64 t.2)], [.cells (strsC L) 9 false, .cells (bytesC b) 5 true, .cells (rgVC (ringK 0)) 25 false, .cells [.int .i64 0, .slice none 0 0] 46 false, .cells (rgVC E) 25 false, .cells t.1 5 false, .cells [.int .i64 c, .slice (some ⟨7, 0, none⟩) N.length N.length] 46 false, .cells (strsC N) 9 false]⟩ : Desc)) (bytesC s, 0)) (QB 0 N0 (FinT Pg fDoes nDoes 2 Q0)) := by
  refine TriL.blockAt 4 3 (by kernel_rfl) ?_
  refine TriL.loopAt (fun t : List Value × Int => (⟨[(6, .pointer (some ⟨2, 0, none⟩)), (7, .pointer (some ⟨3, 0, none⟩)), (16, .pointer (some ⟨4, 0, none⟩)), (17, .slice (some ⟨5, 0, none⟩) t.1.length t.1.length), (19, .pointer (some ⟨6, 0, none⟩)), (22, .bool true), (23, .int .i64 t.2)], [.cells (strsC L) 9 false, .cells (bytesC b) 5 true, .cells (rgVC (ringK 0)) 25 false, .cells [.int .i64 0, .slice none 0 0] 46 false, .cells (rgVC E) 25 false, .cells t.1 5 false, .cells [.int .i64 c, .slice (some ⟨7, 0, none⟩) N.length N.length] 46 false, .cells (strsC N) 9 false]⟩ : Desc)) (fun t => (s.size - t.2).toNat) (fun t => t.1.all isScal = true ∧ AllInt8 t.1 ∧ t.1.length = s.size ∧ 0 ≤ t.2 ∧ t.2 ≤ s.size) (bytesC s, 0) (by kernel_rfl) ⟨by simp, allInt8_bytes s, bytesC_length s, Int.le_refl 0, Int.natCast_nonneg _⟩ ?_
  rintro ⟨d, j⟩ ⟨k1, k2, k3, k4, k5⟩
  dsimp only at k1 k2 k3 k4 k5
  have hj : IntKind.wrap IntKind.i64 (j + 1) = j + 1 := wrap_nat (by omega) (by omega)
  apply do1_l E c L N b d true j k1
  case n0 => intros; exact decide_eq_true k4
  case n1 => intro h; have h := of_decide_eq_true h; exact blt_iff.2 (by omega)
  case n2 => intro h; have h := of_decide_eq_true h; exact k2 _ (by omega)
  case n3 => intro h; have h := of_decide_eq_true h; exact Nat.ble_eq_true_of_le (by omega)
  case pl0 => simp
  case pl1 => simp
  case pl2 => simp
  case l7 =>
    intro h
    have h := of_decide_eq_true h
    have hlt : 0 + j.toNat * 1 < d.length := by omega
    refine QL.to (Vm.splice d (0 + j.toNat * 1) [.int .u8 (IntKind.wrap .u8 (intAt d (0 + j.toNat * 1) + 1))], j + 1) ⟨pl_splice k1 rfl _, k2.splice hlt _, by rw [splice1_len hlt]; exact k3, by dsimp only; omega, by dsimp only; omega⟩ ?_ ?_
    · show (s.size - (j + 1)).toNat < (s.size - j).toNat; omega
    · dsimp only
      rw [splice1_len hlt, ← hj]
  case l8 =>
    intro h
    repeat (first | with_reducible refine QL.ret ?_ | with_reducible refine QL.exit ?_ | with_reducible refine QB.ret ?_ | with_reducible refine QB.hit ?_ | with_reducible refine QB.normal ?_ | with_reducible refine QB.miss (by rfl) ?_)
    apply do1_zn E c L N b true
    case pl0 => simp
    case pl1 => simp
    case pl2 => simp
    case l3 =>
      repeat (first | with_reducible refine QL.ret ?_ | with_reducible refine QL.exit ?_ | with_reducible refine QB.ret ?_ | with_reducible refine QB.hit ?_ | with_reducible refine QB.normal ?_ | with_reducible refine QB.miss (by rfl) ?_)
      exact do1_zn_r0 E c L N b true (by simp) (by simp) (by simp) hq
theorem do1_tail_s (E : RgV) (c : Int) (L : List ByteArray) (b : ByteArray) (hq : Q0 (tupR E c (slL 0 L)) (objsD L b)) :
    TriL Pg nDoes 2 (LArm1.drop 4) ⟨[(6, .pointer (some ⟨2, 0, none⟩)), (7, .pointer (some ⟨3, 0, none⟩)), (16, .pointer (some ⟨4, 0, none⟩)), (17, .slice none 0 0), (19, .pointer (some ⟨5, 0, none⟩)), (22, .bool true), (23, .int .i64 0)], [.cells (strsC L) 9 false, .cells (bytesC b) 5 true, .cells (rgVC (ringK 0)) 25 false, .cells [.int .i64 0, .slice none 0 0] 46 false, .cells (rgVC E) 25 false, .cells [.int .i64 c, .slice (some ⟨0, 0, none⟩) L.length L.length] 46 false]⟩ (QB 0 N0 (FinT Pg fDoes nDoes 2 Q0)) := by
  refine TriL.blockAt 4 3 (by kernel_rfl) ?_
  refine TriL.loopAt (fun _ : Unit => (⟨[(6, .pointer (some ⟨2, 0, none⟩)), (7, .pointer (some ⟨3, 0, none⟩)), (16, .pointer (some ⟨4, 0, none⟩)), (17, .slice none 0 0), (19, .pointer (some ⟨5, 0, none⟩)), (22, .bool true), (23, .int .i64 0)], [.cells (strsC L) 9 false, .cells (bytesC b) 5 true, .cells (rgVC (ringK 0)) 25 false, .cells [.int .i64 0, .slice none 0 0] 46 false, .cells (rgVC E) 25 false, .cells [.int .i64 c, .slice (some ⟨0, 0, none⟩) L.length L.length] 46 false]⟩ : Desc)) (fun _ => 0) (fun _ => True) () (by kernel_rfl) trivial ?_
  intro _ _
  apply do1_ln E c L [] b true 0
  case n0 => rfl
  case pl0 => simp
  case pl1 => simp
  case l3 =>
    repeat (first | with_reducible refine QL.ret ?_ | with_reducible refine QL.exit ?_ | with_reducible refine QB.ret ?_ | with_reducible refine QB.hit ?_ | with_reducible refine QB.normal ?_ | with_reducible refine QB.miss (by rfl) ?_)
    apply do1_zs E c L [] b true
    case pl0 => simp
    case pl1 => simp
    case l2 =>
      repeat (first | with_reducible refine QL.ret ?_ | with_reducible refine QL.exit ?_ | with_reducible refine QB.ret ?_ | with_reducible refine QB.hit ?_ | with_reducible refine QB.normal ?_ | with_reducible refine QB.miss (by rfl) ?_)
      exact do1_zs_r0 E c L [] b true (by simp) (by simp) hq
end
end Go.Proofs.Ytgdpahojinknmaa
