/- does: Write. -/
import Derived.Test.YtgdpahojinknmaaDpt
import Derived.Test.YtgdpahojinknmaaDpv
namespace Go.Proofs.Ytgdpahojinknmaa
open Go Vm Go.RowKit
set_option linter.unusedVariables false
set_option linter.unusedSimpArgs false
set_option maxRecDepth 100000

noncomputable abbrev Pg := Try.prog
noncomputable abbrev nDoes := slotsC Try.prog 31
abbrev fDoes : FuncId := 31
noncomputable abbrev LArm0 : List Code := flat2 (arm true ((flat2 (inner (Lpenstocklaw22_does.drop 2))).drop 1))

theorem splice1_len {c : List Value} {i : Nat} {v : Value} (h : i < c.length) : (splice c i [v]).length = c.length := by
  unfold splice; simp; omega
theorem splice1_get {c : List Value} {i k : Nat} {v : Value} (h : i < c.length) : (splice c i [v])[k]? = if k = i then some v else c[k]? := by
  unfold splice
  have e : c.take i ++ [v] ++ c.drop (i + [v].length) = c.set i v := by
    rw [List.set_eq_take_append_cons_drop, if_pos h]; simp
  rw [e]
  by_cases hk : k = i
  · subst hk; rw [if_pos rfl, List.getElem?_set_self h]
  · rw [if_neg hk, List.getElem?_set_ne (fun e => hk e.symm)]
def AllInt8 (c : List Value) : Prop := ∀ i, i < c.length → isIntAt .u8 c i = true
theorem AllInt8.splice {c : List Value} (h : AllInt8 c) {i : Nat} (hi : i < c.length) (x : Int) : AllInt8 (splice c i [.int .u8 x]) := by
  intro k hk
  rw [splice1_len hi] at hk
  unfold isIntAt
  rw [splice1_get hi]
  by_cases e : k = i
  · rw [if_pos e]; rfl
  · rw [if_neg e]; exact h k hk
theorem allInt8_bytes (b : ByteArray) : AllInt8 (bytesC b) := fun i hi => isIntAt_bytes (by rw [bytesC_length] at hi; exact hi)

section
variable {Q0 : CRes → List VObj → Prop} {N : Desc → Prop}
theorem do0_tail_n (E : DuctV) (M : RefV) (L L' : List ByteArray) (b : ByteArray) (c : List Value) (g : Bool) (hp : c.all isScal = true) (hi : AllInt8 c) (hl : c.length ≤ 1000000)
    (hq : Q0 (.ret (.tuple #[.agg (ductVC E).toArray, .agg (refC M (slL 2 L')).toArray, .bool g])) (objsD L b ++ [.cells (strsC L') 9 false])) :
    TriL Pg nDoes 2 (LArm0.drop 5) ⟨[(6, .pointer (some ⟨2, 0, none⟩)), (7, .pointer (some ⟨3, 0, none⟩)), (9, .slice (some ⟨4, 0, none⟩) c.length c.length), (10, .pointer (some ⟨5, 0, none⟩)), (12, .pointer (some ⟨6, 0, none⟩)), (14, .bool g), (15, .int .i64 0)],
      [.cells (strsC L) 9 false, .cells (bytesC b) 5 true, .cells (ductVC zeroD) 58 false, .cells (refC zeroM (.slice none 0 0)) 68 false, .cells c 5 false, .cells (ductVC E) 58 false, .cells (refC M (slL 7 L')) 68 false, .cells (strsC L') 9 false]⟩ (QB 0 N (FinT Pg fDoes nDoes 2 Q0)) := by
  refine TriL.blockAt 5 1 (by kernel_rfl) ?_
  refine TriL.loopAt (fun s : List Value × Int => ⟨[(6, .pointer (some ⟨2, 0, none⟩)), (7, .pointer (some ⟨3, 0, none⟩)), (9, .slice (some ⟨4, 0, none⟩) s.1.length s.1.length), (10, .pointer (some ⟨5, 0, none⟩)), (12, .pointer (some ⟨6, 0, none⟩)), (14, .bool g), (15, .int .i64 s.2)],
      [.cells (strsC L) 9 false, .cells (bytesC b) 5 true, .cells (ductVC zeroD) 58 false, .cells (refC zeroM (.slice none 0 0)) 68 false, .cells s.1 5 false, .cells (ductVC E) 58 false, .cells (refC M (slL 7 L')) 68 false, .cells (strsC L') 9 false]⟩)
    (fun s => (c.length - s.2).toNat) (fun s => s.1.all isScal = true ∧ AllInt8 s.1 ∧ s.1.length = c.length ∧ 0 ≤ s.2 ∧ s.2 ≤ c.length) (c, 0) (by kernel_rfl) ⟨hp, hi, rfl, Int.le_refl 0, Int.natCast_nonneg _⟩ ?_
  rintro ⟨d, j⟩ ⟨k1, k2, k3, k4, k5⟩
  dsimp only at k1 k2 k3 k4 k5
  have hj : IntKind.wrap IntKind.i64 (j + 1) = j + 1 := wrap_nat (by omega) (by omega)
  apply do0_dn E M L L' b d g j k1
  case n0 => intros; exact decide_eq_true k4
  case n1 => intro h; have h := of_decide_eq_true h; exact blt_iff.2 (by omega)
  case n2 => intro h; have h := of_decide_eq_true h; exact k2 _ (by omega)
  case n3 => intro h; have h := of_decide_eq_true h; exact Nat.ble_eq_true_of_le (by omega)
  case pl0 => simp
  case pl1 => simp
  case pl2 => simp
  case l7 =>
    intro h
    have h := of_decide_eq_true h
    have hlt : 0 + j.toNat * 1 < d.length := by omega
    refine QL.to (splice d (0 + j.toNat * 1) [.int .u8 (IntKind.wrap .u8 (intAt d (0 + j.toNat * 1) + 1))], j + 1) ⟨pl_splice k1 rfl _, k2.splice hlt _, by rw [splice1_len hlt]; exact k3, by dsimp only; omega, by dsimp only; omega⟩ ?_ ?_
    · show (c.length - (j + 1)).toNat < (c.length - j).toNat; omega
    · dsimp only
      rw [splice1_len hlt, ← hj]
      rfl
  case l8 =>
    intro h
    repeat (first | with_reducible refine QL.ret ?_ | with_reducible refine QL.exit ?_ | with_reducible refine QB.ret ?_ | with_reducible refine QB.hit ?_ | with_reducible refine QB.normal ?_ | with_reducible refine QB.miss (by rfl) ?_)
    apply do0_en E M L L' b g
    case pl0 => simp
    case pl1 => simp
    case pl2 => simp
    case l3 =>
      repeat (first | with_reducible refine QL.ret ?_ | with_reducible refine QL.exit ?_ | with_reducible refine QB.ret ?_ | with_reducible refine QB.hit ?_ | with_reducible refine QB.normal ?_ | with_reducible refine QB.miss (by rfl) ?_)
      exact do0_en_r0 E M L L' b g (by simp) (by simp) (by simp) hq
theorem do0_tail_s (E : DuctV) (M : RefV) (L : List ByteArray) (b : ByteArray) (c : List Value) (g : Bool) (hp : c.all isScal = true) (hi : AllInt8 c) (hl : c.length ≤ 1000000)
    (hq : Q0 (.ret (.tuple #[.agg (ductVC E).toArray, .agg (refC M (slL 0 L)).toArray, .bool g])) (objsD L b)) :
    TriL Pg nDoes 2 (LArm0.drop 5) ⟨[(6, .pointer (some ⟨2, 0, none⟩)), (7, .pointer (some ⟨3, 0, none⟩)), (9, .slice (some ⟨4, 0, none⟩) c.length c.length), (10, .pointer (some ⟨5, 0, none⟩)), (12, .pointer (some ⟨6, 0, none⟩)), (14, .bool g), (15, .int .i64 0)],
      [.cells (strsC L) 9 false, .cells (bytesC b) 5 true, .cells (ductVC zeroD) 58 false, .cells (refC zeroM (.slice none 0 0)) 68 false, .cells c 5 false, .cells (ductVC E) 58 false, .cells (refC M (slL 0 L)) 68 false]⟩ (QB 0 N (FinT Pg fDoes nDoes 2 Q0)) := by
  refine TriL.blockAt 5 1 (by kernel_rfl) ?_
  refine TriL.loopAt (fun s : List Value × Int => ⟨[(6, .pointer (some ⟨2, 0, none⟩)), (7, .pointer (some ⟨3, 0, none⟩)), (9, .slice (some ⟨4, 0, none⟩) s.1.length s.1.length), (10, .pointer (some ⟨5, 0, none⟩)), (12, .pointer (some ⟨6, 0, none⟩)), (14, .bool g), (15, .int .i64 s.2)],
      [.cells (strsC L) 9 false, .cells (bytesC b) 5 true, .cells (ductVC zeroD) 58 false, .cells (refC zeroM (.slice none 0 0)) 68 false, .cells s.1 5 false, .cells (ductVC E) 58 false, .cells (refC M (slL 0 L)) 68 false]⟩)
    (fun s => (c.length - s.2).toNat) (fun s => s.1.all isScal = true ∧ AllInt8 s.1 ∧ s.1.length = c.length ∧ 0 ≤ s.2 ∧ s.2 ≤ c.length) (c, 0) (by kernel_rfl) ⟨hp, hi, rfl, Int.le_refl 0, Int.natCast_nonneg _⟩ ?_
  rintro ⟨d, j⟩ ⟨k1, k2, k3, k4, k5⟩
  dsimp only at k1 k2 k3 k4 k5
  have hj : IntKind.wrap IntKind.i64 (j + 1) = j + 1 := wrap_nat (by omega) (by omega)
  apply do0_ds E M L [] b d g j k1
  case n0 => intros; exact decide_eq_true k4
  case n1 => intro h; have h := of_decide_eq_true h; exact blt_iff.2 (by omega)
  case n2 => intro h; have h := of_decide_eq_true h; exact k2 _ (by omega)
  case n3 => intro h; have h := of_decide_eq_true h; exact Nat.ble_eq_true_of_le (by omega)
  case pl0 => simp
  case pl1 => simp
  case l6 =>
    intro h
    have h := of_decide_eq_true h
    have hlt : 0 + j.toNat * 1 < d.length := by omega
    refine QL.to (splice d (0 + j.toNat * 1) [.int .u8 (IntKind.wrap .u8 (intAt d (0 + j.toNat * 1) + 1))], j + 1) ⟨pl_splice k1 rfl _, k2.splice hlt _, by rw [splice1_len hlt]; exact k3, by dsimp only; omega, by dsimp only; omega⟩ ?_ ?_
    · show (c.length - (j + 1)).toNat < (c.length - j).toNat; omega
    · dsimp only
      rw [splice1_len hlt, ← hj]
      rfl
  case l7 =>
    intro h
    repeat (first | with_reducible refine QL.ret ?_ | with_reducible refine QL.exit ?_ | with_reducible refine QB.ret ?_ | with_reducible refine QB.hit ?_ | with_reducible refine QB.normal ?_ | with_reducible refine QB.miss (by rfl) ?_)
    apply do0_es E M L [] b g
    case pl0 => simp
    case pl1 => simp
    case l2 =>
      repeat (first | with_reducible refine QL.ret ?_ | with_reducible refine QL.exit ?_ | with_reducible refine QB.ret ?_ | with_reducible refine QB.hit ?_ | with_reducible refine QB.normal ?_ | with_reducible refine QB.miss (by rfl) ?_)
      exact do0_es_r0 E M L [] b g (by simp) (by simp) hq
end

theorem copy_bytes (b : ByteArray) : ([] ++ List.take (b.size * 1) (bytesC b)) = bytesC b := by
  rw [List.nil_append, List.take_of_length_le (by rw [bytesC_length]; omega)]
theorem arm0_end : (flat2 (inner (Lpenstocklaw22_does.drop 2))).drop 2 = [] := by kernel_rfl

set_option maxHeartbeats 4000000 in
theorem do0_fn (D : DuctV) (M : RefV) (L : List ByteArray) (b : ByteArray) (fc fs fi : Int) (h : PInv D M L) (hb : b.size ≤ 65536) : FnT Try.prog 31 (argsD D M L 0 fc fs fi b) (objsD L b)
    fun r o => (takesB D b = false ∧ Same (writeD D b) L b r o) ∨ (takesB D b = true ∧ ∃ M', PInv (writeD D b) M' (L ++ [b]) ∧ r = tupR (writeD D b) M' (slL 2 (L ++ [b])) ∧ o = objsD L b ++ [.cells (strsC (L ++ [b])) 9 false]) := by
  have hl := h.len
  have hok := h.ok
  refine FnT.ofT (n := slotsC Try.prog 31) (by kernel_rfl) ?_
  apply do0_a D M L b fc fs fi hok hl
  case pl0 => simp
  case pl1 => simp
  case l2 =>
    refine TriL.blockAt 2 0 (by kernel_rfl) ?_
    apply do0_b D M L b fc fs fi hok hl
    case pl0 => simp
    case pl1 => simp
    refine TriL.condAt 1 (c := 28) (b := true) (by kernel_rfl) (by rfl) (by rfl) ?_
    rw [arm0_end, List.append_nil]
    apply do0_c D M L b fc fs fi hok hl
    case n0 => simp; omega
    case n1 => exact one_of_plain (pl_take (pl_bytes b) _)
    case n2 => rw [copy_bytes, hok, Nat.zero_add, isBytes_all, pl_bytes]; rfl
    case pl0 => simp
    case pl1 => simp
    have e0 : do0_c_d0 D M L b fc fs fi = ⟨[(4, .pointer (some ⟨2, 0, none⟩)), (5, .pointer (some ⟨3, 0, none⟩)), (6, .pointer (some ⟨4, 0, none⟩)), (7, .pointer (some ⟨5, 0, none⟩)), (9, .slice (some ⟨6, 0, none⟩) (bytesC b).length (bytesC b).length), (10, .pointer (some ⟨7, 0, none⟩)), (11, .int .i64 (writeE D b))],
        [.cells (strsC L) 9 false, .cells (bytesC b) 5 true, .cells (refC M (slL 0 L)) 68 false, .cells [.int .i64 0, .slice (some ⟨1, 0, none⟩) b.size b.size, .int .i64 fc, .int .i64 fs, .int .i64 fi] 64 false,
          .cells (ductVC zeroD) 58 false, .cells (refC zeroM (.slice none 0 0)) 68 false, .cells (bytesC b) 5 false, .cells (ductVC (writeD D b)) 58 false]⟩ := by
      unfold do0_c_d0
      rw [copy_bytes, Nat.zero_add, bytesAt_all, bytesC_length]
      rfl
    rw [e0]
    have hi := allInt8_bytes b
    have hsc : (bytesC b).all isScal = true := pl_bytes b
    have hcl : (bytesC b).length ≤ 1000000 := by rw [bytesC_length]; omega
    have hbs : Option.isSome (Option.bind (cut (bytesC b) 0 (bytesC b).length) bytesOf) = true := by rw [bytesC_length]; simp
    have hstr : ByteArray.mk (List.toArray (Option.getD (Option.bind (cut (bytesC b) 0 (bytesC b).length) bytesOf) [])) = b := by rw [bytesC_length]; simp
    -- the ends
    have same : ∀ (f : Int) (M' : RefV) (N : Desc → Prop) (Q0 : CRes → List VObj → Prop), writeE D b = f → Q0 (tupR (writeD D b) M' (slL 0 L)) (objsD L b) →
        TriL Pg nDoes 2 ((LArm0.drop 2).drop 1) ⟨[(5, .pointer (some ⟨2, 0, none⟩)), (6, .pointer (some ⟨3, 0, none⟩)), (7, .pointer (some ⟨4, 0, none⟩)), (9, .slice (some ⟨5, 0, none⟩) (bytesC b).length (bytesC b).length), (10, .pointer (some ⟨6, 0, none⟩)), (11, .int .i64 (writeE D b)), (12, .pointer (some ⟨7, 0, none⟩)), (13, .int .i64 f)],
          [.cells (strsC L) 9 false, .cells (bytesC b) 5 true, .cells [.int .i64 0, .slice (some ⟨1, 0, none⟩) b.size b.size, .int .i64 fc, .int .i64 fs, .int .i64 fi] 64 false,
          .cells (ductVC zeroD) 58 false, .cells (refC zeroM (.slice none 0 0)) 68 false, .cells (bytesC b) 5 false, .cells (ductVC (writeD D b)) 58 false, .cells (refC M' (slL 0 L)) 68 false]⟩ (QB 0 N (FinT Pg fDoes nDoes 2 Q0)) := by
      intro f M' N Q0 hf hq
      rw [List.drop_drop]
      apply do0_c3s (writeD D b) M' L [] b fc fs fi (bytesC b) (writeE D b) f (by rw [hf]; simp) hbs hstr
      case pl0 => simp
      case pl1 => simp
      case pl2 => simp
      rw [List.drop_drop]
      have eg : (ByteArray.toList (ByteArray.mk (List.toArray (Option.getD (Option.bind (cut (bytesC b) 0 (bytesC b).length) bytesOf) []))) == ByteArray.toList (ByteArray.mk (List.toArray (Option.getD (Option.bind (cut (bytesC b) 0 b.size) bytesOf) [])))) = true := by rw [hstr]; simp
      have e1 : do0_c3s_d0 (writeD D b) M' L [] b fc fs fi (bytesC b) (writeE D b) f = ⟨[(6, .pointer (some ⟨2, 0, none⟩)), (7, .pointer (some ⟨3, 0, none⟩)), (9, .slice (some ⟨4, 0, none⟩) (bytesC b).length (bytesC b).length), (10, .pointer (some ⟨5, 0, none⟩)), (12, .pointer (some ⟨6, 0, none⟩)), (14, .bool true), (15, .int .i64 0)],
      [.cells (strsC L) 9 false, .cells (bytesC b) 5 true, .cells (ductVC zeroD) 58 false, .cells (refC zeroM (.slice none 0 0)) 68 false, .cells (bytesC b) 5 false, .cells (ductVC (writeD D b)) 58 false, .cells (refC M' (slL 0 L)) 68 false]⟩ := by
        unfold do0_c3s_d0
        rw [eg]
        rfl
      rw [e1]
      exact do0_tail_s (writeD D b) M' L b (bytesC b) true hsc hi hcl hq
    have new : ∀ (f : Int) (M' : RefV) (L' : List ByteArray) (N : Desc → Prop) (Q0 : CRes → List VObj → Prop), writeE D b = f → Q0 (tupR (writeD D b) M' (slL 2 L')) (objsD L b ++ [.cells (strsC L') 9 false]) →
        TriL Pg nDoes 2 ((LArm0.drop 2).drop 1) ⟨[(5, .pointer (some ⟨2, 0, none⟩)), (6, .pointer (some ⟨3, 0, none⟩)), (7, .pointer (some ⟨4, 0, none⟩)), (9, .slice (some ⟨5, 0, none⟩) (bytesC b).length (bytesC b).length), (10, .pointer (some ⟨6, 0, none⟩)), (11, .int .i64 (writeE D b)), (12, .pointer (some ⟨7, 0, none⟩)), (13, .int .i64 f)],
          [.cells (strsC L) 9 false, .cells (bytesC b) 5 true, .cells [.int .i64 0, .slice (some ⟨1, 0, none⟩) b.size b.size, .int .i64 fc, .int .i64 fs, .int .i64 fi] 64 false,
          .cells (ductVC zeroD) 58 false, .cells (refC zeroM (.slice none 0 0)) 68 false, .cells (bytesC b) 5 false, .cells (ductVC (writeD D b)) 58 false, .cells (refC M' (slL 8 L')) 68 false, .cells (strsC L') 9 false]⟩ (QB 0 N (FinT Pg fDoes nDoes 2 Q0)) := by
      intro f M' L' N Q0 hf hq
      rw [List.drop_drop]
      apply do0_c3n (writeD D b) M' L L' b fc fs fi (bytesC b) (writeE D b) f (by rw [hf]; simp) hbs hstr
      case pl0 => simp
      case pl1 => simp
      case pl2 => simp
      case pl3 => simp
      rw [List.drop_drop]
      have eg : (ByteArray.toList (ByteArray.mk (List.toArray (Option.getD (Option.bind (cut (bytesC b) 0 (bytesC b).length) bytesOf) []))) == ByteArray.toList (ByteArray.mk (List.toArray (Option.getD (Option.bind (cut (bytesC b) 0 b.size) bytesOf) [])))) = true := by rw [hstr]; simp
      have e1 : do0_c3n_d0 (writeD D b) M' L L' b fc fs fi (bytesC b) (writeE D b) f = ⟨[(6, .pointer (some ⟨2, 0, none⟩)), (7, .pointer (some ⟨3, 0, none⟩)), (9, .slice (some ⟨4, 0, none⟩) (bytesC b).length (bytesC b).length), (10, .pointer (some ⟨5, 0, none⟩)), (12, .pointer (some ⟨6, 0, none⟩)), (14, .bool true), (15, .int .i64 0)],
      [.cells (strsC L) 9 false, .cells (bytesC b) 5 true, .cells (ductVC zeroD) 58 false, .cells (refC zeroM (.slice none 0 0)) 68 false, .cells (bytesC b) 5 false, .cells (ductVC (writeD D b)) 58 false, .cells (refC M' (slL 7 L')) 68 false, .cells (strsC L') 9 false]⟩ := by
        unfold do0_c3n_d0
        rw [eg]
        rfl
      rw [e1]
      exact do0_tail_n (writeD D b) M' L L' b (bytesC b) true hsc hi hcl hq
    apply do0_c2 (writeD D b) M L b fc fs fi (bytesC b) (writeE D b) hl
    case pl0 => simp
    case pl1 => simp
    case pl2 => simp
    case l3 =>
      intro h0
      rcases h with ⟨h, rfl, rfl⟩ | ⟨rfl, rfl, rfl⟩
      · have h0 : (D.st != 0) = true := h0
        have e1 : writeD D b = D := by unfold writeD; rw [k_ne h, h0]; rfl
        have e2 : writeE D b = 4 := by unfold writeE; rw [k_ne h, h0]; rfl
        have ht : takesB D b = false := by unfold takesB; have : (D.st == 0) = false := by simpa using h0
                                           rw [k_ne h, this]; rfl
        exact same 4 _ _ _ e2 (.inl ⟨ht, refOf D, by rw [e1]; exact .inl ⟨h, rfl, rfl⟩, rfl, rfl⟩)
      · exact same 4 _ _ _ rfl (.inl ⟨rfl, refZ, .inr ⟨rfl, rfl, rfl⟩, rfl, rfl⟩)
    all_goals rcases h with ⟨h, rfl, rfl⟩ | ⟨rfl, rfl, rfl⟩
    all_goals try (intro h0; exfalso; revert h0; decide)
    case l4.inl =>
      intro h0 h1 h2
      have h0 : (D.st != 0) = false := h0
      have h1 : ¬ (b.size : Int) < 1 := by have := of_decide_eq_true h1; omega
      have h2 : (b.size : Int) > 32 := by simp at h2; omega
      have e1 : writeD D b = D := by unfold writeD; rw [k_ne h, h0, decide_eq_false h1, decide_eq_true h2]; rfl
      have e2 : writeE D b = 1 := by unfold writeE; rw [k_ne h, h0, decide_eq_false h1, decide_eq_true h2]; rfl
      have ht : takesB D b = false := by unfold takesB; rw [decide_eq_false (show ¬ b.size ≤ 32 by omega)]; simp
      exact same 1 _ _ _ e2 (.inl ⟨ht, refOf D, by rw [e1]; exact .inl ⟨h, rfl, rfl⟩, rfl, rfl⟩)
    case l5.inl =>
      intro h0 h1 h2 h3 h4
      have h4 : (D.k == 0) = true := h4
      rw [k_ne h] at h4; cases h4
    case l9.inl =>
      intro h0 h1
      have h0 : (D.st != 0) = false := h0
      have h1 : (b.size : Int) < 1 := by have := of_decide_eq_false h1; omega
      have e1 : writeD D b = D := by unfold writeD; rw [k_ne h, h0, decide_eq_true h1]; rfl
      have e2 : writeE D b = 1 := by unfold writeE; rw [k_ne h, h0, decide_eq_true h1]; rfl
      have ht : takesB D b = false := by unfold takesB; rw [decide_eq_false (show ¬ 1 ≤ b.size by omega)]; simp
      exact same 1 _ _ _ e2 (.inl ⟨ht, refOf D, by rw [e1]; exact .inl ⟨h, rfl, rfl⟩, rfl, rfl⟩)
    case l6.inl =>
      intro h0 h1 h2 h3 _ h5
      have h0 : (D.st != 0) = false := h0
      have h1 : ¬ (b.size : Int) < 1 := by have := of_decide_eq_true h1; omega
      have h2 : ¬ (b.size : Int) > 32 := by simp at h2; omega
      have h3 : D.gone = false := by have : (!D.gone) = true := h3; simpa using this
      obtain ⟨f0, f8, n0, nk, k8⟩ := okD_iff.1 h.ok
      have h5 : ((rowD D).length : Int) ≥ D.k := of_decide_eq_true h5
      rw [rowD_len] at h5
      have h6 : (D.n == D.k) = true := by simp; omega
      have e1 : writeD D b = D := by unfold writeD; rw [k_ne h, h0, decide_eq_false h1, decide_eq_false h2, h3, h6]; rfl
      have e2 : writeE D b = 2 := by unfold writeE; rw [k_ne h, h0, decide_eq_false h1, decide_eq_false h2, h3, h6]; rfl
      have ht : takesB D b = false := by unfold takesB; rw [h6]; simp
      exact same 2 _ _ _ e2 (.inl ⟨ht, refOf D, by rw [e1]; exact .inl ⟨h, rfl, rfl⟩, rfl, rfl⟩)
    case l7.inl =>
      intro h0 h1 h2 h3 _ h5
      have h0 : (D.st == 0) = true := by have : (D.st != 0) = false := h0; simpa using this
      have h1 : 1 ≤ b.size := by have := of_decide_eq_true h1; omega
      have h2 : b.size ≤ 32 := by simp at h2; omega
      have h3 : (!D.gone) = true := h3
      obtain ⟨f0, f8, n0, nk, k8⟩ := okD_iff.1 h.ok
      have h5 : ¬ ((rowD D).length : Int) ≥ D.k := of_decide_eq_false h5
      rw [rowD_len] at h5
      have h6 : (D.n == D.k) = false := by simp; omega
      have ht : takesB D b = true := by unfold takesB; rw [k_ne h, h0, decide_eq_true h1, decide_eq_true h2, h3, h6]; rfl
      obtain ⟨e1, e2⟩ := write_takes ht
      have hw : w64 (D.n + 1) = D.n + 1 := wrap_nat (by omega) (by omega)
      have hn : ((0 + (rowD D).length + 1 : Nat) : Int) = w64 (D.n + 1) := by rw [rowD_len, hw]; omega
      have hg : D.gone = false := by simpa using h3
      have hinv : PInv1 (writeD D b) := by
        have hok' := okD_write h.ok b
        have hr := row_write h.ok ht
        rw [e1] at hok' hr ⊢
        exact ⟨hok', h.k1, h.s0, h.s2, (fun e => by have e : D.gone = true := e; rw [hg] at e; cases e), fun s hm => by
          rw [hr] at hm
          rcases List.mem_append.1 hm with hm | hm
          · exact h.sz s hm
          · rw [List.mem_singleton.1 hm]; exact h2⟩
      have key := fun N Q0 => new 0 (refOf (writeD D b)) (rowD D ++ [b]) N Q0 e2
      have e3 : do0_c2_d4 (writeD D b) (refOf D) (rowD D) b fc fs fi (bytesC b) (writeE D b) = ⟨[(5, .pointer (some ⟨2, 0, none⟩)), (6, .pointer (some ⟨3, 0, none⟩)), (7, .pointer (some ⟨4, 0, none⟩)), (9, .slice (some ⟨5, 0, none⟩) (bytesC b).length (bytesC b).length), (10, .pointer (some ⟨6, 0, none⟩)), (11, .int .i64 (writeE D b)), (12, .pointer (some ⟨7, 0, none⟩)), (13, .int .i64 0)],
          [.cells (strsC (rowD D)) 9 false, .cells (bytesC b) 5 true, .cells [.int .i64 0, .slice (some ⟨1, 0, none⟩) b.size b.size, .int .i64 fc, .int .i64 fs, .int .i64 fi] 64 false,
          .cells (ductVC zeroD) 58 false, .cells (refC zeroM (.slice none 0 0)) 68 false, .cells (bytesC b) 5 false, .cells (ductVC (writeD D b)) 58 false, .cells (refC (refOf (writeD D b)) (slL 8 (rowD D ++ [b]))) 68 false, .cells (strsC (rowD D ++ [b])) 9 false]⟩ := by
        unfold do0_c2_d4
        have hl2 : (rowD D ++ [b]).length = 0 + (rowD D).length + 1 := by simp
        have hs2 : strsC (rowD D ++ [b]) = [] ++ List.take ((rowD D).length * 1) (strsC (rowD D)) ++ [Value.string (ByteArray.mk (List.toArray (Option.getD (Option.bind (cut (bytesC b) 0 (ByteArray.size b)) bytesOf) [])))] := by
          rw [str_bytes, List.nil_append, List.take_of_length_le (by rw [strsC_length]; omega), ← strAppend]; rfl
        rw [hn]
        unfold slL
        rw [hl2, hs2, e1]
        rfl
      rw [e3]
      exact key _ _ (.inr ⟨ht, refOf (writeD D b), .inl ⟨hinv, rfl, (row_write h.ok ht).symm⟩, rfl, rfl⟩)
    case l8.inl =>
      intro h0 h1 h2 h3
      have h0 : (D.st != 0) = false := h0
      have h1 : ¬ (b.size : Int) < 1 := by have := of_decide_eq_true h1; omega
      have h2 : ¬ (b.size : Int) > 32 := by simp at h2; omega
      have h3 : D.gone = true := by have : (!D.gone) = false := h3; simpa using this
      have e1 : writeD D b = { D with wrote := w64 (D.wrote + 1), lost := w64 (D.lost + 1), byt := w64 (D.byt + b.size) } := by unfold writeD; rw [k_ne h, h0, decide_eq_false h1, decide_eq_false h2, h3]; rfl
      have e2 : writeE D b = 0 := by unfold writeE; rw [k_ne h, h0, decide_eq_false h1, decide_eq_false h2, h3]; rfl
      have ht : takesB D b = false := by unfold takesB; rw [h3]; simp
      have hrow : rowD (writeD D b) = rowD D := by rw [e1]; exact row_same rfl rfl rfl rfl rfl rfl rfl rfl rfl rfl
      have hinv : PInv1 (writeD D b) := by
        have hok' := okD_write h.ok b
        have hr := hrow
        rw [e1] at hok' hr ⊢
        exact ⟨hok', h.k1, h.s0, h.s2, h.g, fun s hm => h.sz s (by rw [← hr]; exact hm)⟩
      have key := fun N Q0 => same 0 (refOf (writeD D b)) N Q0 e2
      have e3 : refOf (writeD D b) = { refOf D with wrote := w64 (D.wrote + 1), lost := w64 (D.lost + 1), byt := w64 (D.byt + b.size) } := by rw [e1]; rfl
      have key2 := key
      rw [e3] at key2
      exact key2 _ _ (.inl ⟨ht, _, .inl ⟨hinv, e3.symm, hrow.symm⟩, rfl, rfl⟩)
end Go.Proofs.Ytgdpahojinknmaa
