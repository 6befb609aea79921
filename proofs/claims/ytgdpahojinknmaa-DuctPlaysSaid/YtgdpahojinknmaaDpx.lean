/- does: Read. -/
import Derived.Test.YtgdpahojinknmaaDpw
namespace Go.Proofs.Ytgdpahojinknmaa
open Go Vm Go.RowKit
set_option linter.unusedVariables false
set_option linter.unusedSimpArgs false
set_option maxRecDepth 100000

noncomputable abbrev LArm1 : List Code := flat2 (arm false ((flat2 (inner (Lpenstocklaw22_does.drop 2))).drop 1))
noncomputable abbrev LArm11 : List Code := flat2 (arm true (LArm1.drop 1))
theorem arm1_end : LArm1.drop 2 = [] := by kernel_rfl

section
variable {Q0 : CRes → List VObj → Prop} {N : Desc → Prop}
theorem do1_tail_y (E : DuctV) (M : RefV) (L L' : List ByteArray) (b : ByteArray) (c : List Value) (g : Bool) (hp : c.all isScal = true) (hi : AllInt8 c) (hl : c.length ≤ 1000000)
    (hq : Q0 (.ret (.tuple #[.agg (ductVC E).toArray, .agg (refC M (slL 2 L')).toArray, .bool g])) (objsD L b ++ [.cells (strsC L') 9 false])) :
    TriL Pg nDoes 2 (LArm11.drop 4) ⟨[(6, .pointer (some ⟨2, 0, none⟩)), (7, .pointer (some ⟨3, 0, none⟩)), (16, .pointer (some ⟨4, 0, none⟩)), (17, .pointer (some ⟨5, 0, none⟩)), (18, .pointer (some ⟨6, 0, none⟩)), (20, .bool g), (21, .int .i64 0)],
      [.cells (strsC L) 9 false, .cells (bytesC b) 5 true, .cells (ductVC zeroD) 58 false, .cells (refC zeroM (.slice none 0 0)) 68 false, .cells (ductVC E) 58 false, .cells [.int .i64 1, .slice (some ⟨7, 0, none⟩) c.length c.length, .int .i64 0, .int .i64 0, .int .i64 0] 76 false, .cells (refC M (slL 8 L')) 68 false, .cells c 5 false, .cells (strsC L') 9 false]⟩ (QB 0 N (FinT Pg fDoes nDoes 2 Q0)) := by
  refine TriL.blockAt 4 3 (by kernel_rfl) ?_
  refine TriL.loopAt (fun s : List Value × Int => ⟨[(6, .pointer (some ⟨2, 0, none⟩)), (7, .pointer (some ⟨3, 0, none⟩)), (16, .pointer (some ⟨4, 0, none⟩)), (17, .pointer (some ⟨5, 0, none⟩)), (18, .pointer (some ⟨6, 0, none⟩)), (20, .bool g), (21, .int .i64 s.2)],
      [.cells (strsC L) 9 false, .cells (bytesC b) 5 true, .cells (ductVC zeroD) 58 false, .cells (refC zeroM (.slice none 0 0)) 68 false, .cells (ductVC E) 58 false, .cells [.int .i64 1, .slice (some ⟨7, 0, none⟩) s.1.length s.1.length, .int .i64 0, .int .i64 0, .int .i64 0] 76 false, .cells (refC M (slL 8 L')) 68 false, .cells s.1 5 false, .cells (strsC L') 9 false]⟩)
    (fun s => (c.length - s.2).toNat) (fun s => s.1.all isScal = true ∧ AllInt8 s.1 ∧ s.1.length = c.length ∧ 0 ≤ s.2 ∧ s.2 ≤ c.length) (c, 0) (by kernel_rfl) ⟨hp, hi, rfl, Int.le_refl 0, Int.natCast_nonneg _⟩ ?_
  rintro ⟨d, j⟩ ⟨k1, k2, k3, k4, k5⟩
  dsimp only at k1 k2 k3 k4 k5
  have hj : IntKind.wrap IntKind.i64 (j + 1) = j + 1 := wrap_nat (by omega) (by omega)
  apply do1_ey E M L b d L' g j k1
  case n0 => intros; exact decide_eq_true k4
  case n1 => intro h; have h := of_decide_eq_true h; exact blt_iff.2 (by omega)
  case n2 => intro h; have h := of_decide_eq_true h; exact k2 _ (by omega)
  case n3 => intro h; have h := of_decide_eq_true h; exact Nat.ble_eq_true_of_le (by omega)
  case pl0 => simp
  case pl1 => simp
  case pl2 => simp
  case l7 =>
    intro h
    have h := of_decide_eq_true h
    have hlt : 0 + j.toNat * 1 < d.length := by omega
    refine QL.to (splice d (0 + j.toNat * 1) [.int .u8 (IntKind.wrap .u8 (intAt d (0 + j.toNat * 1) + 1))], j + 1) ⟨pl_splice k1 rfl _, k2.splice hlt _, by rw [splice1_len hlt]; exact k3, by dsimp only; omega, by dsimp only; omega⟩ ?_ ?_
    · show (c.length - (j + 1)).toNat < (c.length - j).toNat; omega
    · dsimp only
      rw [splice1_len hlt, ← hj]
      rfl
  case l8 =>
    intro h
    repeat (first | with_reducible refine QL.ret ?_ | with_reducible refine QL.exit ?_ | with_reducible refine QB.ret ?_ | with_reducible refine QB.hit ?_ | with_reducible refine QB.normal ?_ | with_reducible refine QB.miss (by rfl) ?_)
    apply do1_fy E M L L' b g
    case pl0 => simp
    case pl1 => simp
    case pl2 => simp
    case l3 =>
      repeat (first | with_reducible refine QL.ret ?_ | with_reducible refine QL.exit ?_ | with_reducible refine QB.ret ?_ | with_reducible refine QB.hit ?_ | with_reducible refine QB.normal ?_ | with_reducible refine QB.miss (by rfl) ?_)
      exact do1_fy_r0 E M L L' b g (by simp) (by simp) (by simp) hq
theorem do1_tail_n (E : DuctV) (M : RefV) (L : List ByteArray) (b : ByteArray) (kd x1 x2 x3 : Int) (g : Bool)
    (hq : Q0 (.ret (.tuple #[.agg (ductVC E).toArray, .agg (refC M (slL 0 L)).toArray, .bool g])) (objsD L b)) :
    TriL Pg nDoes 2 (LArm11.drop 4) ⟨[(6, .pointer (some ⟨2, 0, none⟩)), (7, .pointer (some ⟨3, 0, none⟩)), (16, .pointer (some ⟨4, 0, none⟩)), (17, .pointer (some ⟨5, 0, none⟩)), (18, .pointer (some ⟨6, 0, none⟩)), (20, .bool g), (21, .int .i64 0)],
      [.cells (strsC L) 9 false, .cells (bytesC b) 5 true, .cells (ductVC zeroD) 58 false, .cells (refC zeroM (.slice none 0 0)) 68 false, .cells (ductVC E) 58 false, .cells [.int .i64 kd, .slice none 0 0, .int .i64 x1, .int .i64 x2, .int .i64 x3] 76 false, .cells (refC M (slL 0 L)) 68 false]⟩ (QB 0 N (FinT Pg fDoes nDoes 2 Q0)) := by
  refine TriL.blockAt 4 3 (by kernel_rfl) ?_
  refine TriL.loopAt (fun s : Unit => ⟨[(6, .pointer (some ⟨2, 0, none⟩)), (7, .pointer (some ⟨3, 0, none⟩)), (16, .pointer (some ⟨4, 0, none⟩)), (17, .pointer (some ⟨5, 0, none⟩)), (18, .pointer (some ⟨6, 0, none⟩)), (20, .bool g), (21, .int .i64 0)],
      [.cells (strsC L) 9 false, .cells (bytesC b) 5 true, .cells (ductVC zeroD) 58 false, .cells (refC zeroM (.slice none 0 0)) 68 false, .cells (ductVC E) 58 false, .cells [.int .i64 kd, .slice none 0 0, .int .i64 x1, .int .i64 x2, .int .i64 x3] 76 false, .cells (refC M (slL 0 L)) 68 false]⟩)
    (fun s => 0) (fun s => True) () (by kernel_rfl) trivial ?_
  rintro _ _
  apply do1_en E M L b kd x1 x2 x3 g 0
  case n0 => rfl
  case pl0 => simp
  case pl1 => simp
  case l3 =>
    repeat (first | with_reducible refine QL.ret ?_ | with_reducible refine QL.exit ?_ | with_reducible refine QB.ret ?_ | with_reducible refine QB.hit ?_ | with_reducible refine QB.normal ?_ | with_reducible refine QB.miss (by rfl) ?_)
    apply do1_fn E M L [] b g
    case pl0 => simp
    case pl1 => simp
    case l2 =>
      repeat (first | with_reducible refine QL.ret ?_ | with_reducible refine QL.exit ?_ | with_reducible refine QB.ret ?_ | with_reducible refine QB.hit ?_ | with_reducible refine QB.normal ?_ | with_reducible refine QB.miss (by rfl) ?_)
      exact do1_fn_r0 E M L [] b g (by simp) (by simp) hq
end

theorem PInv1.read {D : DuctV} (h : PInv1 D) (hn : D.n ≠ 0) : PInv1 (readD D) ∧ refOf (readD D) = { refOf D with rd := w64 (D.rd + 1) } := by
  have hok := okD_read h.ok
  have hb : (D.n == 0) = false := by simpa using hn
  have hg : D.gone = false := by
    cases hg : D.gone with
    | false => rfl
    | true => exact absurd (h.g hg) hn
  have hr := row_read h.ok hn
  unfold readD at hok hr ⊢
  rw [hb, cond_false] at hok hr ⊢
  exact ⟨⟨hok, h.k1, h.s0, h.s2, (fun e => by have e : D.gone = true := e; rw [hg] at e; cases e), fun s hm => h.sz s (by rw [hr]; exact List.mem_cons_of_mem _ hm)⟩, rfl⟩
theorem readNo {D : DuctV} (hk : readK D ≠ 1) : D.n = 0 ∧ readD D = D := by
  have : D.n = 0 := by
    by_cases hn : D.n = 0
    · exact hn
    · exact absurd (readK_one.2 hn) hk
  exact ⟨this, by unfold readD; rw [this]; rfl⟩

set_option maxHeartbeats 4000000 in
theorem do1_fnT (D : DuctV) (M : RefV) (L : List ByteArray) (b : ByteArray) (fc fs fi : Int) (h : PInv D M L) : FnT Try.prog 31 (argsD D M L 1 fc fs fi b) (objsD L b)
    fun r o => ((readK D == 1) = false ∧ Same (readD D) L b r o) ∨ ((readK D == 1) = true ∧ ∃ M', PInv (readD D) M' (rowD (readD D)) ∧ r = tupR (readD D) M' (slL 2 (rowD (readD D))) ∧ o = objsD L b ++ [.cells (strsC (rowD (readD D))) 9 false]) := by
  have hl := h.len
  have hok := h.ok
  refine FnT.ofT (n := slotsC Try.prog 31) (by kernel_rfl) ?_
  apply do1_a D M L b fc fs fi hok hl
  case pl0 => simp
  case pl1 => simp
  case l2 =>
    refine TriL.blockAt 2 0 (by kernel_rfl) ?_
    apply do1_b D M L b fc fs fi hok hl
    case pl0 => simp
    case pl1 => simp
    refine TriL.condAt 1 (c := 28) (b := false) (by kernel_rfl) (by rfl) (by rfl) ?_
    rw [arm0_end, List.append_nil]
    apply do1_c D M L b fc fs fi hok hl
    case pl0 => simp
    case pl1 => simp
    refine TriL.condAt 1 (c := 73) (b := true) (by kernel_rfl) (by rfl) (by rfl) ?_
    rw [arm1_end, List.append_nil]
    apply do1_d1 D M L b fc fs fi hok hl
    case pl0 => simp
    case pl1 => simp
    case l2 =>
      intro hk
      have hk1 : readK D = 1 := eq_of_beq hk
      rcases h with ⟨h, rfl, rfl⟩ | ⟨rfl, rfl, rfl⟩
      rotate_left
      · exact absurd hk1 (by decide)
      have hn := readK_one.1 hk1
      have hrow := row_read h.ok hn
      obtain ⟨hinv, href⟩ := h.read hn
      have hlr : (rowD D).length = (rowD (readD D)).length + 1 := by rw [hrow]; simp
      have hs0 : strAt (strsC (rowD D)) 0 = readS D := by rw [hrow]; rfl
      have hcl : (bytesC (readS D)).length = (readS D).size := bytesC_length _
      have e0 : do1_d1_d0 D (refOf D) (rowD D) b fc fs fi = ⟨[(4, .pointer (some ⟨2, 0, none⟩)), (6, .pointer (some ⟨3, 0, none⟩)), (7, .pointer (some ⟨4, 0, none⟩)), (16, .pointer (some ⟨5, 0, none⟩)), (17, .pointer (some ⟨6, 0, none⟩))], [.cells (strsC (rowD D)) 9 false, .cells (bytesC b) 5 true, .cells (refC (refOf D) (slL 0 (rowD D))) 68 false, .cells (ductVC zeroD) 58 false, .cells (refC zeroM (.slice none 0 0)) 68 false, .cells (ductVC (readD D)) 58 false,
          .cells [.int .i64 1, .slice (some ⟨7, 0, none⟩) (bytesC (readS D)).length (bytesC (readS D)).length, .int .i64 0, .int .i64 0, .int .i64 0] 76 false, .cells (bytesC (readS D)) 5 false]⟩ := by
        rw [hcl]; rfl
      rw [e0]
      apply do1_d2y (readD D) (refOf D) (rowD D) b (bytesC (readS D)) hl (by omega)
      case n0 => exact one_take_drop_strs _ _ _
      case n1 => exact isStrAt_strs (by omega)
      case pl0 => simp
      case pl1 => simp
      case pl2 => simp
      rw [List.drop_drop]
      have e1 : do1_d2y_d0 (readD D) (refOf D) (rowD D) b (bytesC (readS D)) = ⟨[(6, .pointer (some ⟨2, 0, none⟩)), (7, .pointer (some ⟨3, 0, none⟩)), (16, .pointer (some ⟨4, 0, none⟩)), (17, .pointer (some ⟨5, 0, none⟩)), (18, .pointer (some ⟨6, 0, none⟩)), (19, .pointer (some ⟨7, 0, none⟩))], [.cells (strsC (rowD D)) 9 false, .cells (bytesC b) 5 true, .cells (ductVC zeroD) 58 false, .cells (refC zeroM (.slice none 0 0)) 68 false, .cells (ductVC (readD D)) 58 false,
          .cells [.int .i64 1, .slice (some ⟨8, 0, none⟩) (bytesC (readS D)).length (bytesC (readS D)).length, .int .i64 0, .int .i64 0, .int .i64 0] 76 false, .cells (refC (refOf (readD D)) (slL 9 (rowD (readD D)))) 68 false,
          .cells [.int .i64 1, .slice (some ⟨10, 0, none⟩) (bytesC (readS D)).length (bytesC (readS D)).length, .int .i64 0, .int .i64 0, .int .i64 0] 76 false, .cells (bytesC (readS D)) 5 false, .cells (strsC (rowD (readD D))) 9 false, .cells (bytesC (readS D)) 5 false]⟩ := by
        unfold do1_d2y_d0
        have e2 : strsC (rowD (readD D)) = [] ++ List.take (((rowD D).length - 1) * 1) (List.drop 1 (strsC (rowD D))) := by
          rw [hrow]
          show _ = [] ++ List.take _ (strsC (rowD (readD D)))
          rw [List.nil_append, List.take_of_length_le]
          rw [strsC_length]; simp
        have e3 : (rowD (readD D)).length = 0 + ((rowD D).length - 1) := by omega
        unfold slL
        rw [href, e2, e3, hs0, hcl]
        rfl
      rw [e1]
      have hb1 : Option.isSome (Option.bind (cut (bytesC (readS D)) 0 (bytesC (readS D)).length) bytesOf) = true := by rw [hcl]; simp
      apply do1_d3y (readD D) (refOf (readD D)) (rowD D) b (bytesC (readS D)) (rowD (readD D)) (bytesC (readS D)) hb1 hb1 (pl_bytes _) rfl
      case pl0 => simp
      case pl1 => simp
      case pl2 => simp
      try case pl3 => simp
      rw [List.drop_drop]
      refine do1_tail_y (readD D) (refOf (readD D)) (rowD D) (rowD (readD D)) b (bytesC (readS D)) true (pl_bytes _) (allInt8_bytes _) ?_ (.inr ⟨hk, refOf (readD D), .inl ⟨hinv, rfl, rfl⟩, rfl, rfl⟩)
      have hsz := h.sz (readS D) (by rw [hrow]; exact List.mem_cons_self)
      rw [hcl]; omega
    case l3 =>
      intro hk
      have hk1 : readK D ≠ 1 := beq_eq_false_iff_ne.1 hk
      obtain ⟨hn, hre⟩ := readNo hk1
      have hL0 : L.length = 0 := by have := eq_of_beq h.size; omega
      have fin : ∀ (y0 y1 y2 y3 : Int) (N : Desc → Prop) (Q0 : CRes → List VObj → Prop), readK D = y0 → readF D D.fc = y1 → readF D D.fs = y2 → readF D D.fi = y3 → Q0 (tupR (readD D) M (slL 0 L)) (objsD L b) →
          TriL Pg nDoes 2 ((LArm11.drop 1).drop 1) ⟨[(6, .pointer (some ⟨2, 0, none⟩)), (7, .pointer (some ⟨3, 0, none⟩)), (16, .pointer (some ⟨4, 0, none⟩)), (17, .pointer (some ⟨5, 0, none⟩)), (18, .pointer (some ⟨6, 0, none⟩)), (19, .pointer (some ⟨7, 0, none⟩))], [.cells (strsC L) 9 false, .cells (bytesC b) 5 true, .cells (ductVC zeroD) 58 false, .cells (refC zeroM (.slice none 0 0)) 68 false, .cells (ductVC (readD D)) 58 false,
            .cells [.int .i64 (readK D), .slice none 0 0, .int .i64 (readF D D.fc), .int .i64 (readF D D.fs), .int .i64 (readF D D.fi)] 76 false, .cells (refC M (slL 0 L)) 68 false, .cells [.int .i64 y0, .slice none 0 0, .int .i64 y1, .int .i64 y2, .int .i64 y3] 76 false]⟩ (QB 0 N (FinT Pg fDoes nDoes 2 Q0)) := by
        rintro y0 y1 y2 y3 N Q0 rfl rfl rfl rfl hq
        rw [List.drop_drop]
        apply do1_d3n (readD D) M L b (readK D) (readF D D.fc) (readF D D.fs) (readF D D.fi) (readK D) (readF D D.fc) (readF D D.fs) (readF D D.fi) (by simp)
        case pl0 => simp
        case pl1 => simp
        rw [List.drop_drop]
        have e1 : (readF D D.fc == readF D D.fc && (readF D D.fs == readF D D.fs && (readF D D.fi == readF D D.fi && true))) = true := by simp
        unfold do1_d3n_d0
        rw [e1]
        exact do1_tail_n (readD D) M L b (readK D) (readF D D.fc) (readF D D.fs) (readF D D.fi) true hq
      have hq : (∃ M', PInv (readD D) M' L ∧ tupR (readD D) M (slL 0 L) = tupR (readD D) M' (slL 0 L) ∧ objsD L b = objsD L b) := ⟨M, by rw [hre]; exact h, rfl, rfl⟩
      apply do1_d2n (readD D) M L b (readK D) (readF D D.fc) (readF D D.fs) (readF D D.fi) hl hL0
      case pl0 => simp
      case pl1 => simp
      all_goals rcases h with ⟨h, rfl, rfl⟩ | ⟨rfl, rfl, rfl⟩
      case l2.inl =>
        intro h0
        have h0 : D.gone = true := h0
        have ek : readK D = 2 := by unfold readK; rw [hn, k_ne h, h0]; rfl
        have ef : ∀ x, readF D x = 0 := fun x => by unfold readF; rw [ek]; rfl
        exact fin 2 0 0 0 _ _ ek (ef _) (ef _) (ef _) (.inl ⟨hk, hq⟩)
      case l2.inr => intro h0; exact fin 2 0 0 0 _ _ rfl rfl rfl rfl (.inl ⟨hk, hq⟩)
      case l3.inl =>
        intro h0 h1
        have h0 : D.gone = false := h0
        have h1 : (D.st == 1) = true := h1
        have ek : readK D = 2 := by unfold readK; rw [hn, k_ne h, h0, h1]; rfl
        have ef : ∀ x, readF D x = 0 := fun x => by unfold readF; rw [ek]; rfl
        exact fin 2 0 0 0 _ _ ek (ef _) (ef _) (ef _) (.inl ⟨hk, hq⟩)
      case l4.inl =>
        intro h0 h1 h2
        have h0 : D.gone = false := h0
        have h1 : (D.st == 1) = false := h1
        have h2 : (D.st == 2) = true := h2
        have ek : readK D = 3 := by unfold readK; rw [hn, k_ne h, h0, h1, h2]; rfl
        have ef : ∀ x, readF D x = x := fun x => by unfold readF; rw [ek]; rfl
        exact fin 3 D.fc D.fs D.fi _ _ ek (ef _) (ef _) (ef _) (.inl ⟨hk, hq⟩)
      case l5.inl =>
        intro h0 h1 h2
        have h0 : D.gone = false := h0
        have h1 : (D.st == 1) = false := h1
        have h2 : (D.st == 2) = false := h2
        have ek : readK D = 0 := by unfold readK; rw [hn, k_ne h, h0, h1, h2]; rfl
        have ef : ∀ x, readF D x = 0 := fun x => by unfold readF; rw [ek]; rfl
        exact fin 0 0 0 0 _ _ ek (ef _) (ef _) (ef _) (.inl ⟨hk, hq⟩)
      all_goals (intro h0; exact absurd h0 (by decide))
end Go.Proofs.Ytgdpahojinknmaa
