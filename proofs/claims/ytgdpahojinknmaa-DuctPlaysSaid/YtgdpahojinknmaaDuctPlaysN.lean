/- DuctPlays answers true. -/
import Derived.Test.YtgdpahojinknmaaDlp
namespace Go.Proofs.Ytgdpahojinknmaa
open Go Vm Go.RowKit
set_option linter.unusedVariables false
set_option linter.unusedSimpArgs false
set_option maxRecDepth 100000

theorem takes_orP {D : DuctV} {s : ByteArray} (hk : D.k ≠ 0) : takesB D s = true ∨ (takesB D s = false ∧ writeE D s = 0 ∧ D.gone = true ∧ writeD D s = { D with wrote := w64 (D.wrote + 1), lost := w64 (D.lost + 1), byt := w64 (D.byt + s.size) }) ∨ (writeE D s ≠ 0 ∧ writeD D s = D) := by
  cases ht : takesB D s with
  | true => exact .inl rfl
  | false =>
    right
    have h0 : (D.k == 0) = false := by simpa using hk
    unfold writeE writeD
    rw [h0]
    simp only [cond_false]
    cases h1 : (D.st != 0) with
    | true => exact .inr ⟨by simp, rfl⟩
    | false =>
      cases h2 : decide ((s.size : Int) < 1) with
      | true => exact .inr ⟨by simp, rfl⟩
      | false =>
        cases h3 : decide ((s.size : Int) > 32) with
        | true => exact .inr ⟨by simp, rfl⟩
        | false =>
          cases h4 : D.gone with
          | true => exact .inl ⟨trivial, rfl, rfl, rfl⟩
          | false =>
            cases h5 : (D.n == D.k) with
            | true => exact .inr ⟨by simp, rfl⟩
            | false =>
              exfalso
              have a1 : (D.st == 0) = true := by simpa using h1
              have a2 : decide (1 ≤ s.size) = true := by simp at h2 ⊢; omega
              have a3 : decide (s.size ≤ 32) = true := by simp at h3 ⊢; omega
              unfold takesB at ht
              rw [h0, a1, a2, a3, h4, h5] at ht
              cases ht


theorem PInv1.write {D : DuctV} (h : PInv1 D) (b : ByteArray) : PInv1 (writeD D b) ∧ (takesB D b = false → rowD (writeD D b) = rowD D) := by
  have k1 := h.k1
  have hok' := okD_write h.ok b
  rcases takes_orP (D := D) (s := b) (by omega) with ht | ⟨ht, _, hg, e1⟩ | ⟨_, e1⟩
  · have hr := row_write h.ok ht
    have e1 := (write_takes ht).1
    have h2 : b.size ≤ 32 := by simp only [takesB, Bool.and_eq_true, decide_eq_true_eq] at ht; exact ht.2.2.2.1
    have hg : D.gone = false := by simp only [takesB, Bool.and_eq_true, Bool.not_eq_true'] at ht; exact ht.2.2.2.2.1
    rw [e1] at hok' hr ⊢
    exact ⟨⟨hok', h.k1, h.s0, h.s2, (fun e => by have e : D.gone = true := e; rw [hg] at e; cases e), fun s hm => by
      rw [hr] at hm
      rcases List.mem_append.1 hm with hm | hm
      · exact h.sz s hm
      · rw [List.mem_singleton.1 hm]; exact h2⟩, fun e => by rw [ht] at e; cases e⟩
  · have hrow : rowD (writeD D b) = rowD D := by rw [e1]; exact row_same rfl rfl rfl rfl rfl rfl rfl rfl rfl rfl
    have hr := hrow
    rw [e1] at hok' hr ⊢
    exact ⟨⟨hok', h.k1, h.s0, h.s2, h.g, fun s hm => h.sz s (by rw [← hr]; exact hm)⟩, fun _ => hr⟩
  · rw [e1]; exact ⟨h, fun _ => rfl⟩
theorem after_zero (d : Int) (b : ByteArray) (fc fs fi : Int) : afterD zeroD d b fc fs fi = zeroD := by
  unfold afterD
  repeat' (with_reducible refine bif_of (C := fun E : DuctV => E = zeroD) _ ?_ ?_ <;> intro _)
  all_goals rfl
theorem PInv1.after {D : DuctV} (h : PInv1 D) (d : Int) (b : ByteArray) (fc fs fi : Int) : PInv1 (afterD D d b fc fs fi) ∧ ((d == 4) = true → rowD (afterD D d b fc fs fi) = []) ∧ ((d == 4) = false → newB D d b = false → rowD (afterD D d b fc fs fi) = rowD D) := by
  unfold afterD newB
  cases h0 : (d == 0) with
  | true =>
    obtain rfl : d = 0 := by simpa using h0
    obtain ⟨w1, w2⟩ := h.write b
    exact ⟨w1, (fun e => by cases e), fun _ e => w2 (by simpa using e)⟩
  | false =>
    cases h1 : (d == 1) with
    | true =>
      obtain rfl : d = 1 := by simpa using h1
      refine ⟨?_, (fun e => by cases e), fun _ e => ?_⟩
      · show PInv1 (readD D)
        by_cases hn : D.n = 0
        · have : readD D = D := by unfold readD; rw [hn]; rfl
          rw [this]; exact h
        · exact (h.read hn).1
      · have e : (readK D == 1) = false := by simpa using e
        have := (readNo (beq_eq_false_iff_ne.1 e)).2
        show rowD (readD D) = rowD D
        rw [this]
    | false =>
      cases h2 : (d == 2) with
      | true =>
        obtain rfl : d = 2 := by simpa using h2
        exact ⟨h.shut _ _ _ _ ⟨by decide, by decide⟩, (fun e => by cases e), fun _ _ => row_shut D 1 0 0 0⟩
      | false =>
        cases h3 : (d == 3) with
        | true =>
          obtain rfl : d = 3 := by simpa using h3
          exact ⟨h.shut _ _ _ _ ⟨by decide, by decide⟩, (fun e => by cases e), fun _ _ => row_shut D 2 fc fs fi⟩
        | false =>
          cases h4 : (d == 4) with
          | true =>
            exact ⟨h.leave, fun _ => row_leave (k_ne h), fun e => by cases e⟩
          | false =>
            cases h5 : (d == 5) with
            | true =>
              exact ⟨h.widen, (fun e => by cases e), fun _ _ => row_widen D⟩
            | false => exact ⟨h, (fun e => by cases e), fun _ _ => rfl⟩
theorem pinv_after {D : DuctV} {M : RefV} {L : List ByteArray} (h : PInv D M L) (d : Int) (b : ByteArray) (fc fs fi : Int) : PInv (afterD D d b fc fs fi) (refA D (afterD D d b fc fs fi) M) (rowA D (afterD D d b fc fs fi) L) ∧
    ((d == 4) = true → rowA D (afterD D d b fc fs fi) L = []) ∧ ((d == 4) = false → newB D d b = false → rowA D (afterD D d b fc fs fi) L = L) := by
  rcases h with ⟨h, rfl, rfl⟩ | ⟨rfl, rfl, rfl⟩
  · obtain ⟨a1, a2, a3⟩ := h.after d b fc fs fi
    unfold refA rowA
    rw [k_ne h]
    exact ⟨.inl ⟨a1, rfl, rfl⟩, a2, a3⟩
  · rw [after_zero]
    exact ⟨.inr ⟨rfl, rfl, rfl⟩, fun _ => rfl, fun _ _ => rfl⟩
theorem pinv_new {c : Int} (h1 : decide (c < 1) = false) (h2 : decide (c > 8) = false) : PInv (newD c) ⟨c, 0, 0, 0, 0, false, c, c, 0, 0, 0, 0, 0⟩ [] := by
  have e : newD c = { zeroD with k := c, first := c } := by unfold newD; rw [h1, h2]; rfl
  have hok := okD_new c
  have h1 := of_decide_eq_false h1
  rw [e] at hok ⊢
  exact .inl ⟨⟨hok, by show 1 ≤ c; omega, Int.le_refl 0, (show (0 : Int) ≤ 2 by decide), (fun e => rfl), fun s hm => by cases hm⟩, rfl, rfl⟩
theorem pinv_zero {c : Int} (h : decide (c < 1) = true ∨ decide (c > 8) = true) : PInv (newD c) refZ [] ∧ newE c = 16 := by
  have e : newD c = zeroD ∧ newE c = 16 := by
    unfold newD newE
    rcases h with h | h
    · rw [h]; exact ⟨rfl, rfl⟩
    · rw [h]; cases decide (c < 1) <;> exact ⟨rfl, rfl⟩
  rw [e.1]
  exact ⟨.inr ⟨rfl, rfl, rfl⟩, e.2⟩
theorem few22_lenP {l : List Act22} (h : few22B l = true) : l.length ≤ 500 ∧ ∀ j, (l.getD j ⟨0, ByteArray.empty, 0, 0, 0⟩).b.size ≤ 65536 := by
  unfold few22B at h
  simp only [Bool.and_eq_true, decide_eq_true_eq] at h
  refine ⟨h.1, fun j => ?_⟩
  by_cases hj : j < l.length
  · have h1 := sum22_take l j hj
    have h2 := sum22_le l (j + 1)
    omega
  · have : l.getD j ⟨0, ByteArray.empty, 0, 0, 0⟩ = ⟨0, ByteArray.empty, 0, 0, 0⟩ := by simp [List.getD, List.getElem?_eq_none (by omega : l.length ≤ j)]
    rw [this]; decide
def xAtP (A : List Act22) (j : Int) : Act22 := A.getD j.toNat ⟨0, ByteArray.empty, 0, 0, 0⟩

abbrev PS := DuctV × RefV × List ByteArray × Int
def plI (A : List Act22) (s : PS) : Desc := ⟨[(1, .slice (some ⟨0, 0, none⟩) A.length A.length), (5, .pointer (some ⟨1, 0, none⟩)), (7, .pointer (some ⟨2, 0, none⟩)), (9, .int .i64 s.2.2.2)],
  [rows22 A, .cells (ductVC s.1) 58 false, .cells (refC s.2.1 (slL 3 s.2.2.1)) 68 false, .cells (strsC s.2.2.1) 9 false]⟩

set_option maxHeartbeats 4000000 in
theorem ductPlays_fn (A : List Act22) (c : Int) (hA : small22 A) : FnT Try.prog 7 [.int .i64 c, .slice (some ⟨0, 0, none⟩) A.length A.length] [rows22 A] fun r o => r = .ret (.bool true) ∧ o = [rows22 A] := by
  refine FnT.ofT (n := slotsC Try.prog 7) (by kernel_rfl) ?_
  have rest : ∀ (D : DuctV) (M : RefV), few22B A = true → PInv D M [] → TriL Try.prog (slotsC Try.prog 7) [rows22 A].length (Lpenstocklaw22_DuctPlays.drop 8)
      ⟨[(1, .slice (some ⟨0, 0, none⟩) A.length A.length), (5, .pointer (some ⟨1, 0, none⟩)), (7, .pointer (some ⟨2, 0, none⟩)), (9, .int .i64 0)], [rows22 A, .cells (ductVC D) 58 false, .cells (refC M (.slice none 0 0)) 68 false]⟩
      (FinT Try.prog 7 (slotsC Try.prog 7) [rows22 A].length fun r o => r = .ret (.bool true) ∧ o = [rows22 A]) := by
    intro D M hf hI
    obtain ⟨lA, bA⟩ := few22_lenP hf
    refine TriL.nilObj 2 1 9 (s := 1) (c := refC M (.slice none 0 0)) (by kernel_rfl) rfl rfl (by rfl) (by rfl : _ = plI A (D, M, [], 0)) ?_
    refine TriL.blockAt 8 0 (by kernel_rfl) ?_
    refine TriL.loopAt (plI A) (fun s => (A.length - s.2.2.2).toNat) (fun s => PInv s.1 s.2.1 s.2.2.1 ∧ 0 ≤ s.2.2.2 ∧ s.2.2.2 ≤ A.length) (D, M, [], 0) (by kernel_rfl) ⟨hI, Int.le_refl 0, Int.natCast_nonneg _⟩ ?_
    clear hI
    rintro ⟨D, M, L, j⟩ ⟨hI, h1, h2⟩
    dsimp only at hI h1 h2
    have hj : IntKind.wrap IntKind.i64 (j + 1) = j + 1 := wrap_nat (by omega) (by omega)
    have hbx : (xAtP A j).b.size ≤ 65536 := bA _
    obtain ⟨p1, p2, p3⟩ := pinv_after hI (xAtP A j).d (bytesAt (bytesC (xAtP A j).b) 0 (xAtP A j).b.size) (xAtP A j).c (xAtP A j).s (xAtP A j).i
    have ebs : bytesAt (bytesC (xAtP A j).b) 0 (xAtP A j).b.size = (xAtP A j).b := bytesAt_all _
    -- the end of a round
    have fin : ∀ (D' : DuctV) (M' : RefV) (L' : List ByteArray) (Q : VEx → Desc → Prop), j < A.length → PInv D' M' L' → TriL Try.prog (slotsC Try.prog 7) [rows22 A].length ((flat2 (inner (flat2 (inner (Lpenstocklaw22_DuctPlays.drop 8))))).drop 3) (plI A (D', M', L', j))
        (QL (plI A) (fun s => (A.length - s.2.2.2).toNat) (fun s => PInv s.1 s.2.1 s.2.2.1 ∧ 0 ≤ s.2.2.2 ∧ s.2.2.2 ≤ A.length) (D, M, L, j) Q) := by
      intro D' M' L' Q hlt h
      apply dl_c A D' M' L' j
      case pl0 => simp
      case l1 =>
        refine QL.to (D', M', L', j + 1) ⟨h, by dsimp only; omega, by dsimp only; omega⟩ ?_ (by rw [← hj]; rfl)
        show (A.length - (j + 1)).toNat < (A.length - j).toNat
        omega
    apply dl_b A D M L j hA (pinvB_of hI) h1
    case n0 =>
      intro _
      have e1 := pinvB_of hI
      have hbx' := Nat.ble_eq_true_of_le hbx
      unfold xAtP at hbx'
      simp only [map_toStrV, isStrs, e1, bytesB_all, strsC_length, Nat.beq_refl, hbx', Bool.and_self]
    case pl0 => simp
    case n1 =>
      intro _ _
      simp only [map_toStrV, isStrs, strsC_length, Nat.beq_refl, Bool.and_self, Bool.and_true]
      exact pinvB_of p1
    case l2 =>
      intro hlt _
      have e : dl_b_d0 A D M L j = plI A ((afterD D (xAtP A j).d (bytesAt (bytesC (xAtP A j).b) 0 (xAtP A j).b.size) (xAtP A j).c (xAtP A j).s (xAtP A j).i), refA D (afterD D (xAtP A j).d (bytesAt (bytesC (xAtP A j).b) 0 (xAtP A j).b.size) (xAtP A j).c (xAtP A j).s (xAtP A j).i) M, rowA D (afterD D (xAtP A j).d (bytesAt (bytesC (xAtP A j).b) 0 (xAtP A j).b.size) (xAtP A j).c (xAtP A j).s (xAtP A j).i) L, j) := by
        unfold dl_b_d0
        rw [map_toStrV]
        rfl
      rw [e]
      exact fin _ _ _ _ (of_decide_eq_true hlt) p1
    case n3 =>
      intro _ _ h4
      have := pinvB_of p1
      rw [p2 h4] at this
      exact this
    case l4 =>
      intro hlt _ h4
      refine TriL.nilObj 2 1 9 (s := 1) (c := refC (refA D (afterD D (xAtP A j).d (bytesAt (bytesC (xAtP A j).b) 0 (xAtP A j).b.size) (xAtP A j).c (xAtP A j).s (xAtP A j).i) M) (.slice none 0 0)) (by kernel_rfl) rfl rfl (by rfl) (by rfl : _ = plI A (afterD D (xAtP A j).d (bytesAt (bytesC (xAtP A j).b) 0 (xAtP A j).b.size) (xAtP A j).c (xAtP A j).s (xAtP A j).i, refA D (afterD D (xAtP A j).d (bytesAt (bytesC (xAtP A j).b) 0 (xAtP A j).b.size) (xAtP A j).c (xAtP A j).s (xAtP A j).i) M, [], j)) ?_
      rw [p2 h4] at p1
      exact fin _ _ _ _ (of_decide_eq_true hlt) p1
    case n5 =>
      intro _ h3 h4
      simp only [map_toStrV, isStrs, strsC_length, Nat.beq_refl, Bool.and_self, Bool.and_true]
      have := pinvB_of p1
      rw [p3 h4 h3] at this
      exact this
    case l7 =>
      intro hlt h3 h4
      rw [p3 h4 h3] at p1
      have e : dl_b_d2 A D M L j = plI A ((afterD D (xAtP A j).d (bytesAt (bytesC (xAtP A j).b) 0 (xAtP A j).b.size) (xAtP A j).c (xAtP A j).s (xAtP A j).i), refA D (afterD D (xAtP A j).d (bytesAt (bytesC (xAtP A j).b) 0 (xAtP A j).b.size) (xAtP A j).c (xAtP A j).s (xAtP A j).i) M, L, j) := by
        unfold dl_b_d2
        rw [map_toStrV]
        rfl
      rw [e]
      exact fin _ _ _ _ (of_decide_eq_true hlt) p1
    case l8 =>
      intro _
      repeat (first | with_reducible refine QL.ret ?_ | with_reducible refine QL.exit ?_ | with_reducible refine QB.ret ?_ | with_reducible refine QB.hit ?_ | with_reducible refine QB.normal ?_ | with_reducible refine QB.miss (by rfl) ?_)
      exact dl_z A (dl_z_r0 A ⟨rfl, rfl⟩)
  apply dl_a A c hA
  case l0 => intros; exact dl_a_r0 A c ⟨rfl, rfl⟩
  case l1 => intro _ h h'; exfalso; rw [(pinv_zero (.inl h)).2] at h'; cases h'
  case n2 => intro _ h _; exact pinvB_of (pinv_zero (.inl h)).1
  case l3 => intro hf h _; rw [rowsOf22_rows] at hf; exact rest _ refZ (by simpa using hf) (pinv_zero (.inl h)).1
  case l4 => intro _ _ h h'; exfalso; rw [(pinv_zero (.inr h)).2] at h'; cases h'
  case n5 => intro _ _ h _; exact pinvB_of (pinv_zero (.inr h)).1
  case l6 => intro hf _ h _; rw [rowsOf22_rows] at hf; exact rest _ refZ (by simpa using hf) (pinv_zero (.inr h)).1
  case l7 => intro _ h1 h2 h'; exfalso; unfold newE at h'; rw [h1, h2] at h'; cases h'
  case n8 => intro _ h1 h2 _; exact pinvB_of (pinv_new h1 h2)
  case l9 => intro hf h1 h2 _; rw [rowsOf22_rows] at hf; exact rest _ _ (by simpa using hf) (pinv_new h1 h2)
end Go.Proofs.Ytgdpahojinknmaa
