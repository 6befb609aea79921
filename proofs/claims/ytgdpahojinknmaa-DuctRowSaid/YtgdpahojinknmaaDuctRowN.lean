/- DuctRow answers true. -/
import Derived.Test.YtgdpahojinknmaaDrl
import Derived.Test.YtgdpahojinknmaaDctL
namespace Go.Proofs.Ytgdpahojinknmaa
open Go Vm Go.RowKit
set_option linter.unusedVariables false
set_option linter.unusedSimpArgs false
set_option maxRecDepth 100000

@[simp] theorem rows22_foldR (l : List Act22) : (VObj.rows l.length 5 fun i => act22 (l[i]?.getD ⟨0, ByteArray.empty, 0, 0, 0⟩)) = rows22 l := by simp [rows22]
theorem newE_orR (c : Int) : newE c = 0 ∨ newE c = 16 := by
  unfold newE
  refine bif_of (C := fun x => x = 0 ∨ x = 16) _ ?_ ?_ <;> intro h
  · exact .inr rfl
  · refine bif_of (C := fun x => x = 0 ∨ x = 16) _ ?_ ?_ <;> intro h
    · exact .inr rfl
    · exact .inl rfl
theorem few22_lenR {l : List Act22} (h : few22B l = true) : l.length ≤ 500 := by
  unfold few22B at h
  simp at h
  exact h.1

structure RInv (c : Int) (D : DuctV) (L : List ByteArray) (o : Int) (g : Bool) : Prop where
  ok : okD D = true
  k1 : 1 ≤ D.k
  w : D.wrote = L.length
  r : D.rd = o
  sum : D.wrote = D.rd + D.n + D.lost
  r0 : 0 ≤ D.rd
  l0 : 0 ≤ D.lost
  gl : g = false → D.lost = 0
  gg : D.gone = g
  fi : D.first = c
  fk : D.first ≤ D.k
  mo : D.most ≤ D.k
  nm : D.n ≤ D.most
  gn : g = true → D.n = 0
  q : g = false → rowD D = L.drop o.toNat

theorem RInv.new {c : Int} (h : newE c = 0) : RInv c (newD c) [] 0 false := by
  have h1 : decide (c < 1) = false := by
    cases h1 : decide (c < 1) with
    | false => rfl
    | true => simp [newE, h1] at h
  have h2 : decide (c > 8) = false := by
    cases h2 : decide (c > 8) with
    | false => rfl
    | true => simp [newE, h1, h2] at h
  have e : newD c = { zeroD with k := c, first := c } := by unfold newD; rw [h1, h2]; rfl
  have h1 := of_decide_eq_false h1
  have h2 := of_decide_eq_false h2
  have hok := okD_new c
  rw [e] at hok ⊢
  exact ⟨hok, by show 1 ≤ c; omega, rfl, rfl, rfl, Int.le_refl 0, Int.le_refl 0, fun _ => rfl, rfl, rfl, Int.le_refl c, by show (0 : Int) ≤ c; omega, Int.le_refl 0, (fun h => by cases h), fun _ => rfl⟩

theorem takes_or {D : DuctV} {s : ByteArray} (hk : D.k ≠ 0) : takesB D s = true ∨ (takesB D s = false ∧ writeE D s = 0 ∧ D.gone = true ∧ writeD D s = { D with wrote := w64 (D.wrote + 1), lost := w64 (D.lost + 1), byt := w64 (D.byt + s.size) }) ∨ (writeE D s ≠ 0 ∧ writeD D s = D) := by
  cases ht : takesB D s with
  | true => exact .inl rfl
  | false =>
    right
    have h0 : (D.k == 0) = false := by simpa using hk
    unfold writeE writeD
    rw [h0]
    simp only [cond_false]
    cases h1 : (D.st != 0) with
    | true => exact .inr ⟨by simp, rfl⟩
    | false =>
      cases h2 : decide ((s.size : Int) < 1) with
      | true => exact .inr ⟨by simp, rfl⟩
      | false =>
        cases h3 : decide ((s.size : Int) > 32) with
        | true => exact .inr ⟨by simp, rfl⟩
        | false =>
          cases h4 : D.gone with
          | true => exact .inl ⟨trivial, rfl, rfl, rfl⟩
          | false =>
            cases h5 : (D.n == D.k) with
            | true => exact .inr ⟨by simp, rfl⟩
            | false =>
              exfalso
              have a1 : (D.st == 0) = true := by simpa using h1
              have a2 : decide (1 ≤ s.size) = true := by simp at h2 ⊢; omega
              have a3 : decide (s.size ≤ 32) = true := by simp at h3 ⊢; omega
              unfold takesB at ht
              rw [h0, a1, a2, a3, h4, h5] at ht
              cases ht

theorem RInv.push {c : Int} {D : DuctV} {L : List ByteArray} {o : Int} {g : Bool} (h : RInv c D L o g) (hL : L.length ≤ 500) {s : ByteArray} (he : writeE D s = 0) : RInv c (writeD D s) (L ++ [s]) o g := by
  obtain ⟨f0, f8, n0, nk, k8⟩ := okD_iff.1 h.ok
  have hw : w64 (D.wrote + 1) = D.wrote + 1 := wrap_nat (by have := h.w; omega) (by have := h.w; omega)
  have h1 := h.w; have h2 := h.sum; have h3 := h.r0; have h4 := h.l0; have h5 := h.mo; have h6 := h.nm; have h7 := h.k1
  rcases takes_or (D := D) (s := s) (by omega) with ht | ⟨_, _, hg, e⟩ | ⟨hne, _⟩
  · have hrow := row_write h.ok ht
    have hok := okD_write h.ok s
    have e := (write_takes ht).1
    have hng : D.gone = false := by simp only [takesB, Bool.and_eq_true, Bool.not_eq_true'] at ht; exact ht.2.2.2.2.1
    have hnk : D.n ≠ D.k := by simp only [takesB, Bool.and_eq_true, Bool.not_eq_true', beq_eq_false_iff_ne] at ht; exact ht.2.2.2.2.2
    have hn1 : w64 (D.n + 1) = D.n + 1 := wrap_nat (by omega) (by omega)
    have en : (writeD D s).n = D.n + 1 := by rw [e]; exact hn1
    have ew : (writeD D s).wrote = D.wrote + 1 := by rw [e]; exact hw
    have er : (writeD D s).rd = D.rd := by rw [e]; rfl
    have el : (writeD D s).lost = D.lost := by rw [e]; rfl
    have ek : (writeD D s).k = D.k := by rw [e]; rfl
    have eg : (writeD D s).gone = D.gone := by rw [e]; rfl
    have ef : (writeD D s).first = D.first := by rw [e]; rfl
    have em : (writeD D s).most = if D.n + 1 > D.most then D.n + 1 else D.most := by rw [e]; show (if w64 (D.n + 1) > D.most then w64 (D.n + 1) else D.most) = _; rw [hn1]
    refine ⟨hok, by omega, by rw [ew, h1]; simp, by rw [er]; exact h.r, by omega, by omega, by omega, (fun hg => by rw [el]; exact h.gl hg), by rw [eg]; exact h.gg, by rw [ef]; exact h.fi, by rw [ef, ek]; exact h.fk, ?_, ?_, fun hg => ?_, fun hg => ?_⟩
    · rw [em, ek]; split <;> omega
    · rw [em, en]; split <;> omega
    · rw [← h.gg, hng] at hg; cases hg
    · rw [hrow, h.q hg, List.drop_append_of_le_length]
      have := h.r; have := h.gl hg; omega
  · have hl : w64 (D.lost + 1) = D.lost + 1 := wrap_nat (by omega) (by omega)
    have hg' : g = true := by rw [← h.gg, hg]
    rw [e]
    refine ⟨h.ok, h7, ?_, h.r, ?_, h3, ?_, (fun e => by rw [hg'] at e; cases e), h.gg, h.fi, h.fk, h5, h6, h.gn, (fun e => by rw [hg'] at e; cases e)⟩
    · show w64 (D.wrote + 1) = _; rw [hw, h1]; simp
    · show w64 (D.wrote + 1) = D.rd + D.n + w64 (D.lost + 1); rw [hw, hl]; omega
    · show 0 ≤ w64 (D.lost + 1); rw [hl]; omega
  · exact absurd he hne
theorem RInv.same {c : Int} {D : DuctV} {L : List ByteArray} {o : Int} {g : Bool} (h : RInv c D L o g) {s : ByteArray} (he : writeE D s ≠ 0) : writeD D s = D := by
  have h7 := h.k1
  rcases takes_or (D := D) (s := s) (by omega) with ht | ⟨_, h1, _⟩ | ⟨_, e⟩
  · exact absurd (write_takes ht).2 he
  · exact absurd h1 he
  · exact e
theorem RInv.readNo {c : Int} {D : DuctV} {L : List ByteArray} {o : Int} {g : Bool} (h : RInv c D L o g) (hk : readK D ≠ 1) : readD D = D := by
  have : D.n = 0 := by
    by_cases hn : D.n = 0
    · exact hn
    · exact absurd (readK_one.2 hn) hk
  unfold readD
  rw [this]; rfl
theorem RInv.read {c : Int} {D : DuctV} {L : List ByteArray} {o : Int} {g : Bool} (h : RInv c D L o g) (hL : L.length ≤ 500) (hk : readK D = 1) : g = false ∧ o.toNat < L.length ∧ 0 ≤ o ∧ L[o.toNat]? = some (readS D) ∧ RInv c (readD D) L (o + 1) g := by
  obtain ⟨f0, f8, n0, nk, k8⟩ := okD_iff.1 h.ok
  have h1 := h.w; have h2 := h.sum; have h3 := h.r0; have h4 := h.l0; have h5 := h.mo; have h6 := h.nm; have h7 := h.k1; have h8 := h.r
  have hn := readK_one.1 hk
  have hg : g = false := by
    cases g with
    | false => rfl
    | true => exact absurd (h.gn rfl) hn
  have hl0 := h.gl hg
  have hrow := row_read h.ok hn
  rw [h.q hg] at hrow
  have ho : o.toNat < L.length := by omega
  have hd : L.drop o.toNat = L[o.toNat] :: L.drop (o.toNat + 1) := List.drop_eq_getElem_cons ho
  rw [hd] at hrow
  simp only [List.cons.injEq] at hrow
  have hn1 : w64 (D.n - 1) = D.n - 1 := wrap_nat (by omega) (by omega)
  have hr1 : w64 (D.rd + 1) = D.rd + 1 := wrap_nat (by omega) (by omega)
  have hb : (D.n == 0) = false := by simpa using hn
  have hok := okD_read h.ok
  obtain ⟨E, hE⟩ : ∃ E, E = readD D := ⟨_, rfl⟩
  rw [← hE] at hrow hok ⊢
  unfold readD at hE
  rw [hb, cond_false] at hE
  have en : E.n = D.n - 1 := by rw [hE]; exact hn1
  have er : E.rd = D.rd + 1 := by rw [hE]; exact hr1
  have ew : E.wrote = D.wrote := by rw [hE]; rfl
  have el : E.lost = D.lost := by rw [hE]; rfl
  have ek : E.k = D.k := by rw [hE]; rfl
  have eg : E.gone = D.gone := by rw [hE]; rfl
  have ef : E.first = D.first := by rw [hE]; rfl
  have em : E.most = D.most := by rw [hE]; rfl
  refine ⟨hg, ho, by omega, by rw [List.getElem?_eq_getElem ho, hrow.1], hok, by omega, by omega, by omega, by omega, by omega, by omega, (fun _ => by omega), by rw [eg]; exact h.gg, by rw [ef]; exact h.fi, by rw [ef, ek]; exact h.fk, by omega, by omega, (fun e => by rw [hg] at e; cases e), fun _ => ?_⟩
  rw [← hrow.2, show (o + 1).toNat = o.toNat + 1 by omega]
theorem RInv.shut {c : Int} {D : DuctV} {L : List ByteArray} {o : Int} {g : Bool} (h : RInv c D L o g) (a b d e : Int) : RInv c (shutD D a b d e) L o g := by
  have hok := okD_shut h.ok a b d e
  have hrow := row_shut D a b d e
  have key : ∀ E : DuctV, okD E = true → rowD E = rowD D → (E = { D with st := a, fc := b, fs := d, fi := e } ∨ E = D) → RInv c E L o g := by
    rintro E h1 h2 (rfl | rfl)
    · exact ⟨h1, h.k1, h.w, h.r, h.sum, h.r0, h.l0, h.gl, h.gg, h.fi, h.fk, h.mo, h.nm, h.gn, fun hg => by rw [h2]; exact h.q hg⟩
    · exact h
  refine key _ hok hrow ?_
  unfold shutD
  repeat' (with_reducible refine bif_of (C := fun E : DuctV => E = { D with st := a, fc := b, fs := d, fi := e } ∨ E = D) _ ?_ ?_ <;> intro _)
  · exact .inl rfl
  · exact .inr rfl
  · exact .inr rfl
theorem RInv.leave {c : Int} {D : DuctV} {L : List ByteArray} {o : Int} {g : Bool} (h : RInv c D L o g) (hL : L.length ≤ 500) : RInv c (leaveD D) L o true := by
  obtain ⟨f0, f8, n0, nk, k8⟩ := okD_iff.1 h.ok
  have h1 := h.w; have h2 := h.sum; have h3 := h.r0; have h4 := h.l0; have h5 := h.mo; have h6 := h.nm; have h7 := h.k1; have h8 := h.r
  have hok := okD_leave h.ok
  have hb : (D.k == 0) = false := by simp; omega
  have hl : w64 (D.lost + D.n) = D.lost + D.n := wrap_nat (by omega) (by omega)
  unfold leaveD at hok ⊢
  rw [hb, cond_false] at hok ⊢
  exact ⟨hok, h7, h1, h8, by show D.wrote = D.rd + 0 + w64 (D.lost + D.n); rw [hl]; omega, h3, by show 0 ≤ w64 (D.lost + D.n); rw [hl]; omega, (fun e => by cases e), rfl, h.fi, h.fk, h5, by show 0 ≤ D.most; omega, (fun _ => rfl), (fun e => by cases e)⟩
theorem RInv.widen {c : Int} {D : DuctV} {L : List ByteArray} {o : Int} {g : Bool} (h : RInv c D L o g) : RInv c (widenD D) L o g := by
  obtain ⟨f0, f8, n0, nk, k8⟩ := okD_iff.1 h.ok
  have hok := okD_widen h.ok
  have hrow := row_widen D
  have h5 := h.mo; have h7 := h.k1; have h9 := h.fk
  have hw : w64 (D.k + 1) = D.k + 1 := wrap_nat (by omega) (by omega)
  have key : ∀ E : DuctV, okD E = true → rowD E = rowD D → (E = { D with k := w64 (D.k + 1) } ∨ E = D) → RInv c E L o g := by
    rintro E h1 h2 (rfl | rfl)
    · exact ⟨h1, by show 1 ≤ w64 (D.k + 1); rw [hw]; omega, h.w, h.r, h.sum, h.r0, h.l0, h.gl, h.gg, h.fi, by show D.first ≤ w64 (D.k + 1); rw [hw]; omega, by show D.most ≤ w64 (D.k + 1); rw [hw]; omega, h.nm, h.gn, fun hg => by rw [h2]; exact h.q hg⟩
    · exact h
  refine key _ hok hrow ?_
  unfold widenD
  repeat' (with_reducible refine bif_of (C := fun E : DuctV => E = { D with k := w64 (D.k + 1) } ∨ E = D) _ ?_ ?_ <;> intro _)
  · exact .inr rfl
  · exact .inr rfl
  · exact .inl rfl

theorem full_waits {D : DuctV} (hk : 1 ≤ D.k) (h : fullD D = true) : waitsD D = false := by
  unfold fullD at h
  unfold waitsD
  cases h1 : !(D.k == 0) with
  | false => rfl
  | true =>
    rw [h1] at h
    simp only [cond_true] at h ⊢
    cases h2 : (D.st == 0) with
    | false => rfl
    | true =>
      rw [h2] at h
      simp only [cond_true] at h ⊢
      cases h3 : !D.gone with
      | false => rfl
      | true =>
        rw [h3] at h
        simp only [cond_true] at h ⊢
        have : D.n = D.k := by simpa using h
        simp; omega

def xAtR (A : List Act22) (j : Int) : Act22 := A.getD j.toNat ⟨0, ByteArray.empty, 0, 0, 0⟩
abbrev RS := DuctV × List ByteArray × Int × Bool × Int
def rowI (A : List Act22) (c : Int) (s : RS) : Desc := ⟨[(0, .int .i64 c), (1, .slice (some ⟨0, 0, none⟩) A.length A.length), (5, .pointer (some ⟨1, 0, none⟩)), (7, .slice (some ⟨2, 0, none⟩) s.2.1.length s.2.1.length), (8, .int .i64 s.2.2.1), (9, .bool s.2.2.2.1), (10, .int .i64 s.2.2.2.2)],
  [rows22 A, .cells (ductVC s.1) 58 false, .cells (strsC s.2.1) 9 false]⟩
def rowOk (A : List Act22) (c : Int) (s : RS) : Prop := RInv c s.1 s.2.1 s.2.2.1 s.2.2.2.1 ∧ 0 ≤ s.2.2.2.2 ∧ s.2.2.2.2 ≤ A.length ∧ s.2.1.length ≤ s.2.2.2.2
abbrev rowMu (A : List Act22) (s : RS) : Nat := (A.length - s.2.2.2.2).toNat

set_option maxHeartbeats 4000000 in
theorem ductRow_fn (A : List Act22) (c : Int) (hA : small22 A) (hc0 : IntKind.i64.min ≤ c) (hc1 : c ≤ IntKind.i64.max) :
    FnT Try.prog 8 [.int .i64 c, .slice (some ⟨0, 0, none⟩) A.length A.length] [rows22 A] fun r o => r = .ret (.bool true) ∧ o = [rows22 A] := by
  refine FnT.ofT (n := slotsC Try.prog 8) (by kernel_rfl) ?_
  apply dr_a A c hA
  case l0 => intros; exact dr_a_r0 A c ⟨rfl, rfl⟩
  case l1 => intros; exact dr_a_r1 A c ⟨rfl, rfl⟩
  case l2 => intro _ h1 h2; exfalso; rcases newE_orR c with h | h <;> simp [h] at h1 h2
  case l3 => intros; exact dr_a_r3 A c ⟨rfl, rfl⟩
  case l4 => intro _ h1 h2; exfalso; rcases newE_orR c with h | h <;> simp [h] at h1 h2
  intro fA hn
  have hn : newE c = 0 := by simpa using hn
  rw [rowsOf22_rows] at fA
  have lA := few22_lenR (by simpa using fA)
  refine TriL.nilAt 7 9 (s := 1) (by kernel_rfl) (by rfl) (by rfl) (by rfl : _ = rowI A c (newD c, [], 0, false, 0)) ?_
  refine TriL.blockAt 7 0 (by kernel_rfl) ?_
  refine TriL.loopAt (rowI A c) (rowMu A) (rowOk A c) (newD c, [], 0, false, 0) (by kernel_rfl) ⟨RInv.new hn, Int.le_refl 0, Int.natCast_nonneg _, Int.le_refl 0⟩ ?_
  rintro ⟨D, L, o, g, j⟩ ⟨hI, h0, h1, h2⟩
  dsimp only at hI h0 h1 h2
  apply dr_b A c D L o g j
  case pl0 => simp
  case l2 =>
    intro _
    repeat (first | with_reducible refine QL.ret ?_ | with_reducible refine QL.exit ?_ | with_reducible refine QB.ret ?_ | with_reducible refine QB.hit ?_ | with_reducible refine QB.normal ?_ | with_reducible refine QB.miss (by rfl) ?_)
    exact dr_z A (dr_z_r0 A ⟨rfl, rfl⟩)
  intro h3
  have h3 := of_decide_eq_true h3
  have hj : IntKind.wrap IntKind.i64 (j + 1) = j + 1 := wrap_nat (by omega) (by omega)
  refine TriL.blockAt 2 1 (by kernel_rfl) ?_
  have hL : L.length ≤ 500 := by omega
  -- behind the act
  have rest : ∀ (D' E : DuctV) (L' : List ByteArray) (o' : Int) (g' : Bool) (N : Desc → Prop) (Q : VEx → Desc → Prop), RInv c D' L' o' g' → L'.length ≤ j + 1 →
      TriL Try.prog (slotsC Try.prog 8) [rows22 A].length ((flat2 (inner ((flat2 (inner (flat2 (inner (Lpenstocklaw22_DuctRow.drop 7))))).drop 2))).drop 3)
        ⟨[(0, .int .i64 c), (1, .slice (some ⟨0, 0, none⟩) A.length A.length), (5, .pointer (some ⟨1, 0, none⟩)), (7, .slice (some ⟨2, 0, none⟩) L'.length L'.length), (8, .int .i64 o'), (9, .bool g'), (10, .int .i64 j), (11, .pointer (some ⟨3, 0, none⟩))],
          [rows22 A, .cells (ductVC E) 58 false, .cells (strsC L') 9 false, .cells (ductVC D') 58 false]⟩
        (QB 1 (fun d' => TriL Try.prog (slotsC Try.prog 8) [rows22 A].length ((flat2 (inner (flat2 (inner (Lpenstocklaw22_DuctRow.drop 7))))).drop (2 + 1)) d' (QL (rowI A c) (rowMu A) (rowOk A c) (D, L, o, g, j) Q)) (QL (rowI A c) (rowMu A) (rowOk A c) (D, L, o, g, j) Q)) := by
    intro D' E L' o' g' N Q h hl
    obtain ⟨f0, f8, n0, nk, k8⟩ := okD_iff.1 h.ok
    have e1 := h.w; have e2 := h.sum; have e3 := h.r0; have e4 := h.l0; have e5 := h.k1
    have hw : IntKind.wrap IntKind.i64 (IntKind.wrap IntKind.i64 (D'.rd + D'.n) + D'.lost) = D'.wrote := by
      rw [show IntKind.wrap IntKind.i64 (D'.rd + D'.n) = D'.rd + D'.n from wrap_nat (by omega) (by omega), e2]
      exact wrap_nat (by omega) (by omega)
    have hgo : goneD D' = g' := by
      unfold goneD
      have : (D'.k == 0) = false := by simp; omega
      rw [this, ← h.gg]; rfl
    have fin : QB 1 (fun d' => TriL Try.prog (slotsC Try.prog 8) [rows22 A].length ((flat2 (inner (flat2 (inner (Lpenstocklaw22_DuctRow.drop 7))))).drop (2 + 1)) d' (QL (rowI A c) (rowMu A) (rowOk A c) (D, L, o, g, j) Q)) (QL (rowI A c) (rowMu A) (rowOk A c) (D, L, o, g, j) Q) .normal (rowI A c (D', L', o', g', j)) := by
      refine QB.normal ?_
      apply dr_e A c D' L' o' g' j
      · simp
      · refine QL.to (D', L', o', g', j + 1) ⟨h, by dsimp only; omega, by dsimp only; omega, hl⟩ ?_ (by rw [← hj]; rfl)
        show (A.length - (j + 1)).toNat < (A.length - j).toNat
        omega
    apply dr_d A c D' E L' o' g' j e1 h.r (by rw [hw]; simp) (fun hg => Int.le_of_eq (h.gl hg)) (by rw [hgo]; simp) nk k8 h.fi h.fk h.mo h.nm (full_waits e5)
    case l0 => intro h4 h5; have h5 := of_decide_eq_true h5; have := h.gl (by simpa using h4); omega
    case pl0 => simp
    all_goals (intros; exact fin)
  apply dr_c A c D L o g j hA hI.ok h0 h3 (by have := hI.r; have := hI.r0; omega) (by have := hI.w; have := hI.sum; have := hI.r; have := hI.l0; obtain ⟨_, _, n0, _, _⟩ := okD_iff.1 hI.ok; omega) hL
  case n0 => intros; simp [hI.ok, isBytes_all]
  case pl0 => simp
  case l1 =>
    intro _ h4
    have h4 : writeE D (bytesAt (bytesC (xAtR A j).b) 0 (xAtR A j).b.size) = 0 := eq_of_beq h4
    have key := fun Q => rest _ D _ o g (fun _ => True) Q (hI.push hL h4) (by simp; omega)
    rw [List.length_append, ← strAppend] at key
    exact key _
  case l3 =>
    intro _ h4
    have h4 : writeE D (bytesAt (bytesC (xAtR A j).b) 0 (xAtR A j).b.size) ≠ 0 := beq_eq_false_iff_ne.1 h4
    exact rest (writeD D (bytesAt (bytesC (xAtR A j).b) 0 (xAtR A j).b.size)) D L o g (fun _ => True) _ (by rw [hI.same h4]; exact hI) (by omega)
  case l4 => intro _ _ h4 h5; exfalso; have := (hI.read hL (by simpa using h4)).1; rw [this] at h5; cases h5
  case l5 => intro _ _ h4 _ h5; exfalso; have h6 := hI.read hL (by simpa using h4); have h5 := of_decide_eq_true h5; have := h6.2.1; have := h6.2.2.1; omega
  case n6 => intro _ _ h4 _ _; have h6 := hI.read hL (by simpa using h4); exact isStrAt_strs (by have := h6.2.1; omega)
  case l7 =>
    intro _ _ h4 _ _ h5
    exfalso
    have h6 := hI.read hL (by simpa using h4)
    have h7 : strAt (strsC L) (0 + o.toNat * 1) = readS D := by
      rw [strAt_strs (by have := h6.2.1; omega)]
      have := h6.2.2.2.1
      rw [List.getElem?_eq_getElem h6.2.1] at this
      simpa using this
    rw [h7] at h5
    simp at h5
  case l8 =>
    intro _ _ h4 _ _ _
    have h6 := hI.read hL (by simpa using h4)
    have hr := hI.r; have := h6.2.1; have := h6.2.2.1
    have key := fun Q => rest (readD D) D L (o + 1) g (fun _ => True) Q h6.2.2.2.2 (by omega)
    rw [show o + 1 = IntKind.wrap IntKind.i64 (o + 1) from (wrap_nat (by omega) (by omega)).symm] at key
    exact key _
  case l9 =>
    intro _ _ h4
    exact rest (readD D) D L o g (fun _ => True) _ (by rw [hI.readNo (by simpa using h4)]; exact hI) (by omega)
  case l10 => intros; exact rest _ D L o g (fun _ => True) _ (hI.shut 1 0 0 0) (by omega)
  case l11 => intros; exact rest _ D L o g (fun _ => True) _ (hI.shut 2 _ _ _) (by omega)
  case l12 => intros; exact rest _ D L o true (fun _ => True) _ (hI.leave hL) (by omega)
  case l13 => intros; exact rest _ D L o g (fun _ => True) _ hI.widen (by omega)
  case l14 => intros; exact rest _ D L o g (fun _ => True) _ hI (by omega)
end Go.Proofs.Ytgdpahojinknmaa
