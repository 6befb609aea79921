/- A duct's row, as a list. -/
import Derived.Test.YtgdpahojinknmaaDvq
namespace Go.Proofs.Ytgdpahojinknmaa
open Go Vm Go.RowKit
set_option linter.unusedVariables false
set_option linter.unusedSimpArgs false
set_option maxRecDepth 100000

theorem lt8 {p : Nat} (h : p < 8) : p = 0 ∨ p = 1 ∨ p = 2 ∨ p = 3 ∨ p = 4 ∨ p = 5 ∨ p = 6 ∨ p = 7 := by omega
theorem cell_set (D : DuctV) (p q : Nat) (s : ByteArray) (hp : p < 8) : cellD (setD D q s) p = if p = q then s else cellD D p := by
  have key : ∀ (b : Nat) (x y : ByteArray), (bif Nat.beq q b then x else y) = if b = q then x else y := fun b x y => by
    by_cases h : b = q
    · subst h; rw [Nat.beq_refl, if_pos rfl]; rfl
    · rw [if_neg h, beq_no (fun e => h e.symm)]; rfl
  rcases lt8 hp with rfl | rfl | rfl | rfl | rfl | rfl | rfl | rfl
  · exact key 0 s D.s0
  · exact key 1 s D.s1
  · exact key 2 s D.s2
  · exact key 3 s D.s3
  · exact key 4 s D.s4
  · exact key 5 s D.s5
  · exact key 6 s D.s6
  · exact key 7 s D.s7
/-- The place of the i-th. -/
def placeD (D : DuctV) (i : Nat) : Nat := ((D.f + i) % 8).toNat
theorem place_lt (D : DuctV) (i : Nat) : placeD D i < 8 := by unfold placeD; omega
def nthD (D : DuctV) (i : Nat) : ByteArray := cellD D (placeD D i)
/-- What is in it, in order. -/
def rowD (D : DuctV) : List ByteArray := (List.range D.n.toNat).map (nthD D)
theorem rowD_len (D : DuctV) : (rowD D).length = D.n.toNat := by simp [rowD]

theorem cell_same {D E : DuctV} (h0 : E.s0 = D.s0) (h1 : E.s1 = D.s1) (h2 : E.s2 = D.s2) (h3 : E.s3 = D.s3) (h4 : E.s4 = D.s4) (h5 : E.s5 = D.s5) (h6 : E.s6 = D.s6) (h7 : E.s7 = D.s7) {p : Nat} (hp : p < 8) : cellD E p = cellD D p := by
  rcases lt8 hp with rfl | rfl | rfl | rfl | rfl | rfl | rfl | rfl
  · exact h0
  · exact h1
  · exact h2
  · exact h3
  · exact h4
  · exact h5
  · exact h6
  · exact h7
theorem row_same {D E : DuctV} (h0 : E.s0 = D.s0) (h1 : E.s1 = D.s1) (h2 : E.s2 = D.s2) (h3 : E.s3 = D.s3) (h4 : E.s4 = D.s4) (h5 : E.s5 = D.s5) (h6 : E.s6 = D.s6) (h7 : E.s7 = D.s7) (hf : E.f = D.f) (hn : E.n = D.n) : rowD E = rowD D := by
  unfold rowD
  rw [hn]
  refine List.map_congr_left fun i _ => ?_
  unfold nthD
  have : placeD E i = placeD D i := by unfold placeD; rw [hf]
  rw [this]
  exact cell_same h0 h1 h2 h3 h4 h5 h6 h7 (place_lt D i)

/-- Is there room? -/
def takesB (D : DuctV) (s : ByteArray) : Bool := !(D.k == 0) && (D.st == 0 && (decide (1 ≤ s.size) && (decide (s.size ≤ 32) && (!D.gone && !(D.n == D.k)))))
theorem write_takes {D : DuctV} {s : ByteArray} (h : takesB D s = true) : writeD D s = { setD D (pl8 (D.f + D.n)) s with n := w64 (D.n + 1), most := (if w64 (D.n + 1) > D.most then w64 (D.n + 1) else D.most), wrote := w64 (D.wrote + 1), byt := w64 (D.byt + s.size) } ∧ writeE D s = 0 := by
  simp only [takesB, Bool.and_eq_true, Bool.not_eq_true', decide_eq_true_eq] at h
  obtain ⟨h1, h2, h3, h4, h5, h6⟩ := h
  have e1 : (D.st != 0) = false := by simpa using h2
  have e2 : decide ((s.size : Int) < 1) = false := by simp; omega
  have e3 : decide ((s.size : Int) > 32) = false := by simp; omega
  constructor
  · unfold writeD; rw [h1, e1, e2, e3, h5, h6]; rfl
  · unfold writeE; rw [h1, e1, e2, e3, h5, h6]; rfl

theorem row_write {D : DuctV} (hD : okD D = true) {s : ByteArray} (h : takesB D s = true) : rowD (writeD D s) = rowD D ++ [s] := by
  obtain ⟨f0, f8, n0, nk, k8⟩ := okD_iff.1 hD
  rw [(write_takes h).1]
  have hk : D.n ≠ D.k := by
    simp only [takesB, Bool.and_eq_true, Bool.not_eq_true', beq_eq_false_iff_ne] at h
    exact h.2.2.2.2.2
  have hw : w64 (D.n + 1) = D.n + 1 := wrap_nat (by omega) (by omega)
  have hp := (pl8_lt (x := D.f + D.n) (by omega) (by omega)).2.2
  obtain ⟨E, hE⟩ : ∃ E : DuctV, E = { setD D (pl8 (D.f + D.n)) s with n := w64 (D.n + 1), most := (if w64 (D.n + 1) > D.most then w64 (D.n + 1) else D.most), wrote := w64 (D.wrote + 1), byt := w64 (D.byt + s.size) } := ⟨_, rfl⟩
  have hc : ∀ p, p < 8 → cellD E p = if p = pl8 (D.f + D.n) then s else cellD D p := fun p h8 => by
    rw [← cell_set _ _ _ _ h8]
    exact cell_same (by rw [hE]) (by rw [hE]) (by rw [hE]) (by rw [hE]) (by rw [hE]) (by rw [hE]) (by rw [hE]) (by rw [hE]) h8
  have hEf : E.f = D.f := by rw [hE]; rfl
  have hEn : E.n = D.n + 1 := by rw [hE]; exact hw
  rw [← hE]
  clear hE
  have hpl : ∀ i, placeD E i = placeD D i := fun i => by unfold placeD; rw [hEf]
  unfold rowD
  rw [hEn, show (D.n + 1).toNat = D.n.toNat + 1 by omega, List.range_succ, List.map_append]
  congr 1
  · refine List.map_congr_left fun i hi => ?_
    have hi := List.mem_range.1 hi
    unfold nthD
    rw [hpl, hc _ (place_lt D i), if_neg]
    rw [hp.2]; unfold placeD; omega
  · refine congrArg (fun x => [x]) ?_
    unfold nthD
    rw [hpl, hc _ (place_lt D _), if_pos]
    rw [hp.2]; unfold placeD; omega

theorem readK_one {D : DuctV} : readK D = 1 ↔ D.n ≠ 0 := by
  unfold readK
  cases h : (D.n == 0) with
  | true =>
    have h' : D.n = 0 := by simpa using h
    simp only [cond_true]
    constructor
    · intro e
      exfalso
      revert e
      repeat' (with_reducible refine bif_of (C := fun x : Int => x = 1 → False) _ ?_ ?_ <;> intro _)
      all_goals (intro e; cases e)
    · intro h; exact absurd h' h
  | false => simp only [cond_false, true_iff]; simpa using h

theorem row_read {D : DuctV} (hD : okD D = true) (h : D.n ≠ 0) : rowD D = readS D :: rowD (readD D) := by
  obtain ⟨f0, f8, n0, nk, k8⟩ := okD_iff.1 hD
  have hb : (D.n == 0) = false := by simpa using h
  have hw : w64 (D.n - 1) = D.n - 1 := wrap_nat (by omega) (by omega)
  have hf : Int.tmod (w64 (D.f + 1)) 8 = (D.f + 1) % 8 := by
    rw [show w64 (D.f + 1) = D.f + 1 from wrap_nat (by omega) (by omega), Int.tmod_eq_emod_of_nonneg (by omega)]
  obtain ⟨E, hE⟩ : ∃ E : DuctV, E = readD D := ⟨_, rfl⟩
  rw [← hE]
  unfold readD at hE
  rw [hb, cond_false] at hE
  have hc : ∀ p, p < 8 → cellD E p = if p = (0 + Int.toNat D.f * 1) then ByteArray.empty else cellD D p := fun p h8 => by
    rw [← cell_set _ _ _ _ h8]
    exact cell_same (by rw [hE]) (by rw [hE]) (by rw [hE]) (by rw [hE]) (by rw [hE]) (by rw [hE]) (by rw [hE]) (by rw [hE]) h8
  have hEf : E.f = (D.f + 1) % 8 := by rw [hE]; exact hf
  have hEn : E.n = D.n - 1 := by rw [hE]; exact hw
  clear hE
  unfold rowD
  rw [hEn, show D.n.toNat = (D.n - 1).toNat + 1 by omega, List.range_succ_eq_map, List.map_cons, List.map_map]
  congr 1
  · unfold nthD readS placeD
    congr 1
    omega
  · refine List.map_congr_left fun i hi => ?_
    have hi := List.mem_range.1 hi
    show nthD D (i + 1) = nthD E i
    unfold nthD
    rw [hc _ (place_lt E i), if_neg (by unfold placeD; rw [hEf]; omega)]
    unfold placeD
    rw [hEf]
    congr 1
    omega

theorem row_shut (D : DuctV) (a b c d : Int) : rowD (shutD D a b c d) = rowD D := by
  unfold shutD
  repeat' (with_reducible refine bif_of (C := fun E : DuctV => rowD E = rowD D) _ ?_ ?_ <;> intro _)
  · exact row_same rfl rfl rfl rfl rfl rfl rfl rfl rfl rfl
  · rfl
  · rfl
theorem row_widen (D : DuctV) : rowD (widenD D) = rowD D := by
  unfold widenD
  repeat' (with_reducible refine bif_of (C := fun E : DuctV => rowD E = rowD D) _ ?_ ?_ <;> intro _)
  · rfl
  · rfl
  · exact row_same rfl rfl rfl rfl rfl rfl rfl rfl rfl rfl
theorem row_leave {D : DuctV} (h : (D.k == 0) = false) : rowD (leaveD D) = [] := by
  unfold leaveD
  rw [h]
  rfl
end Go.Proofs.Ytgdpahojinknmaa
