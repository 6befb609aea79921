/- does: End, Fail, Leave, Widen, and nothing. -/
import Derived.Test.YtgdpahojinknmaaDps
import Derived.Test.YtgdpahojinknmaaDctL
namespace Go.Proofs.Ytgdpahojinknmaa
open Go Vm Go.RowKit
set_option linter.unusedVariables false
set_option linter.unusedSimpArgs false
set_option maxRecDepth 100000

def refOf (D : DuctV) : RefV := ⟨D.k, D.st, D.fc, D.fs, D.fi, D.gone, D.first, D.k, D.most, D.wrote, D.rd, D.lost, D.byt⟩
def refZ : RefV := ⟨0, 1, 0, 0, 0, true, 0, 0, 0, 0, 0, 0, 0⟩
structure PInv1 (D : DuctV) : Prop where
  ok : okD D = true
  k1 : 1 ≤ D.k
  s0 : 0 ≤ D.st
  s2 : D.st ≤ 2
  g : D.gone = true → D.n = 0
  sz : ∀ s ∈ rowD D, s.size ≤ 32
def PInv (D : DuctV) (M : RefV) (L : List ByteArray) : Prop := (PInv1 D ∧ M = refOf D ∧ L = rowD D) ∨ (D = zeroD ∧ M = refZ ∧ L = [])

theorem PInv.ok {D : DuctV} {M : RefV} {L : List ByteArray} (h : PInv D M L) : okD D = true := by
  rcases h with ⟨h, _⟩ | ⟨rfl, _⟩
  · exact h.ok
  · rfl
theorem PInv.len {D : DuctV} {M : RefV} {L : List ByteArray} (h : PInv D M L) : L.length ≤ 8 := by
  rcases h with ⟨h, _, rfl⟩ | ⟨_, _, rfl⟩
  · obtain ⟨f0, f8, n0, nk, k8⟩ := okD_iff.1 h.ok
    rw [rowD_len]; omega
  · decide
theorem PInv.size {D : DuctV} {M : RefV} {L : List ByteArray} (h : PInv D M L) : (D.n == L.length) = true := by
  rcases h with ⟨h, _, rfl⟩ | ⟨rfl, _, rfl⟩
  · obtain ⟨f0, f8, n0, nk, k8⟩ := okD_iff.1 h.ok
    rw [rowD_len]; simp; omega
  · rfl

theorem stands_fn (D : DuctV) (M : RefV) (L : List ByteArray) (h : PInv D M L) : FnT Try.prog 30 [.agg (ductVC D).toArray, .agg (refC M (.slice (some ⟨0, 0, none⟩) L.length L.length)).toArray] [.cells (strsC L) 9 false]
    fun r o => r = .ret (.bool true) ∧ o = [.cells (strsC L) 9 false] := by
  refine FnT.ofT (n := slotsC Try.prog 30) (by kernel_rfl) ?_
  have hlen := h.len
  have key : (fullD D == fullM M L.length) = true ∧ (waitsD D == waitsM M L.length) = true ∧ (goneD D == M.gone) = true ∧ D.first = M.first ∧ D.k = M.c2 ∧ D.most = M.most ∧ D.wrote = M.wrote ∧ D.rd = M.rd ∧ D.lost = M.lost ∧ D.byt = M.byt := by
    rcases h with ⟨h, rfl, rfl⟩ | ⟨rfl, rfl, rfl⟩
    · obtain ⟨f0, f8, n0, nk, k8⟩ := okD_iff.1 h.ok
      have k1 := h.k1
      have hk : (D.k == 0) = false := by simp; omega
      have hl : ((rowD D).length : Int) = D.n := by rw [rowD_len]; omega
      refine ⟨?_, ?_, ?_, rfl, rfl, rfl, rfl, rfl, rfl, rfl⟩
      · unfold fullD fullM
        rw [hl]
        show ((bif !(D.k == 0) then (bif D.st == 0 then (bif !D.gone then D.n == D.k else false) else false) else false) == (bif D.st != 0 then false else bif !D.gone then (bif D.k == 0 then false else decide (D.n ≥ D.k)) else false)) = true
        rw [hk]
        cases h1 : (D.st == 0) with
        | false => have h2 : (D.st != 0) = true := by simpa using h1
                   rw [h2]; rfl
        | true =>
          have h2 : (D.st != 0) = false := by simpa using h1
          rw [h2]
          cases D.gone with
          | true => rfl
          | false =>
            show ((D.n == D.k) == decide (D.n ≥ D.k)) = true
            by_cases e : D.n = D.k
            · simp [e]
            · have : (D.n == D.k) = false := by simpa using e
              rw [this]
              have : decide (D.n ≥ D.k) = false := decide_eq_false (by omega)
              rw [this]; rfl
      · unfold waitsD waitsM
        rw [hl]
        show ((bif !(D.k == 0) then (bif D.st == 0 then (bif !D.gone then D.n == 0 else false) else false) else false) == (bif decide (D.n > 0) then false else bif D.gone then false else bif D.st == 1 then false else bif D.st == 2 then false else true)) = true
        rw [hk]
        have s0 := h.s0; have s2 := h.s2; have hg := h.g
        by_cases e : D.n = 0
        · have e1 : decide (D.n > 0) = false := decide_eq_false (by omega)
          have e2 : (D.n == 0) = true := by simpa using e
          rw [e1, e2]
          cases D.gone with
          | true => cases (D.st == 0) <;> rfl
          | false =>
            rcases (by omega : D.st = 0 ∨ D.st = 1 ∨ D.st = 2) with h | h | h <;> rw [h] <;> rfl
        · have e1 : decide (D.n > 0) = true := decide_eq_true (by omega)
          have e2 : (D.n == 0) = false := by simpa using e
          rw [e1, e2]
          cases D.gone <;> cases (D.st == 0) <;> rfl
      · unfold goneD; rw [hk]; show (D.gone == D.gone) = true; simp
    · exact ⟨rfl, rfl, rfl, rfl, rfl, rfl, rfl, rfl, rfl, rfl⟩
  obtain ⟨e2, e3, e4, e5, e6, e7, e8, e9, e10, e11⟩ := key
  apply std D M L (by omega) h.size e2 e3 e4 e5 e6 e7 e8 e9 e10 e11
  case pl0 => simp
  case l1 => exact std_r0 D M L (by simp) ⟨by rw [e5, e6, e7, e8, e9, e10, e11]; simp, rfl⟩
end Go.Proofs.Ytgdpahojinknmaa

namespace Go.Proofs.Ytgdpahojinknmaa
open Go Vm Go.RowKit
set_option linter.unusedVariables false
set_option linter.unusedSimpArgs false
set_option maxRecDepth 100000

abbrev slL (b : Nat) (L : List ByteArray) : Value := .slice (some ⟨b, 0, none⟩) L.length L.length
abbrev tupR (D : DuctV) (M : RefV) (sl : Value) : CRes := .ret (.tuple #[.agg (ductVC D).toArray, .agg (refC M sl).toArray, .bool true])
abbrev actV (d fc fs fi : Int) (b : ByteArray) : Value := .agg #[.int .i64 d, .slice (some ⟨1, 0, none⟩) b.size b.size, .int .i64 fc, .int .i64 fs, .int .i64 fi]
abbrev objsD (L : List ByteArray) (b : ByteArray) : List VObj := [.cells (strsC L) 9 false, .cells (bytesC b) 5 true]
abbrev argsD (D : DuctV) (M : RefV) (L : List ByteArray) (d fc fs fi : Int) (b : ByteArray) : List Value := [.agg (ductVC D).toArray, .agg (refC M (slL 0 L)).toArray, actV d fc fs fi b]

theorem shut_yes {D : DuctV} (hk : (D.k == 0) = false) (h : (D.st == 0) = true) (a b c d : Int) : shutD D a b c d = { D with st := a, fc := b, fs := c, fi := d } := by unfold shutD; rw [hk, h]; rfl
theorem shut_no {D : DuctV} (hk : (D.k == 0) = false) (h : (D.st == 0) = false) (a b c d : Int) : shutD D a b c d = D := by unfold shutD; rw [hk, h]; rfl
theorem k_ne {D : DuctV} (h : PInv1 D) : (D.k == 0) = false := by have := h.k1; simp; omega

theorem PInv1.shut {D : DuctV} (h : PInv1 D) (a b c d : Int) (ha : 0 ≤ a ∧ a ≤ 2) : PInv1 (shutD D a b c d) := by
  have hok := okD_shut h.ok a b c d
  cases hs : (D.st == 0) with
  | true => rw [shut_yes (k_ne h) hs] at hok ⊢; exact ⟨hok, h.k1, ha.1, ha.2, h.g, fun s hm => h.sz s (by rw [← row_shut D a b c d, shut_yes (k_ne h) hs]; exact hm)⟩
  | false => rw [shut_no (k_ne h) hs]; exact h
theorem PInv1.leave {D : DuctV} (h : PInv1 D) : PInv1 (leaveD D) := by
  have hok := okD_leave h.ok
  have hr := row_leave (k_ne h)
  unfold leaveD at hok hr ⊢
  rw [k_ne h] at hok hr ⊢
  exact ⟨hok, h.k1, h.s0, h.s2, fun _ => rfl, fun s hm => by
    have : s ∈ ([] : List ByteArray) := by rw [← hr]; exact hm
    cases this⟩
theorem PInv1.widen {D : DuctV} (h : PInv1 D) : PInv1 (widenD D) := by
  have hok := okD_widen h.ok
  obtain ⟨f0, f8, n0, nk, k8⟩ := okD_iff.1 h.ok
  have k1 := h.k1
  have hr := row_widen D
  unfold widenD at hok hr ⊢
  rw [k_ne h] at hok hr ⊢
  simp only [cond_false] at hok hr ⊢
  cases hs : (D.k == 8) with
  | true => exact h
  | false =>
    rw [hs] at hok hr
    have hw : w64 (D.k + 1) = D.k + 1 := wrap_nat (by omega) (by omega)
    exact ⟨hok, by show 1 ≤ w64 (D.k + 1); rw [hw]; omega, h.s0, h.s2, h.g, fun s hm => h.sz s (by rw [← hr]; exact hm)⟩

/-- What does comes to where the row stays. -/
def Same (D' : DuctV) (L : List ByteArray) (b : ByteArray) (r : CRes) (o : List VObj) : Prop := ∃ M', PInv D' M' L ∧ r = tupR D' M' (slL 0 L) ∧ o = objsD L b

theorem do2_fn (D : DuctV) (M : RefV) (L : List ByteArray) (b : ByteArray) (fc fs fi : Int) (h : PInv D M L) : FnT Try.prog 31 (argsD D M L 2 fc fs fi b) (objsD L b) (Same (shutD D 1 0 0 0) L b) := by
  have hl := h.len
  have hok := h.ok
  refine FnT.ofT (n := slotsC Try.prog 31) (by kernel_rfl) ?_
  apply do2 D M L b fc fs fi hok hl
  case pl0 => simp
  case pl1 => simp
  all_goals (intro h0; rcases h with ⟨h, rfl, rfl⟩ | ⟨rfl, rfl, rfl⟩)
  · have h0 : (D.st == 0) = true := h0
    refine do2_r0 D _ _ b fc fs fi (by simp) (by simp) ⟨refOf (shutD D 1 0 0 0), .inl ⟨h.shut _ _ _ _ ⟨by decide, by decide⟩, rfl, (row_shut D 1 0 0 0).symm⟩, ?_, rfl⟩
    rw [shut_yes (k_ne h) h0]; rfl
  · cases h0
  · have h0 : (D.st == 0) = false := h0
    refine do2_r1 D _ _ b fc fs fi (by simp) (by simp) ⟨refOf (shutD D 1 0 0 0), .inl ⟨h.shut _ _ _ _ ⟨by decide, by decide⟩, rfl, (row_shut D 1 0 0 0).symm⟩, ?_, rfl⟩
    rw [shut_no (k_ne h) h0]; rfl
  · exact do2_r1 zeroD refZ [] b fc fs fi (by simp) (by simp) ⟨refZ, .inr ⟨rfl, rfl, rfl⟩, rfl, rfl⟩
theorem do3_fn (D : DuctV) (M : RefV) (L : List ByteArray) (b : ByteArray) (fc fs fi : Int) (h : PInv D M L) : FnT Try.prog 31 (argsD D M L 3 fc fs fi b) (objsD L b) (Same (shutD D 2 fc fs fi) L b) := by
  have hl := h.len
  have hok := h.ok
  refine FnT.ofT (n := slotsC Try.prog 31) (by kernel_rfl) ?_
  apply do3 D M L b fc fs fi hok hl
  case pl0 => simp
  case pl1 => simp
  all_goals (intro h0; rcases h with ⟨h, rfl, rfl⟩ | ⟨rfl, rfl, rfl⟩)
  · have h0 : (D.st == 0) = true := h0
    refine do3_r0 D _ _ b fc fs fi (by simp) (by simp) ⟨refOf (shutD D 2 fc fs fi), .inl ⟨h.shut _ _ _ _ ⟨by decide, by decide⟩, rfl, (row_shut D 2 fc fs fi).symm⟩, ?_, rfl⟩
    rw [shut_yes (k_ne h) h0]; rfl
  · cases h0
  · have h0 : (D.st == 0) = false := h0
    refine do3_r1 D _ _ b fc fs fi (by simp) (by simp) ⟨refOf (shutD D 2 fc fs fi), .inl ⟨h.shut _ _ _ _ ⟨by decide, by decide⟩, rfl, (row_shut D 2 fc fs fi).symm⟩, ?_, rfl⟩
    rw [shut_no (k_ne h) h0]; rfl
  · exact do3_r1 zeroD refZ [] b fc fs fi (by simp) (by simp) ⟨refZ, .inr ⟨rfl, rfl, rfl⟩, rfl, rfl⟩
theorem do4_fn (D : DuctV) (M : RefV) (L : List ByteArray) (b : ByteArray) (fc fs fi : Int) (h : PInv D M L) : FnT Try.prog 31 (argsD D M L 4 fc fs fi b) (objsD L b)
    fun r o => ∃ M', PInv (leaveD D) M' [] ∧ r = tupR (leaveD D) M' (.slice none 0 0) ∧ o = objsD L b := by
  have hl := h.len
  have hok := h.ok
  refine FnT.ofT (n := slotsC Try.prog 31) (by kernel_rfl) ?_
  apply do4 D M L b fc fs fi hok hl
  case pl0 => simp
  case pl1 => simp
  rcases h with ⟨h, rfl, rfl⟩ | ⟨rfl, rfl, rfl⟩
  · refine do4_r0 D _ _ b fc fs fi (by simp) (by simp) ⟨refOf (leaveD D), .inl ⟨h.leave, rfl, (row_leave (k_ne h)).symm⟩, ?_, rfl⟩
    obtain ⟨f0, f8, n0, nk, k8⟩ := okD_iff.1 h.ok
    have hn : ((rowD D).length : Int) = D.n := by rw [rowD_len]; omega
    rw [hn]
    unfold leaveD
    rw [k_ne h]; rfl
  · exact do4_r0 zeroD refZ [] b fc fs fi (by simp) (by simp) ⟨refZ, .inr ⟨rfl, rfl, rfl⟩, rfl, rfl⟩
theorem do5_fn (D : DuctV) (M : RefV) (L : List ByteArray) (b : ByteArray) (fc fs fi : Int) (h : PInv D M L) : FnT Try.prog 31 (argsD D M L 5 fc fs fi b) (objsD L b) (Same (widenD D) L b) := by
  have hl := h.len
  have hok := h.ok
  refine FnT.ofT (n := slotsC Try.prog 31) (by kernel_rfl) ?_
  apply do5 D M L b fc fs fi hok hl
  case pl0 => simp
  case pl1 => simp
  case l2 =>
    intro h0
    rcases h with ⟨h, rfl, rfl⟩ | ⟨rfl, rfl, rfl⟩
    · have h0 : (D.k == 0) = true := h0
      rw [k_ne h] at h0; cases h0
    · exact do5_r0 zeroD refZ [] b fc fs fi (by simp) (by simp) ⟨refZ, .inr ⟨rfl, rfl, rfl⟩, rfl, rfl⟩
  case l3 =>
    intro h0 h1
    rcases h with ⟨h, rfl, rfl⟩ | ⟨rfl, rfl, rfl⟩
    · have h1 : D.k ≥ 8 := of_decide_eq_true h1
      obtain ⟨f0, f8, n0, nk, k8⟩ := okD_iff.1 h.ok
      have h8 : (D.k == 8) = true := by simp; omega
      have e1 : widenD D = D := by unfold widenD; rw [k_ne h, h8]; rfl
      have e2 : widenE D = 2 := by unfold widenE; rw [k_ne h, h8]; rfl
      refine do5_r1 D _ _ b fc fs fi (by simp) (by simp) ⟨refOf (widenD D), .inl ⟨h.widen, rfl, (row_widen D).symm⟩, ?_, rfl⟩
      rw [e1, e2]; rfl
    · cases h0
  case l4 =>
    intro h0 h1
    rcases h with ⟨h, rfl, rfl⟩ | ⟨rfl, rfl, rfl⟩
    · have h1 : ¬ D.k ≥ 8 := of_decide_eq_false h1
      have h8 : (D.k == 8) = false := by simp; omega
      have e1 : widenD D = { D with k := w64 (D.k + 1) } := by unfold widenD; rw [k_ne h, h8]; rfl
      have e2 : widenE D = 0 := by unfold widenE; rw [k_ne h, h8]; rfl
      refine do5_r2 D _ _ b fc fs fi (by simp) (by simp) ⟨refOf (widenD D), .inl ⟨h.widen, rfl, (row_widen D).symm⟩, ?_, rfl⟩
      rw [e1, e2]; rfl
    · cases h0
theorem do6_fn (D : DuctV) (M : RefV) (L : List ByteArray) (b : ByteArray) (d fc fs fi : Int) (h : PInv D M L) (h0 : (d == 0) = false) (h1 : (d == 1) = false) (h2 : (d == 2) = false) (h3 : (d == 3) = false) (h4 : (d == 4) = false) (h5 : (d == 5) = false) :
    FnT Try.prog 31 (argsD D M L d fc fs fi b) (objsD L b) (Same D L b) := by
  have hl := h.len
  have hok := h.ok
  refine FnT.ofT (n := slotsC Try.prog 31) (by kernel_rfl) ?_
  apply do6 D M L b fc fs fi d hok hl h0 h1 h2 h3 h4 h5
  case pl0 => simp
  case pl1 => simp
  case l2 => exact do6_r0 D M L b fc fs fi d (by simp) (by simp) ⟨M, h, rfl, rfl⟩
end Go.Proofs.Ytgdpahojinknmaa
