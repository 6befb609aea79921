/- What is said of the ring's functions, and of the document's. -/
import Derived.Test.YtgdpahojinknmaaRgA
import Derived.Test.YtgdpahojinknmaaRgb
import Derived.Test.YtgdpahojinknmaaFew1Pf
import Derived.Test.YtgdpahojinknmaaVd
namespace Go.Proofs.Ytgdpahojinknmaa
open Go Vm Go.RowKit
set_option linter.unusedVariables false
set_option linter.unusedSimpArgs false
set_option maxRecDepth 100000

/- A ring's row. -/
abbrev cellsR (D : RgV) : List ByteArray := [D.s0, D.s1, D.s2, D.s3, D.s4, D.s5, D.s6, D.s7]
def rowR (D : RgV) : List ByteArray := cont (cellsR D) D.f.toNat D.n.toNat
theorem rowR_len (D : RgV) : (rowR D).length = D.n.toNat := cont_length _ _ _
theorem lt8 {p : Nat} (h : p < 8) : p = 0 ∨ p = 1 ∨ p = 2 ∨ p = 3 ∨ p = 4 ∨ p = 5 ∨ p = 6 ∨ p = 7 := by omega
theorem cells_set (D : RgV) {p : Nat} (hp : p < 8) (s : ByteArray) : cellsR (setR D p s) = (cellsR D).set p s := by
  rcases lt8 hp with rfl | rfl | rfl | rfl | rfl | rfl | rfl | rfl <;> rfl
theorem cell_get (D : RgV) {p : Nat} (hp : p < 8) : cellR D p = (cellsR D).getD p ByteArray.empty := by
  rcases lt8 hp with rfl | rfl | rfl | rfl | rfl | rfl | rfl | rfl <;> rfl
/-- Is there room? -/
def takesR (D : RgV) (s : ByteArray) : Bool := !(D.k == 0) && (decide (1 ≤ s.size) && (decide (s.size ≤ 32) && !(D.n == D.k)))
theorem takes_iff {D : RgV} {s : ByteArray} : takesR D s = true ↔ D.k ≠ 0 ∧ 1 ≤ s.size ∧ s.size ≤ 32 ∧ D.n ≠ D.k := by unfold takesR; simp
theorem push_takes {D : RgV} {s : ByteArray} (h : takesR D s = true) : pushR D s = { setR D (pl8 (D.f + D.n)) s with n := w64 (D.n + 1) } ∧ pushE D s = 0 := by
  obtain ⟨h1, h2, h3, h4⟩ := takes_iff.1 h
  have e0 : (D.k == 0) = false := by simpa using h1
  have e1 : decide ((s.size : Int) < 1) = false := by simp; omega
  have e2 : decide ((s.size : Int) > 32) = false := by simp; omega
  have e3 : (D.n == D.k) = false := by simpa using h4
  unfold pushR pushE
  rw [e0, e1, e2, e3]
  exact ⟨rfl, rfl⟩
theorem push_not {D : RgV} {s : ByteArray} (h : takesR D s = false) : pushR D s = D := by
  unfold pushR
  cases e0 : (D.k == 0) with
  | true => rfl
  | false =>
    cases e1 : decide ((s.size : Int) < 1) with
    | true => rfl
    | false =>
      cases e2 : decide ((s.size : Int) > 32) with
      | true => rfl
      | false =>
        cases e3 : (D.n == D.k) with
        | true => rfl
        | false =>
          exfalso
          have : takesR D s = true := takes_iff.2 ⟨by simpa using e0, by have := of_decide_eq_false e1; omega, by have := of_decide_eq_false e2; omega, by simpa using e3⟩
          rw [this] at h; cases h
theorem okR_push {D : RgV} (h : okR D = true) (s : ByteArray) : okR (pushR D s) = true := by
  cases ht : takesR D s with
  | false => rw [push_not ht]; exact h
  | true =>
    obtain ⟨f0, f8, n0, nk, k8⟩ := okR_iff.1 h
    obtain ⟨h1, h2, h3, h4⟩ := takes_iff.1 ht
    have hw : w64 (D.n + 1) = D.n + 1 := wrap_nat (by omega) (by omega)
    rw [(push_takes ht).1]
    exact okR_iff.2 ⟨f0, f8, by show 0 ≤ w64 (D.n + 1); rw [hw]; omega, by show w64 (D.n + 1) ≤ D.k; rw [hw]; omega, k8⟩
theorem row_push {D : RgV} (h : okR D = true) {s : ByteArray} (ht : takesR D s = true) : rowR (pushR D s) = rowR D ++ [s] := by
  obtain ⟨f0, f8, n0, nk, k8⟩ := okR_iff.1 h
  obtain ⟨h1, h2, h3, h4⟩ := takes_iff.1 ht
  have hw : w64 (D.n + 1) = D.n + 1 := wrap_nat (by omega) (by omega)
  have hp := (pl8_lt (x := D.f + D.n) (by omega) (by omega)).2.2
  rw [(push_takes ht).1]
  show cont (cellsR (setR D (pl8 (D.f + D.n)) s)) D.f.toNat (w64 (D.n + 1)).toNat = _
  rw [hw, cells_set D hp.1, show (D.n + 1).toNat = D.n.toNat + 1 by omega, hp.2, show ((D.f + D.n) % 8).toNat = (D.f.toNat + D.n.toNat) % 8 by omega]
  exact cont_push _ _ _ _ rfl (by omega)
theorem okR_pop {D : RgV} (h : okR D = true) : okR (popR D) = true := by
  unfold popR
  cases hb : (D.n == 0) with
  | true => exact h
  | false =>
    have hn : D.n ≠ 0 := by simpa using hb
    obtain ⟨f0, f8, n0, nk, k8⟩ := okR_iff.1 h
    have hw : w64 (D.n - 1) = D.n - 1 := wrap_nat (by omega) (by omega)
    have hf : Int.tmod (w64 (D.f + 1)) 8 = (D.f + 1) % 8 := by
      rw [show w64 (D.f + 1) = D.f + 1 from wrap_nat (by omega) (by omega), Int.tmod_eq_emod_of_nonneg (by omega)]
    exact okR_iff.2 ⟨by show 0 ≤ Int.tmod (w64 (D.f + 1)) 8; omega, by show Int.tmod (w64 (D.f + 1)) 8 < 8; omega, by show 0 ≤ w64 (D.n - 1); omega, by show w64 (D.n - 1) ≤ D.k; omega, k8⟩
theorem row_pop {D : RgV} (h : okR D = true) (hn : D.n ≠ 0) : rowR D = popS D :: rowR (popR D) := by
  obtain ⟨f0, f8, n0, nk, k8⟩ := okR_iff.1 h
  have hb : (D.n == 0) = false := by simpa using hn
  have hw : w64 (D.n - 1) = D.n - 1 := wrap_nat (by omega) (by omega)
  have hf : Int.tmod (w64 (D.f + 1)) 8 = (D.f + 1) % 8 := by
    rw [show w64 (D.f + 1) = D.f + 1 from wrap_nat (by omega) (by omega), Int.tmod_eq_emod_of_nonneg (by omega)]
  have hp : 0 + D.f.toNat * 1 < 8 := by omega
  have e : rowR (popR D) = cont ((cellsR D).set D.f.toNat ByteArray.empty) ((D.f.toNat + 1) % 8) (D.n.toNat - 1) := by
    unfold popR
    rw [hb]
    show cont (cellsR (setR D (0 + D.f.toNat * 1) ByteArray.empty)) (Int.tmod (w64 (D.f + 1)) 8).toNat (w64 (D.n - 1)).toNat = _
    rw [hw, hf, cells_set D hp, show 0 + D.f.toNat * 1 = D.f.toNat by omega, show ((D.f + 1) % 8).toNat = (D.f.toNat + 1) % 8 by omega, show (D.n - 1).toNat = D.n.toNat - 1 by omega]
  rw [e]
  unfold popS
  rw [cell_get D hp, show 0 + D.f.toNat * 1 = D.f.toNat by omega]
  unfold rowR
  have := cont_pop (cellsR D) D.f.toNat (D.n.toNat - 1) ByteArray.empty (by omega) (by omega)
  rw [show D.n.toNat - 1 + 1 = D.n.toNat by omega] at this
  exact this
theorem okR_grow {D : RgV} (h : okR D = true) : okR (growR D) = true ∧ rowR (growR D) = rowR D ∧ (growR D).k = (bif D.k == 0 then D.k else bif D.k == 8 then D.k else D.k + 1) := by
  obtain ⟨f0, f8, n0, nk, k8⟩ := okR_iff.1 h
  unfold growR
  cases e0 : (D.k == 0) with
  | true => exact ⟨h, rfl, rfl⟩
  | false =>
    cases e1 : (D.k == 8) with
    | true => exact ⟨h, rfl, rfl⟩
    | false =>
      have e1 : D.k ≠ 8 := by simpa using e1
      have hw : w64 (D.k + 1) = D.k + 1 := wrap_nat (by omega) (by omega)
      exact ⟨okR_iff.2 ⟨f0, f8, n0, by show D.n ≤ w64 (D.k + 1); rw [hw]; omega, by show w64 (D.k + 1) ≤ 8; rw [hw]; omega⟩, rfl, hw⟩

/- Sums. -/
def aR (v : Value) : Option RgV := match v with
  | .agg a => asRgV a.toList
  | _ => none
theorem aR_some {v : Value} {D : RgV} (h : aR v = some D) : v = .agg (rgVC D).toArray := by
  unfold aR at h
  split at h
  · rw [← asRgV_some h]
  · cases h
def gR (c : RgV → Bool) (r : RgV → CRes) (a : List Value) (o : List VObj) : Option (Bool × CRes × List VObj) := match a, o with
  | [v], [] => match aR v with
    | some D => some (c D, r D, [])
    | none => none
  | _, _ => none
theorem gR_ok {f : FuncId} {c : RgV → Bool} {r : RgV → CRes} (h : ∀ D, c D = true → FnT Try.prog f [.agg (rgVC D).toArray] [] fun r' o => r' = r D ∧ o = []) : FnOk Try.prog f (Sum.of (gR c r)) := by
  refine FnOk.of fun a o r o' hg => ?_
  unfold gR at hg
  split at hg
  · split at hg
    · rename_i v D hD
      simp only [Option.some.injEq, Prod.mk.injEq] at hg
      obtain ⟨h1, rfl, rfl⟩ := hg
      rw [aR_some hD]
      exact h D h1
    · cases hg
  · cases hg
def gPush (a : List Value) (o : List VObj) : Option (Bool × CRes × List VObj) := match a, o with
  | [v, .slice (some ⟨0, off, none⟩) n cap], [.cells c el ro] => match aR v with
    | some D => some (okR D && (isBytes c off n && c.all isScal), .ret (.tuple #[.agg (rgVC (pushR D (bytesAt c off n))).toArray, .int .i64 (pushE D (bytesAt c off n))]), [.cells c el ro])
    | none => none
  | [v, .slice none 0 0], [] => match aR v with
    | some D => some (true, .ret (.tuple #[.agg (rgVC (pushR D ByteArray.empty)).toArray, .int .i64 (pushE D ByteArray.empty)]), [])
    | none => none
  | _, _ => none
theorem push_okS : FnOk Try.prog 13 (Sum.of gPush) := by
  refine FnOk.of fun a o r o' hg => ?_
  unfold gPush at hg
  split at hg
  · split at hg
    · rename_i D hD
      simp only [Option.some.injEq, Prod.mk.injEq, Bool.and_eq_true] at hg
      obtain ⟨⟨h1, h2, h3⟩, rfl, rfl⟩ := hg
      rw [aR_some hD]
      exact push_fn D _ _ _ _ _ _ h1 h2 h3
    · cases hg
  · split at hg
    · rename_i D hD
      simp only [Option.some.injEq, Prod.mk.injEq] at hg
      obtain ⟨-, rfl, rfl⟩ := hg
      rw [aR_some hD]
      exact push_nil_fn D
    · cases hg
  · cases hg
def sumPop : Sum := ⟨namesA, fun a o => match a, o with
  | [v], [] => match aR v with
    | some D => .must (okR D) (.ask (D.n == 0) fun b => match b with
      | true => .done (.ret (.tuple #[.agg (rgVC D).toArray, .slice none 0 0, .int .i64 3]), [])
      | false => .done (.ret (.tuple #[.agg (rgVC (popR D)).toArray, .slice (some ⟨0, 0, none⟩) (popS D).size (popS D).size, .int .i64 0]), [.cells (bytesC (popS D)) 5 false]))
    | none => .fail
  | _, _ => .fail⟩
theorem pop_ok : FnOk Try.prog 14 sumPop := by
  intro a o r o' hg
  unfold sumPop at hg
  dsimp only at hg
  split at hg
  · split at hg
    · rename_i v D hD
      obtain ⟨h1, hg⟩ := QT.run_must hg
      rw [aR_some hD]
      have hg : (match (D.n == 0) with | true => _ | false => _ : QT (CRes × List VObj)).run = some (r, o') := hg
      cases hk : (D.n == 0) with
      | true =>
        rw [hk] at hg
        cases hg
        have hk : D.n = 0 := by simpa using hk
        refine (pop_fn D h1).mono fun r o h => ?_
        rcases h with ⟨_, h⟩ | ⟨h, _⟩
        · exact h
        · exact absurd hk h
      | false =>
        rw [hk] at hg
        cases hg
        have hk : D.n ≠ 0 := by simpa using hk
        refine (pop_fn D h1).mono fun r o h => ?_
        rcases h with ⟨h, _⟩ | ⟨_, h⟩
        · exact absurd h hk
        · exact h
    · cases hg
  · cases hg
def gNew (a : List Value) (o : List VObj) : Option (Bool × CRes × List VObj) := match a, o with
  | [.int .i64 c], [] => some (true, .ret (.tuple #[.agg (rgVC (ringK (newK c))).toArray, .int .i64 (newE c)]), [])
  | _, _ => none
theorem new_okS : FnOk Try.prog 10 (Sum.of gNew) := by
  refine FnOk.of fun a o r o' hg => ?_
  unfold gNew at hg
  split at hg
  · simp only [Option.some.injEq, Prod.mk.injEq] at hg
    obtain ⟨-, rfl, rfl⟩ := hg
    exact new_fn _
  · cases hg
def gMNew (a : List Value) (o : List VObj) : Option (Bool × CRes × List VObj) := match a, o with
  | [.int .i64 c], [] => some (true, .ret (.tuple #[.agg #[.int .i64 (newK c), .slice none 0 0], .int .i64 (newE c)]), [])
  | _, _ => none
theorem mnew_okS : FnOk Try.prog 21 (Sum.of gMNew) := by
  refine FnOk.of fun a o r o' hg => ?_
  unfold gMNew at hg
  split at hg
  · simp only [Option.some.injEq, Prod.mk.injEq] at hg
    obtain ⟨-, rfl, rfl⟩ := hg
    exact mnew_fn _
  · cases hg

/- The document's ring: one capacity, one row. -/
def isStrV : Value → Bool
  | .string _ => true
  | _ => false
def toStrV : Value → ByteArray
  | .string s => s
  | _ => ByteArray.empty
theorem strs_of {c : List Value} (h : c.all isStrV = true) : c = strsC (c.map toStrV) := by
  induction c with
  | nil => rfl
  | cons v c ih =>
    simp only [List.all_cons, Bool.and_eq_true] at h
    rw [ih h.2]
    cases v <;> first | (have := h.1; cases this; done) | skip
    unfold strsC
    simp [toStrV]
@[simp] theorem isStrs (L : List ByteArray) : (strsC L).all isStrV = true := by unfold strsC; simp [isStrV]
@[simp] theorem map_toStrV (L : List ByteArray) : (strsC L).map toStrV = L := by
  unfold strsC
  rw [List.map_map]
  exact List.map_id L
@[simp] theorem one_take_strs (L : List ByteArray) (n : Nat) : List.all (List.take n (strsC L)) Value.oneCell' = true := one_of_plain (pl_take (pl_strs L) n)
@[simp] theorem one_take_drop_strs (L : List ByteArray) (n k : Nat) : List.all (List.take n (List.drop k (strsC L))) Value.oneCell' = true := one_of_plain (pl_take (pl_drop (pl_strs L) k) n)
abbrev slL (b : Nat) (L : List ByteArray) : Value := .slice (some ⟨b, 0, none⟩) L.length L.length
noncomputable def bytesB (c : List Value) (n : Nat) : Bool := @decide (c = bytesC (bytesAt c 0 n) ∧ n = (bytesAt c 0 n).size) (Classical.propDecidable _)
@[simp] theorem bytesB_all (b : ByteArray) : bytesB (bytesC b) b.size = true := decide_cls (by rw [bytesAt_all]; exact ⟨rfl, rfl⟩)
def newM (c : Int) (n : Nat) (s : Nat) : Bool := !(c == 0) && (decide (1 ≤ s) && (decide (s ≤ 32) && !decide ((n : Int) ≥ c)))
def mpushE (c : Int) (s : Nat) : Int := bif decide (1 ≤ s) then (bif decide (s ≤ 32) then (bif c == 0 then 1 else 2) else 1) else 1
noncomputable def sumMPush : Sum := ⟨namesA, fun a o => match a, o with
  | [.agg ⟨[.int .i64 c, .slice (some ⟨0, 0, none⟩) n m]⟩, .slice (some ⟨1, 0, none⟩) s s'], [.cells cL el false, .cells cb eb true] =>
    .must (cL.all isStrV && (Nat.beq el 9 && (Nat.beq cL.length n && (Nat.beq m n && (Nat.ble n 8 && (Nat.beq eb 5 && (bytesB cb s && Nat.beq s' s)))))))
      (.ask (newM c n s) fun q => match q with
        | true => .done (.ret (.tuple #[.agg #[.int .i64 c, slL 2 (cL.map toStrV ++ [bytesAt cb 0 s])], .int .i64 0]), [.cells cL el false, .cells cb eb true, .cells (strsC (cL.map toStrV ++ [bytesAt cb 0 s])) 9 false])
        | false => .done (.ret (.tuple #[.agg #[.int .i64 c, slL 0 (cL.map toStrV)], .int .i64 (mpushE c s)]), [.cells cL el false, .cells cb eb true]))
  | _, _ => .fail⟩
theorem mpush_fn (c : Int) (L : List ByteArray) (b : ByteArray) (hL : L.length ≤ 8) : FnT Try.prog 50 [.agg #[.int .i64 c, slL 0 L], .slice (some ⟨1, 0, none⟩) b.size b.size] [.cells (strsC L) 9 false, .cells (bytesC b) 5 true] fun r o =>
    (newM c L.length b.size = true ∧ r = .ret (.tuple #[.agg #[.int .i64 c, slL 2 (L ++ [b])], .int .i64 0]) ∧ o = [.cells (strsC L) 9 false, .cells (bytesC b) 5 true, .cells (strsC (L ++ [b])) 9 false]) ∨
    (newM c L.length b.size = false ∧ r = .ret (.tuple #[.agg #[.int .i64 c, slL 0 L], .int .i64 (mpushE c b.size)]) ∧ o = [.cells (strsC L) 9 false, .cells (bytesC b) 5 true]) := by
  refine FnT.ofT (n := slotsC Try.prog 50) (by kernel_rfl) ?_
  apply mpu c L b hL
  case pl0 => simp
  case pl1 => simp
  case l2 =>
    intro h0 h1
    have h0 := of_decide_eq_true h0
    have h1 : ¬ b.size ≤ 32 := by simp at h1; omega
    exact mpu_r0 c L b (by simp) (by simp) (.inr ⟨by simp [newM, h1], by simp [mpushE, h1], rfl⟩)
  case l3 =>
    intro h0 h1 h2
    exact mpu_r1 c L b (by simp) (by simp) (.inr ⟨by simp [newM, h2], by
      have h0 := of_decide_eq_true h0
      have h3 : 1 ≤ b.size := by omega
      have h4 : b.size ≤ 32 := by simp at h1; omega
      unfold mpushE; rw [decide_eq_true h3, decide_eq_true h4, h2]; rfl, rfl⟩)
  case l4 =>
    intro h0 h1 h2 h5
    exact mpu_r2 c L b (by simp) (by simp) (.inr ⟨by simp only [newM, h5]; simp, by
      have h0 := of_decide_eq_true h0
      have h3 : 1 ≤ b.size := by omega
      have h4 : b.size ≤ 32 := by simp at h1; omega
      unfold mpushE; rw [decide_eq_true h3, decide_eq_true h4, h2]; rfl, rfl⟩)
  case n5 => intros; simp
  case n6 => intros; exact isBytes_all b
  case l7 =>
    intro h0 h1 h2 h5
    have h0 := of_decide_eq_true h0
    have h3 : 1 ≤ b.size := by omega
    have h4 : b.size ≤ 32 := by simp at h1; omega
    have hl2 : (L ++ [b]).length = 0 + L.length + 1 := by simp
    have hs2 : strsC (L ++ [b]) = [] ++ List.take (L.length * 1) (strsC L) ++ [Value.string (ByteArray.mk (List.toArray (Option.getD (Option.bind (cut (bytesC b) 0 (ByteArray.size b)) bytesOf) [])))] := by
      have e : ByteArray.mk (List.toArray (Option.getD (Option.bind (cut (bytesC b) 0 (ByteArray.size b)) bytesOf) [])) = b := bytesAt_all b
      rw [e, List.nil_append, List.take_of_length_le (by rw [strsC_length]; omega)]
      unfold strsC
      rw [List.map_append]; rfl
    refine mpu_r3 c L b (by simp) (by simp) (.inl ⟨?_, ?_, ?_⟩)
    · unfold newM; rw [decide_eq_true h3, decide_eq_true h4, h2, h5]; rfl
    · unfold slL; rw [hl2]
    · rw [hs2]
  case l8 =>
    intro h0
    have h0 := of_decide_eq_false h0
    have h3 : ¬ 1 ≤ b.size := by omega
    exact mpu_r4 c L b (by simp) (by simp) (.inr ⟨by unfold newM; rw [decide_eq_false h3]; simp, by unfold mpushE; rw [decide_eq_false h3]; rfl, rfl⟩)
theorem mpush_ok : FnOk Try.prog 50 sumMPush := by
  intro a o r o' hg
  unfold sumMPush at hg
  dsimp only at hg
  split at hg
  · rename_i c n m s s' cL el cb eb
    obtain ⟨hc, hg⟩ := QT.run_must hg
    simp only [Bool.and_eq_true] at hc
    obtain ⟨c1, c2, c3, c4, c5, c6, c7, c8⟩ := hc
    unfold bytesB at c7
    obtain ⟨c7, c7'⟩ := @of_decide_eq_true _ (Classical.propDecidable _) c7
    have e2 := strs_of c1
    obtain ⟨L, hL⟩ : ∃ L, L = cL.map toStrV := ⟨_, rfl⟩
    obtain ⟨b, hb⟩ : ∃ b, b = bytesAt cb 0 s := ⟨_, rfl⟩
    rw [← hL] at e2 hg
    rw [← hb] at c7 c7' hg
    have hl : L.length = n := by rw [hL]; simp [Nat.eq_of_beq_eq_true c3]
    rw [Nat.eq_of_beq_eq_true c8, Nat.eq_of_beq_eq_true c4, Nat.eq_of_beq_eq_true c2, Nat.eq_of_beq_eq_true c6, e2, c7, c7', ← hl]
    rw [Nat.eq_of_beq_eq_true c2, Nat.eq_of_beq_eq_true c6, e2, c7, c7', ← hl] at hg
    refine (mpush_fn c L b (by rw [hl]; exact Nat.le_of_ble_eq_true c5)).mono fun r2 o2 h => ?_
    have hg : (match newM c L.length b.size with | true => _ | false => _ : QT (CRes × List VObj)).run = some (r, o') := hg
    rcases h with ⟨g1, rfl, rfl⟩ | ⟨g1, rfl, rfl⟩
    · rw [g1] at hg; cases hg; exact ⟨rfl, rfl⟩
    · rw [g1] at hg; cases hg; exact ⟨rfl, rfl⟩
  · cases hg
noncomputable def sumMPop : Sum := ⟨namesA, fun a o => match a, o with
  | [.agg ⟨[.int .i64 c, .slice (some ⟨0, 0, none⟩) n m]⟩], [.cells cL el false] =>
    .must (cL.all isStrV && (Nat.beq el 9 && (Nat.beq cL.length n && (Nat.beq m n && Nat.ble n 8))))
      (.ask (Nat.beq n 0) fun q => match q with
        | true => .done (.ret (.tuple #[.agg #[.int .i64 c, slL 0 (cL.map toStrV)], .string ByteArray.empty, .int .i64 3]), [.cells cL el false])
        | false => .done (.ret (.tuple #[.agg #[.int .i64 c, slL 1 ((cL.map toStrV).tail)], .string ((cL.map toStrV).headD ByteArray.empty), .int .i64 0]), [.cells cL el false, .cells (strsC ((cL.map toStrV).tail)) 9 false]))
  | _, _ => .fail⟩
theorem mpop_fn (c : Int) (L : List ByteArray) (hL : L.length ≤ 8) : FnT Try.prog 51 [.agg #[.int .i64 c, slL 0 L]] [.cells (strsC L) 9 false] fun r o =>
    (L.length = 0 ∧ r = .ret (.tuple #[.agg #[.int .i64 c, slL 0 L], .string ByteArray.empty, .int .i64 3]) ∧ o = [.cells (strsC L) 9 false]) ∨
    (L.length ≠ 0 ∧ r = .ret (.tuple #[.agg #[.int .i64 c, slL 1 L.tail], .string (L.headD ByteArray.empty), .int .i64 0]) ∧ o = [.cells (strsC L) 9 false, .cells (strsC L.tail) 9 false]) := by
  refine FnT.ofT (n := slotsC Try.prog 51) (by kernel_rfl) ?_
  apply mpo c L hL
  case pl0 => simp
  case l1 => intro h0; exact mpo_r0 c L (by simp) (.inl ⟨by simp at h0; simp [h0], rfl, rfl⟩)
  case n2 => intro h0; simp at h0; exact Nat.ble_eq_true_of_le (by have := List.length_pos_iff.2 h0; omega)
  case n3 => intro h0; simp at h0; exact Nat.ble_eq_true_of_le (by have := List.length_pos_iff.2 h0; rw [strsC_length]; omega)
  case n4 => intros; exact one_take_drop_strs L _ _
  case n5 => intro h0; simp at h0; exact blt_iff.2 (by have := List.length_pos_iff.2 h0; omega)
  case n6 => intro h0; simp at h0; exact isStrAt_strs (by have := List.length_pos_iff.2 h0; omega)
  case l7 =>
    intro h0
    simp at h0
    cases L with
    | nil => exact absurd rfl h0
    | cons s L =>
      have e1 : [] ++ List.take (((s :: L).length - 1) * 1) (List.drop 1 (strsC (s :: L))) = strsC L := by
        rw [List.nil_append]
        show List.take ((L.length + 1 - 1) * 1) (strsC L) = _
        rw [List.take_of_length_le (by rw [strsC_length]; omega)]
      have e2 : 0 + ((s :: L).length - 1) = L.length := by simp
      refine mpo_r1 c (s :: L) (by simp) (.inr ⟨by simp, ?_, ?_⟩)
      · rw [e2]; rfl
      · rw [e1]; rfl
theorem mpop_ok : FnOk Try.prog 51 sumMPop := by
  intro a o r o' hg
  unfold sumMPop at hg
  dsimp only at hg
  split at hg
  · rename_i c n m cL el
    obtain ⟨hc, hg⟩ := QT.run_must hg
    simp only [Bool.and_eq_true] at hc
    obtain ⟨c1, c2, c3, c4, c5⟩ := hc
    have e2 := strs_of c1
    obtain ⟨L, hL⟩ : ∃ L, L = cL.map toStrV := ⟨_, rfl⟩
    rw [← hL] at e2 hg
    have hl : L.length = n := by rw [hL]; simp [Nat.eq_of_beq_eq_true c3]
    rw [Nat.eq_of_beq_eq_true c4, Nat.eq_of_beq_eq_true c2, e2, ← hl]
    rw [Nat.eq_of_beq_eq_true c2, e2, ← hl] at hg
    refine (mpop_fn c L (by rw [hl]; exact Nat.le_of_ble_eq_true c5)).mono fun r2 o2 h => ?_
    have hg : (match Nat.beq L.length 0 with | true => _ | false => _ : QT (CRes × List VObj)).run = some (r, o') := hg
    rcases h with ⟨g1, rfl, rfl⟩ | ⟨g1, rfl, rfl⟩
    · rw [g1] at hg; cases hg; exact ⟨rfl, rfl⟩
    · rw [beq_no g1] at hg; cases hg; exact ⟨rfl, rfl⟩
  · cases hg
def mgrowK (c : Int) : Int := bif c == 0 then c else bif decide (c ≥ 8) then c else w64 (c + 1)
def mgrowE (c : Int) : Int := bif c == 0 then 1 else bif decide (c ≥ 8) then 2 else 0
def gMGrow (a : List Value) (o : List VObj) : Option (Bool × CRes × List VObj) := match a, o with
  | [.agg ⟨[.int .i64 c, .slice (some ⟨0, 0, none⟩) n m]⟩], [.cells cL el false] =>
    some (cL.all isStrV && (Nat.beq el 9 && (Nat.beq cL.length n && (Nat.beq m n && Nat.ble n 8))), .ret (.tuple #[.agg #[.int .i64 (mgrowK c), .slice (some ⟨0, 0, none⟩) n m], .int .i64 (mgrowE c)]), [.cells cL el false])
  | _, _ => none
theorem mgrow_fn (c : Int) (L : List ByteArray) (hL : L.length ≤ 8) : FnT Try.prog 52 [.agg #[.int .i64 c, slL 0 L]] [.cells (strsC L) 9 false] fun r o =>
    r = .ret (.tuple #[.agg #[.int .i64 (mgrowK c), slL 0 L], .int .i64 (mgrowE c)]) ∧ o = [.cells (strsC L) 9 false] := by
  refine FnT.ofT (n := slotsC Try.prog 52) (by kernel_rfl) ?_
  apply mgr c L hL
  case pl0 => simp
  case l1 => intro h0; exact mgr_r0 c L (by simp) ⟨by simp only [mgrowK, mgrowE, h0, cond_true, cond_false], rfl⟩
  case l2 => intro h0 h1; exact mgr_r1 c L (by simp) ⟨by simp only [mgrowK, mgrowE, h0, h1, cond_true, cond_false], rfl⟩
  case l3 => intro h0 h1; exact mgr_r2 c L (by simp) ⟨by simp only [mgrowK, mgrowE, h0, h1, cond_true, cond_false], rfl⟩
theorem mgrow_ok : FnOk Try.prog 52 (Sum.of gMGrow) := by
  refine FnOk.of fun a o r o' hg => ?_
  unfold gMGrow at hg
  split at hg
  · rename_i c n m cL el
    simp only [Option.some.injEq, Prod.mk.injEq, Bool.and_eq_true] at hg
    obtain ⟨⟨c1, c2, c3, c4, c5⟩, rfl, rfl⟩ := hg
    have e2 := strs_of c1
    have hl : (cL.map toStrV).length = n := by simp [Nat.eq_of_beq_eq_true c3]
    have := mgrow_fn c (cL.map toStrV) (by rw [hl]; exact Nat.le_of_ble_eq_true c5)
    rw [← e2] at this
    unfold slL at this
    rw [hl] at this
    rw [Nat.eq_of_beq_eq_true c4, Nat.eq_of_beq_eq_true c2]
    exact this
  · cases hg
def gTrue (a : List Value) (o : List VObj) : Option (Bool × CRes × List VObj) := match a, o with
  | [], [] => some (true, .ret (.bool true), [])
  | _, _ => none
theorem true_ok {f : FuncId} (h : FnT Try.prog f [] [] fun r o => r = .ret (.bool true) ∧ o = []) : FnOk Try.prog f (Sum.of gTrue) := by
  refine FnOk.of fun a o r o' hg => ?_
  unfold gTrue at hg
  split at hg
  · simp only [Option.some.injEq, Prod.mk.injEq] at hg
    obtain ⟨-, rfl, rfl⟩ := hg
    exact h
  · cases hg
noncomputable def tblRg : List (FuncId × Sum) := [
  (10, Sum.of gNew), (13, Sum.of gPush), (14, sumPop), (15, Sum.of (gR (fun _ => true) fun D => .ret (.tuple #[.agg (rgVC (growR D)).toArray, .int .i64 (growE D)]))),
  (21, Sum.of gMNew), (50, sumMPush), (51, sumMPop), (52, Sum.of gMGrow), (12, Sum.of gTrue)]
theorem tblRg_ok : TblOk Try.prog tblRg :=
  .cons new_okS (.cons push_okS (.cons pop_ok (.cons (gR_ok fun D _ => grow_fn D) (.cons mnew_okS (.cons mpush_ok (.cons mpop_ok (.cons mgrow_ok (.cons (true_ok awake_fn) .nil))))))))
theorem callsRg : CallsOk Try.prog (callT Try.prog (tblL tblRg) 50 40) := callT_ok plainN mixed (tblL_ok tblRg_ok) 50 40
end Go.Proofs.Ytgdpahojinknmaa
