/- What is said of the duct's functions. -/
import Derived.Test.YtgdpahojinknmaaDctA
import Derived.Test.YtgdpahojinknmaaFew22Pf
import Derived.Test.YtgdpahojinknmaaHd9
namespace Go.Proofs.Ytgdpahojinknmaa
open Go Vm Go.RowKit
set_option linter.unusedVariables false
set_option linter.unusedSimpArgs false
set_option maxRecDepth 100000

def aD (v : Value) : Option DuctV := match v with
  | .agg a => asDuctV a.toList
  | _ => none
theorem aD_some {v : Value} {D : DuctV} (h : aD v = some D) : v = .agg (ductVC D).toArray := by
  unfold aD at h
  split at h
  · rw [← asDuctV_some h]
  · cases h
def g1 (c : DuctV → Bool) (r : DuctV → CRes) (a : List Value) (o : List VObj) : Option (Bool × CRes × List VObj) := match a, o with
  | [v], [] => match aD v with
    | some D => some (c D, r D, [])
    | none => none
  | _, _ => none
theorem g1_ok {f : FuncId} {c : DuctV → Bool} {r : DuctV → CRes} (h : ∀ D, c D = true → FnT Try.prog f [.agg (ductVC D).toArray] [] fun r' o => r' = r D ∧ o = []) : FnOk Try.prog f (Sum.of (g1 c r)) := by
  refine FnOk.of fun a o r o' hg => ?_
  unfold g1 at hg
  split at hg
  · split at hg
    · rename_i v D hD
      simp only [Option.some.injEq, Prod.mk.injEq] at hg
      obtain ⟨h1, rfl, rfl⟩ := hg
      rw [aD_some hD]
      exact h D h1
    · cases hg
  · cases hg
def gWrite (a : List Value) (o : List VObj) : Option (Bool × CRes × List VObj) := match a, o with
  | [v, .slice (some ⟨0, off, none⟩) n cap], [.cells c el ro] => match aD v with
    | some D => some (okD D && (isBytes c off n && c.all isScal), .ret (.tuple #[.agg (ductVC (writeD D (bytesAt c off n))).toArray, .int .i64 (writeE D (bytesAt c off n))]), [.cells c el ro])
    | none => none
  | [v, .slice none 0 0], [] => match aD v with
    | some D => some (true, .ret (.tuple #[.agg (ductVC (writeD D ByteArray.empty)).toArray, .int .i64 (writeE D ByteArray.empty)]), [])
    | none => none
  | _, _ => none
theorem write_ok : FnOk Try.prog 32 (Sum.of gWrite) := by
  refine FnOk.of fun a o r o' hg => ?_
  unfold gWrite at hg
  split at hg
  · split at hg
    · rename_i D hD
      simp only [Option.some.injEq, Prod.mk.injEq, Bool.and_eq_true] at hg
      obtain ⟨⟨h1, h2, h3⟩, rfl, rfl⟩ := hg
      rw [aD_some hD]
      exact write_fn D _ _ _ _ _ _ h1 h2 h3
    · cases hg
  · split at hg
    · rename_i D hD
      simp only [Option.some.injEq, Prod.mk.injEq] at hg
      obtain ⟨-, rfl, rfl⟩ := hg
      rw [aD_some hD]
      exact write_nil_fn D
    · cases hg
  · cases hg
def sumRead : Sum := ⟨namesA, fun a o => match a, o with
  | [v], [] => match aD v with
    | some D => .must (okD D) (.ask (readK D == 1) fun b => match b with
      | true => .done (.ret (.tuple #[.agg (ductVC (readD D)).toArray, .agg #[.int .i64 1, .slice (some ⟨0, 0, none⟩) (readS D).size (readS D).size, .int .i64 0, .int .i64 0, .int .i64 0]]), [.cells (bytesC (readS D)) 5 false])
      | false => .done (.ret (.tuple #[.agg (ductVC (readD D)).toArray, .agg #[.int .i64 (readK D), .slice none 0 0, .int .i64 (readF D D.fc), .int .i64 (readF D D.fs), .int .i64 (readF D D.fi)]]), []))
    | none => .fail
  | _, _ => .fail⟩
theorem read_ok : FnOk Try.prog 33 sumRead := by
  intro a o r o' hg
  unfold sumRead at hg
  dsimp only at hg
  split at hg
  · split at hg
    · rename_i v D hD
      obtain ⟨h1, hg⟩ := QT.run_must hg
      rw [aD_some hD]
      have hg : (match (readK D == 1) with | true => _ | false => _ : QT (CRes × List VObj)).run = some (r, o') := hg
      cases hk : (readK D == 1) with
      | true =>
        rw [hk] at hg
        cases hg
        have hk : readK D = 1 := by simpa using hk
        refine (read_fn D h1).mono fun r o h => ?_
        rcases h with ⟨_, h⟩ | ⟨h, _⟩
        · exact h
        · exact absurd hk h
      | false =>
        rw [hk] at hg
        cases hg
        have hk : readK D ≠ 1 := by simpa using hk
        refine (read_fn D h1).mono fun r o h => ?_
        rcases h with ⟨h, _⟩ | ⟨_, h⟩
        · exact absurd h hk
        · exact h
    · cases hg
  · cases hg
def gFail (a : List Value) (o : List VObj) : Option (Bool × CRes × List VObj) := match a, o with
  | [v, .agg ⟨[.int .i64 fc, .int .i64 fs, .int .i64 fi]⟩], [] => match aD v with
    | some D => some (true, .ret (.agg (ductVC (shutD D 2 fc fs fi)).toArray), [])
    | none => none
  | _, _ => none
theorem fail_ok : FnOk Try.prog 35 (Sum.of gFail) := by
  refine FnOk.of fun a o r o' hg => ?_
  unfold gFail at hg
  split at hg
  · split at hg
    · rename_i D hD
      simp only [Option.some.injEq, Prod.mk.injEq] at hg
      obtain ⟨-, rfl, rfl⟩ := hg
      rw [aD_some hD]
      exact fail_fn D _ _ _
    · cases hg
  · cases hg
def gNew (a : List Value) (o : List VObj) : Option (Bool × CRes × List VObj) := match a, o with
  | [.int .i64 c], [] => some (true, .ret (.tuple #[.agg (ductVC (newD c)).toArray, .int .i64 (newE c)]), [])
  | _, _ => none
theorem new_ok : FnOk Try.prog 24 (Sum.of gNew) := by
  refine FnOk.of fun a o r o' hg => ?_
  unfold gNew at hg
  split at hg
  · simp only [Option.some.injEq, Prod.mk.injEq] at hg
    obtain ⟨-, rfl, rfl⟩ := hg
    exact new_fn _
  · cases hg

/- Rows of acts. -/
theorem act22_inj {x y : Act22} (h : act22 x = act22 y) : x = y := by
  obtain ⟨d, b, c, s, i⟩ := x
  obtain ⟨d', b', c', s', i'⟩ := y
  simp only [act22, List.cons.injEq, SV.val.injEq, SV.cells.injEq, Value.int.injEq, true_and, and_true] at h
  obtain ⟨rfl, ⟨h1, h2⟩, rfl, rfl, rfl⟩ := h
  have h3 := bytesOf_bytesC b
  rw [h2, bytesOf_bytesC] at h3
  have h4 : b = b' := by
    have : b'.data.toList = b.data.toList := Option.some.inj h3
    cases b; cases b'; simp at this; rw [this]
  rw [h4]
theorem rows22_inj {l l' : List Act22} (h : rows22 l = rows22 l') : l = l' := by
  unfold rows22 at h
  simp only [VObj.rows.injEq, true_and] at h
  obtain ⟨h1, h2⟩ := h
  refine List.ext_getElem h1 fun i hi hi' => ?_
  have h3 := congrFun h2 i
  have h4 := act22_inj h3
  simpa [List.getD, hi, hi'] using h4
open Classical in
noncomputable def rowsOf22 (o : VObj) : List Act22 := if h : ∃ l, o = rows22 l then h.choose else []
theorem rowsOf22_rows (l : List Act22) : rowsOf22 (rows22 l) = l := by
  unfold rowsOf22
  rw [dif_pos ⟨l, rfl⟩]
  exact (rows22_inj (Exists.choose_spec (⟨l, rfl⟩ : ∃ l', rows22 l = rows22 l'))).symm
noncomputable def isRows22 (o : VObj) : Bool := @decide (o = rows22 (rowsOf22 o) ∧ small22 (rowsOf22 o)) (Classical.propDecidable _)
theorem isRows22_rows {l : List Act22} (h : small22 l) : isRows22 (rows22 l) = true := by
  unfold isRows22
  rw [rowsOf22_rows]
  exact decide_cls (p := rows22 l = rows22 l ∧ small22 l) ⟨rfl, h⟩
noncomputable def gFew (a : List Value) (o : List VObj) : Option (Bool × CRes × List VObj) := match a, o with
  | [.slice (some ⟨0, 0, none⟩) n m], [o] => some (isRows22 o && (decide (n = (rowsOf22 o).length) && decide (m = (rowsOf22 o).length)), .ret (.bool (few22B (rowsOf22 o))), [o])
  | _, _ => none
theorem few_ok : FnOk Try.prog 25 (Sum.of gFew) := by
  refine FnOk.of fun a o r o' hg => ?_
  unfold gFew at hg
  split at hg
  · rename_i n m o
    simp only [Option.some.injEq, Prod.mk.injEq, Bool.and_eq_true] at hg
    obtain ⟨⟨h1, h2, h3⟩, rfl, rfl⟩ := hg
    unfold isRows22 at h1
    have h1 := @of_decide_eq_true _ (Classical.propDecidable _) h1
    have h2 := of_decide_eq_true h2
    have h3 := of_decide_eq_true h3
    have h4 := few22_fn (rowsOf22 o) h1.2
    rw [← h1.1] at h4
    rw [h2, h3]
    exact h4
  · cases hg

noncomputable def tblDuct : List (FuncId × Sum) := [
  (24, Sum.of gNew), (32, Sum.of gWrite), (33, sumRead),
  (34, Sum.of (g1 (fun _ => true) fun D => .ret (.agg (ductVC (shutD D 1 0 0 0)).toArray))), (35, Sum.of gFail),
  (36, Sum.of (g1 (fun _ => true) fun D => .ret (.agg (ductVC (leaveD D)).toArray))),
  (37, Sum.of (g1 (fun _ => true) fun D => .ret (.tuple #[.agg (ductVC (widenD D)).toArray, .int .i64 (widenE D)]))),
  (38, Sum.of (g1 (fun _ => true) fun D => .ret (.agg (statVC (statD D)).toArray))),
  (39, Sum.of (g1 (fun _ => true) fun D => .ret (.bool (goneD D)))),
  (40, Sum.of (g1 (fun _ => true) fun D => .ret (.bool (fullD D)))),
  (41, Sum.of (g1 (fun _ => true) fun D => .ret (.bool (waitsD D)))),
  (25, Sum.of gFew)]
theorem tblDuct_ok : TblOk Try.prog tblDuct :=
  .cons new_ok (.cons write_ok (.cons read_ok (.cons (g1_ok fun D _ => end_fn D) (.cons fail_ok (.cons (g1_ok fun D _ => leave_fn D) (.cons (g1_ok fun D _ => widen_fn D) (.cons (g1_ok fun D _ => stat_fn D)
    (.cons (g1_ok fun D _ => gone_fn D) (.cons (g1_ok fun D _ => full_fn D) (.cons (g1_ok fun D _ => waits_fn D) (.cons few_ok .nil)))))))))))
theorem callsDuct : CallsOk Try.prog (callT Try.prog (tblL tblDuct) 50 40) := callT_ok plainN mixed (tblL_ok tblDuct_ok) 50 40
end Go.Proofs.Ytgdpahojinknmaa
