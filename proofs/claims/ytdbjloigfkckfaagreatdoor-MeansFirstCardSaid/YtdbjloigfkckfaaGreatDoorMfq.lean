/- What is said of means.First and of the document's First. -/
import Derived.Test.YtdbjloigfkckfaaGreatDoorMfp
namespace Go.Proofs.YtdbjloigfkckfaaGreatDoor
open Go Vm Go.RowKit
set_option linter.unusedVariables false
set_option linter.unusedSimpArgs false
set_option maxRecDepth 100000

open Classical in
noncomputable def rowsOfS (o : VObj) : List Stm := if h : ∃ l, o = rowsS l then h.choose else []
theorem rowsS_inj {l l' : List Stm} (h : rowsS l = rowsS l') : l = l' := by
  unfold rowsS at h
  injection h with h1 h2 h3
  refine List.ext_getElem h1 fun i a b => ?_
  have := congrFun h3 i
  simp only [List.getD_eq_getElem?_getD, List.getElem?_eq_getElem a, List.getElem?_eq_getElem b, Option.getD_some] at this
  unfold stmV at this
  injection this with e1 e2
  injection e2 with e2 e3
  injection e3 with e3 e4
  injection e4 with e4 e5
  injection e5 with e5 e6
  injection e1 with f1 f2 f3
  injection e2 with e2; injection e2 with e2
  injection e3 with e3; injection e3 with _ e3
  injection e4 with e4; injection e4 with _ e4
  injection e5 with e5; injection e5 with _ e5
  have hb : l[i].b = l'[i].b := by
    have h := congrArg bytesOf f2
    rw [bytesOf_bytesC, bytesOf_bytesC, Option.some.injEq] at h
    have h2 : l[i].b.data = l'[i].b.data := by
      have := congrArg List.toArray h
      simpa only [Array.toArray_toList] using this
    cases hx : l[i].b with | mk d => cases hy : l'[i].b with | mk d' => rw [hx, hy] at h2; exact congrArg ByteArray.mk h2
  cases hx : l[i] with
  | mk b e c s k =>
    cases hy : l'[i] with
    | mk b' e' c' s' k' =>
      rw [hx, hy] at hb e2 e3 e4 e5
      dsimp only at hb e2 e3 e4 e5
      rw [hb, e2, e3, e4, e5]
theorem rowsOfS_rows (l : List Stm) : rowsOfS (rowsS l) = l := by
  unfold rowsOfS
  have h : ∃ l', rowsS l = rowsS l' := ⟨l, rfl⟩
  rw [dif_pos h]
  exact (rowsS_inj h.choose_spec).symm
noncomputable def isRowsS (o : VObj) : Bool := @decide (o = rowsS (rowsOfS o)) (Classical.propDecidable _)
theorem isRowsS_rows (l : List Stm) : isRowsS (rowsS l) = true := by
  unfold isRowsS
  rw [rowsOfS_rows]
  exact decide_cls rfl
def zS : Stm := ⟨ByteArray.empty, false, 0, 0, 0⟩
def idxS (l : List Stm) : Int := match l.findIdx? (fun x => x.c != 0) with
  | some i => i
  | none => -1
theorem idxS_at {l : List Stm} {j : Nat} (hj : j < l.length) (h1 : ∀ i, i < j → ∀ x, l[i]? = some x → (x.c != 0) = false) (h2 : (l[j].c != 0) = true) : idxS l = j := by
  unfold idxS
  have : l.findIdx? (fun x => x.c != 0) = some j := by
    rw [List.findIdx?_eq_some_iff_getElem]
    exact ⟨hj, h2, fun i hi => by rw [h1 i hi _ (List.getElem?_eq_getElem (by omega))]; simp⟩
  rw [this]
theorem idxS_none {l : List Stm} (h1 : ∀ i, i < l.length → ∀ x, l[i]? = some x → (x.c != 0) = false) : idxS l = -1 := by
  unfold idxS
  have : l.findIdx? (fun x => x.c != 0) = none := by
    rw [List.findIdx?_eq_none_iff]
    intro x hx
    obtain ⟨i, hi, rfl⟩ := List.getElem_of_mem hx
    exact h1 i hi _ (List.getElem?_eq_getElem hi)
  rw [this]
theorem getD_S {l : List Stm} {j : Nat} (h : j < l.length) : l.getD j (Stm.mk ByteArray.empty false 0 0 0) = l[j] := by
  rw [List.getD_eq_getElem?_getD, List.getElem?_eq_getElem h]; rfl
def sxI (l : List Stm) (j : Int) : Desc := ⟨[(0, .slice (some ⟨0, 0, none⟩) l.length l.length), (1, .func (.func 21) #[] #[]), (7, .int .i64 l.length), (8, .int .i64 j)], [rowsS l]⟩
structure sxOk (l : List Stm) (j : Int) : Prop where
  a : 0 ≤ j
  b : j ≤ l.length
  c : ∀ i, i < j.toNat → ∀ x, l[i]? = some x → (x.c != 0) = false
theorem sxOk.next {l : List Stm} {j : Int} (h : sxOk l j) (hlt : j < l.length) (hd : ((l.getD j.toNat (Stm.mk ByteArray.empty false 0 0 0)).c != 0) = false) : sxOk l (j + 1) :=
  ⟨by have := h.a; omega, by omega, fun i hi x hx => by
    have ha := h.a
    by_cases hij : i < j.toNat
    · exact h.c i hij x hx
    · have e : i = j.toNat := by omega
      subst e
      rw [getD_S (by omega)] at hd
      rw [List.getElem?_eq_getElem (by omega)] at hx
      cases hx
      exact hd⟩
theorem sxOk.found {l : List Stm} {j : Int} (h : sxOk l j) (hlt : j < l.length) (hd : ((l.getD j.toNat (Stm.mk ByteArray.empty false 0 0 0)).c != 0) = true) : idxS l = j := by
  have ha := h.a
  rw [getD_S (by omega)] at hd
  rw [idxS_at (j := j.toNat) (by omega) h.c hd]
  omega
theorem sx_fn (l : List Stm) (hl : l.length ≤ 1000) : FnT Tryz.prog 20 [.slice (some ⟨0, 0, none⟩) l.length l.length, .func (.func 21) #[] #[]] [rowsS l]
    fun r o => r = .ret (.int .i64 (idxS l)) ∧ o = [rowsS l] := by
  refine FnT.ofT (n := slotsC Tryz.prog 20) (by kernel_rfl) ?_
  apply sx_a l
  refine TriL.blockAt 2 0 (by kernel_rfl) ?_
  refine TriL.loopAt (sxI l) (fun j => (l.length - j).toNat) (sxOk l) 0 (by kernel_rfl) ⟨Int.le_refl 0, by omega, fun i hi => by simp at hi⟩ ?_
  intro j hj
  have ha := hj.a
  apply sx_b l j hj.a
  case l0 =>
    intro g g1
    have g := of_decide_eq_true g
    repeat (first | with_reducible refine QL.ret ?_ | with_reducible refine QL.exit ?_ | with_reducible refine QB.ret ?_ | with_reducible refine QB.hit ?_ | with_reducible refine QB.normal ?_ | with_reducible refine QB.miss (by rfl) ?_)
    exact sx_b_r0 l j ⟨by rw [hj.found g g1], rfl⟩
  case l1 =>
    intro g g1
    have g := of_decide_eq_true g
    have hw : IntKind.wrap IntKind.i64 (j + 1) = j + 1 := wrap_nat (by omega) (by omega)
    exact QL.to (j + 1) (hj.next g g1) (by omega) (by unfold sx_b_d1; rw [hw]; rfl)
  case l2 =>
    intro g
    have g := of_decide_eq_false g
    repeat (first | with_reducible refine QL.ret ?_ | with_reducible refine QL.exit ?_ | with_reducible refine QB.ret ?_ | with_reducible refine QB.hit ?_ | with_reducible refine QB.normal ?_ | with_reducible refine QB.miss (by rfl) ?_)
    exact sx_z l (sx_z_r0 l ⟨by rw [idxS_none fun i hi => hj.c i (by omega)], rfl⟩)
noncomputable def gSx (a : List Value) (o : List VObj) : Option (Bool × CRes × List VObj) := match a, o with
  | [.slice (some ⟨0, 0, none⟩) n m, .func (.func f) x y], [o] => match x.toList, y.toList with
    | [], [] => some (isRowsS o && (Nat.beq f 21 && (Nat.beq n (rowsOfS o).length && (Nat.beq m (rowsOfS o).length && Nat.ble (rowsOfS o).length 1000))), .ret (.int .i64 (idxS (rowsOfS o))), [o])
    | _, _ => none
  | _, _ => none
theorem sx_ok : FnOk Tryz.prog 20 (Sum.of gSx) := FnOk.of fun a o r o' h => by
  unfold gSx at h
  split at h
  · rename_i n m f x y o
    split at h
    · rename_i hx hy
      simp only [Option.some.injEq, Prod.mk.injEq, Bool.and_eq_true, beq_t, ble_t] at h
      obtain ⟨⟨h1, rfl, rfl, rfl, h4⟩, rfl, rfl⟩ := h
      have h1 : o = rowsS (rowsOfS o) := @of_decide_eq_true (o = rowsS (rowsOfS o)) (Classical.propDecidable _) h1
      have ex : x = #[] := by rw [← Array.toArray_toList (xs := x), hx]
      have ey : y = #[] := by rw [← Array.toArray_toList (xs := y), hy]
      have := sx_fn (rowsOfS o) h4
      rw [← h1] at this
      rw [ex, ey]
      exact this
    · cases h
  · cases h
noncomputable def tblS1 : List (FuncId × Sum) := [(20, Sum.of gSx)]
theorem callsS1 : CallsOk Tryz.prog (callT Tryz.prog (tblL tblS1) 50 40) := callT_ok plainN mixed (tblL_ok (.cons sx_ok .nil)) 50 40
def firS (l : List Stm) : Stm := match l.find? (fun x => x.c != 0) with
  | some x => x
  | none => zS
theorem firS_at {l : List Stm} {j : Int} (h : sxOk l j) (hlt : j < l.length) (hd : ((l.getD j.toNat (Stm.mk ByteArray.empty false 0 0 0)).c != 0) = true) : firS l = l.getD j.toNat (Stm.mk ByteArray.empty false 0 0 0) := by
  have ha := h.a
  rw [getD_S (by omega)] at hd ⊢
  have : l.find? (fun x => x.c != 0) = some l[j.toNat] := by
    rw [List.find?_eq_some_iff_getElem]
    exact ⟨hd, j.toNat, by omega, rfl, fun i hi => by rw [h.c i hi _ (List.getElem?_eq_getElem (by omega))]; rfl⟩
  unfold firS
  rw [this]
theorem firS_none {l : List Stm} {j : Int} (h : sxOk l j) (hlt : ¬ j < l.length) : firS l = zS := by
  have : l.find? (fun x => x.c != 0) = none := by
    rw [List.find?_eq_none]
    intro x hx
    obtain ⟨i, hi, rfl⟩ := List.getElem_of_mem hx
    rw [h.c i (by omega) _ (List.getElem?_eq_getElem hi)]
    simp
  unfold firS
  rw [this]
abbrev fltV (x : Stm) : Value := .agg #[.int .i64 x.c, .int .i64 x.s, .int .i64 x.i]
def srI (l : List Stm) (j : Int) : Desc := ⟨[(0, .slice (some ⟨0, 0, none⟩) l.length l.length), (2, .pointer (some ⟨1, 0, none⟩)), (3, .int .i64 j)], [rowsS l, .cells [.int .i64 0, .int .i64 0, .int .i64 0] 26 false]⟩
theorem sr_fn (l : List Stm) (hl : l.length ≤ 1000) : FnT Tryz.prog 7 [.slice (some ⟨0, 0, none⟩) l.length l.length] [rowsS l] fun r o => r = .ret (fltV (firS l)) ∧ o = [rowsS l] := by
  refine FnT.ofT (n := slotsC Tryz.prog 7) (by kernel_rfl) ?_
  apply sr_a l
  refine TriL.blockAt 2 0 (by kernel_rfl) ?_
  refine TriL.loopAt (srI l) (fun j => (l.length - j).toNat) (sxOk l) 0 (by kernel_rfl) ⟨Int.le_refl 0, by omega, fun i hi => by simp at hi⟩ ?_
  intro j hj
  have ha := hj.a
  apply sr_b l j hj.a
  case l0 =>
    intro g g1
    have g := of_decide_eq_true g
    repeat (first | with_reducible refine QL.ret ?_ | with_reducible refine QL.exit ?_ | with_reducible refine QB.ret ?_ | with_reducible refine QB.hit ?_ | with_reducible refine QB.normal ?_ | with_reducible refine QB.miss (by rfl) ?_)
    exact sr_b_r0 l j ⟨by rw [firS_at hj g g1], rfl⟩
  case l1 =>
    intro g g1
    have g := of_decide_eq_true g
    have hw : IntKind.wrap IntKind.i64 (j + 1) = j + 1 := wrap_nat (by omega) (by omega)
    exact QL.to (j + 1) (hj.next g g1) (by omega) (by unfold sr_b_d1; rw [hw]; rfl)
  case l2 =>
    intro g
    have g := of_decide_eq_false g
    repeat (first | with_reducible refine QL.ret ?_ | with_reducible refine QL.exit ?_ | with_reducible refine QB.ret ?_ | with_reducible refine QB.hit ?_ | with_reducible refine QB.normal ?_ | with_reducible refine QB.miss (by rfl) ?_)
    exact sr_z l (sr_z_r0 l ⟨by rw [firS_none hj g]; rfl, rfl⟩)
end Go.Proofs.YtdbjloigfkckfaaGreatDoor
