/- The small machine's logic, sixth text: functions of a program, rows of plain values. -/
import Derived.Test.YtdbjloigfkckfaaGreatDoorHd5
namespace Go.Proofs.YtdbjloigfkckfaaGreatDoor.Vm
open Go.RowKit
set_option linter.unusedVariables false
set_option linter.unusedSimpArgs false

theorem TriL.done {P : Program} {n k : Nat} {l : List Code} {d : Desc} {Q : VEx → Desc → Prop} (hl : l.isEmpty = true) (h : Q .normal d) : TriL P n k l d Q := by
  cases l with
  | nil => exact TriL.nil h
  | cons c l => cases hl

def bodyC (P : Program) (f : FuncId) : Code := match (P.funcs[f]?).bind (·.body) with
  | some c => c
  | none => .skip
def resC (P : Program) (f : FuncId) : List ResultVar := match P.funcs[f]? with
  | some fn => fn.results.toList
  | none => []
def slotsC (P : Program) (f : FuncId) : Nat := match P.funcs[f]? with
  | some fn => fn.ntmps
  | none => 0

/-- The end of a function. -/
def FinC (P : Program) (f : FuncId) (n : Nat) (Q : CRes → List VObj → Prop) : VEx → Desc → Prop
  | .normal, d => ∃ vs l, (∀ u, (resV P (frU n u d.sl) (resC P f)).run (gt (vsOf d.objs).mem) = some (vs, l)) ∧ Q (.ret (resOf vs)) d.objs
  | .ret, d => ∃ vs l, (∀ u, (resV P (frU n u d.sl) (resC P f)).run (gt (vsOf d.objs).mem) = some (vs, l)) ∧ Q (.ret (resOf vs)) d.objs
  | .panic v, d => Q (.panic v) d.objs
  | _, _ => False

theorem FnT.of {P : Program} {f : FuncId} {n : Nat} {args : List Value} {objs : List VObj} {Q : CRes → List VObj → Prop}
    (hf : (((P.funcs[f]?).bind (·.body)).isSome && Nat.beq (slotsC P f) n && Nat.ble args.length n && Nat.ble n 1024 && Nat.ble objs.length 262144) = true)
    (h : TriL P n objs.length (flat2 (bodyC P f)) ⟨numb args 0, objs⟩ (FinC P f n Q)) : FnT P f args objs Q := by
  simp only [Bool.and_eq_true] at hf
  obtain ⟨⟨⟨⟨h1, h2⟩, h3⟩, h4⟩, h5⟩ := hf
  cases hfn : P.funcs[f]? with
  | none => rw [hfn] at h1; cases h1
  | some fn =>
    cases hb : fn.body with
    | none => rw [hfn] at h1; dsimp only [Option.bind_some] at h1; rw [hb] at h1; cases h1
    | some c =>
      have e1 : bodyC P f = c := by unfold bodyC; rw [hfn]; dsimp only [Option.bind_some]; rw [hb]
      have e2 : resC P f = fn.results.toList := by unfold resC; rw [hfn]
      have e3 : fn.ntmps = n := by have := Nat.eq_of_beq_eq_true h2; unfold slotsC at this; rw [hfn] at this; exact this
      subst e3
      refine FnT.of_tri hfn hb (by rw [h3, h4, h5]; rfl) ?_
      rw [e1] at h
      refine h.mono fun x d' hx => ?_
      unfold FinC at hx
      rw [e2] at hx
      cases x <;> exact hx

/- Rows of plain values. -/
def bytesC (b : ByteArray) : List Value := b.data.toList.map fun x => .int .u8 x.toNat
def strsC (l : List ByteArray) : List Value := l.map Value.string
def intsC (l : List Int) : List Value := l.map (Value.int .i64)

theorem bytesC_length (b : ByteArray) : (bytesC b).length = b.size := by unfold bytesC; simp
theorem strsC_length (l : List ByteArray) : (strsC l).length = l.length := by unfold strsC; simp
theorem intsC_length (l : List Int) : (intsC l).length = l.length := by unfold intsC; simp

theorem pl_bytes (b : ByteArray) : (bytesC b).all isScal = true := by unfold bytesC; rw [List.all_map]; exact List.all_eq_true.2 fun _ _ => rfl
theorem pl_strs (l : List ByteArray) : (strsC l).all isScal = true := by unfold strsC; simp [isScal]
theorem pl_ints (l : List Int) : (intsC l).all isScal = true := by unfold intsC; simp [isScal]
theorem pl_append {a b : List Value} (ha : a.all isScal = true) (hb : b.all isScal = true) : (a ++ b).all isScal = true := by rw [List.all_append, ha, hb]; rfl
theorem pl_cons {v : Value} {b : List Value} (ha : isScal v = true) (hb : b.all isScal = true) : (v :: b).all isScal = true := by simp [ha]; simpa using hb
theorem pl_drop {a : List Value} (ha : a.all isScal = true) (n : Nat) : (a.drop n).all isScal = true := by
  rw [List.all_eq_true] at ha ⊢
  exact fun x hx => ha x (List.mem_of_mem_drop hx)
theorem pl_take {a : List Value} (ha : a.all isScal = true) (n : Nat) : (a.take n).all isScal = true := by
  rw [List.all_eq_true] at ha ⊢
  exact fun x hx => ha x (List.mem_of_mem_take hx)
theorem pl_splice {a b : List Value} (ha : a.all isScal = true) (hb : b.all isScal = true) (n : Nat) : (splice a n b).all isScal = true := by
  unfold splice
  exact pl_append (pl_append (pl_take ha n) hb) (pl_drop ha _)
theorem pl_u8 (b : List UInt8) : (b.map fun x => Value.int .u8 (x.toNat : Int)).all isScal = true := by simp [isScal]

theorem one_of_plain {c : List Value} (h : c.all isScal = true) : c.all Value.oneCell' = true := by
  rw [List.all_eq_true] at h ⊢
  intro x hx
  have := h x hx
  cases x <;> first | rfl | cases this

theorem bytesOf_map : ∀ l : List UInt8, bytesOf (l.map fun x => Value.int .u8 (x.toNat : Int)) = some l
  | [] => rfl
  | x :: l => by
    simp only [List.map_cons, bytesOf, bytesOf_map l]
    simp
theorem bytesOf_bytesC (b : ByteArray) : bytesOf (bytesC b) = some b.data.toList := bytesOf_map _
theorem cut_all {c : List Value} {n : Nat} (h : n = c.length) : cut c 0 n = some c := by
  unfold cut
  rw [Nat.ble_eq_true_of_le (by omega)]
  simp [h]
theorem cut_bytesC (b : ByteArray) : cut (bytesC b) 0 b.size = some (bytesC b) := cut_all (bytesC_length b).symm

theorem intAt_ints {l : List Int} {i : Nat} (h : i < l.length) : intAt (intsC l) i = l[i] := by unfold intAt intsC; simp [h]
theorem isIntAt_ints {l : List Int} {i : Nat} (h : i < l.length) : isIntAt .i64 (intsC l) i = true := by unfold isIntAt intsC; simp [h]
theorem strAt_strs {l : List ByteArray} {i : Nat} (h : i < l.length) : strAt (strsC l) i = l[i] := by unfold strAt strsC; simp [h]
theorem isStrAt_strs {l : List ByteArray} {i : Nat} (h : i < l.length) : isStrAt (strsC l) i = true := by unfold isStrAt strsC; simp [h]
theorem intAt_bytes {b : ByteArray} {i : Nat} (h : i < b.size) : intAt (bytesC b) i = (b[i].toNat : Int) := by
  unfold intAt bytesC
  have : i < b.data.toList.length := by simpa using h
  simp only [List.getElem?_map, List.getElem?_eq_getElem this, Option.map_some]
  rfl
theorem isIntAt_bytes {b : ByteArray} {i : Nat} (h : i < b.size) : isIntAt .u8 (bytesC b) i = true := by
  unfold isIntAt bytesC
  have : i < b.data.toList.length := by simpa using h
  simp [List.getElem?_map, List.getElem?_eq_getElem this]
theorem strAppend (l m : List ByteArray) : strsC l ++ strsC m = strsC (l ++ m) := by unfold strsC; simp
theorem intAppend (l m : List Int) : intsC l ++ intsC m = intsC (l ++ m) := by unfold intsC; simp
theorem bytesAppend (a b : ByteArray) : bytesC a ++ bytesC b = bytesC (a ++ b) := by unfold bytesC; simp
theorem wrap_nat {x : Int} (h0 : -9223372036854775808 ≤ x) (h1 : x ≤ 9223372036854775807) : IntKind.i64.wrap x = x := by
  rw [IntKind.wrap_i64]; omega
end Go.Proofs.YtdbjloigfkckfaaGreatDoor.Vm
