/- What is said of the functions of the sort of bytes to those that call them. -/
import Derived.Test.YtnlkkgpcikkpoaaSrt
import Derived.Test.YtnlkkgpcikkpoaaCall0
namespace Go.Proofs.Ytnlkkgpcikkpoaa
open Go Vm Go.RowKit
set_option maxRecDepth 100000
def arrOf (l : List Value) : Array UInt8 := (l.map fun v => match v with | .int _ x => UInt8.ofNat x.toNat | _ => 0).toArray
@[simp] theorem arrOf_bytes (d : Array UInt8) : arrOf (bytesC (arB d)) = d := by
  unfold arrOf bytesC arB
  simp [Function.comp_def]
noncomputable def lock {α : Type} (a : α) : α := Classical.choose (⟨a, rfl⟩ : ∃ b, b = a)
theorem lock_eq {α : Type} (a : α) : lock a = a := Classical.choose_spec (⟨a, rfl⟩ : ∃ b, b = a)
noncomputable def okA (l : List Value) (P : Prop) : Bool := @decide ((∃ d : Array UInt8, l = bytesC (arB d)) ∧ P) (Classical.propDecidable _)
theorem okA_iff {l : List Value} {P : Prop} : okA l P = true ↔ (∃ d : Array UInt8, l = bytesC (arB d)) ∧ P := by unfold okA; exact @decide_eq_true_iff _ (Classical.propDecidable _)
theorem okA_arB {d : Array UInt8} {P : Prop} (h : P) : okA (bytesC (arB d)) P = true := okA_iff.2 ⟨⟨d, rfl⟩, h⟩
noncomputable def gS2 (f : Array UInt8 → Nat → Nat → Array UInt8) (pre : Nat → Nat → Nat → Prop) (a : List Value) (o : List VObj) : Option (Bool × CRes × List VObj) := match a, o with
  | [.slice (some ⟨0, 0, none⟩) n m, .int .i64 x, .int .i64 y], [.cells l el false] =>
    some (okA l (m = n ∧ el = 5 ∧ l.length = n ∧ n ≤ 10000 ∧ 0 ≤ x ∧ 0 ≤ y ∧ pre n x.toNat y.toNat), .ret (.tuple #[]), [.cells (bytesC (arB (f (arrOf l) x.toNat y.toNat))) el false])
  | _, _ => none
noncomputable def gS3 (f : Array UInt8 → Nat → Nat → Nat → Array UInt8) (pre : Nat → Nat → Nat → Nat → Prop) (a : List Value) (o : List VObj) : Option (Bool × CRes × List VObj) := match a, o with
  | [.slice (some ⟨0, 0, none⟩) n m, .int .i64 x, .int .i64 y, .int .i64 z], [.cells l el false] =>
    some (okA l (m = n ∧ el = 5 ∧ l.length = n ∧ n ≤ 10000 ∧ 0 ≤ x ∧ 0 ≤ y ∧ 0 ≤ z ∧ pre n x.toNat y.toNat z.toNat), .ret (.tuple #[]), [.cells (bytesC (arB (f (arrOf l) x.toNat y.toNat z.toNat))) el false])
  | _, _ => none
theorem gS2_ok {F : FuncId} {f : Array UInt8 → Nat → Nat → Array UInt8} {pre : Nat → Nat → Nat → Prop}
    (h : ∀ d n x y, d.size = n → n ≤ 10000 → pre n x y → FnT Try.prog F [slA n, iA x, iA y] [rowA d] fun r o => r = .ret (.tuple #[]) ∧ o = [rowA (f d x y)]) : FnOk Try.prog F (Sum.of (gS2 f pre)) := FnOk.of fun a o r o' hg => by
  unfold gS2 at hg
  split at hg
  · rename_i n m x y l el
    simp only [Option.some.injEq, Prod.mk.injEq, okA_iff] at hg
    obtain ⟨⟨⟨d, rfl⟩, rfl, rfl, hl, hn, hx, hy, hp⟩, rfl, rfl⟩ := hg
    have hd : d.size = m := by rw [← hl, bytesC_length]; rfl
    have := h d m x.toNat y.toNat hd hn hp
    rw [arrOf_bytes]
    unfold iA at this
    rw [Int.toNat_of_nonneg hx, Int.toNat_of_nonneg hy] at this
    exact this
  · cases hg
theorem gS3_ok {F : FuncId} {f : Array UInt8 → Nat → Nat → Nat → Array UInt8} {pre : Nat → Nat → Nat → Nat → Prop}
    (h : ∀ d n x y z, d.size = n → n ≤ 10000 → pre n x y z → FnT Try.prog F [slA n, iA x, iA y, iA z] [rowA d] fun r o => r = .ret (.tuple #[]) ∧ o = [rowA (f d x y z)]) : FnOk Try.prog F (Sum.of (gS3 f pre)) := FnOk.of fun a o r o' hg => by
  unfold gS3 at hg
  split at hg
  · rename_i n m x y z l el
    simp only [Option.some.injEq, Prod.mk.injEq, okA_iff] at hg
    obtain ⟨⟨⟨d, rfl⟩, rfl, rfl, hl, hn, hx, hy, hz, hp⟩, rfl, rfl⟩ := hg
    have hd : d.size = m := by rw [← hl, bytesC_length]; rfl
    have := h d m x.toNat y.toNat z.toNat hd hn hp
    rw [arrOf_bytes]
    unfold iA at this
    rw [Int.toNat_of_nonneg hx, Int.toNat_of_nonneg hy, Int.toNat_of_nonneg hz] at this
    exact this
  · cases hg
noncomputable def gSd := gS3 (fun d lo hi fs => Sort.siftDown ltB hi fs lo d) fun n lo hi fs => fs + hi ≤ n ∧ lo ≤ n
theorem sd_ok : FnOk Try.prog 47 (Sum.of gSd) := gS3_ok fun d n x y z hd hn hp => sd_fn d n x y z hd hn hp.1 hp.2
noncomputable def gIns := gS2 (fun d a z => Sort.insertionSort ltB d a z) fun n a z => z ≤ n ∧ a ≤ n
theorem ins_ok : FnOk Try.prog 36 (Sum.of gIns) := gS2_ok fun d n x y hd hn hp => ins_fn d n x y hd hn hp.1 hp.2
noncomputable def gRv := gS2 (fun d a z => Sort.reverseRange d a z) fun n a z => z ≤ n ∧ a ≤ n
theorem rv_ok : FnOk Try.prog 40 (Sum.of gRv) := gS2_ok fun d n x y hd hn hp => rv_fn d n x y hd hn hp.1 hp.2
noncomputable def tblS1 : List (FuncId × Sum) := [(47, Sum.of gSd)]
theorem callsS1 : CallsOk Try.prog (callT Try.prog (tblL tblS1) 50 40) := callT_ok plainN mixed (tblL_ok (.cons sd_ok .nil)) 50 40
end Go.Proofs.Ytnlkkgpcikkpoaa
