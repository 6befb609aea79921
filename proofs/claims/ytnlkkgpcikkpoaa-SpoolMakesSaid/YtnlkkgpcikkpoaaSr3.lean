/- What is said of the functions of the sort of bytes to pdqsort, and of pdqsort itself on shorter rows. -/
import Derived.Test.YtnlkkgpcikkpoaaSrv
import Derived.Test.YtnlkkgpcikkpoaaSrw
import Derived.Test.YtnlkkgpcikkpoaaSrx
import Derived.Test.YtnlkkgpcikkpoaaSr2
import Derived.Sort.LotD3
import Derived.KernelRfl
namespace Go.Proofs.Ytnlkkgpcikkpoaa
open Go Vm Go.RowKit
set_option maxRecDepth 100000
noncomputable def gHp := gS2 (fun d a z => Sort.heapSort ltB d a z) fun n a z => z ≤ n ∧ a ≤ z
theorem hp_ok : FnOk Try.prog 37 (Sum.of gHp) := gS2_ok fun d n x y hd hn hp => hp_fn d n x y hd hn hp.1 hp.2
noncomputable def gCp (a : List Value) (o : List VObj) : Option (Bool × CRes × List VObj) := match a, o with
  | [.slice (some ⟨0, 0, none⟩) n m, .int .i64 x, .int .i64 y], [.cells l el false] =>
    some (okA l (m = n ∧ el = 5 ∧ l.length = n ∧ n ≤ 10000 ∧ 0 ≤ x ∧ 0 ≤ y ∧ y ≤ n ∧ x + 12 < y), .ret (.tuple #[.int .i64 ((lock (Sort.choosePivot ltB (arrOf l) x.toNat y.toNat)).1 : Int), .int .i64 (hintI (lock (Sort.choosePivot ltB (arrOf l) x.toNat y.toNat)).2)]), [.cells l el false])
  | _, _ => none
theorem cp_ok : FnOk Try.prog 39 (Sum.of gCp) := FnOk.of fun a o r o' hg => by
  unfold gCp at hg
  split at hg
  · rename_i n m x y l el
    simp only [Option.some.injEq, Prod.mk.injEq, okA_iff] at hg
    obtain ⟨⟨⟨d, rfl⟩, rfl, rfl, hl, hn, hx, hy, h1, h2⟩, rfl, rfl⟩ := hg
    have hd : d.size = m := by rw [← hl, bytesC_length]; rfl
    have := cp_fn d m x.toNat y.toNat hd hn (by omega) (by omega)
    rw [arrOf_bytes, lock_eq]
    unfold iA at this
    rw [Int.toNat_of_nonneg hx, Int.toNat_of_nonneg hy] at this
    exact this
  · cases hg
noncomputable def gPi (a : List Value) (o : List VObj) : Option (Bool × CRes × List VObj) := match a, o with
  | [.slice (some ⟨0, 0, none⟩) n m, .int .i64 x, .int .i64 y], [.cells l el false] =>
    some (okA l (m = n ∧ el = 5 ∧ l.length = n ∧ n ≤ 10000 ∧ 0 ≤ x ∧ 0 ≤ y ∧ y ≤ n ∧ x < y), .ret (.bool (lock (Sort.partialInsertionSort ltB (arrOf l) x.toNat y.toNat)).2), [.cells (bytesC (arB (lock (Sort.partialInsertionSort ltB (arrOf l) x.toNat y.toNat)).1)) el false])
  | _, _ => none
theorem pi_ok : FnOk Try.prog 41 (Sum.of gPi) := FnOk.of fun a o r o' hg => by
  unfold gPi at hg
  split at hg
  · rename_i n m x y l el
    simp only [Option.some.injEq, Prod.mk.injEq, okA_iff] at hg
    obtain ⟨⟨⟨d, rfl⟩, rfl, rfl, hl, hn, hx, hy, h1, h2⟩, rfl, rfl⟩ := hg
    have hd : d.size = m := by rw [← hl, bytesC_length]; rfl
    have := pi_fn d m x.toNat y.toNat hd hn (by omega) (by omega)
    rw [arrOf_bytes, lock_eq]
    unfold iA at this
    rw [Int.toNat_of_nonneg hx, Int.toNat_of_nonneg hy] at this
    exact this
  · cases hg
noncomputable def gPe (a : List Value) (o : List VObj) : Option (Bool × CRes × List VObj) := match a, o with
  | [.slice (some ⟨0, 0, none⟩) n m, .int .i64 x, .int .i64 y, .int .i64 p], [.cells l el false] =>
    some (okA l (m = n ∧ el = 5 ∧ l.length = n ∧ n ≤ 10000 ∧ 0 ≤ x ∧ 0 ≤ y ∧ 0 ≤ p ∧ y ≤ n ∧ x < y ∧ p < y), .ret (.int .i64 ((lock (Sort.partitionEqual ltB (arrOf l) x.toNat y.toNat p.toNat)).1 : Int)), [.cells (bytesC (arB (lock (Sort.partitionEqual ltB (arrOf l) x.toNat y.toNat p.toNat)).2)) el false])
  | _, _ => none
theorem pe_ok : FnOk Try.prog 43 (Sum.of gPe) := FnOk.of fun a o r o' hg => by
  unfold gPe at hg
  split at hg
  · rename_i n m x y p l el
    simp only [Option.some.injEq, Prod.mk.injEq, okA_iff] at hg
    obtain ⟨⟨⟨d, rfl⟩, rfl, rfl, hl, hn, hx, hy, hp, h1, h2, h3⟩, rfl, rfl⟩ := hg
    have hd : d.size = m := by rw [← hl, bytesC_length]; rfl
    have := pe_fn d m x.toNat y.toNat p.toNat hd hn (by omega) (by omega) (by omega)
    rw [arrOf_bytes, lock_eq]
    unfold iA at this
    rw [Int.toNat_of_nonneg hx, Int.toNat_of_nonneg hy, Int.toNat_of_nonneg hp] at this
    exact this
  · cases hg
noncomputable def gPt (a : List Value) (o : List VObj) : Option (Bool × CRes × List VObj) := match a, o with
  | [.slice (some ⟨0, 0, none⟩) n m, .int .i64 x, .int .i64 y, .int .i64 p], [.cells l el false] =>
    some (okA l (m = n ∧ el = 5 ∧ l.length = n ∧ n ≤ 10000 ∧ 0 ≤ x ∧ 0 ≤ y ∧ 0 ≤ p ∧ y ≤ n ∧ x < y ∧ p < y), .ret (.tuple #[.int .i64 ((lock (Sort.partition ltB (arrOf l) x.toNat y.toNat p.toNat)).1 : Int), .bool (lock (Sort.partition ltB (arrOf l) x.toNat y.toNat p.toNat)).2.1]), [.cells (bytesC (arB (lock (Sort.partition ltB (arrOf l) x.toNat y.toNat p.toNat)).2.2)) el false])
  | _, _ => none
theorem pt_ok : FnOk Try.prog 44 (Sum.of gPt) := FnOk.of fun a o r o' hg => by
  unfold gPt at hg
  split at hg
  · rename_i n m x y p l el
    simp only [Option.some.injEq, Prod.mk.injEq, okA_iff] at hg
    obtain ⟨⟨⟨d, rfl⟩, rfl, rfl, hl, hn, hx, hy, hp, h1, h2, h3⟩, rfl, rfl⟩ := hg
    have hd : d.size = m := by rw [← hl, bytesC_length]; rfl
    have := pt_fn d m x.toNat y.toNat p.toNat hd hn (by omega) (by omega) (by omega)
    rw [arrOf_bytes, lock_eq]
    unfold iA at this
    rw [Int.toNat_of_nonneg hx, Int.toNat_of_nonneg hy, Int.toNat_of_nonneg hp] at this
    exact this
  · cases hg
noncomputable def gPq (N : Nat) (a : List Value) (o : List VObj) : Option (Bool × CRes × List VObj) := match a, o with
  | [.slice (some ⟨0, 0, none⟩) n m, .int .i64 x, .int .i64 y, .int .i64 z], [.cells l el false] =>
    some (okA l (m = n ∧ el = 5 ∧ l.length = n ∧ n ≤ 10000 ∧ 0 ≤ x ∧ 0 ≤ y ∧ 0 ≤ z ∧ y ≤ n ∧ x ≤ y ∧ y - x < N ∧ z ≤ 100 ∧ Go.Sort.Below ltB x.toNat y.toNat (arrOf l)), .ret (.tuple #[]), [.cells (bytesC (arB (Sort.pdq ltB (arrOf l) x.toNat y.toNat z.toNat true true))) el false])
  | _, _ => none
theorem pq_ok_of (N : Nat) (h : ∀ (d : Array UInt8) (n a z q : Nat), d.size = n → n ≤ 10000 → z ≤ n → a ≤ z → z - a < N → q ≤ 100 → Go.Sort.Below ltB a z d →
    FnT Try.prog 34 [slA n, iA a, iA z, iA q] [rowA d] fun r o => r = .ret (.tuple #[]) ∧ o = [rowA (Sort.pdq ltB d a z q true true)]) : FnOk Try.prog 34 (Sum.of (gPq N)) := FnOk.of fun a o r o' hg => by
  unfold gPq at hg
  split at hg
  · rename_i n m x y z l el
    simp only [Option.some.injEq, Prod.mk.injEq, okA_iff] at hg
    obtain ⟨⟨⟨d, rfl⟩, rfl, rfl, hl, hn, hx, hy, hz, h1, h2, h3, h4, hB⟩, rfl, rfl⟩ := hg
    have hd : d.size = m := by rw [← hl, bytesC_length]; rfl
    rw [arrOf_bytes] at hB
    have := h d m x.toNat y.toNat z.toNat hd hn (by omega) (by omega) (by omega) (by omega) hB
    rw [arrOf_bytes]
    unfold iA at this
    rw [Int.toNat_of_nonneg hx, Int.toNat_of_nonneg hy, Int.toNat_of_nonneg hz] at this
    exact this
  · cases hg
noncomputable def tblQ (N : Nat) : List (FuncId × Sum) := [(36, Sum.of gIns), (37, Sum.of gHp), (38, Sum.of gBp), (39, Sum.of gCp),
  (40, Sum.of gRv), (41, Sum.of gPi), (43, Sum.of gPe), (44, Sum.of gPt), (34, Sum.of (gPq N))]
theorem callsQ (N : Nat) (h : FnOk Try.prog 34 (Sum.of (gPq N))) : CallsOk Try.prog (callT Try.prog (tblL (tblQ N)) 50 40) :=
  callT_ok plainN mixed (tblL_ok (.cons ins_ok (.cons hp_ok (.cons bp_ok (.cons cp_ok (.cons rv_ok (.cons pi_ok (.cons pe_ok (.cons pt_ok (.cons h .nil)))))))))) 50 40
end Go.Proofs.Ytnlkkgpcikkpoaa
