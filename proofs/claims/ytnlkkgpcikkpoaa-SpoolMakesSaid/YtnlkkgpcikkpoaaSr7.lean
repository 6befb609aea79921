/- What is said of Sort, Index, Compact, has and unlike, on bytes, to those that call them. -/
import Derived.Test.YtnlkkgpcikkpoaaSou
import Derived.Test.YtnlkkgpcikkpoaaSr5
import Derived.KernelRfl
namespace Go.Proofs.Ytnlkkgpcikkpoaa
open Go Vm Go.RowKit
set_option maxRecDepth 100000
theorem so_fn (d : Array UInt8) (n : Nat) (hd : d.size = n) (hn : n ≤ 10000) :
    FnT Try.prog 31 [slA n] [rowA d] fun r o => r = .ret (.tuple #[]) ∧ o = [rowA (Sort.sort ltB d)] := by
  have hsz : n ≤ (arB d).size := by rw [arB_size]; omega
  have ew : IntKind.wrap IntKind.u64 (n : Int) = n := by rw [wrapU64]; omega
  refine FnT.ofT (n := slotsC Try.prog 31) (by kernel_rfl) ?_
  apply so_a (arB d) n (n + 1) hsz ew
  case n0 => rw [ew]; exact few16_iff.2 ⟨by omega, by omega⟩
  case n1 => exact okA_arB ⟨rfl, rfl, by rw [bytesC_length]; exact hd, hn, rfl, rfl, by omega, by rw [lock_eq, ew, Int.toNat_natCast]⟩
  case l2 =>
    repeat (first | with_reducible refine QL.ret ?_ | with_reducible refine QL.exit ?_ | with_reducible refine QB.ret ?_ | with_reducible refine QB.hit ?_ | with_reducible refine QB.normal ?_ | with_reducible refine QB.miss (by rfl) ?_)
    refine so_a_r0 (arB d) n (n + 1) ?_
    rw [arrOf_bytes, lock_eq]
    exact ⟨rfl, rfl⟩
noncomputable def gSo (a : List Value) (o : List VObj) : Option (Bool × CRes × List VObj) := match a, o with
  | [.slice (some ⟨0, 0, none⟩) n m], [.cells l el false] => some (okA l (m = n ∧ el = 5 ∧ l.length = n ∧ n ≤ 10000), .ret (.tuple #[]), [.cells (bytesC (arB (lock (Sort.sort ltB (arrOf l))))) el false])
  | _, _ => none
theorem so_ok : FnOk Try.prog 31 (Sum.of gSo) := FnOk.of fun a o r o' hg => by
  unfold gSo at hg
  split at hg
  · rename_i n m l el
    simp only [Option.some.injEq, Prod.mk.injEq, okA_iff] at hg
    obtain ⟨⟨⟨d, rfl⟩, rfl, rfl, hl, hn⟩, rfl, rfl⟩ := hg
    have hd : d.size = m := by rw [← hl, bytesC_length]; rfl
    rw [arrOf_bytes, lock_eq]
    exact so_fn d m hd hn
  · cases hg
noncomputable def gIx (a : List Value) (o : List VObj) : Option (Bool × CRes × List VObj) := match a, o with
  | [.slice (some ⟨0, 0, none⟩) n m, .int .u8 v], [.cells l el ro] => some (okA l (m = n ∧ el = 5 ∧ l.length = n ∧ n ≤ 10000), .ret (.int .i64 (lock (idxF (arrOf l) v 0))), [.cells l el ro])
  | _, _ => none
theorem ix_ok : FnOk Try.prog 33 (Sum.of gIx) := FnOk.of fun a o r o' hg => by
  unfold gIx at hg
  split at hg
  · rename_i n m v l el ro
    simp only [Option.some.injEq, Prod.mk.injEq, okA_iff] at hg
    obtain ⟨⟨⟨d, rfl⟩, rfl, rfl, hl, hn⟩, rfl, rfl⟩ := hg
    have hd : d.size = m := by rw [← hl, bytesC_length]; rfl
    rw [arrOf_bytes, lock_eq]
    exact ix_fn d m v hd hn ro
  · cases hg
noncomputable def gHs (a : List Value) (o : List VObj) : Option (Bool × CRes × List VObj) := match a, o with
  | [.slice (some ⟨0, 0, none⟩) n m, .int .u8 v], [.cells l el ro] => some (okA l (m = n ∧ el = 5 ∧ l.length = n ∧ n ≤ 10000), .ret (.bool (hasA (arrOf l) v)), [.cells l el ro])
  | _, _ => none
theorem hs_ok : FnOk Try.prog 22 (Sum.of gHs) := FnOk.of fun a o r o' hg => by
  unfold gHs at hg
  split at hg
  · rename_i n m v l el ro
    simp only [Option.some.injEq, Prod.mk.injEq, okA_iff] at hg
    obtain ⟨⟨⟨d, rfl⟩, rfl, rfl, hl, hn⟩, rfl, rfl⟩ := hg
    have hd : d.size = m := by rw [← hl, bytesC_length]; rfl
    rw [arrOf_bytes]
    exact hs_fn d m v hd hn ro
  · cases hg
noncomputable def gUn (a : List Value) (o : List VObj) : Option (Bool × CRes × List VObj) := match a, o with
  | [.slice (some ⟨0, 0, none⟩) n m], [.cells l el ro] => some (okA l (m = n ∧ el = 5 ∧ l.length = n ∧ n ≤ 10000), .ret (.bool (unl (arrOf l))), [.cells l el ro])
  | _, _ => none
theorem un_ok : FnOk Try.prog 23 (Sum.of gUn) := FnOk.of fun a o r o' hg => by
  unfold gUn at hg
  split at hg
  · rename_i n m l el ro
    simp only [Option.some.injEq, Prod.mk.injEq, okA_iff] at hg
    obtain ⟨⟨⟨d, rfl⟩, rfl, rfl, hl, hn⟩, rfl, rfl⟩ := hg
    have hd : d.size = m := by rw [← hl, bytesC_length]; rfl
    rw [arrOf_bytes]
    exact un_fn d m hd hn ro
  · cases hg
noncomputable def gCo (a : List Value) (o : List VObj) : Option (Bool × CRes × List VObj) := match a, o with
  | [.slice (some ⟨0, 0, none⟩) n m], [.cells l el false] => some (okA l (m = n ∧ el = 5 ∧ l.length = n ∧ n ≤ 10000), .ret (.slice (some ⟨0, 0, none⟩) (lock (cpt (arrOf l))).1 n), [.cells (lock (cpt (arrOf l))).2 el false])
  | _, _ => none
theorem co_ok : FnOk Try.prog 32 (Sum.of gCo) := FnOk.of fun a o r o' hg => by
  unfold gCo at hg
  split at hg
  · rename_i n m l el
    simp only [Option.some.injEq, Prod.mk.injEq, okA_iff] at hg
    obtain ⟨⟨⟨d, rfl⟩, rfl, rfl, hl, hn⟩, rfl, rfl⟩ := hg
    have hd : d.size = m := by rw [← hl, bytesC_length]; rfl
    rw [arrOf_bytes, lock_eq]
    exact co_fn d m hd hn
  · cases hg
noncomputable def tblP : List (FuncId × Sum) := [(31, Sum.of gSo), (33, Sum.of gIx), (32, Sum.of gCo), (22, Sum.of gHs), (23, Sum.of gUn)]
theorem callsP : CallsOk Try.prog (callT Try.prog (tblL tblP) 50 40) := callT_ok plainN mixed (tblL_ok (.cons so_ok (.cons ix_ok (.cons co_ok (.cons hs_ok (.cons un_ok .nil)))))) 50 40
end Go.Proofs.Ytnlkkgpcikkpoaa
