/- The sort of bytes: the medians, the next power of two. -/
import Derived.Test.YtnlkkgpcikkpoaaSry
import Derived.Test.YtnlkkgpcikkpoaaSof
import Derived.Sort.LotD4
import Derived.KernelRfl
namespace Go.Proofs.Ytnlkkgpcikkpoaa
open Go Vm Go.RowKit
set_option maxRecDepth 100000
theorem order2_lt {d : Array UInt8} {a b n s : Nat} (ha : a < n) (hb : b < n) : (Sort.order2 ltB d a b s).1 < n ∧ (Sort.order2 ltB d a b s).2.1 < n ∧ (Sort.order2 ltB d a b s).2.2 ≤ s + 1 := by
  unfold Sort.order2; split <;> exact ⟨by assumption, by assumption, by simp⟩
theorem md_fn (d : Array UInt8) (n a z c s : Nat) (hd : d.size = n) (hn : n ≤ 10000) (ha : a < n) (hz : z < n) (hc : c < n) (hs : s ≤ 90) :
    FnT Try.prog 51 [slA n, iA a, iA z, iA c, pt1] [rowA d, swA s] fun r o => r = .ret (iA (Sort.median ltB d a z c s).1) ∧ o = [rowA d, swA (Sort.median ltB d a z c s).2] := by
  refine FnT.ofT (n := slotsC Try.prog 51) (by kernel_rfl) ?_
  have hsz : n ≤ (arB d).size := by rw [arB_size]; omega
  have hl : (bytesC (arB d)).length = n := by rw [bytesC_length]; exact hd
  have k1 := order2_lt (d := d) (s := s) ha hz
  have k2 := order2_lt (d := d) (s := (Sort.order2 ltB d a z s).2.2) k1.2.1 hc
  have k3 := order2_lt (d := d) (s := (Sort.order2 ltB d (Sort.order2 ltB d a z s).2.1 c (Sort.order2 ltB d a z s).2.2).2.2) k1.1 k2.1
  apply md (arB d) n a z c s hsz
  case n0 => exact okA_arB ⟨rfl, rfl, rfl, hl, hn, by omega, by omega, by omega, by omega, by omega, by omega⟩
  case n1 => simp only [arrOf_bytes, Int.toNat_natCast, true_and]; exact okA_arB ⟨hl, hn, by omega, by omega, by omega, by omega, by omega, by omega⟩
  case n2 => simp only [arrOf_bytes, Int.toNat_natCast, true_and]; exact okA_arB ⟨hl, hn, by omega, by omega, by omega, by omega, by omega, by omega⟩
  case pl0 => simp
  case l4 =>
    refine md_r0 (arB d) n a z c s (by simp) ?_
    simp only [arrOf_bytes, Int.toNat_natCast]
    exact ⟨rfl, rfl⟩
theorem median_lt {d : Array UInt8} {a b c n s : Nat} (ha : a < n) (hb : b < n) (hc : c < n) : (Sort.median ltB d a b c s).1 < n ∧ (Sort.median ltB d a b c s).2 ≤ s + 3 := by
  refine ⟨?_, Sort.median_count ltB d a b c s⟩
  rcases Sort.median_mem ltB d a b c s with h | h | h <;> rw [h] <;> assumption
noncomputable def gMd (a : List Value) (o : List VObj) : Option (Bool × CRes × List VObj) := match a, o with
  | [.slice (some ⟨0, 0, none⟩) n m, .int .i64 x, .int .i64 y, .int .i64 z, .pointer (some ⟨1, 0, none⟩)], [.cells l el false, .cells [.int .i64 s] el2 false] =>
    some (okA l (m = n ∧ el = 5 ∧ el2 = 3 ∧ l.length = n ∧ n ≤ 10000 ∧ 0 ≤ x ∧ 0 ≤ y ∧ 0 ≤ z ∧ 0 ≤ s ∧ s ≤ 90 ∧ x < n ∧ y < n ∧ z < n),
      .ret (.int .i64 ((lock (Sort.median ltB (arrOf l) x.toNat y.toNat z.toNat s.toNat)).1 : Int)), [.cells l el false, .cells [.int .i64 ((lock (Sort.median ltB (arrOf l) x.toNat y.toNat z.toNat s.toNat)).2 : Int)] el2 false])
  | _, _ => none
theorem md_ok : FnOk Try.prog 51 (Sum.of gMd) := FnOk.of fun a o r o' hg => by
  unfold gMd at hg
  split at hg
  · rename_i n m x y z l el s el2
    simp only [Option.some.injEq, Prod.mk.injEq, okA_iff] at hg
    obtain ⟨⟨⟨d, rfl⟩, rfl, rfl, rfl, hl, hn, hx, hy, hz, h0, hs, hxn, hyn, hzn⟩, rfl, rfl⟩ := hg
    have hd : d.size = m := by rw [← hl, bytesC_length]; rfl
    have := md_fn d m x.toNat y.toNat z.toNat s.toNat hd hn (by omega) (by omega) (by omega) (by omega)
    rw [arrOf_bytes, lock_eq]
    unfold iA swA at this
    rw [Int.toNat_of_nonneg hx, Int.toNat_of_nonneg hy, Int.toNat_of_nonneg hz, Int.toNat_of_nonneg h0] at this
    exact this
  · cases hg
theorem np_fn (x : Nat) (h : x < 65536) : FnT Try.prog 48 [iA x] [] fun r o => r = .ret (.int .u64 ((2 ^ Sort.bitsLen x : Nat) : Int)) ∧ o = [] := by
  refine FnT.ofT (n := slotsC Try.prog 48) (by kernel_rfl) ?_
  have ew : IntKind.wrap IntKind.u64 (x : Int) = x := by rw [wrapU64]; omega
  apply np x (by omega) (by omega) ew
  have hb : Sort.bitsLen x ≤ 16 := (Sort.bitsLen_le_iff x 16).2 (by omega)
  have e : np_d0 x = ⟨[(2, .int .u64 ((2 ^ Sort.bitsLen x : Nat) : Int))], []⟩ := by
    have hp : 2 ^ Sort.bitsLen x ≤ 2 ^ 16 := Nat.pow_le_pow_right (by decide) hb
    unfold np_d0
    rw [ew, Int.toNat_natCast, Int.toNat_natCast, Nat.min_eq_left (by omega), Int.one_mul, wrapU64]
    have e2 : ((2 : Int) ^ Sort.bitsLen x) = ((2 ^ Sort.bitsLen x : Nat) : Int) := by simp
    rw [e2]
    generalize 2 ^ Sort.bitsLen x = P at hp
    rw [show (P : Int) % 18446744073709551616 = P by omega]
  rw [e]
  exact FinT.ret (vs := [.int .u64 ((2 ^ Sort.bitsLen x : Nat) : Int)]) (l := []) (bs := []) (pl := []) (q := []) (r' := .ret (.int .u64 ((2 ^ Sort.bitsLen x : Nat) : Int))) (o' := []) (fun u => by kernel_rfl) (by kernel_rfl) pls_nil ⟨rfl, rfl⟩
noncomputable def gNp (a : List Value) (o : List VObj) : Option (Bool × CRes × List VObj) := match a, o with
  | [.int .i64 x], [] => some (decide (0 ≤ x ∧ x < 65536), .ret (.int .u64 ((2 ^ Sort.bitsLen x.toNat : Nat) : Int)), [])
  | _, _ => none
theorem np_ok : FnOk Try.prog 48 (Sum.of gNp) := FnOk.of fun a o r o' hg => by
  unfold gNp at hg
  split at hg
  · rename_i x
    simp only [Option.some.injEq, Prod.mk.injEq, decide_eq_true_eq] at hg
    obtain ⟨⟨h0, h1⟩, rfl, rfl⟩ := hg
    have := np_fn x.toNat (by omega)
    unfold iA at this
    rw [Int.toNat_of_nonneg h0] at this
    exact this
  · cases hg
noncomputable def tblS3 : List (FuncId × Sum) := [(51, Sum.of gMd), (48, Sum.of gNp), (49, Sum.of gXs), (46, Sum.of gB6)]
theorem tblS3_ok : TblOk Try.prog tblS3 := .cons md_ok (.cons np_ok (.cons xs_ok (.cons b6_ok .nil)))
theorem callsS3 : CallsOk Try.prog (callT Try.prog (tblL tblS3) 50 40) := callT_ok plainN mixed (tblL_ok tblS3_ok) 50 40
end Go.Proofs.Ytnlkkgpcikkpoaa
