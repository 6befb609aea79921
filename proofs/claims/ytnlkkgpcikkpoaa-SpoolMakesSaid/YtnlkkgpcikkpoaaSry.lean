/- The sort of bytes: what finds a pivot, the random numbers, the length in bits. -/
import Derived.Test.YtnlkkgpcikkpoaaSru
import Derived.Test.YtnlkkgpcikkpoaaSoe
import Derived.Sort.LotD5
import Derived.KernelRfl
namespace Go.Proofs.Ytnlkkgpcikkpoaa
open Go Vm Go.RowKit
set_option maxRecDepth 100000
theorem fin0 {f n : Nat} {v : Value} {Q : CRes → List VObj → Prop} (h : Q (.ret v) []) : True := trivial
abbrev swA (s : Nat) : VObj := .cells [.int .i64 (s : Int)] 3 false
abbrev pt1 : Value := .pointer (some ⟨1, 0, none⟩)
theorem o2_fn (d : Array UInt8) (n a z s : Nat) (hd : d.size = n) (hn : n ≤ 10000) (ha : a < n) (hz : z < n) (hs : s ≤ 100) :
    FnT Try.prog 53 [slA n, iA a, iA z, pt1] [rowA d, swA s] fun r o => r = .ret (.tuple #[iA (Sort.order2 ltB d a z s).1, iA (Sort.order2 ltB d a z s).2.1]) ∧ o = [rowA d, swA (Sort.order2 ltB d a z s).2.2] := by
  refine FnT.ofT (n := slotsC Try.prog 53) (by kernel_rfl) ?_
  have hsz : n ≤ (arB d).size := by rw [arB_size]; omega
  apply o2 (arB d) n a z s hsz (by omega) (by omega) (by omega) (by omega) (w64 (by omega) (by omega))
  case n0 => rw [atN]; exact ia_arB (by omega)
  case n1 => rw [atN]; exact ia_arB (by omega)
  case pl0 => simp
  case l3 =>
    intro g
    rw [lt_arB atN atN (by omega) (by omega)] at g
    refine o2_r0 (arB d) n a z s (by simp) ?_
    unfold Sort.order2
    rw [if_pos g, iA_add1 (by omega)]
    exact ⟨rfl, rfl⟩
  case l4 =>
    intro g
    rw [lt_arB atN atN (by omega) (by omega)] at g
    refine o2_r1 (arB d) n a z s (by simp) ?_
    unfold Sort.order2
    rw [if_neg (by rw [g]; simp)]
    exact ⟨rfl, rfl⟩
noncomputable def gO2 (a : List Value) (o : List VObj) : Option (Bool × CRes × List VObj) := match a, o with
  | [.slice (some ⟨0, 0, none⟩) n m, .int .i64 x, .int .i64 y, .pointer (some ⟨1, 0, none⟩)], [.cells l el false, .cells [.int .i64 s] el2 false] =>
    some (okA l (m = n ∧ el = 5 ∧ el2 = 3 ∧ l.length = n ∧ n ≤ 10000 ∧ 0 ≤ x ∧ 0 ≤ y ∧ 0 ≤ s ∧ s ≤ 100 ∧ x < n ∧ y < n),
      .ret (.tuple #[iA (Sort.order2 ltB (arrOf l) x.toNat y.toNat s.toNat).1, iA (Sort.order2 ltB (arrOf l) x.toNat y.toNat s.toNat).2.1]), [.cells l el false, .cells [.int .i64 ((Sort.order2 ltB (arrOf l) x.toNat y.toNat s.toNat).2.2 : Int)] el2 false])
  | _, _ => none
theorem o2_ok : FnOk Try.prog 53 (Sum.of gO2) := FnOk.of fun a o r o' hg => by
  unfold gO2 at hg
  split at hg
  · rename_i n m x y l el s el2
    simp only [Option.some.injEq, Prod.mk.injEq, okA_iff] at hg
    obtain ⟨⟨⟨d, rfl⟩, rfl, rfl, rfl, hl, hn, hx, hy, h0, hs, hxn, hyn⟩, rfl, rfl⟩ := hg
    have hd : d.size = m := by rw [← hl, bytesC_length]; rfl
    have := o2_fn d m x.toNat y.toNat s.toNat hd hn (by omega) (by omega) (by omega)
    rw [arrOf_bytes]
    unfold iA swA at this
    rw [Int.toNat_of_nonneg hx, Int.toNat_of_nonneg hy, Int.toNat_of_nonneg h0] at this
    exact this
  · cases hg
theorem wrapU64 (y : Int) : IntKind.wrap IntKind.u64 y = y % 18446744073709551616 := rfl
theorem xor64 {m k : Nat} (hm : m < 18446744073709551616) (hk : k < 18446744073709551616) : IntKind.wrap IntKind.u64 ((BitVec.toNat (BitVec.ofInt 64 (m : Int) ^^^ BitVec.ofInt 64 (k : Int)) : Nat) : Int) = ((m ^^^ k : Nat) : Int) := by
  have e : BitVec.toNat (BitVec.ofInt 64 (m : Int) ^^^ BitVec.ofInt 64 (k : Int)) = m ^^^ k := by
    rw [BitVec.toNat_xor]
    congr 1 <;> (rw [BitVec.ofInt_natCast, BitVec.toNat_ofNat]; exact Nat.mod_eq_of_lt (by omega))
  have hx : m ^^^ k < 2 ^ 64 := Nat.xor_lt_two_pow (by omega) (by omega)
  rw [e, wrapU64]; omega
theorem mul64 {m k : Nat} : IntKind.wrap IntKind.u64 ((m : Int) * (k : Int)) = ((m * k % 18446744073709551616 : Nat) : Int) := by
  rw [wrapU64, ← Int.natCast_mul]; generalize m * k = p; omega
theorem xs_val (m : Nat) (hm : m < 18446744073709551616) : xs_d0 m = ⟨[(2, .int .u64 (Sort.xorNextN m : Int))], [.cells [.int .u64 (Sort.xorNextN m : Int)] 112 false]⟩ := by
  have p64 : (18446744073709551616 : Nat) = 2 ^ 64 := by decide
  have h1 : IntKind.wrap IntKind.u64 ((m : Int) * 8192) = ((m * 8192 % 18446744073709551616 : Nat) : Int) := mul64 (k := 8192)
  have hA : m ^^^ (m * 8192 % 18446744073709551616) < 18446744073709551616 := by rw [p64]; exact Nat.xor_lt_two_pow (by omega) (by omega)
  have h2 := xor64 hm (show m * 8192 % 18446744073709551616 < 18446744073709551616 by omega)
  generalize hAe : m ^^^ (m * 8192 % 18446744073709551616) = A at *
  have h3 : Int.fdiv (A : Int) 128 = ((A / 128 : Nat) : Int) := by rw [Int.fdiv_eq_ediv_of_nonneg _ (by decide)]; rfl
  have h4 := xor64 hA (show A / 128 < 18446744073709551616 by omega)
  have hB : A ^^^ (A / 128) < 18446744073709551616 := by rw [p64]; exact Nat.xor_lt_two_pow (by omega) (by omega)
  generalize hBe : A ^^^ (A / 128) = B at *
  have h5 : IntKind.wrap IntKind.u64 ((B : Int) * 131072) = ((B * 131072 % 18446744073709551616 : Nat) : Int) := mul64 (k := 131072)
  have h6 := xor64 hB (show B * 131072 % 18446744073709551616 < 18446744073709551616 by omega)
  unfold xs_d0
  simp only [h1, h2, h3, h4, h5, h6]
  unfold Sort.xorNextN
  simp only [hAe, hBe]
theorem xs_fn (m : Nat) (hm : m < 18446744073709551616) : FnT Try.prog 49 [.pointer (some ⟨0, 0, none⟩)] [.cells [.int .u64 (m : Int)] 112 false]
    fun r o => r = .ret (.int .u64 (Sort.xorNextN m : Int)) ∧ o = [.cells [.int .u64 (Sort.xorNextN m : Int)] 112 false] := by
  refine FnT.ofT (n := slotsC Try.prog 49) (by kernel_rfl) ?_
  apply xs m
  · rw [xs_val m hm]
    refine FinT.ret (vs := [.int .u64 (Sort.xorNextN m : Int)]) (l := []) (bs := [0]) (pl := [0]) (q := [[.int .u64 (Sort.xorNextN m : Int)]]) (r' := .ret (.int .u64 (Sort.xorNextN m : Int))) (o' := [.cells [.int .u64 (Sort.xorNextN m : Int)] 112 false]) (fun u => by kernel_rfl) (by kernel_rfl) (pls_cons (by rfl) pls_nil) ⟨rfl, rfl⟩
noncomputable def gXs (a : List Value) (o : List VObj) : Option (Bool × CRes × List VObj) := match a, o with
  | [.pointer (some ⟨0, 0, none⟩)], [.cells [.int .u64 x] el false] =>
    some (decide (0 ≤ x ∧ x < 18446744073709551616 ∧ el = 112), .ret (.int .u64 (Sort.xorNextN x.toNat : Int)), [.cells [.int .u64 (Sort.xorNextN x.toNat : Int)] el false])
  | _, _ => none
theorem xs_ok : FnOk Try.prog 49 (Sum.of gXs) := FnOk.of fun a o r o' hg => by
  unfold gXs at hg
  split at hg
  · rename_i x el
    simp only [Option.some.injEq, Prod.mk.injEq, decide_eq_true_eq] at hg
    obtain ⟨⟨h0, h1, rfl⟩, rfl, rfl⟩ := hg
    have := xs_fn x.toNat (by omega)
    rw [Int.toNat_of_nonneg h0] at this
    exact this
  · cases hg
theorem bitsLen_256 (x : Nat) (h : 256 ≤ x) : Sort.bitsLen x = 8 + Sort.bitsLen (x / 256) := by
  apply Nat.le_antisymm
  · rw [Sort.bitsLen_le_iff, Nat.pow_add]
    have := Sort.lt_two_pow_bitsLen (x / 256)
    generalize 2 ^ Sort.bitsLen (x / 256) = P at this
    omega
  · have h8 : 8 ≤ Sort.bitsLen x := by
      rcases Nat.lt_or_ge (Sort.bitsLen x) 8 with g | g
      · have := (Sort.bitsLen_le_iff x 7).1 (by omega); omega
      · exact g
    have : Sort.bitsLen (x / 256) ≤ Sort.bitsLen x - 8 := by
      rw [Sort.bitsLen_le_iff]
      have := Sort.lt_two_pow_bitsLen x
      rw [show Sort.bitsLen x = (Sort.bitsLen x - 8) + 8 by omega, Nat.pow_add] at this
      generalize 2 ^ (Sort.bitsLen x - 8) = P at this ⊢
      omega
    omega
def okL (d : Desc) (k : Nat) : Bool := match d.sl, d.objs with
  | [(2, .int .i64 v)], [] => v == (k : Int)
  | _, _ => false
theorem okL_all : ((List.range 256).all fun x => okL (b6a_d0 x) (Sort.bitsLen x)) = true := by kernel_rfl
theorem b6a_val (x : Nat) (h : x < 256) : b6a_d0 x = ⟨[(2, iA (Sort.bitsLen x))], []⟩ := by
  have := List.all_eq_true.1 okL_all x (List.mem_range.2 h)
  unfold okL at this
  have e := eq_of_beq this
  unfold b6a_d0
  rw [e]
theorem okL_all2 : ((List.range 256).all fun x => okL (b6b_d0 (x * 256 : Nat)) (8 + Sort.bitsLen x)) = true := by kernel_rfl
theorem b6b_val (x : Nat) (h : 256 ≤ x) (h1 : x < 65536) : b6b_d0 x = ⟨[(2, iA (Sort.bitsLen x))], []⟩ := by
  have := List.all_eq_true.1 okL_all2 (x / 256) (List.mem_range.2 (by omega))
  unfold okL at this
  have e := eq_of_beq this
  have ef : Int.fdiv (x : Int) 256 = Int.fdiv ((x / 256 * 256 : Nat) : Int) 256 := by
    rw [Int.fdiv_eq_ediv_of_nonneg _ (by decide), Int.fdiv_eq_ediv_of_nonneg _ (by decide)]; omega
  unfold b6b_d0
  rw [ef, e, bitsLen_256 x h]
theorem b6_fn (x : Nat) (h : x < 65536) : FnT Try.prog 46 [.int .u64 (x : Int)] [] fun r o => r = .ret (iA (Sort.bitsLen x)) ∧ o = [] := by
  refine FnT.ofT (n := slotsC Try.prog 46) (by kernel_rfl) ?_
  by_cases h1 : x < 256
  · have ew : IntKind.wrap IntKind.u8 (x : Int) = x := by rw [IntKind.wrap_u8]; omega
    apply b6a x (by omega) (by omega)
    case n0 => rw [ew]; simp
    case n1 => rw [ew]; simpa [Nat.blt_eq] using h1
    case l2 =>
      rw [b6a_val x h1]
      exact FinT.ret (vs := [iA (Sort.bitsLen x)]) (l := []) (bs := []) (pl := []) (q := []) (r' := .ret (iA (Sort.bitsLen x))) (o' := []) (fun u => by kernel_rfl) (by kernel_rfl) pls_nil ⟨rfl, rfl⟩
  · have ew : IntKind.wrap IntKind.u8 (Int.fdiv (x : Int) 256) = ((x / 256 : Nat) : Int) := by rw [Int.fdiv_eq_ediv_of_nonneg _ (by decide), IntKind.wrap_u8]; omega
    apply b6b x (by omega) (by omega)
    case n0 => rw [ew]; exact decide_eq_true (by omega)
    case n1 => rw [ew, Int.toNat_natCast, Nat.blt_eq]; omega
    case l2 =>
      rw [b6b_val x (by omega) h]
      exact FinT.ret (vs := [iA (Sort.bitsLen x)]) (l := []) (bs := []) (pl := []) (q := []) (r' := .ret (iA (Sort.bitsLen x))) (o' := []) (fun u => by kernel_rfl) (by kernel_rfl) pls_nil ⟨rfl, rfl⟩
noncomputable def gB6 (a : List Value) (o : List VObj) : Option (Bool × CRes × List VObj) := match a, o with
  | [.int .u64 x], [] => some (decide (0 ≤ x ∧ x < 65536), .ret (.int .i64 (Sort.bitsLen x.toNat : Int)), [])
  | _, _ => none
theorem b6_ok : FnOk Try.prog 46 (Sum.of gB6) := FnOk.of fun a o r o' hg => by
  unfold gB6 at hg
  split at hg
  · rename_i x
    simp only [Option.some.injEq, Prod.mk.injEq, decide_eq_true_eq] at hg
    obtain ⟨⟨h0, h1⟩, rfl, rfl⟩ := hg
    have := b6_fn x.toNat (by omega)
    rw [Int.toNat_of_nonneg h0] at this
    exact this
  · cases hg
noncomputable def tblS2 : List (FuncId × Sum) := [(53, Sum.of gO2), (49, Sum.of gXs), (46, Sum.of gB6)]
theorem tblS2_ok : TblOk Try.prog tblS2 := .cons o2_ok (.cons xs_ok (.cons b6_ok .nil))
theorem callsS2 : CallsOk Try.prog (callT Try.prog (tblL tblS2) 50 40) := callT_ok plainN mixed (tblL_ok tblS2_ok) 50 40
end Go.Proofs.Ytnlkkgpcikkpoaa
