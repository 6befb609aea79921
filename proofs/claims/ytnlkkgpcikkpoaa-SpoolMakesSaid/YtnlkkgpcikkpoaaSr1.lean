/- The sort of bytes: breakPatterns, medianAdjacent compute what Derived.Sort.Defs says. -/
import Derived.Test.YtnlkkgpcikkpoaaSrz
import Derived.Test.YtnlkkgpcikkpoaaSog
import Derived.KernelRfl
namespace Go.Proofs.Ytnlkkgpcikkpoaa
open Go Vm Go.RowKit
set_option maxRecDepth 100000
theorem ma_fn (d : Array UInt8) (n a s : Nat) (hd : d.size = n) (hn : n ≤ 10000) (ha : 1 ≤ a) (hz : a + 1 < n) (hs : s ≤ 90) :
    FnT Try.prog 50 [slA n, iA a, pt1] [rowA d, swA s] fun r o => r = .ret (iA (Sort.medianAdjacent ltB d a s).1) ∧ o = [rowA d, swA (Sort.medianAdjacent ltB d a s).2] := by
  refine FnT.ofT (n := slotsC Try.prog 50) (by kernel_rfl) ?_
  have hsz : n ≤ (arB d).size := by rw [arB_size]; omega
  have hl : (bytesC (arB d)).length = n := by rw [bytesC_length]; exact hd
  have e1 : IntKind.wrap IntKind.i64 ((a : Int) - 1) = ((a - 1 : Nat) : Int) := by rw [w64 (by omega) (by omega)]; omega
  have e2 : IntKind.wrap IntKind.i64 ((a : Int) + 1) = ((a + 1 : Nat) : Int) := by rw [w64 (by omega) (by omega)]; omega
  apply ma (arB d) n a s hsz (w64 (by omega) (by omega)) (w64 (by omega) (by omega))
  case n0 => rw [e1, e2]; exact okA_arB ⟨rfl, rfl, rfl, hl, hn, by omega, by omega, by omega, by omega, by omega, by omega, by omega, by omega⟩
  case pl0 => simp
  case l2 =>
    refine ma_r0 (arB d) n a s (by simp) ?_
    simp only [arrOf_bytes, e1, e2, Int.toNat_natCast, lock_eq]
    exact ⟨rfl, rfl⟩
noncomputable def gMa (a : List Value) (o : List VObj) : Option (Bool × CRes × List VObj) := match a, o with
  | [.slice (some ⟨0, 0, none⟩) n m, .int .i64 x, .pointer (some ⟨1, 0, none⟩)], [.cells l el false, .cells [.int .i64 s] el2 false] =>
    some (okA l (m = n ∧ el = 5 ∧ el2 = 3 ∧ l.length = n ∧ n ≤ 10000 ∧ 1 ≤ x ∧ 0 ≤ s ∧ s ≤ 90 ∧ x + 1 < n),
      .ret (.int .i64 ((lock (Sort.medianAdjacent ltB (arrOf l) x.toNat s.toNat)).1 : Int)), [.cells l el false, .cells [.int .i64 ((lock (Sort.medianAdjacent ltB (arrOf l) x.toNat s.toNat)).2 : Int)] el2 false])
  | _, _ => none
theorem ma_ok : FnOk Try.prog 50 (Sum.of gMa) := FnOk.of fun a o r o' hg => by
  unfold gMa at hg
  split at hg
  · rename_i n m x l el s el2
    simp only [Option.some.injEq, Prod.mk.injEq, okA_iff] at hg
    obtain ⟨⟨⟨d, rfl⟩, rfl, rfl, rfl, hl, hn, hx, h0, hs, hxn⟩, rfl, rfl⟩ := hg
    have hd : d.size = m := by rw [← hl, bytesC_length]; rfl
    have := ma_fn d m x.toNat s.toNat hd hn (by omega) (by omega) (by omega)
    rw [arrOf_bytes, lock_eq]
    unfold iA swA at this
    rw [Int.toNat_of_nonneg (by omega), Int.toNat_of_nonneg h0] at this
    exact this
  · cases hg
def bpGo (a l m : Nat) : Nat → Nat → UInt64 × Array UInt8 → UInt64 × Array UInt8
  | 0, _, st => st
  | k + 1, i, st => bpGo a l m k (i + 1) (Sort.breakStep a l m st i)
def bpI (n a l i : Nat) (st : UInt64 × Array UInt8) : Desc :=
  ⟨[(0, slA n), (1, iA a), (6, iA l), (7, pt1), (8, .int .u64 ((2 ^ Sort.bitsLen l : Nat) : Int)), (9, iA i)], [rowA st.2, .cells [.int .u64 (st.1.toNat : Int)] 112 false]⟩
structure bpOk (d : Array UInt8) (n a l i0 : Nat) (s : (UInt64 × Array UInt8) × Nat) : Prop where
  h1 : s.1.2.size = n
  h2 : i0 ≤ s.2
  h3 : s.2 ≤ i0 + 3
  h4 : bpGo a l (2 ^ Sort.bitsLen l) (i0 + 3 - s.2) s.2 s.1 = bpGo a l (2 ^ Sort.bitsLen l) 3 i0 (UInt64.ofNat l, d)
theorem and64 {m k : Nat} (hm : m < 18446744073709551616) (hk : k < 65536) : IntKind.wrap IntKind.i64 (IntKind.wrap IntKind.u64 ((BitVec.toNat (BitVec.ofInt 64 (m : Int) &&& BitVec.ofInt 64 (k : Int)) : Nat) : Int)) = ((m &&& k : Nat) : Int) := by
  have e : BitVec.toNat (BitVec.ofInt 64 (m : Int) &&& BitVec.ofInt 64 (k : Int)) = m &&& k := by
    rw [BitVec.toNat_and]
    congr 1 <;> (rw [BitVec.ofInt_natCast, BitVec.toNat_ofNat]; exact Nat.mod_eq_of_lt (by omega))
  have hx : m &&& k ≤ k := Nat.and_le_right
  rw [e, wrapU64]
  generalize m &&& k = p at hx
  rw [show (p : Int) % 18446744073709551616 = p by omega, w64 (by omega) (by omega)]
theorem bp_fn (d : Array UInt8) (n a z : Nat) (hd : d.size = n) (hn : n ≤ 10000) (hz : z ≤ n) (ha : a + 12 < z) :
    FnT Try.prog 38 [slA n, iA a, iA z] [rowA d] fun r o => r = .ret (.tuple #[]) ∧ o = [rowA (Sort.breakPatterns d a z)] := by
  refine FnT.ofT (n := slotsC Try.prog 38) (by kernel_rfl) ?_
  have hsz : n ≤ (arB d).size := by rw [arB_size]; omega
  have ez : IntKind.wrap IntKind.i64 ((z : Int) - a) = ((z - a : Nat) : Int) := by rw [w64 (by omega) (by omega)]; omega
  have hres : Sort.breakPatterns d a z = (bpGo a (z - a) (2 ^ Sort.bitsLen (z - a)) 3 (a + (z - a) / 4 * 2 - 1) (UInt64.ofNat (z - a), d)).2 := by
    unfold Sort.breakPatterns
    dsimp only
    rw [if_pos (by omega), Nat.one_shiftLeft]
    rfl
  rw [hres]
  apply bp_a (arB d) n a z hsz (w64 (by omega) (by omega))
  case pl0 => simp
  case l1 =>
    have e : bp_a_d0 (arB d) n a z = ⟨[(0, slA n), (1, iA a), (6, iA (z - a)), (15, .bool true)], [rowA d]⟩ := by
      unfold bp_a_d0
      rw [ez, decide_eq_true (by omega)]
    rw [e]
    have hl : 12 < z - a := by omega
    have hal : a + (z - a) ≤ n := by omega
    generalize z - a = l at hl hal
    clear ez e hres
    have hb16 : Sort.bitsLen l ≤ 15 := (Sort.bitsLen_le_iff l 15).2 (by omega)
    have hM : 2 ^ Sort.bitsLen l ≤ 2 ^ 15 := Nat.pow_le_pow_right (by decide) hb16
    have hM1 : 0 < 2 ^ Sort.bitsLen l := Nat.two_pow_pos _
    have hM2 : 2 ^ Sort.bitsLen l ≤ 2 * l := Sort.two_pow_bitsLen_le (by omega)
    refine TriL.condAt 2 (c := 15) (b := true) (by kernel_rfl) (by rfl) (by rfl) ?_
    rw [show Lslices_breakPatternsOrdered_byte_.drop (2 + 1) = [] by kernel_rfl, List.append_nil]
    apply bp_b (arB d) n a l hsz (by omega) (by omega) (by rw [wrapU64]; omega)
    case pl0 => simp
    case l1 =>
      have et : Int.tdiv (l : Int) 4 = ((l / 4 : Nat) : Int) := rfl
      have e4 : IntKind.wrap IntKind.i64 ((a : Int) + IntKind.wrap IntKind.i64 (IntKind.wrap IntKind.i64 (Int.tdiv (l : Int) 4) * 2)) = ((a + l / 4 * 2 : Nat) : Int) := by
        rw [et, w64 (x := ((l / 4 : Nat) : Int)) (by omega) (by omega), w64 (x := ((l / 4 : Nat) : Int) * 2) (by omega) (by omega), w64 (by omega) (by omega)]; omega
      have e : bp_b_d0 (arB d) n a l = bpI n a l (a + l / 4 * 2 - 1) (UInt64.ofNat l, d) := by
        unfold bp_b_d0 bpI
        rw [e4, iA_sub1 (by omega) (by omega), Int.toNat_natCast, wrapU64]
        have : (UInt64.ofNat l).toNat = l := by rw [UInt64.toNat_ofNat']; omega
        rw [this, show (l : Int) % 18446744073709551616 = l by omega, show ((2 : Int) ^ Sort.bitsLen l) = ((2 ^ Sort.bitsLen l : Nat) : Int) by simp]
      rw [e]
      generalize hi0 : a + l / 4 * 2 - 1 = i0
      refine TriL.blockAt 3 0 (by kernel_rfl) ?_
      refine TriL.loopAt (fun s : (UInt64 × Array UInt8) × Nat => bpI n a l s.2 s.1) (fun s => i0 + 3 - s.2) (bpOk d n a l i0) ((UInt64.ofNat l, d), i0) (by kernel_rfl) ⟨hd, Nat.le_refl _, by dsimp only; omega, by dsimp only; rw [Nat.add_sub_cancel_left]⟩ ?_
      rintro ⟨⟨x, d1⟩, i⟩ hs
      have h1 := hs.h1; have h2 := hs.h2; have h3 := hs.h3; have h4 := hs.h4
      dsimp only at h1 h2 h3 h4 ⊢
      clear hsz
      have hsz : n ≤ (arB d1).size := by rw [arB_size]; omega
      have ec : IntKind.wrap IntKind.i64 (((a + l / 4 * 2 : Nat) : Int) + 1) = ((i0 + 2 : Nat) : Int) := by rw [w64 (by omega) (by omega)]; omega
      apply bp_c (arB d1) n a l ((2 ^ Sort.bitsLen l : Nat) : Int) i x.toNat hsz
      case pl0 => simp
      case l2 =>
        intro g
        rw [e4, ec] at g
        have g := of_decide_eq_false g
        rw [show i0 + 3 - i = 0 by omega] at h4
        replace h4 : (x, d1) = _ := h4
        repeat (first | with_reducible refine QL.ret ?_ | with_reducible refine QL.exit ?_ | with_reducible refine QB.ret ?_ | with_reducible refine QB.hit ?_ | with_reducible refine QB.normal ?_ | with_reducible refine QB.miss (by rfl) ?_)
        refine TriL.done (by kernel_rfl) ?_
        refine FinT.normal (vs := []) (l := []) (bs := [0]) (pl := [0]) (q := [bytesC (arB d1)]) (r' := .ret (.tuple #[])) (o' := [rowA d1]) (fun u => by kernel_rfl) (by kernel_rfl) (pls_cons (by simp) pls_nil) ⟨rfl, ?_⟩
        rw [← h4]
      case l1 =>
        intro g
        rw [e4, ec] at g
        have g := of_decide_eq_true g
        rw [show i0 + 3 - i = (i0 + 3 - (i + 1)) + 1 by omega] at h4
        replace h4 : bpGo a l (2 ^ Sort.bitsLen l) (i0 + 3 - (i + 1)) (i + 1) (Sort.breakStep a l (2 ^ Sort.bitsLen l) (x, d1) i) = _ := h4
        refine TriL.blockAt 2 1 (by kernel_rfl) ?_
        have hxl : x.toNat < 18446744073709551616 := x.toNat_lt
        have hxn := Sort.xorNextN_lt x.toNat hxl
        have hq1 : IntKind.wrap IntKind.u64 (((2 ^ Sort.bitsLen l : Nat) : Int) - 1) = ((2 ^ Sort.bitsLen l - 1 : Nat) : Int) := by
          rw [wrapU64]; generalize 2 ^ Sort.bitsLen l = P at hM hM1; omega
        have hand := and64 (m := Sort.xorNextN x.toNat) (k := 2 ^ Sort.bitsLen l - 1) hxn (by generalize 2 ^ Sort.bitsLen l = P at hM; omega)
        have hle : (Sort.xorNextN x.toNat &&& (2 ^ Sort.bitsLen l - 1)) ≤ 2 ^ Sort.bitsLen l - 1 := Nat.and_le_right
        have hstep : Sort.breakStep a l (2 ^ Sort.bitsLen l) (x, d1) i = (Sort.xorNext x, Sort.swp d1 i (a + if (Sort.xorNextN x.toNat &&& (2 ^ Sort.bitsLen l - 1)) ≥ l then (Sort.xorNextN x.toNat &&& (2 ^ Sort.bitsLen l - 1)) - l else (Sort.xorNextN x.toNat &&& (2 ^ Sort.bitsLen l - 1)))) := by
          rw [← Sort.xorNext_toNat]
          rfl
        rw [hstep] at h4
        generalize ho : (Sort.xorNextN x.toNat &&& (2 ^ Sort.bitsLen l - 1)) = oth at hand hle h4
        have fin : ∀ t : Nat, (if oth ≥ l then oth - l else oth) = t → a + t < n →
            TriL Try.prog 65 1 ((flat2 (inner ((flat2 (inner (flat2 (inner ((flat2 (arm true (Lslices_breakPatternsOrdered_byte_.drop 2))).drop 3))))).drop 2))).drop 3) ⟨[(0, slA n), (1, iA a), (6, iA l), (7, pt1), (8, .int .u64 ((2 ^ Sort.bitsLen l : Nat) : Int)), (9, iA i), (10, iA t)], [rowA d1, .cells [.int .u64 (Sort.xorNextN x.toNat : Int)] 112 false]⟩
              (QB 1 (fun d' => TriL Try.prog 65 1 ((flat2 (inner (flat2 (inner ((flat2 (arm true (Lslices_breakPatternsOrdered_byte_.drop 2))).drop 3))))).drop (2 + 1)) d' (QL (fun s : (UInt64 × Array UInt8) × Nat => bpI n a l s.2 s.1) (fun s => i0 + 3 - s.2) (bpOk d n a l i0) ((x, d1), i) (QB 0 (fun d' => TriL Try.prog 65 1 ((flat2 (arm true (Lslices_breakPatternsOrdered_byte_.drop 2))).drop (3 + 1)) d' (FinT Try.prog 38 65 1 fun r o => r = .ret (.tuple #[]) ∧ o = [rowA (bpGo a l (2 ^ Sort.bitsLen l) 3 i0 (UInt64.ofNat l, d)).2])) (FinT Try.prog 38 65 1 fun r o => r = .ret (.tuple #[]) ∧ o = [rowA (bpGo a l (2 ^ Sort.bitsLen l) 3 i0 (UInt64.ofNat l, d)).2])))) (QL (fun s : (UInt64 × Array UInt8) × Nat => bpI n a l s.2 s.1) (fun s => i0 + 3 - s.2) (bpOk d n a l i0) ((x, d1), i) (QB 0 (fun d' => TriL Try.prog 65 1 ((flat2 (arm true (Lslices_breakPatternsOrdered_byte_.drop 2))).drop (3 + 1)) d' (FinT Try.prog 38 65 1 fun r o => r = .ret (.tuple #[]) ∧ o = [rowA (bpGo a l (2 ^ Sort.bitsLen l) 3 i0 (UInt64.ofNat l, d)).2])) (FinT Try.prog 38 65 1 fun r o => r = .ret (.tuple #[]) ∧ o = [rowA (bpGo a l (2 ^ Sort.bitsLen l) 3 i0 (UInt64.ofNat l, d)).2])))) := by
          intro t ht htn
          rw [ht] at h4
          apply bp_e (arB d1) n a l ((2 ^ Sort.bitsLen l : Nat) : Int) i (Sort.xorNextN x.toNat) t hsz (by omega) (by omega) (by omega) (by omega) (by omega) (w64 (by omega) (by omega))
          case n0 => rw [atS (by omega)]; exact ia_arB (by omega)
          case n1 => rw [atN]; exact ia_arB (by omega)
          case n2 => rw [atS (by omega), atN]; exact ls_arB (by omega) (by omega)
          case l3 =>
            repeat (first | with_reducible refine QL.ret ?_ | with_reducible refine QL.exit ?_ | with_reducible refine QB.ret ?_ | with_reducible refine QB.hit ?_ | with_reducible refine QB.normal ?_ | with_reducible refine QB.miss (by rfl) ?_)
            have e2 : bp_e_d0 (arB d1) n a l ((2 ^ Sort.bitsLen l : Nat) : Int) i (Sort.xorNextN x.toNat) t = bpI n a l i (Sort.xorNext x, Sort.swp d1 i (a + t)) := by
              unfold bp_e_d0 bpI
              rw [spl_arB atN (atS (by omega)) atN (atS (by omega)) (by omega) (by omega), Sort.xorNext_toNat]
            rw [e2]
            have e3 : bpI n a l i (Sort.xorNext x, Sort.swp d1 i (a + t)) = ⟨[(0, slA n), (1, iA a), (6, iA l), (7, pt1), (8, .int .u64 ((2 ^ Sort.bitsLen l : Nat) : Int)), (9, iA i)], [rowA (Sort.swp d1 i (a + t)), .cells [.int .u64 ((Sort.xorNext x).toNat : Int)] 112 false]⟩ := rfl
            rw [e3]
            apply bp_f (arB (Sort.swp d1 i (a + t))) n a l ((2 ^ Sort.bitsLen l : Nat) : Int) i ((Sort.xorNext x).toNat) (by rw [arB_size, swp_size]; omega) (w64 (by omega) (by omega))
            case pl0 => simp
            case l1 =>
              exact QL.to ((Sort.xorNext x, Sort.swp d1 i (a + t)), i + 1) ⟨by rw [swp_size]; exact h1, by dsimp only; omega, by dsimp only; omega, h4⟩ (by dsimp only; omega) (by unfold bp_f_d0 bpI; rw [iA_add1 (by omega)])
        apply bp_d (arB d1) n a l ((2 ^ Sort.bitsLen l : Nat) : Int) i x.toNat hsz (by omega) (by omega)
        case pl0 => simp
        case l1 =>
          intro g2
          rw [Int.toNat_natCast, hq1, hand] at g2
          have g2 := of_decide_eq_true g2
          have e2 : bp_d_d0 (arB d1) n a l ((2 ^ Sort.bitsLen l : Nat) : Int) i x.toNat = ⟨[(0, slA n), (1, iA a), (6, iA l), (7, pt1), (8, .int .u64 ((2 ^ Sort.bitsLen l : Nat) : Int)), (9, iA i), (10, iA (oth - l))], [rowA d1, .cells [.int .u64 (Sort.xorNextN x.toNat : Int)] 112 false]⟩ := by
            unfold bp_d_d0
            rw [Int.toNat_natCast, hq1, hand, w64 (by omega) (by omega), show (oth : Int) - l = ((oth - l : Nat) : Int) by omega]
          rw [e2]
          exact fin (oth - l) (by rw [if_pos (by omega)]) (by omega)
        case l2 =>
          intro g2
          rw [Int.toNat_natCast, hq1, hand] at g2
          have g2 := of_decide_eq_false g2
          have e2 : bp_d_d1 (arB d1) n a l ((2 ^ Sort.bitsLen l : Nat) : Int) i x.toNat = ⟨[(0, slA n), (1, iA a), (6, iA l), (7, pt1), (8, .int .u64 ((2 ^ Sort.bitsLen l : Nat) : Int)), (9, iA i), (10, iA oth)], [rowA d1, .cells [.int .u64 (Sort.xorNextN x.toNat : Int)] 112 false]⟩ := by
            unfold bp_d_d1
            rw [Int.toNat_natCast, hq1, hand]
          rw [e2]
          exact fin oth (by rw [if_neg (by omega)]) (by omega)
noncomputable def gBp := gS2 (fun d a z => Sort.breakPatterns d a z) fun n a z => z ≤ n ∧ a + 12 < z
theorem bp_ok : FnOk Try.prog 38 (Sum.of gBp) := gS2_ok fun d n x y hd hn hp => bp_fn d n x y hd hn hp.1 hp.2
noncomputable def tblS4 : List (FuncId × Sum) := [(51, Sum.of gMd), (50, Sum.of gMa)]
theorem tblS4_ok : TblOk Try.prog tblS4 := .cons md_ok (.cons ma_ok .nil)
theorem callsS4 : CallsOk Try.prog (callT Try.prog (tblL tblS4) 50 40) := callT_ok plainN mixed (tblL_ok tblS4_ok) 50 40
end Go.Proofs.Ytnlkkgpcikkpoaa
