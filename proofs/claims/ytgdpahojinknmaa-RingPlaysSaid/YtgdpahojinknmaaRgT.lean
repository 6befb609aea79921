/- How many bytes a ring has: of both. -/
import Derived.Test.YtgdpahojinknmaaRps
namespace Go.Proofs.Ytgdpahojinknmaa
open Go Vm Go.RowKit
set_option linter.unusedVariables false
set_option linter.unusedSimpArgs false
set_option maxRecDepth 100000

theorem strAt_getD (L : List ByteArray) (i : Nat) : strAt (strsC L) i = L.getD i ByteArray.empty := by
  unfold strAt strsC
  rw [List.getElem?_map]
  cases h : L[i]? <;> simp [List.getD, h]
theorem mbytes_fn (c : Int) (L : List ByteArray) (hL : L.length ≤ 8) (hs : sumTo L L.length ≤ 1000000) : FnT Try.prog 49 [.agg #[.int .i64 c, slL 0 L]] [.cells (strsC L) 9 false] fun r o =>
    r = .ret (.int .i64 (sumTo L L.length)) ∧ o = [.cells (strsC L) 9 false] := by
  refine FnT.ofT (n := slotsC Try.prog 49) (by kernel_rfl) ?_
  apply mb_a c L
  case pl0 => simp
  refine TriL.blockAt 3 0 (by kernel_rfl) ?_
  refine TriL.loopAt (fun s : Int × Int => ⟨[(1, .pointer (some ⟨1, 0, none⟩)), (3, .int .i64 s.1), (4, .int .i64 s.2)], [.cells (strsC L) 9 false, .cells [.int .i64 c, .slice (some ⟨0, 0, none⟩) L.length L.length] 46 false]⟩) (fun s => (L.length - s.2).toNat)
    (fun s => 0 ≤ s.2 ∧ s.2 ≤ L.length ∧ s.1 = sumTo L s.2.toNat) (0, 0) (by kernel_rfl) ⟨by decide, Int.natCast_nonneg _, rfl⟩ ?_
  rintro ⟨n, j⟩ ⟨h0, h1, h2⟩
  dsimp only at h0 h1 h2
  have hj : IntKind.wrap IntKind.i64 (j + 1) = j + 1 := wrap_nat (by omega) (by omega)
  apply mb_b c L n j
  case n0 => intros; exact decide_eq_true h0
  case n1 => intro h; have h := of_decide_eq_true h; exact blt_iff.2 (by omega)
  case n2 => intro h; have h := of_decide_eq_true h; exact isStrAt_strs (by omega)
  case pl0 => simp
  case l4 =>
    intro h
    have h := of_decide_eq_true h
    have hlt : j.toNat < L.length := by omega
    have h3 := sumTo_succ hlt
    have h4 := sumTo_le L (j.toNat + 1)
    have hb : IntKind.wrap IntKind.i64 (n + ((L.getD j.toNat ByteArray.empty).size : Int)) = n + ((L.getD j.toNat ByteArray.empty).size : Int) := wrap_nat (by omega) (by omega)
    refine QL.to (n + ((L.getD j.toNat ByteArray.empty).size : Int), j + 1) ⟨by dsimp only; omega, by dsimp only; omega, ?_⟩ ?_ ?_
    · dsimp only; rw [show (j + 1).toNat = j.toNat + 1 by omega, h3]; omega
    · show (L.length - (j + 1)).toNat < (L.length - j).toNat; omega
    · unfold mb_b_d0
      rw [hj, strAt_getD, show 0 + j.toNat * 1 = j.toNat by omega, hb]
  case l5 =>
    intro h
    have h := of_decide_eq_false h
    repeat (first | with_reducible refine QL.ret ?_ | with_reducible refine QL.exit ?_ | with_reducible refine QB.ret ?_ | with_reducible refine QB.hit ?_ | with_reducible refine QB.normal ?_ | with_reducible refine QB.miss (by rfl) ?_)
    apply mb_c c L n
    case pl0 => simp
    case l1 =>
      refine mb_c_r0 c L n (by simp) ⟨?_, rfl⟩
      rw [h2, show j.toNat = L.length by omega]
def gMBytes (a : List Value) (o : List VObj) : Option (Bool × CRes × List VObj) := match a, o with
  | [.agg ⟨[.int .i64 c, .slice (some ⟨0, 0, none⟩) n m]⟩], [.cells cL el false] =>
    some (cL.all isStrV && (Nat.beq el 9 && (Nat.beq cL.length n && (Nat.beq m n && (Nat.ble n 8 && Nat.ble (sumTo (cL.map toStrV) (cL.map toStrV).length) 1000000)))), .ret (.int .i64 (sumTo (cL.map toStrV) (cL.map toStrV).length)), [.cells cL el false])
  | _, _ => none
theorem mbytes_ok : FnOk Try.prog 49 (Sum.of gMBytes) := by
  refine FnOk.of fun a o r o' hg => ?_
  unfold gMBytes at hg
  split at hg
  · rename_i c n m cL el
    simp only [Option.some.injEq, Prod.mk.injEq, Bool.and_eq_true] at hg
    obtain ⟨⟨c1, c2, c3, c4, c5, c6⟩, rfl, rfl⟩ := hg
    have e2 := strs_of c1
    have hl : (cL.map toStrV).length = n := by simp [Nat.eq_of_beq_eq_true c3]
    have := mbytes_fn c (cL.map toStrV) (by rw [hl]; exact Nat.le_of_ble_eq_true c5) (Nat.le_of_ble_eq_true c6)
    rw [← e2] at this
    unfold slL at this
    rw [hl] at this
    rw [Nat.eq_of_beq_eq_true c4, Nat.eq_of_beq_eq_true c2, hl]
    exact this
  · cases hg
theorem ringV_of {D : RgV} (h : okR D = true) : RingV (.agg (rgVC D).toArray) (rowR D) D.k.toNat := by
  obtain ⟨f0, f8, n0, nk, k8⟩ := okR_iff.1 h
  refine ⟨D.s0, D.s1, D.s2, D.s3, D.s4, D.s5, D.s6, D.s7, D.f.toNat, D.n.toNat, ?_, by omega, by omega, by omega, rfl⟩
  unfold rg
  rw [Int.toNat_of_nonneg f0, Int.toNat_of_nonneg n0, Int.toNat_of_nonneg (by omega)]
  rfl
theorem bytesR_ok : FnOk Try.prog 48 (Sum.of (gR (fun D => okR D && Nat.ble (sumTo (rowR D) (rowR D).length) 1000000) fun D => .ret (.int .i64 (sumTo (rowR D) (rowR D).length)))) :=
  gR_ok fun D h => by
    simp only [Bool.and_eq_true] at h
    exact bytes_fn _ (rowR D) _ (ringV_of h.1) (Nat.le_of_ble_eq_true h.2)
noncomputable def tblSt : List (FuncId × Sum) := (49, Sum.of gMBytes) :: (48, Sum.of (gR (fun D => okR D && Nat.ble (sumTo (rowR D) (rowR D).length) 1000000) fun D => .ret (.int .i64 (sumTo (rowR D) (rowR D).length)))) :: tblRg
theorem callsSt : CallsOk Try.prog (callT Try.prog (tblL tblSt) 50 40) := callT_ok plainN mixed (tblL_ok (.cons mbytes_ok (.cons bytesR_ok tblRg_ok))) 50 40
end Go.Proofs.Ytgdpahojinknmaa
