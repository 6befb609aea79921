/- stands answers true where the ring and the document's agree. -/
import Derived.Test.YtgdpahojinknmaaRpt
namespace Go.Proofs.Ytgdpahojinknmaa
open Go Vm Go.RowKit
set_option linter.unusedVariables false
set_option linter.unusedSimpArgs false
set_option maxRecDepth 100000

structure PInv (D : RgV) (c : Int) (L : List ByteArray) : Prop where
  ok : okR D = true
  cap : c = D.k
  row : L = rowR D
  sz : ∀ s ∈ L, s.size ≤ 32
theorem PInv.len {D : RgV} {c : Int} {L : List ByteArray} (h : PInv D c L) : L.length ≤ 8 ∧ (D.n = (L.length : Int)) := by
  obtain ⟨f0, f8, n0, nk, k8⟩ := okR_iff.1 h.ok
  rw [h.row, rowR_len]; omega
theorem sumTo_bound : ∀ (L : List ByteArray), (∀ s ∈ L, s.size ≤ 32) → sumTo L L.length ≤ 32 * L.length
  | [], _ => by decide
  | s :: L, h => by
    have h1 := sumTo_bound L fun t ht => h t (List.mem_cons_of_mem _ ht)
    have h2 := h s List.mem_cons_self
    unfold sumTo at h1 ⊢
    rw [List.take_length] at h1 ⊢
    simp only [List.map_cons, List.sum_cons, List.length_cons]
    omega
theorem splice1_len {c : List Value} {i : Nat} {v : Value} (h : i < c.length) : (Vm.splice c i [v]).length = c.length := by
  unfold Vm.splice; simp; omega
theorem splice1_get {c : List Value} {i k : Nat} {v : Value} (h : i < c.length) : (Vm.splice c i [v])[k]? = if k = i then some v else c[k]? := by
  unfold Vm.splice
  have e : c.take i ++ [v] ++ c.drop (i + [v].length) = c.set i v := by
    rw [List.set_eq_take_append_cons_drop, if_pos h]; simp
  rw [e]
  by_cases hk : k = i
  · subst hk; rw [if_pos rfl, List.getElem?_set_self h]
  · rw [if_neg hk, List.getElem?_set_ne (fun e => hk e.symm)]
def AllInt8 (c : List Value) : Prop := ∀ i, i < c.length → isIntAt .u8 c i = true
theorem AllInt8.splice {c : List Value} (h : AllInt8 c) {i : Nat} (hi : i < c.length) (x : Int) : AllInt8 (Vm.splice c i [.int .u8 x]) := by
  intro k hk
  rw [splice1_len hi] at hk
  unfold isIntAt
  rw [splice1_get hi]
  by_cases e : k = i
  · rw [if_pos e]; rfl
  · rw [if_neg e]; exact h k hk
theorem allInt8_bytes (b : ByteArray) : AllInt8 (bytesC b) := fun i hi => isIntAt_bytes (by rw [bytesC_length] at hi; exact hi)

noncomputable abbrev nSt := slotsC Try.prog 22
noncomputable abbrev LRng : List Code := flat2 (inner (Lpenstocklaw01_stands.drop 7))
noncomputable abbrev LBdy : List Code := flat2 (inner (flat2 (rBody LRng)))
abbrev obS (D : RgV) (c : Int) (L : List ByteArray) (j : Nat) : List VObj := [.cells (strsC L) 9 false, .cells [.int .i64 c, .slice (some ⟨0, 0, none⟩) L.length L.length] 46 false, .cells [.bool false] 4 false, .cells [.int .i64 (j : Nat)] 3 false, .cells (rgVC D) 25 false]

theorem st_round (D : RgV) (c : Int) (L : List ByteArray) (j : Nat) (hj : j < L.length) (h8 : L.length ≤ 8) (hz : (L.getD j ByteArray.empty).size ≤ 32) : TriB Try.prog nSt 5 (flat2 (rBody LRng)) (st_g_d0 D c L j (L.getD j ByteArray.empty)) fun x d2 => x = .normal ∧ d2.objs = obS D c L (j + 1) := by
  obtain ⟨s, hs⟩ : ∃ s, s = L.getD j ByteArray.empty := ⟨_, rfl⟩
  rw [← hs] at hz ⊢
  have hbs : ByteArray.mk (List.toArray (Option.getD (Option.bind (cut (bytesC s) 0 (ByteArray.size s)) bytesOf) [])) = s := bytesAt_all s
  refine TriB.block (id := 1) (by kernel_rfl) ?_
  apply st_b D c L j s hj
  case n0 => exact isBytes_all s
  case n1 => exact isStrAt_strs (by simp; omega)
  case pl0 => simp
  case pl1 => simp
  case l3 =>
    intro h
    exfalso
    rw [hbs, strAt_getD, show 0 + Int.toNat (j : Int) * 1 = j by omega, ← hs] at h
    simp at h
  case l5 =>
    intro _
    refine TriB.blockAt 3 2 (by kernel_rfl) ?_
    have e0 : st_b_d1 D c L j s = (fun s : List Value × Int => (⟨[(5, .pointer (some ⟨3, 0, none⟩)), (7, .slice (some ⟨5, 0, none⟩) s.1.length s.1.length), (8, .int .i64 s.2)], obS D c L j ++ [.cells s.1 5 false]⟩ : Desc)) (bytesC s, 0) := by
      unfold st_b_d1
      dsimp only
      rw [bytesC_length]
      rfl
    rw [e0]
    refine TriB.loopAt (fun s : List Value × Int => (⟨[(5, .pointer (some ⟨3, 0, none⟩)), (7, .slice (some ⟨5, 0, none⟩) s.1.length s.1.length), (8, .int .i64 s.2)], obS D c L j ++ [.cells s.1 5 false]⟩ : Desc))
      (fun t => (s.size - t.2).toNat) (fun t => t.1.all isScal = true ∧ AllInt8 t.1 ∧ t.1.length = s.size ∧ 0 ≤ t.2 ∧ t.2 ≤ s.size ∧ t.1.length ≤ 1000000) (bytesC s, 0) (by kernel_rfl) ?_ ?_
    · refine ⟨by simp, allInt8_bytes s, bytesC_length s, Int.le_refl 0, Int.natCast_nonneg _, ?_⟩
      show (bytesC s).length ≤ 1000000
      rw [bytesC_length]; omega
    rintro ⟨d, i⟩ ⟨k1, k2, k3, k4, k5, k6⟩
    dsimp only at k1 k2 k3 k4 k5 k6
    have hi : IntKind.wrap IntKind.i64 (i + 1) = i + 1 := wrap_nat (by omega) (by omega)
    apply st_l D c L j d i k1
    case n0 => intros; exact decide_eq_true k4
    case n1 => intro h; have h := of_decide_eq_true h; exact blt_iff.2 (by omega)
    case n2 => intro h; have h := of_decide_eq_true h; exact k2 _ (by omega)
    case n3 => intro h; have h := of_decide_eq_true h; exact Nat.ble_eq_true_of_le (by omega)
    case pl0 => simp
    case l5 =>
      intro h
      have h := of_decide_eq_true h
      have hlt : 0 + i.toNat * 1 < d.length := by omega
      refine QL.to (Vm.splice d (0 + i.toNat * 1) [.int .u8 (IntKind.wrap .u8 (intAt d (0 + i.toNat * 1) + 1))], i + 1) ⟨pl_splice k1 rfl _, k2.splice hlt _, by rw [splice1_len hlt]; exact k3, by dsimp only; omega, by dsimp only; omega, by rw [splice1_len hlt]; exact k6⟩ ?_ ?_
      · show (s.size - (i + 1)).toNat < (s.size - i).toNat; omega
      · dsimp only
        rw [splice1_len hlt, ← hi]
        rfl
    case l6 =>
      intro h
      repeat (first | with_reducible refine QL.ret ?_ | with_reducible refine QL.exit ?_ | with_reducible refine QB.ret ?_ | with_reducible refine QB.hit ?_ | with_reducible refine QB.normal ?_ | with_reducible refine QB.miss (by rfl) ?_)
      apply st_e D c L j (by omega)
      case pl0 => simp
      case l1 =>
        refine QB.normal (TriB.nil ⟨rfl, ?_⟩)
        unfold st_e_d0
        have hw : IntKind.wrap IntKind.i64 ((j : Int) + 1) = ((j + 1 : Nat) : Int) := by rw [wrap_nat (by omega) (by omega)]; omega
        rw [hw]

set_option maxHeartbeats 1000000 in
theorem stands_fn (D : RgV) (c : Int) (L : List ByteArray) (h : PInv D c L) : FnT Try.prog 22 [.agg (rgVC D).toArray, .agg #[.int .i64 c, slL 0 L]] [.cells (strsC L) 9 false] fun r o => r = .ret (.bool true) ∧ o = [.cells (strsC L) 9 false] := by
  obtain ⟨h8, hn⟩ := h.len
  have hb := sumTo_bound L h.sz
  have hrow := h.row
  obtain ⟨f0, f8, n0, nk, k8⟩ := okR_iff.1 h.ok
  refine FnT.ofT (n := slotsC Try.prog 22) (by kernel_rfl) ?_
  apply st_a D c L h8
  case pl0 => simp
  case l1 => intro h0; exfalso; rw [hn] at h0; simp at h0
  case l2 => intro _ h0; exfalso; rw [h.cap] at h0; simp at h0
  case n3 => intros; rw [h.ok, ← hrow]; exact Nat.ble_eq_true_of_le (by omega)
  case n4 =>
    intros
    simp only [isStrs, strsC_length, map_toStrV, Nat.beq_refl, Bool.true_and]
    rw [Nat.ble_eq_true_of_le h8, Nat.ble_eq_true_of_le (show sumTo L L.length ≤ 1000000 by omega)]
    rfl
  case l5 => intro _ _ h0; exfalso; rw [map_toStrV, ← hrow] at h0; simp at h0
  case l6 =>
    intros
    refine TriL.blockAt 7 0 (by kernel_rfl) ?_
    obtain ⟨s0, s1, s2, s3, s4, s5, s6, s7, f, n, k⟩ := D
    dsimp only at f0 f8 n0 nk k8 hn
    obtain ⟨f, rfl⟩ := Int.eq_ofNat_of_zero_le f0
    obtain ⟨n, rfl⟩ := Int.eq_ofNat_of_zero_le n0
    obtain ⟨k, rfl⟩ := Int.eq_ofNat_of_zero_le (show 0 ≤ k by omega)
    have hnL : n = L.length := by omega
    subst hnL
    have hrow' : L = cont [s0, s1, s2, s3, s4, s5, s6, s7] f L.length := hrow
    have hit := ring_iter (K := 5) (xb := 4) (O := obS ⟨s0, s1, s2, s3, s4, s5, s6, s7, f, L.length, k⟩ c L) s0 s1 s2 s3 s4 s5 s6 s7 f L.length k (by omega) (by omega) (by decide) (fun j _ => rfl) (fun j _ => rfl)
    rw [← hrow'] at hit
    refine TriL.range (g := 38) (ps := [39, 40]) (K := 5) (N := L.length) (O := obS ⟨s0, s1, s2, s3, s4, s5, s6, s7, f, L.length, k⟩ c L) (by kernel_rfl) (enters_of Try.func71 (by kernel_rfl) rfl) hit (by rfl) (by kernel_rfl) (fun j _ => rfl) (by rfl) (by kernel_rfl) (fun j _ => rfl) (fun j _ => by show 5 + 1 ≤ 262144; decide) (by rfl) (fun j hj => ?_) ?_
    · apply st_g ⟨s0, s1, s2, s3, s4, s5, s6, s7, f, L.length, k⟩ c L j (L.getD j ByteArray.empty)
      case pl0 => simp
      case pl1 => simp
      case l2 => exact ⟨rfl, st_round _ c L j (by omega) h8 (h.sz _ (by rw [List.getD_eq_getElem?_getD, List.getElem?_eq_getElem (by omega : j < L.length)]; exact List.getElem_mem _))⟩
    · refine TriL.done rfl ?_
      refine QB.normal ?_
      apply st_z ⟨s0, s1, s2, s3, s4, s5, s6, s7, f, L.length, k⟩ c L
      case pl0 => simp
      case l1 => exact st_z_r0 _ c L (by simp) ⟨by simp, rfl⟩
end Go.Proofs.Ytgdpahojinknmaa
