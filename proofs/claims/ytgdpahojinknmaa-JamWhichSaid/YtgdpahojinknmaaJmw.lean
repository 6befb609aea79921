/- What is said of slices.DeleteFunc and MinFunc, as jam.Which calls them. -/
import Derived.Test.YtgdpahojinknmaaJmv
namespace Go.Proofs.Ytgdpahojinknmaa
open Go Vm Go.RowKit
set_option linter.unusedVariables false
set_option linter.unusedSimpArgs false
set_option maxRecDepth 100000

theorem splice_set {M : List Int} {i : Nat} {v : Int} (h : i < M.length) : splice (intsC M) i [Value.int .i64 v] = intsC (M.set i v) := by
  unfold splice intsC
  rw [List.set_eq_take_append_cons_drop, if_pos h, List.map_append, List.map_cons, List.map_take, List.map_drop]
  simp
theorem splice_end {M : List Int} {i n : Nat} (h : n = M.length - i) (hi : i ≤ M.length) : splice (intsC M) i (intsC (List.replicate n 0)) = intsC (M.take i ++ List.replicate n 0) := by
  unfold splice
  rw [intsC_length, List.length_replicate, List.drop_of_length_le (by rw [intsC_length]; omega), List.append_nil, ← intAppend]
  unfold intsC
  rw [List.map_take]
def keepF (C L : List Int) : List Int := L.filter fun x => !delB C x
def restF (C L : List Int) : List Int := keepF C L ++ List.replicate (L.length - (keepF C L).length) 0
theorem keepF_le (C L : List Int) : (keepF C L).length ≤ L.length := List.length_filter_le _ _
theorem restF_len (C L : List Int) : (restF C L).length = L.length := by
  unfold restF; have := keepF_le C L; simp; omega
theorem keepF_take (C L : List Int) {j : Nat} (hj : j < L.length) : keepF C (L.take (j + 1)) = keepF C (L.take j) ++ (bif delB C L[j] then [] else [L[j]]) := by
  unfold keepF
  rw [List.take_succ_eq_append_getElem hj, List.filter_append]
  cases h : delB C L[j] <;> simp [h]

abbrev DS := List Int × Int × Int
def dfI (C : List Int) (s : DS) : Desc := ⟨[(0, .slice (some ⟨0, 0, none⟩) s.1.length s.1.length), (1, clo66), (5, .int .i64 s.2.1), (6, .int .i64 s.2.2)], obJ s.1 C⟩
structure dfOk (L C : List Int) (s : DS) : Prop where
  len : s.1.length = L.length
  i0 : 0 ≤ s.2.1
  ij : s.2.1 < s.2.2
  jl : s.2.2 ≤ L.length
  ki : s.1.take s.2.1.toNat = keepF C (L.take s.2.2.toNat)
  dr : s.1.drop s.2.2.toNat = L.drop s.2.2.toNat

theorem df_fn (L C : List Int) (hL : L.length ≤ 500) : FnT Try.prog 64 [.slice (some ⟨0, 0, none⟩) L.length L.length, clo66] (obJ L C)
    fun r o => r = .ret (.slice (some ⟨0, 0, none⟩) (keepF C L).length L.length) ∧ o = obJ (restF C L) C := by
  refine FnT.ofT (n := slotsC Try.prog 64) (by kernel_rfl) ?_
  apply df_a L C hL
  case n0 => simp [isPtr1]; exact hL
  case pl0 => simp
  case pl1 => simp
  case l3 =>
    intro g
    rw [map_toIntV, map_toIntV] at g
    have g : idxF C L = -1 := by simpa using g
    have hk : keepF C L = L := by
      unfold keepF
      rw [List.filter_eq_self]
      intro x hx
      unfold idxF at g
      split at g
      · omega
      · rename_i hn
        rw [List.findIdx?_eq_none_iff] at hn
        simp [hn x hx]
    have hr : restF C L = L := by unfold restF; rw [hk]; simp
    refine df_a_r0 L C (by simp) (by simp) ?_
    rw [hk, hr]
    exact ⟨rfl, rfl⟩
  intro g
  rw [map_toIntV, map_toIntV] at g
  have g : idxF C L ≠ -1 := by simpa using g
  obtain ⟨i0, hi0, hd0, hb0, e0⟩ : ∃ i : Nat, ∃ h : i < L.length, delB C L[i] = true ∧ (∀ k, k < i → ∀ x, L[k]? = some x → delB C x = false) ∧ idxF C L = i := by
    unfold idxF at g
    split at g
    · rename_i i hi
      have h2 := hi
      rw [List.findIdx?_eq_some_iff_getElem] at h2
      obtain ⟨h3, h4, h5⟩ := h2
      refine ⟨i, h3, h4, fun k hk x hx => ?_, by unfold idxF; rw [hi]⟩
      have := h5 k hk
      rw [List.getElem?_eq_getElem (by omega)] at hx
      cases hx
      simpa using this
    · exact absurd rfl g
  have hw0 : IntKind.wrap IntKind.i64 ((i0 : Int) + 1) = i0 + 1 := wrap_nat (by omega) (by omega)
  refine TriL.blockAt 5 0 (by kernel_rfl) ?_
  have hstart : df_a_d1 L C = dfI C (L, (i0 : Int), (i0 : Int) + 1) := by
    unfold df_a_d1
    rw [map_toIntV, map_toIntV, e0, hw0]
    rfl
  rw [hstart]
  refine TriL.loopAt (dfI C) (fun s => (L.length - s.2.2).toNat) (dfOk L C) (L, (i0 : Int), (i0 : Int) + 1) (by kernel_rfl) ⟨rfl, by dsimp only; omega, by dsimp only; omega, by dsimp only; omega, ?_, rfl⟩ ?_
  · dsimp only
    rw [show ((i0 : Int) + 1).toNat = i0 + 1 by omega, keepF_take C L hi0, hd0]
    rw [show ((i0 : Int)).toNat = i0 by omega]
    simp only [cond_true, List.append_nil]
    symm
    unfold keepF
    rw [List.filter_eq_self]
    intro x hx
    obtain ⟨k, hk, rfl⟩ := List.mem_take_iff_getElem.1 hx
    rw [hb0 k (by omega) _ (List.getElem?_eq_getElem (by omega))]
    rfl
  rintro ⟨M, i, j⟩ hs
  obtain ⟨h1, h2, h3, h4, h5, h6⟩ := hs
  dsimp only at h1 h2 h3 h4 h5 h6
  have hw : ∀ x : Int, 0 ≤ x → x < L.length → IntKind.wrap IntKind.i64 (x + 1) = x + 1 := fun x a b => wrap_nat (by omega) (by omega)
  have hword : ∀ (hlt : j < M.length), wordI M j = L[j.toNat]'(by omega) := fun hlt => by
    rw [wordI_eq (by omega)]
    have e1 : M[j.toNat]'(by omega) = (M.drop j.toNat)[0]'(by simp; omega) := by simp
    have e2 : L[j.toNat]'(by omega) = (L.drop j.toNat)[0]'(by simp; omega) := by simp
    rw [e1, e2]
    simp only [h6]
  have hdrop : ∀ (hlt : j < M.length), M.drop (j + 1).toNat = L.drop (j + 1).toNat := fun hlt => by
    rw [show (j + 1).toNat = j.toNat + 1 by omega, ← List.drop_drop, ← List.drop_drop, h6]
  -- what is deleted is passed over
  have skip : ∀ (hlt : j < M.length) (Q : VEx → Desc → Prop), delB C (wordI M j) = true → QL (dfI C) (fun s : DS => (L.length - s.2.2).toNat) (dfOk L C) (M, i, j) Q .normal (dfI C (M, i, j + 1)) := fun hlt Q hd => by
    refine QL.to (M, i, j + 1) ⟨h1, h2, by dsimp only; omega, by dsimp only; omega, ?_, hdrop hlt⟩ (by dsimp only; omega) rfl
    dsimp only
    rw [show (j + 1).toNat = j.toNat + 1 by omega, keepF_take C L (by omega), h5, ← hword hlt, hd]
    simp
  apply df_b M C i j (by omega) h2 h3 (by omega)
  case n0 => intro g; have g := of_decide_eq_true g; exact isWordI (by omega)
  case pl0 => simp
  case pl1 => simp
  case l3 =>
    intro g g1
    have g := of_decide_eq_true g
    have := fun Q => skip g Q (by unfold delB; rw [show decide (wordI M j < 0) = true from g1]; rfl)
    unfold df_b_d0
    rw [hw j (by omega) (by omega)]
    exact this _
  case l4 =>
    intro g g1 g2
    have g := of_decide_eq_true g
    have := fun Q => skip g Q (by unfold delB; rw [show decide (wordI M j < 0) = false from g1, show decide (wordI M j ≥ (C.length : Int)) = true from g2]; rfl)
    unfold df_b_d1
    rw [hw j (by omega) (by omega)]
    exact this _
  case n5 => intro g g1 g2; have g1 := of_decide_eq_false g1; have g2 := of_decide_eq_false g2; exact isWordI (by omega)
  case l6 =>
    intro g g1 g2 g3
    have g := of_decide_eq_true g
    have hd : delB C (wordI M j) = false := by
      unfold delB
      rw [show decide (wordI M j < 0) = false from g1, show decide (wordI M j ≥ (C.length : Int)) = false from g2]
      exact Eq.mp (Bool.not_eq_true' _) g3
    unfold df_b_d2
    rw [hw j (by omega) (by omega), hw i h2 (by omega)]
    have e3 : splice (intsC M) (0 + i.toNat * 1) [Value.int .i64 (intAt (intsC M) (0 + j.toNat * 1))] = intsC (M.set i.toNat (wordI M j)) := by
      rw [show 0 + i.toNat * 1 = i.toNat by omega]
      exact splice_set (by omega)
    rw [e3]
    have hlen : (M.set i.toNat (wordI M j)).length = M.length := by simp
    refine QL.to (M.set i.toNat (wordI M j), i + 1, j + 1) ⟨by dsimp only; omega, by dsimp only; omega, by dsimp only; omega, by dsimp only; omega, ?_, ?_⟩ (by dsimp only; omega) (by unfold dfI; dsimp only; rw [hlen])
    · dsimp only
      rw [show (j + 1).toNat = j.toNat + 1 by omega, keepF_take C L (by omega), ← hword g, hd, ← h5, show (i + 1).toNat = i.toNat + 1 by omega]
      simp only [cond_false]
      rw [List.take_succ_eq_append_getElem (by omega), List.getElem_set_self, List.take_set_of_le (Nat.le_refl _)]
    · dsimp only
      rw [← hdrop g, List.drop_set_of_lt (by omega)]
  case l7 =>
    intro g g1 g2 g3
    have g := of_decide_eq_true g
    have := fun Q => skip g Q (by unfold delB; rw [show decide (wordI M j < 0) = false from g1, show decide (wordI M j ≥ (C.length : Int)) = false from g2]; exact Eq.mp (Bool.not_eq_false' _) g3)
    unfold df_b_d3
    rw [hw j (by omega) (by omega)]
    exact this _
  case l8 =>
    intro g
    have g := of_decide_eq_false g
    repeat (first | with_reducible refine QL.ret ?_ | with_reducible refine QL.exit ?_ | with_reducible refine QB.ret ?_ | with_reducible refine QB.hit ?_ | with_reducible refine QB.normal ?_ | with_reducible refine QB.miss (by rfl) ?_)
    have hjl : j.toNat = L.length := by omega
    rw [hjl, List.take_length] at h5
    have hkl : i.toNat = (keepF C L).length := by rw [← h5]; simp; omega
    apply df_c M C i h2 (by omega) (by omega)
    case pl0 => simp
    case pl1 => simp
    case l2 => intro g; exfalso; have := Nat.eq_of_beq_eq_true g; omega
    case l3 =>
      intro g
      refine df_c_r1 M C i (by simp) ?_
      rw [show 0 + i.toNat * 1 = i.toNat by omega, repl_ints, splice_end rfl (by omega), h5, hkl, h1]
      refine ⟨by simp, rfl⟩

def gDf (a : List Value) (o : List VObj) : Option (Bool × CRes × List VObj) := match a, o with
  | [.slice (some ⟨0, 0, none⟩) n m, f], [.cells l el false, .cells [.slice (some ⟨2, 0, none⟩) p q] t false, .cells c el' false] =>
    some (l.all isIntV && (c.all isIntV && (isPtr1 66 f && (Nat.beq t 84 && (Nat.beq el 3 && (Nat.beq el' 3 && (Nat.beq n l.length && (Nat.beq m l.length && (Nat.beq p c.length && (Nat.beq q c.length && Nat.ble l.length 500))))))))),
      .ret (.slice (some ⟨0, 0, none⟩) (keepF (c.map toIntV) (l.map toIntV)).length l.length), [.cells (intsC (restF (c.map toIntV) (l.map toIntV))) el false, .cells [.slice (some ⟨2, 0, none⟩) p q] t false, .cells c el' false])
  | _, _ => none
theorem df_ok : FnOk Try.prog 64 (Sum.ofR Try.prog gDf) := FnOk.ofR fun a o r o' h => by
  unfold gDf at h
  split at h
  · rename_i n m f l el p q t c el'
    simp only [Option.some.injEq, Prod.mk.injEq, Bool.and_eq_true, beq_t, ble_t] at h
    obtain ⟨⟨h1, h2, h3, rfl, rfl, rfl, rfl, rfl, rfl, rfl, h4⟩, rfl, rfl⟩ := h
    have e := ints_of h1
    have e' := ints_of h2
    have hl : (l.map toIntV).length = l.length := by simp
    have hl' : (c.map toIntV).length = c.length := by simp
    have := df_fn (l.map toIntV) (c.map toIntV) (by omega)
    unfold obJ boxI rowI at this
    rw [hl, hl', ← e, ← e'] at this
    rw [isPtr1_eq h3]
    exact this
  · cases h
theorem inC_iff {C : List Int} {x : Int} : (decide (0 ≤ x) && decide (x < C.length)) = true ↔ inC C x := by simp [inC]
def gMf (a : List Value) (o : List VObj) : Option (Bool × CRes × List VObj) := match a, o with
  | [.slice (some ⟨0, 0, none⟩) n m, f], [.cells l el false, .cells [.slice (some ⟨2, 0, none⟩) p q] t false, .cells c el' false] =>
    some (l.all isIntV && (c.all isIntV && (isPtr1 68 f && (Nat.beq t 84 && (Nat.beq el 3 && (Nat.beq el' 3 && (Nat.ble 1 n && (Nat.ble n l.length && (Nat.beq m l.length && (Nat.beq p c.length && (Nat.beq q c.length && (Nat.ble l.length 500 &&
        ((l.map toIntV).take n).all fun x => decide (0 ≤ x) && decide (x < (c.map toIntV).length)))))))))))),
      .ret (.int .i64 (minF (c.map toIntV) ((l.map toIntV).getD 0 0) (((l.map toIntV).take n).drop 1))), [.cells l el false, .cells [.slice (some ⟨2, 0, none⟩) p q] t false, .cells c el' false])
  | _, _ => none
theorem mf_ok : FnOk Try.prog 67 (Sum.ofR Try.prog gMf) := FnOk.ofR fun a o r o' h => by
  unfold gMf at h
  split at h
  · rename_i n m f l el p q t c el'
    simp only [Option.some.injEq, Prod.mk.injEq, Bool.and_eq_true, beq_t, ble_t] at h
    obtain ⟨⟨h1, h2, h3, rfl, rfl, rfl, h5, h6, rfl, rfl, rfl, h4, h7⟩, rfl, rfl⟩ := h
    have e := ints_of h1
    have e' := ints_of h2
    have hl : (l.map toIntV).length = l.length := by simp
    have hl' : (c.map toIntV).length = c.length := by simp
    have := mf_fn (l.map toIntV) (c.map toIntV) n h5 (by omega) (by omega) fun x hx => inC_iff.1 (List.all_eq_true.1 h7 x hx)
    unfold obJ boxI rowI at this
    rw [hl, hl', ← e, ← e'] at this
    rw [isPtr1_eq h3]
    exact this
  · cases h
noncomputable def tblJ3 : List (FuncId × Sum) := [(65, Sum.of gCl), (64, Sum.ofR Try.prog gDf), (67, Sum.ofR Try.prog gMf)]
theorem callsJ3 : CallsOk Try.prog (callT Try.prog (tblL tblJ3) 50 40) := callT_ok plainN mixed (tblL_ok (.cons cl_ok (.cons df_ok (.cons mf_ok .nil)))) 50 40
end Go.Proofs.Ytgdpahojinknmaa
