/- What is said of slices.DeleteFunc, MinFunc and Clone, as jam.Which calls them. -/
import Derived.Test.YtgdpahojinknmaaJmu
namespace Go.Proofs.Ytgdpahojinknmaa
open Go Vm Go.RowKit
set_option linter.unusedVariables false
set_option linter.unusedSimpArgs false
set_option maxRecDepth 100000

/- Clone. -/
theorem FnT.retNil {P : Program} {f : FuncId} {args : List Value} {objs : List VObj} {Q Q' : CRes → List VObj → Prop} (el : TypeId) {s : Nat} (hz : szOf P el = some s) (hk : objs.length < 262144) (h : FnT P f args objs Q)
    (hq : ∀ r o, Q r o → objs.length ≤ o.length ∧ o.length < 262144 ∧ (Q' r o ∨ (r = .ret (.slice none 0 0) ∧ Q' (.ret (.slice (some ⟨o.length, 0, none⟩) 0 0)) (o ++ [.cells [] el false])))) : FnT P f args objs Q' := by
  intro B w₀ ρ w args' h1 h2 h3 h4
  refine (h B w₀ ρ w args' h1 h2 h3 h4).mono ?_
  rintro e w' ⟨r, o, ρ', a, b, c, d, e1, e2⟩
  obtain ⟨hl, hl2, hq⟩ := hq r o a
  rcases hq with hq | ⟨rfl, hq⟩
  · exact ⟨r, o, ρ', hq, b, c, d, e1, e2⟩
  · obtain ⟨ρ1, f1, f2, f3, r', f4⟩ := d.addNil hz hl2
    refine ⟨_, _, ρ1, hq, ?_, fun r => ?_, f2, by simp; omega, fun x hx => by rw [f3 x (by omega), e2 x hx]⟩
    · cases e with
      | returned v => have hv : VR ρ' (.slice none 0 0) v := b; cases hv with
        | scal _ _ => exact VR.slE _ _
      | panicked ch => cases b
      | outgrown => cases b
    · obtain ⟨y, g1, g2⟩ := c r
      exact ⟨y, g1, f1 _ _ g2⟩
theorem cl_fn0 : FnT Try.prog 65 [.slice (some ⟨0, 0, none⟩) 0 0] [rowI []] fun r o => r = .ret (.slice (some ⟨1, 0, none⟩) 0 0) ∧ o = [rowI [], rowI []] := by
  refine FnT.retNil (Q := fun r o => (r = .ret (.slice (some ⟨1, 0, none⟩) 0 0) ∧ o = [rowI [], rowI []]) ∨ (r = .ret (.slice none 0 0) ∧ o = [rowI []])) 3 (s := 1) (by kernel_rfl) (by simp) ?_ ?_
  · refine FnT.ofT (n := slotsC Try.prog 65) (by kernel_rfl) ?_
    apply cl_0 true
    refine TriL.eqNil ⟨0, 3, 4, 84⟩ 3 ⟨0, 0, none⟩ (by kernel_rfl) (by kernel_rfl) (by rfl) (by rfl) ?_
    intro b
    cases b with
    | true => exact cl_b (cl_b_r0 (.inr ⟨rfl, rfl⟩))
    | false => exact cl_c (cl_c_r0 (.inl ⟨rfl, rfl⟩))
  · rintro r o (⟨rfl, rfl⟩ | ⟨rfl, rfl⟩)
    · exact ⟨by simp, by simp, .inl ⟨rfl, rfl⟩⟩
    · exact ⟨by simp, by simp, .inr ⟨rfl, rfl, rfl⟩⟩
theorem cl_fn (L : List Int) (hL : L.length ≤ 500) : FnT Try.prog 65 [.slice (some ⟨0, 0, none⟩) L.length L.length] [rowI L] fun r o => r = .ret (.slice (some ⟨1, 0, none⟩) L.length L.length) ∧ o = [rowI L, rowI L] := by
  cases L with
  | nil => exact cl_fn0
  | cons a L =>
    refine FnT.ofT (n := slotsC Try.prog 65) (by kernel_rfl) ?_
    apply cl_a (a :: L) (by simp) hL
    case n0 => exact one_of_plain (pl_take (pl_ints _) _)
    case pl0 => simp
    case l2 =>
      have e : ([] : List Value) ++ List.take ((a :: L).length * 1) (intsC (a :: L)) = intsC (a :: L) := by
        rw [List.nil_append, Nat.mul_one, List.take_of_length_le (by rw [intsC_length]; exact Nat.le_refl _)]
      refine cl_a_r0 (a :: L) (by simp) ⟨by rw [Nat.zero_add], ?_⟩
      rw [e]
def gCl (a : List Value) (o : List VObj) : Option (Bool × CRes × List VObj) := match a, o with
  | [.slice (some ⟨0, 0, none⟩) n m], [.cells l el false] =>
    some (l.all isIntV && (Nat.beq el 3 && (Nat.beq n l.length && (Nat.beq m l.length && Nat.ble l.length 500))), .ret (.slice (some ⟨1, 0, none⟩) n n), [.cells l el false, .cells l el false])
  | _, _ => none
theorem cl_ok : FnOk Try.prog 65 (Sum.of gCl) := FnOk.of fun a o r o' h => by
  unfold gCl at h
  split at h
  · rename_i n m l el
    simp only [Option.some.injEq, Prod.mk.injEq, Bool.and_eq_true, beq_t, ble_t] at h
    obtain ⟨⟨h1, rfl, rfl, rfl, h4⟩, rfl, rfl⟩ := h
    have e := ints_of h1
    have hl : (l.map toIntV).length = l.length := by simp
    have := cl_fn (l.map toIntV) (by omega)
    unfold rowI at this
    rw [hl, ← e] at this
    exact this
  · cases h

/- MinFunc. -/
def minF (C : List Int) (m : Int) (L : List Int) : Int := L.foldl (fun m x => bif decide (lexI C x m < 0) then x else m) m
def inC (C : List Int) (x : Int) : Prop := 0 ≤ x ∧ x < C.length
def mfI (L C : List Int) (n : Nat) (s : Int × Int) : Desc := ⟨[(0, .slice (some ⟨0, 0, none⟩) n L.length), (1, clo68), (5, .int .i64 s.1), (6, .int .i64 s.2)], obJ L C⟩
structure mfOk (L C : List Int) (n : Nat) (s : Int × Int) : Prop where
  a : 1 ≤ s.2
  b : s.2 ≤ n
  c : inC C s.1
  d : s.1 = minF C (L.getD 0 0) ((L.take s.2.toNat).drop 1)
theorem mf_fn (L C : List Int) (n : Nat) (hn : 1 ≤ n) (hL : n ≤ L.length) (hl : L.length ≤ 500) (hin : ∀ x ∈ L.take n, inC C x) : FnT Try.prog 67 [.slice (some ⟨0, 0, none⟩) n L.length, clo68] (obJ L C) fun r o => r = .ret (.int .i64 (minF C (L.getD 0 0) ((L.take n).drop 1))) ∧ o = obJ L C := by
  refine FnT.ofT (n := slotsC Try.prog 67) (by kernel_rfl) ?_
  have hget : ∀ i, i < n → ∃ x, L[i]? = some x ∧ inC C x := fun i hi => by
    have h1 : i < L.length := by omega
    refine ⟨L[i], List.getElem?_eq_getElem h1, hin _ ?_⟩
    exact List.mem_take_iff_getElem.2 ⟨i, by omega, rfl⟩
  obtain ⟨x0, hx0, hi0⟩ := hget 0 (by omega)
  have e0 : intAt (intsC L) 0 = L.getD 0 0 := by
    rw [intAt_ints (by omega)]
    rw [List.getD_eq_getElem?_getD, List.getElem?_eq_getElem (by omega)]; rfl
  have e1 : L.getD 0 0 = x0 := by rw [List.getD_eq_getElem?_getD, hx0]; rfl
  apply mf_a L C n hn hL
  case n0 => exact isIntAt_ints (by omega)
  case pl0 => simp
  case pl1 => simp
  refine TriL.blockAt 5 0 (by kernel_rfl) ?_
  refine TriL.loopAt (mfI L C n) (fun s => (n - s.2).toNat) (mfOk L C n) (intAt (intsC L) 0, 1) (by kernel_rfl) ⟨Int.le_refl 1, by omega, by rw [e0, e1]; exact hi0, ?_⟩ ?_
  · show intAt (intsC L) 0 = _
    rw [e0]
    simp [minF]
  rintro ⟨m, j⟩ hs
  have ha := hs.a; have hb := hs.b; have hc := hs.c
  dsimp only at ha hb hc
  have hw : j < n → IntKind.wrap IntKind.i64 (j + 1) = j + 1 := fun h => wrap_nat (by omega) (by omega)
  have hstep : ∀ (hlt : j < n), (L.take (j + 1).toNat).drop 1 = (L.take j.toNat).drop 1 ++ [wordI L j] := fun hlt => by
    rw [show (j + 1).toNat = j.toNat + 1 by omega, List.take_succ_eq_append_getElem (by omega), List.drop_append_of_le_length (by simp; omega), wordI_eq (by omega)]
  have hword : ∀ (hlt : j < n), inC C (wordI L j) := fun hlt => by
    obtain ⟨x, h1, h2⟩ := hget j.toNat (by omega)
    rw [wordI_eq (by omega)]
    rw [List.getElem?_eq_getElem (by omega)] at h1
    cases h1
    exact h2
  apply mf_b L C n m j (by omega) hL
  case n0 => intro g; have g := of_decide_eq_true g; exact isWordI (by omega)
  case n1 =>
    intro g
    have g := of_decide_eq_true g
    obtain ⟨w1, w2⟩ := hword g
    have hw1 : (intAt (intsC L) (0 + j.toNat * 1)) = wordI L j := rfl
    rw [hw1]
    simp
    exact ⟨w1, w2, hc.1, hc.2⟩
  case pl0 => simp
  case pl1 => simp
  case l4 =>
    intro g g1
    have g := of_decide_eq_true g
    rw [map_toIntV] at g1
    refine QL.to (wordI L j, j + 1) ⟨by dsimp only; omega, by dsimp only; omega, hword g, ?_⟩ (by dsimp only; omega) (by unfold mf_b_d0; rw [hw g]; rfl)
    dsimp only
    rw [hstep g]
    unfold minF
    rw [List.foldl_append]
    have := hs.d
    dsimp only at this
    unfold minF at this
    rw [← this]
    show wordI L j = bif decide (lexI C (wordI L j) m < 0) then _ else _
    rw [show decide (lexI C (wordI L j) m < 0) = true from g1]; rfl
  case l5 =>
    intro g g1
    have g := of_decide_eq_true g
    rw [map_toIntV] at g1
    refine QL.to (m, j + 1) ⟨by dsimp only; omega, by dsimp only; omega, hc, ?_⟩ (by dsimp only; omega) (by unfold mf_b_d1; rw [hw g]; rfl)
    dsimp only
    rw [hstep g]
    unfold minF
    rw [List.foldl_append]
    have := hs.d
    dsimp only at this
    unfold minF at this
    rw [← this]
    show m = bif decide (lexI C (wordI L j) m < 0) then _ else _
    rw [show decide (lexI C (wordI L j) m < 0) = false from g1]; rfl
  case l6 =>
    intro g
    have g := of_decide_eq_false g
    repeat (first | with_reducible refine QL.ret ?_ | with_reducible refine QL.exit ?_ | with_reducible refine QB.ret ?_ | with_reducible refine QB.hit ?_ | with_reducible refine QB.normal ?_ | with_reducible refine QB.miss (by rfl) ?_)
    have hjn : j.toNat = n := by omega
    have := hs.d
    dsimp only at this
    rw [hjn] at this
    exact mf_z L C m (by simp) (by simp) (mf_z_r0 L C m (by simp) (by simp) ⟨by rw [this], rfl⟩)
end Go.Proofs.Ytgdpahojinknmaa
