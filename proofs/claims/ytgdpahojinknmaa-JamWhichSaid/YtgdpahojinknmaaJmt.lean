/- What is said of the order of jam.Which, and of what its IndexFunc finds. -/
import Derived.Test.YtgdpahojinknmaaJmr
namespace Go.Proofs.Ytgdpahojinknmaa
open Go Vm Go.RowKit
set_option linter.unusedVariables false
set_option linter.unusedSimpArgs false
set_option maxRecDepth 100000

def isIntV : Value → Bool
  | .int .i64 _ => true
  | _ => false
def toIntV : Value → Int
  | .int _ s => s
  | _ => 0
theorem ints_of {c : List Value} (h : c.all isIntV = true) : c = intsC (c.map toIntV) := by
  induction c with
  | nil => rfl
  | cons v c ih =>
    simp only [List.all_cons, Bool.and_eq_true] at h
    rw [ih h.2]
    have h1 := h.1
    unfold isIntV at h1
    split at h1
    · unfold intsC; simp [toIntV]
    · cases h1
@[simp] theorem isInts (L : List Int) : (intsC L).all isIntV = true := by unfold intsC; simp [isIntV]
@[simp] theorem map_toIntV (L : List Int) : (intsC L).map toIntV = L := by
  unfold intsC
  rw [List.map_map]
  exact List.map_id L
theorem repl_ints : ∀ n : Nat, repl [Value.int .i64 0] n = intsC (List.replicate n 0)
  | 0 => rfl
  | n + 1 => by
    show [Value.int .i64 0] ++ repl [Value.int .i64 0] n = _
    rw [repl_ints n, List.replicate_succ]
    rfl
@[simp] theorem pl_repl0 (n : Nat) : (repl [Value.int .i64 0] n).all isScal = true := by rw [repl_ints]; exact pl_ints _
/-- A word of a row of whole numbers. -/
def wordI (C : List Int) (x : Int) : Int := intAt (intsC C) (0 + x.toNat * 1)
theorem wordI_eq {C : List Int} {x : Int} (h : x.toNat < C.length) : wordI C x = C[x.toNat] := by
  unfold wordI
  simp only [Nat.zero_add, Nat.mul_one]
  exact intAt_ints h
theorem isWordI {C : List Int} {x : Int} (h : x.toNat < C.length) : isIntAt .i64 (intsC C) (0 + x.toNat * 1) = true := by
  simp only [Nat.zero_add, Nat.mul_one]
  exact isIntAt_ints h
def lexI (C : List Int) (a b : Int) : Int := bif (cmpI (wordI C a) (wordI C b) != 0) then cmpI (wordI C a) (wordI C b) else bif (cmpI a b != 0) then cmpI a b else 0
abbrev boxI (n : Nat) (k : Nat) : VObj := .cells [.slice (some ⟨k, 0, none⟩) n n] 84 false
abbrev rowI (C : List Int) : VObj := .cells (intsC C) 3 false
theorem w2_fn (C : List Int) (a b : Int) (h0 : 0 ≤ a) (h1 : a < C.length) (h2 : 0 ≤ b) (h3 : b < C.length) : FnT Try.prog 68 [.int .i64 a, .int .i64 b, .pointer (some ⟨0, 0, none⟩)] [boxI C.length 1, rowI C] fun r o => r = .ret (.int .i64 (lexI C a b)) ∧ o = [boxI C.length 1, rowI C] := by
  refine FnT.ofT (n := slotsC Try.prog 68) (by kernel_rfl) ?_
  apply w2 C a b h0 h1 h2 h3
  case n0 => exact isWordI (by omega)
  case n1 => exact isWordI (by omega)
  case pl0 => simp
  case l3 => intro g; exact w2_r0 C a b (by simp) ⟨by simp only [lexI, wordI, g, cond_true, cond_false], rfl⟩
  case l4 => intro g g1; exact w2_r1 C a b (by simp) ⟨by simp only [lexI, wordI, g, g1, cond_true, cond_false], rfl⟩
  case l5 => intro g g1; exact w2_r2 C a b (by simp) ⟨by simp only [lexI, wordI, g, g1, cond_true, cond_false], rfl⟩
def gW2 (a : List Value) (o : List VObj) : Option (Bool × CRes × List VObj) := match a, o with
  | [.int .i64 x, .int .i64 y, .pointer (some ⟨0, 0, none⟩)], [.cells [.slice (some ⟨1, 0, none⟩) n m] t false, .cells c el false] =>
    some (c.all isIntV && (Nat.beq t 84 && (Nat.beq el 3 && (Nat.beq n c.length && (Nat.beq m c.length && (decide (0 ≤ x) && (decide (x < c.length) && (decide (0 ≤ y) && decide (y < c.length)))))))),
      .ret (.int .i64 (lexI (c.map toIntV) x y)), [.cells [.slice (some ⟨1, 0, none⟩) n m] t false, .cells c el false])
  | _, _ => none
theorem w2_ok : FnOk Try.prog 68 (Sum.ofR Try.prog gW2) := FnOk.ofR fun a o r o' h => by
  unfold gW2 at h
  split at h
  · rename_i x y n m t c el
    simp only [Option.some.injEq, Prod.mk.injEq, Bool.and_eq_true, beq_t, decide_eq_true_eq] at h
    obtain ⟨⟨h1, rfl, rfl, rfl, rfl, h2, h3, h4, h5⟩, rfl, rfl⟩ := h
    have e := ints_of h1
    have hl : (c.map toIntV).length = c.length := by simp
    have := w2_fn (c.map toIntV) x y h2 (by omega) h4 (by omega)
    unfold boxI rowI at this
    rw [hl, ← e] at this
    exact this
  · cases h

/-- What is deleted. -/
def delB (C : List Int) (x : Int) : Bool := bif decide (x < 0) then true else bif decide (x ≥ (C.length : Int)) then true else decide (wordI C x ≥ 8)
def idxF (C L : List Int) : Int := match L.findIdx? (delB C) with
  | some i => i
  | none => -1
theorem idxF_at {C L : List Int} {j : Nat} (hj : j < L.length) (h1 : ∀ i, i < j → ∀ x, L[i]? = some x → delB C x = false) (h2 : delB C L[j] = true) : idxF C L = j := by
  unfold idxF
  have : L.findIdx? (delB C) = some j := by
    rw [List.findIdx?_eq_some_iff_getElem]
    exact ⟨hj, h2, fun i hi => by rw [h1 i hi _ (List.getElem?_eq_getElem (by omega))]; simp⟩
  rw [this]
theorem idxF_none {C L : List Int} (h1 : ∀ i, i < L.length → ∀ x, L[i]? = some x → delB C x = false) : idxF C L = -1 := by
  unfold idxF
  have : L.findIdx? (delB C) = none := by
    rw [List.findIdx?_eq_none_iff]
    intro x hx
    obtain ⟨i, hi, rfl⟩ := List.getElem_of_mem hx
    exact h1 i hi _ (List.getElem?_eq_getElem hi)
  rw [this]
abbrev clo66 : Value := .func (.func 66) #[] #[.pointer (some ⟨1, 0, none⟩)]
abbrev clo68 : Value := .func (.func 68) #[] #[.pointer (some ⟨1, 0, none⟩)]
abbrev obJ (L C : List Int) : List VObj := [rowI L, boxI C.length 2, rowI C]
def ixI (L C : List Int) (j : Int) : Desc := ⟨[(0, .slice (some ⟨0, 0, none⟩) L.length L.length), (1, clo66), (7, .int .i64 L.length), (8, .int .i64 j)], obJ L C⟩
structure ixOk (L C : List Int) (j : Int) : Prop where
  a : 0 ≤ j
  b : j ≤ L.length
  c : ∀ i, i < j.toNat → ∀ x, L[i]? = some x → delB C x = false
theorem ix_fn (L C : List Int) (hL : L.length ≤ 500) : FnT Try.prog 75 [.slice (some ⟨0, 0, none⟩) L.length L.length, clo66] (obJ L C) fun r o => r = .ret (.int .i64 (idxF C L)) ∧ o = obJ L C := by
  refine FnT.ofT (n := slotsC Try.prog 75) (by kernel_rfl) ?_
  apply ix_a L C
  case pl0 => simp
  case pl1 => simp
  refine TriL.blockAt 2 0 (by kernel_rfl) ?_
  refine TriL.loopAt (ixI L C) (fun j => (L.length - j).toNat) (ixOk L C) 0 (by kernel_rfl) ⟨Int.le_refl 0, by omega, fun i hi => by simp at hi⟩ ?_
  intro j hj
  have ha := hj.a
  have found : ∀ (hlt : j < L.length), delB C (wordI L j) = true → idxF C L = j := fun hlt hd => by
    have := idxF_at (j := j.toNat) (by omega) hj.c (by rw [← wordI_eq]; exact hd)
    rw [this]; omega
  apply ix_b L C j hj.a
  case n0 => intro g; have g := of_decide_eq_true g; exact isWordI (by omega)
  case pl0 => simp
  case pl1 => simp
  case l3 =>
    intro g g1
    have g := of_decide_eq_true g
    repeat (first | with_reducible refine QL.ret ?_ | with_reducible refine QL.exit ?_ | with_reducible refine QB.ret ?_ | with_reducible refine QB.hit ?_ | with_reducible refine QB.normal ?_ | with_reducible refine QB.miss (by rfl) ?_)
    refine ix_b_r0 L C j (by simp) (by simp) ⟨by rw [found g (by unfold delB; rw [show decide (wordI L j < 0) = true from g1]; rfl)], rfl⟩
  case l4 =>
    intro g g1 g2
    have g := of_decide_eq_true g
    repeat (first | with_reducible refine QL.ret ?_ | with_reducible refine QL.exit ?_ | with_reducible refine QB.ret ?_ | with_reducible refine QB.hit ?_ | with_reducible refine QB.normal ?_ | with_reducible refine QB.miss (by rfl) ?_)
    refine ix_b_r1 L C j (by simp) (by simp) ⟨by rw [found g (by unfold delB; rw [show decide (wordI L j < 0) = false from g1, show decide (wordI L j ≥ (C.length : Int)) = true from g2]; rfl)], rfl⟩
  case n5 => intro g g1 g2; have g1 := of_decide_eq_false g1; have g2 := of_decide_eq_false g2; exact isWordI (by omega)
  case l6 =>
    intro g g1 g2 g3
    have g := of_decide_eq_true g
    repeat (first | with_reducible refine QL.ret ?_ | with_reducible refine QL.exit ?_ | with_reducible refine QB.ret ?_ | with_reducible refine QB.hit ?_ | with_reducible refine QB.normal ?_ | with_reducible refine QB.miss (by rfl) ?_)
    refine ix_b_r2 L C j (by simp) (by simp) ⟨by rw [found g (by unfold delB; rw [show decide (wordI L j < 0) = false from g1, show decide (wordI L j ≥ (C.length : Int)) = false from g2]; exact g3)], rfl⟩
  case l7 =>
    intro g g1 g2 g3
    have g := of_decide_eq_true g
    have hw : IntKind.wrap IntKind.i64 (j + 1) = j + 1 := wrap_nat (by omega) (by omega)
    have hd : delB C (wordI L j) = false := by unfold delB; rw [show decide (wordI L j < 0) = false from g1, show decide (wordI L j ≥ (C.length : Int)) = false from g2]; exact g3
    refine QL.to (j + 1) ⟨by omega, by omega, fun i hi x hx => ?_⟩ (by omega) (by unfold ix_b_d3; rw [hw]; rfl)
    by_cases hij : i < j.toNat
    · exact hj.c i hij x hx
    · have e : i = j.toNat := by omega
      subst e
      rw [wordI_eq (by omega)] at hd
      rw [List.getElem?_eq_getElem (by omega)] at hx
      cases hx
      exact hd
  case l8 =>
    intro g
    have g := of_decide_eq_false g
    repeat (first | with_reducible refine QL.ret ?_ | with_reducible refine QL.exit ?_ | with_reducible refine QB.ret ?_ | with_reducible refine QB.hit ?_ | with_reducible refine QB.normal ?_ | with_reducible refine QB.miss (by rfl) ?_)
    exact ix_z L C (by simp) (by simp) (ix_z_r0 L C (by simp) (by simp) ⟨by rw [idxF_none fun i hi => hj.c i (by omega)], rfl⟩)
def isPtr1 (f : FuncId) : Value → Bool
  | .func (.func k) a b => match a.toList, b.toList with
    | [], [.pointer (some ⟨1, 0, none⟩)] => Nat.beq k f
    | _, _ => false
  | _ => false
theorem isPtr1_eq {f : FuncId} {v : Value} (h : isPtr1 f v = true) : v = .func (.func f) #[] #[.pointer (some ⟨1, 0, none⟩)] := by
  unfold isPtr1 at h
  split at h
  · rename_i k a b
    split at h
    · rename_i h1 h2
      have h := Nat.eq_of_beq_eq_true h
      rw [← Array.toArray_toList (xs := a), ← Array.toArray_toList (xs := b), h1, h2, h]
    · cases h
  · cases h
def gIx (a : List Value) (o : List VObj) : Option (Bool × CRes × List VObj) := match a, o with
  | [.slice (some ⟨0, 0, none⟩) n m, f], [.cells l el false, .cells [.slice (some ⟨2, 0, none⟩) p q] t false, .cells c el' false] =>
    some (l.all isIntV && (c.all isIntV && (isPtr1 66 f && (Nat.beq t 84 && (Nat.beq el 3 && (Nat.beq el' 3 && (Nat.beq n l.length && (Nat.beq m l.length && (Nat.beq p c.length && (Nat.beq q c.length && Nat.ble l.length 500))))))))),
      .ret (.int .i64 (idxF (c.map toIntV) (l.map toIntV))), [.cells l el false, .cells [.slice (some ⟨2, 0, none⟩) p q] t false, .cells c el' false])
  | _, _ => none
theorem ix_ok : FnOk Try.prog 75 (Sum.ofR Try.prog gIx) := FnOk.ofR fun a o r o' h => by
  unfold gIx at h
  split at h
  · rename_i n m f l el p q t c el'
    simp only [Option.some.injEq, Prod.mk.injEq, Bool.and_eq_true, beq_t, ble_t] at h
    obtain ⟨⟨h1, h2, h3, rfl, rfl, rfl, rfl, rfl, rfl, rfl, h4⟩, rfl, rfl⟩ := h
    have e := ints_of h1
    have e' := ints_of h2
    have hl : (l.map toIntV).length = l.length := by simp
    have hl' : (c.map toIntV).length = c.length := by simp
    have := ix_fn (l.map toIntV) (c.map toIntV) (by omega)
    unfold obJ boxI rowI at this
    rw [hl, hl', ← e, ← e'] at this
    rw [isPtr1_eq h3]
    exact this
  · cases h
noncomputable def tblJ2 : List (FuncId × Sum) := [(68, Sum.ofR Try.prog gW2), (75, Sum.ofR Try.prog gIx)]
theorem callsJ2 : CallsOk Try.prog (callT Try.prog (tblL tblJ2) 50 40) := callT_ok plainN mixed (tblL_ok (.cons w2_ok (.cons ix_ok .nil))) 50 40
end Go.Proofs.Ytgdpahojinknmaa
