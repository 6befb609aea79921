/- What jam.Which, and the document's, answer; they answer the same. -/
import Derived.Test.YtgdpahojinknmaaJmx
namespace Go.Proofs.Ytgdpahojinknmaa
open Go Vm Go.RowKit
set_option linter.unusedVariables false
set_option linter.unusedSimpArgs false
set_option maxRecDepth 100000

def whK (C W : List Int) : Int := bif ((keepF C W).length == 0) then 0 else minF C ((keepF C W).getD 0 0) ((keepF C W).drop 1)
def whB (C W : List Int) : Bool := !((keepF C W).length == 0)
theorem del_iff {C : List Int} {x : Int} : delB C x = false ↔ 0 ≤ x ∧ x < C.length ∧ wordI C x < 8 := by
  unfold delB
  cases h1 : decide (x < 0) with
  | true => simp at h1; simp; omega
  | false =>
    cases h2 : decide (x ≥ (C.length : Int)) with
    | true => simp at h1 h2; simp; omega
    | false => simp at h1 h2; simp; omega
theorem wh_fn (C W : List Int) (hW : W.length ≤ 500) : FnT Try.prog 43 [.slice (some ⟨0, 0, none⟩) C.length C.length, .slice (some ⟨1, 0, none⟩) W.length W.length] [rowI C, rowI W]
    fun r o => r = .ret (.tuple #[.int .i64 (whK C W), .bool (whB C W)]) ∧ o = [rowI C, rowI W] := by
  refine FnT.ofT (n := slotsC Try.prog 43) (by kernel_rfl) ?_
  have hl := restF_len C W
  have hk := keepF_le C W
  have htake : (restF C W).take (keepF C W).length = keepF C W := by unfold restF; rw [List.take_left']; rfl
  apply wh C W hW
  case n0 => simp [isPtr1]; exact hW
  case pl0 => simp
  case pl1 => simp
  case l3 =>
    intro g
    rw [map_toIntV, map_toIntV] at g
    have g : (keepF C W).length = 0 := by simpa using g
    refine wh_r0 C W (by simp) (by simp) ⟨?_, rfl⟩
    unfold whK whB
    rw [g]
    rfl
  case n4 =>
    intro g
    rw [map_toIntV, map_toIntV] at g ⊢
    have g : (keepF C W).length ≠ 0 := by simpa using g
    simp only [Bool.and_eq_true, isInts, intsC_length, hl, map_toIntV, htake, beq_t, ble_t, true_and, List.all_eq_true]
    refine ⟨by simp [isPtr1], by omega, hk, by omega, fun x hx => ?_⟩
    unfold keepF at hx
    have := (List.mem_filter.1 hx).2
    have := (del_iff (C := C) (x := x)).1 (by simpa using this)
    simp [this.1, this.2.1]
  case l5 =>
    intro g
    rw [map_toIntV, map_toIntV] at g
    have g : (keepF C W).length ≠ 0 := by simpa using g
    refine wh_r1 C W (by simp) (by simp) ⟨?_, rfl⟩
    simp only [map_toIntV, htake]
    have e1 : ((keepF C W).length == 0) = false := by simpa using g
    have e2 : (restF C W).getD 0 0 = (keepF C W).getD 0 0 := by
      unfold restF
      rw [List.getD_eq_getElem?_getD, List.getD_eq_getElem?_getD, List.getElem?_append_left (by omega)]
    unfold whK whB
    rw [e1, e2]
    rfl
def gWh (a : List Value) (o : List VObj) : Option (Bool × CRes × List VObj) := match a, o with
  | [.slice (some ⟨0, 0, none⟩) n m, .slice (some ⟨1, 0, none⟩) p q], [.cells c el false, .cells w el' false] =>
    some (c.all isIntV && (w.all isIntV && (Nat.beq el 3 && (Nat.beq el' 3 && (Nat.beq n c.length && (Nat.beq m c.length && (Nat.beq p w.length && (Nat.beq q w.length && Nat.ble w.length 500))))))),
      .ret (.tuple #[.int .i64 (whK (c.map toIntV) (w.map toIntV)), .bool (whB (c.map toIntV) (w.map toIntV))]), [.cells c el false, .cells w el' false])
  | _, _ => none
theorem wh_ok : FnOk Try.prog 43 (Sum.of gWh) := FnOk.of fun a o r o' h => by
  unfold gWh at h
  split at h
  · rename_i n m p q c el w el'
    simp only [Option.some.injEq, Prod.mk.injEq, Bool.and_eq_true, beq_t, ble_t] at h
    obtain ⟨⟨h1, h2, rfl, rfl, rfl, rfl, rfl, rfl, h4⟩, rfl, rfl⟩ := h
    have e := ints_of h1
    have e' := ints_of h2
    have hl : (c.map toIntV).length = c.length := by simp
    have hl' : (w.map toIntV).length = w.length := by simp
    have := wh_fn (c.map toIntV) (w.map toIntV) (by omega)
    unfold rowI at this
    rw [hl, hl', ← e, ← e'] at this
    exact this
  · cases h

/- The document's. -/
def isinF (W : List Int) (k : Int) : Bool := W.any fun x => x == k
def stepR (C W : List Int) (s : Int × Bool) (k : Int) : Int × Bool := bif (isinF W k && (decide (wordI C k < 8) && (!s.2 || decide (wordI C k < wordI C s.1)))) then (k, true) else s
def refN (C W : List Int) (n : Nat) : Int × Bool := (List.range n).foldl (fun s (k : Nat) => stepR C W s (k : Int)) (0, false)
theorem refN_succ (C W : List Int) (n : Nat) : refN C W (n + 1) = stepR C W (refN C W n) n := by
  unfold refN
  rw [List.range_succ, List.foldl_append]
  rfl
theorem refN_in (C W : List Int) : ∀ n : Nat, 0 ≤ (refN C W n).1 ∧ ((refN C W n).1 < n ∨ (refN C W n).1 = 0)
  | 0 => ⟨Int.le_refl 0, .inr rfl⟩
  | n + 1 => by
    have := refN_in C W n
    rw [refN_succ]
    unfold stepR
    cases (isinF W n && (decide (wordI C n < 8) && (!(refN C W n).2 || decide (wordI C n < wordI C (refN C W n).1)))) with
    | true => exact ⟨by show (0 : Int) ≤ n; omega, .inl (by show (n : Int) < _; omega)⟩
    | false => exact ⟨this.1, by rcases this.2 with h | h; exact .inl (by show (refN C W n).1 < _; omega); exact .inr h⟩
abbrev rowR (C : List Int) : VObj := .cells (intsC C) 3 true
def rfI (C W : List Int) (s : Int × Bool × Int) : Desc := ⟨[(0, .slice (some ⟨0, 0, none⟩) C.length C.length), (1, .slice (some ⟨1, 0, none⟩) W.length W.length), (6, .int .i64 s.1), (7, .bool s.2.1), (8, .int .i64 s.2.2)], [rowR C, rowR W]⟩
def rfJ (C W : List Int) (a : Int) (f : Bool) (k : Int) (s : Bool × Int) : Desc := ⟨[(0, .slice (some ⟨0, 0, none⟩) C.length C.length), (1, .slice (some ⟨1, 0, none⟩) W.length W.length), (6, .int .i64 a), (7, .bool f), (8, .int .i64 k), (9, .bool s.1), (10, .int .i64 s.2)], [rowR C, rowR W]⟩
theorem rf_fn (C W : List Int) (hC : C.length ≤ 500) (hW : W.length ≤ 500) : FnT Try.prog 44 [.slice (some ⟨0, 0, none⟩) C.length C.length, .slice (some ⟨1, 0, none⟩) W.length W.length] [rowR C, rowR W]
    fun r o => r = .ret (.tuple #[.int .i64 (refN C W C.length).1, .bool (refN C W C.length).2]) ∧ o = [rowR C, rowR W] := by
  refine FnT.ofT (n := slotsC Try.prog 44) (by kernel_rfl) ?_
  apply rf_a C W
  case pl0 => simp
  case pl1 => simp
  refine TriL.blockAt 3 0 (by kernel_rfl) ?_
  refine TriL.loopAt (rfI C W) (fun s => (C.length - s.2.2).toNat) (fun s => 0 ≤ s.2.2 ∧ s.2.2 ≤ C.length ∧ (s.1, s.2.1) = refN C W s.2.2.toNat) (0, false, 0) (by kernel_rfl) ⟨Int.le_refl 0, by dsimp only; omega, rfl⟩ ?_
  rintro ⟨a, f, k⟩ ⟨h1, h2, h3⟩
  dsimp only at h1 h2 h3
  have ha : a = (refN C W k.toNat).1 := by rw [← h3]
  have hf : f = (refN C W k.toNat).2 := by rw [← h3]
  apply rf_b C W a k f
  case pl0 => simp
  case pl1 => simp
  case l3 =>
    intro g
    have g := of_decide_eq_false g
    repeat (first | with_reducible refine QL.ret ?_ | with_reducible refine QL.exit ?_ | with_reducible refine QB.ret ?_ | with_reducible refine QB.hit ?_ | with_reducible refine QB.normal ?_ | with_reducible refine QB.miss (by rfl) ?_)
    have e : k.toNat = C.length := by omega
    rw [e] at ha hf
    exact rf_z C W a f (by simp) (by simp) (rf_z_r0 C W a f (by simp) (by simp) ⟨by rw [ha, hf], rfl⟩)
  intro g
  have g := of_decide_eq_true g
  have hin := refN_in C W k.toNat
  have hac : a < C.length := by rw [ha]; rcases hin.2 with h | h <;> omega
  have ha0 : 0 ≤ a := by rw [ha]; exact hin.1
  have hwk : IntKind.wrap IntKind.i64 (k + 1) = k + 1 := wrap_nat (by omega) (by omega)
  refine TriL.blockAt 2 1 (by kernel_rfl) ?_
  apply rf_c C W a k f
  case pl0 => simp
  case pl1 => simp
  refine TriL.blockAt 2 2 (by kernel_rfl) ?_
  refine TriL.loopAt (rfJ C W a f k) (fun s => (W.length - s.2).toNat) (fun s => 0 ≤ s.2 ∧ s.2 ≤ W.length ∧ s.1 = isinF (W.take s.2.toNat) k) (false, 0) (by kernel_rfl) ⟨Int.le_refl 0, by dsimp only; omega, rfl⟩ ?_
  rintro ⟨s, i⟩ ⟨h4, h5, h6⟩
  dsimp only at h4 h5 h6
  have hwi : i < W.length → IntKind.wrap IntKind.i64 (i + 1) = i + 1 := fun h => wrap_nat (by omega) (by omega)
  have hnext : ∀ h : i < W.length, isinF (W.take (i + 1).toNat) k = (s || (wordI W i == k)) := fun h => by
    unfold isinF
    rw [show (i + 1).toNat = i.toNat + 1 by omega, List.take_succ_eq_append_getElem (by omega), List.any_append, h6, wordI_eq (by omega)]
    simp [isinF]
  apply rf_d C W a k i f s h4
  case pl0 => simp
  case pl1 => simp
  case l2 =>
    intro g1 g2
    have g1 := of_decide_eq_true g1
    refine QL.to (true, i + 1) ⟨by dsimp only; omega, by dsimp only; omega, ?_⟩ (by dsimp only; omega) (by unfold rf_d_d0; rw [hwi g1]; rfl)
    dsimp only
    rw [hnext g1, g2]; rfl
  case n3 => intro g1 g2; have g1 := of_decide_eq_true g1; exact isWordI (by omega)
  case l4 =>
    intro g1 g2
    have g1 := of_decide_eq_true g1
    refine QL.to (wordI W i == k, i + 1) ⟨by dsimp only; omega, by dsimp only; omega, ?_⟩ (by dsimp only; omega) (by unfold rf_d_d1; rw [hwi g1]; rfl)
    dsimp only
    rw [hnext g1, g2, Bool.false_or]
  case l5 =>
    intro g1
    have g1 := of_decide_eq_false g1
    rw [show i.toNat = W.length by omega, List.take_length] at h6
    repeat (first | with_reducible refine QL.ret ?_ | with_reducible refine QL.exit ?_ | with_reducible refine QB.ret ?_ | with_reducible refine QB.hit ?_ | with_reducible refine QB.normal ?_ | with_reducible refine QB.miss (by rfl) ?_)
    have next : ∀ (a' : Int) (f' : Bool) (Q : VEx → Desc → Prop), (a', f') = stepR C W (refN C W k.toNat) k → TriL Try.prog (slotsC Try.prog 44) 2 ((flat2 (inner (flat2 (inner (Lpenstockref24_Which.drop 3))))).drop 3) (rfI C W (a', f', k)) (QL (rfI C W) (fun s => (C.length - s.2.2).toNat) (fun s => 0 ≤ s.2.2 ∧ s.2.2 ≤ C.length ∧ (s.1, s.2.1) = refN C W s.2.2.toNat) (a, f, k) Q) := by
      intro a' f' Q he
      apply rf_f C W a' k f'
      case pl0 => simp
      case pl1 => simp
      refine QL.to (a', f', k + 1) ⟨by dsimp only; omega, by dsimp only; omega, ?_⟩ (by dsimp only; omega) (by unfold rf_f_d0; rw [hwk]; rfl)
      dsimp only
      rw [show (k + 1).toNat = k.toNat + 1 by omega, refN_succ, he, show ((k.toNat : Nat) : Int) = k by omega]
    have hstep : stepR C W (refN C W k.toNat) k = bif (s && (decide (wordI C k < 8) && (!f || decide (wordI C k < wordI C a)))) then (k, true) else (a, f) := by
      unfold stepR
      rw [← h6, ← h3]
    apply rf_e C W a k f s h1 g ha0 hac
    case n0 => intro _; exact isWordI (by omega)
    case pl0 => simp
    case pl1 => simp
    case l3 =>
      intro g2 g3 g4
      repeat (first | with_reducible refine QL.ret ?_ | with_reducible refine QL.exit ?_ | with_reducible refine QB.ret ?_ | with_reducible refine QB.hit ?_ | with_reducible refine QB.normal ?_ | with_reducible refine QB.miss (by rfl) ?_)
      refine next k true _ ?_
      rw [hstep, g2, show decide (wordI C k < 8) = true from g3, g4]; rfl
    case n4 => intro _ _ _; exact isWordI (by omega)
    case l5 =>
      intro g2 g3 g4 g5
      repeat (first | with_reducible refine QL.ret ?_ | with_reducible refine QL.exit ?_ | with_reducible refine QB.ret ?_ | with_reducible refine QB.hit ?_ | with_reducible refine QB.normal ?_ | with_reducible refine QB.miss (by rfl) ?_)
      refine next k true _ ?_
      rw [hstep, g2, show decide (wordI C k < 8) = true from g3, g4, show decide (wordI C k < wordI C a) = true from g5]; rfl
    case l6 =>
      intro g2 g3 g4 g5
      repeat (first | with_reducible refine QL.ret ?_ | with_reducible refine QL.exit ?_ | with_reducible refine QB.ret ?_ | with_reducible refine QB.hit ?_ | with_reducible refine QB.normal ?_ | with_reducible refine QB.miss (by rfl) ?_)
      refine next a f _ ?_
      rw [hstep, g2, show decide (wordI C k < 8) = true from g3, g4, show decide (wordI C k < wordI C a) = false from g5]; rfl
    case l7 =>
      intro g2 g3
      repeat (first | with_reducible refine QL.ret ?_ | with_reducible refine QL.exit ?_ | with_reducible refine QB.ret ?_ | with_reducible refine QB.hit ?_ | with_reducible refine QB.normal ?_ | with_reducible refine QB.miss (by rfl) ?_)
      refine next a f _ ?_
      rw [hstep, g2, show decide (wordI C k < 8) = false from g3]; rfl
    case l8 =>
      intro g2
      repeat (first | with_reducible refine QL.ret ?_ | with_reducible refine QL.exit ?_ | with_reducible refine QB.ret ?_ | with_reducible refine QB.hit ?_ | with_reducible refine QB.normal ?_ | with_reducible refine QB.miss (by rfl) ?_)
      refine next a f _ ?_
      rw [hstep, g2]; rfl
def gRf (a : List Value) (o : List VObj) : Option (Bool × CRes × List VObj) := match a, o with
  | [.slice (some ⟨0, 0, none⟩) n m, .slice (some ⟨1, 0, none⟩) p q], [.cells c el true, .cells w el' true] =>
    some (c.all isIntV && (w.all isIntV && (Nat.beq el 3 && (Nat.beq el' 3 && (Nat.beq n c.length && (Nat.beq m c.length && (Nat.beq p w.length && (Nat.beq q w.length && (Nat.ble c.length 500 && Nat.ble w.length 500)))))))),
      .ret (.tuple #[.int .i64 (refN (c.map toIntV) (w.map toIntV) c.length).1, .bool (refN (c.map toIntV) (w.map toIntV) c.length).2]), [.cells c el true, .cells w el' true])
  | _, _ => none
theorem rf_ok : FnOk Try.prog 44 (Sum.of gRf) := FnOk.of fun a o r o' h => by
  unfold gRf at h
  split at h
  · rename_i n m p q c el w el'
    simp only [Option.some.injEq, Prod.mk.injEq, Bool.and_eq_true, beq_t, ble_t] at h
    obtain ⟨⟨h1, h2, rfl, rfl, rfl, rfl, rfl, rfl, h3, h4⟩, rfl, rfl⟩ := h
    have e := ints_of h1
    have e' := ints_of h2
    have hl : (c.map toIntV).length = c.length := by simp
    have hl' : (w.map toIntV).length = w.length := by simp
    have := rf_fn (c.map toIntV) (w.map toIntV) (by omega) (by omega)
    unfold rowR at this
    rw [hl, hl', ← e, ← e'] at this
    exact this
  · cases h
theorem jawake_fn : FnT Try.prog 42 [] [] fun r o => r = .ret (.bool true) ∧ o = [] := by
  refine FnT.ofT (n := slotsC Try.prog 42) (by kernel_rfl) ?_
  exact jaw (jaw_r0 ⟨rfl, rfl⟩)
noncomputable def tblJ4 : List (FuncId × Sum) := [(43, Sum.of gWh), (44, Sum.of gRf), (42, ⟨namesA, fun a o => match a, o with
  | [], [] => .done (.ret (.bool true), [])
  | _, _ => .fail⟩)]
theorem callsJ4 : CallsOk Try.prog (callT Try.prog (tblL tblJ4) 50 40) := callT_ok plainN mixed (tblL_ok (.cons wh_ok (.cons rf_ok (.cons (FnOk.closed jawake_fn) .nil)))) 50 40

/- They answer the same. -/
def leC (C : List Int) (a b : Int) : Prop := wordI C a < wordI C b ∨ (wordI C a = wordI C b ∧ a ≤ b)
theorem leC.trans {C : List Int} {a b c : Int} (h : leC C a b) (h' : leC C b c) : leC C a c := by unfold leC at *; omega
theorem leC.refl (C : List Int) (a : Int) : leC C a a := .inr ⟨rfl, Int.le_refl a⟩
theorem leC.anti {C : List Int} {a b : Int} (h : leC C a b) (h' : leC C b a) : a = b := by unfold leC at *; omega
theorem cmpI_cases (a b : Int) : (a < b ∧ cmpI a b = -1) ∨ (a > b ∧ cmpI a b = 1) ∨ (a = b ∧ cmpI a b = 0) := by
  unfold cmpI
  by_cases h1 : a < b
  · left; simp [h1]
  · by_cases h2 : a > b
    · right; left; simp [h1, h2]
    · right; right; refine ⟨by omega, by simp [h1, h2]⟩
theorem lex_lt {C : List Int} {a b : Int} : lexI C a b < 0 ↔ (wordI C a < wordI C b ∨ (wordI C a = wordI C b ∧ a < b)) := by
  unfold lexI
  rcases cmpI_cases (wordI C a) (wordI C b) with ⟨h, e⟩ | ⟨h, e⟩ | ⟨h, e⟩ <;> rw [e]
  · simp; omega
  · simp; omega
  · rcases cmpI_cases a b with ⟨h', e'⟩ | ⟨h', e'⟩ | ⟨h', e'⟩ <;> rw [e'] <;> simp <;> omega
theorem minF_spec (C : List Int) : ∀ (L : List Int) (m : Int), minF C m L ∈ m :: L ∧ ∀ x ∈ m :: L, leC C (minF C m L) x
  | [], m => ⟨by simp [minF], fun x hx => by simp at hx; subst hx; exact leC.refl C x⟩
  | y :: L, m => by
    have e : minF C m (y :: L) = minF C (bif decide (lexI C y m < 0) then y else m) L := rfl
    rw [e]
    obtain ⟨h1, h2⟩ := minF_spec C L (bif decide (lexI C y m < 0) then y else m)
    have hm := h2 _ List.mem_cons_self
    cases hd : decide (lexI C y m < 0) with
    | true =>
      rw [hd] at h1 h2 hm
      simp only [cond_true] at h1 h2 hm ⊢
      have := lex_lt.1 (of_decide_eq_true hd)
      have hym : leC C y m := by unfold leC; omega
      refine ⟨List.mem_cons_of_mem _ h1, fun x hx => ?_⟩
      rcases List.mem_cons.1 hx with rfl | hx
      · exact hm.trans hym
      · exact h2 x hx
    | false =>
      rw [hd] at h1 h2 hm
      simp only [cond_false] at h1 h2 hm ⊢
      have hn := of_decide_eq_false hd
      rw [lex_lt] at hn
      have hmy : leC C m y := by unfold leC; omega
      refine ⟨?_, fun x hx => ?_⟩
      · rcases List.mem_cons.1 h1 with h | h
        · rw [h]; exact List.mem_cons_self
        · exact List.mem_cons_of_mem _ (List.mem_cons_of_mem _ h)
      · rcases List.mem_cons.1 hx with rfl | hx
        · exact hm
        · rcases List.mem_cons.1 hx with rfl | hx
          · exact hm.trans hmy
          · exact h2 x (List.mem_cons_of_mem _ hx)
def inS (C W : List Int) (x : Int) : Prop := x ∈ W ∧ 0 ≤ x ∧ x < C.length ∧ wordI C x < 8
theorem mem_keepF {C W : List Int} {x : Int} : x ∈ keepF C W ↔ inS C W x := by
  unfold keepF inS
  rw [List.mem_filter, Bool.not_eq_true', del_iff]
theorem isinF_iff {W : List Int} {k : Int} : isinF W k = true ↔ k ∈ W := by
  unfold isinF
  rw [List.any_eq_true]
  constructor
  · rintro ⟨x, hx, he⟩; have := eq_of_beq he; subst this; exact hx
  · exact fun h => ⟨k, h, by simp⟩
theorem refN_spec (C W : List Int) : ∀ n : Nat, n ≤ C.length → ((refN C W n).2 = false ∧ (refN C W n).1 = 0 ∧ ∀ x, inS C W x → (n : Int) ≤ x) ∨ ((refN C W n).2 = true ∧ inS C W (refN C W n).1 ∧ (refN C W n).1 < n ∧ ∀ x, inS C W x → x < n → leC C (refN C W n).1 x)
  | 0, _ => .inl ⟨rfl, rfl, fun x hx => by have := hx.2.1; omega⟩
  | n + 1, hn => by
    rw [refN_succ]
    unfold stepR
    rcases refN_spec C W n (by omega) with ⟨h1, h2, h3⟩ | ⟨h1, h2, h3, h4⟩
    · rw [h1]
      by_cases hs : inS C W n
      · right
        rw [isinF_iff.2 hs.1, decide_eq_true hs.2.2.2]
        refine ⟨rfl, hs, by show (n : Int) < _; omega, fun x hx hlt => ?_⟩
        have := h3 x hx
        have : x = n := by omega
        subst this
        exact leC.refl C _
      · left
        have : (isinF W n && (decide (wordI C n < 8) && (!false || decide (wordI C n < wordI C (refN C W n).1)))) = false := by
          cases hi : isinF W n with
          | false => rfl
          | true =>
            cases hd : decide (wordI C n < 8) with
            | false => rfl
            | true => exact absurd ⟨isinF_iff.1 hi, by omega, by omega, of_decide_eq_true hd⟩ hs
        rw [this]
        refine ⟨h1, h2, fun x hx => ?_⟩
        have := h3 x hx
        by_cases e : x = n
        · subst e; exact absurd hx hs
        · omega
    · rw [h1]
      right
      cases hc : (isinF W n && (decide (wordI C n < 8) && (!true || decide (wordI C n < wordI C (refN C W n).1)))) with
      | true =>
        simp only [Bool.and_eq_true, Bool.not_true, Bool.false_or, decide_eq_true_eq] at hc
        refine ⟨rfl, ⟨isinF_iff.1 hc.1, by show (0 : Int) ≤ n; omega, by show (n : Int) < _; omega, hc.2.1⟩, by show (n : Int) < _; omega, fun x hx hlt => ?_⟩
        show leC C n x
        by_cases e : x = n
        · subst e; exact leC.refl C _
        · have h5 := h4 x hx (by omega)
          have h6 := hc.2.2
          unfold leC at *; omega
      | false =>
        refine ⟨h1, h2, by show (refN C W n).1 < _; omega, fun x hx hlt => ?_⟩
        show leC C (refN C W n).1 x
        by_cases e : x = n
        · subst e
          rw [isinF_iff.2 hx.1, decide_eq_true hx.2.2.2] at hc
          simp only [Bool.not_true, Bool.false_or, Bool.true_and, decide_eq_false_iff_not] at hc
          unfold leC; omega
        · exact h4 x hx (by omega)
theorem wh_ref (C W : List Int) : whK C W = (refN C W C.length).1 ∧ whB C W = (refN C W C.length).2 := by
  unfold whK whB
  rcases refN_spec C W C.length (Nat.le_refl _) with ⟨h1, h2, h3⟩ | ⟨h1, h2, h3, h4⟩
  · have : (keepF C W).length = 0 := by
      cases hk : keepF C W with
      | nil => rfl
      | cons x l =>
        have hx : inS C W x := mem_keepF.1 (by rw [hk]; exact List.mem_cons_self)
        have := h3 x hx
        have := hx.2.2.1
        omega
    rw [h1, h2, this]
    exact ⟨rfl, rfl⟩
  · have hmem := mem_keepF.2 h2
    cases hk : keepF C W with
    | nil => rw [hk] at hmem; cases hmem
    | cons y l =>
      have e : ((y :: l).length == 0) = false := by simp
      rw [e, h1]
      refine ⟨?_, rfl⟩
      show minF C y l = _
      obtain ⟨m1, m2⟩ := minF_spec C l y
      rw [← hk] at m1 m2
      have ms := mem_keepF.1 m1
      exact leC.anti (m2 _ hmem) (h4 _ ms (by have := ms.2.2.1; omega))
end Go.Proofs.Ytgdpahojinknmaa
