/- What is said of the document's duct: is it full, does it wait? -/
import Derived.Test.YtgdpahojinknmaaDpp
namespace Go.Proofs.Ytgdpahojinknmaa
open Go Vm Go.RowKit
set_option linter.unusedVariables false
set_option linter.unusedSimpArgs false
set_option maxRecDepth 100000

def fullM (M : RefV) (n : Nat) : Bool := bif M.how != 0 then false else bif !M.gone then (bif M.cap == 0 then false else decide ((n : Int) ≥ M.cap)) else false
def waitsM (M : RefV) (n : Nat) : Bool := bif decide ((n : Int) > 0) then false else bif M.gone then false else bif M.how == 1 then false else bif M.how == 2 then false else true

@[simp] theorem one_take_strs (L : List ByteArray) (n : Nat) : List.all (List.take n (strsC L)) Value.oneCell' = true := one_of_plain (pl_take (pl_strs L) n)
@[simp] theorem one_take_drop_strs (L : List ByteArray) (n k : Nat) : List.all (List.take n (List.drop k (strsC L))) Value.oneCell' = true := one_of_plain (pl_take (pl_drop (pl_strs L) k) n)

theorem mfull_fn (M : RefV) (L : List ByteArray) (hL : L.length ≤ 500) : FnT Try.prog 53 [.agg (refC M (.slice (some ⟨0, 0, none⟩) L.length L.length)).toArray] [.cells (strsC L) 9 false] fun r o => r = .ret (.bool (fullM M L.length)) ∧ o = [.cells (strsC L) 9 false] := by
  refine FnT.ofT (n := slotsC Try.prog 53) (by kernel_rfl) ?_
  apply mfull M L hL
  case pl0 => simp
  case l1 => intro h0; exact mfull_r0 M L (by simp) ⟨by simp only [fullM, h0, cond_true, cond_false], rfl⟩
  case l2 => intro h0 h1 h2; exact mfull_r1 M L (by simp) ⟨by simp only [fullM, h0, h1, h2, cond_true, cond_false], rfl⟩
  case l3 => intro h0 h1 h2 h3; exact mfull_r2 M L (by simp) ⟨by simp only [fullM, h0, h1, h2, h3, cond_true, cond_false], rfl⟩
  case n4 => intros; simp
  case l5 => intro h0 h1 h2 h3; exact mfull_r3 M L (by simp) ⟨by simp only [fullM, h0, h1, h2, h3, cond_true, cond_false], rfl⟩
  case l6 => intro h0 h1; exact mfull_r4 M L (by simp) ⟨by simp only [fullM, h0, h1, cond_true, cond_false], rfl⟩
theorem mwaits_fn (M : RefV) (L : List ByteArray) (hL : L.length ≤ 500) : FnT Try.prog 54 [.agg (refC M (.slice (some ⟨0, 0, none⟩) L.length L.length)).toArray] [.cells (strsC L) 9 false] fun r o => r = .ret (.bool (waitsM M L.length)) ∧ o = [.cells (strsC L) 9 false] := by
  refine FnT.ofT (n := slotsC Try.prog 54) (by kernel_rfl) ?_
  apply mwaits M L hL
  case pl0 => simp
  case l1 => intro h0 h1; exfalso; have h0 := of_decide_eq_true h0; have h1 := eq_of_beq h1; omega
  case n2 => intros; exact one_take_drop_strs L _ _
  case n3 => intro h0 _; have h0 := of_decide_eq_true h0; exact isStrAt_strs (by omega)
  case l4 => intro h0 h1; exact mwaits_r1 M L (by simp) ⟨by simp only [waitsM, h0, cond_true, cond_false], rfl⟩
  case l5 => intro h0 h1; exact mwaits_r2 M L (by simp) ⟨by simp only [waitsM, h0, h1, cond_true, cond_false], rfl⟩
  case l6 => intro h0 h1 h2; exact mwaits_r3 M L (by simp) ⟨by simp only [waitsM, h0, h1, h2, cond_true, cond_false], rfl⟩
  case l7 => intro h0 h1 h2 h3; exact mwaits_r4 M L (by simp) ⟨by simp only [waitsM, h0, h1, h2, h3, cond_true, cond_false], rfl⟩
  case l8 => intro h0 h1 h2 h3; exact mwaits_r5 M L (by simp) ⟨by simp only [waitsM, h0, h1, h2, h3, cond_true, cond_false], rfl⟩

def pL {α : Type} (l : List Value) (k : Nat → Nat → List Value → Option α) : Option α := match l with
  | .slice (some ⟨0, 0, none⟩) n m :: l => k n m l
  | _ => none
theorem pL_some {α : Type} {l : List Value} {k : Nat → Nat → List Value → Option α} {a : α} (h : pL l k = some a) : ∃ n m l', l = .slice (some ⟨0, 0, none⟩) n m :: l' ∧ k n m l' = some a := by
  unfold pL at h; split at h
  · exact ⟨_, _, _, rfl, h⟩
  · cases h
def asRef (l : List Value) : Option (RefV × Nat × Nat) := pI l fun cap l => pL l fun n m l => pI l fun how l => pI l fun fc l => pI l fun fs l => pI l fun fi l => pB l fun gone l => pI l fun first l => pI l fun c2 l => pI l fun most l => pI l fun wrote l => pI l fun rd l => pI l fun lost l => pI l fun byt l =>
  pE l (⟨cap, how, fc, fs, fi, gone, first, c2, most, wrote, rd, lost, byt⟩, n, m)
theorem asRef_some {l : List Value} {M : RefV} {n m : Nat} (h : asRef l = some (M, n, m)) : l = refC M (.slice (some ⟨0, 0, none⟩) n m) := by
  unfold asRef at h
  obtain ⟨x1, l1, e1, h1⟩ := pI_some h
  obtain ⟨n', m', l2, e2, h2⟩ := pL_some h1
  obtain ⟨x3, l3, e3, h3⟩ := pI_some h2
  obtain ⟨x4, l4, e4, h4⟩ := pI_some h3
  obtain ⟨x5, l5, e5, h5⟩ := pI_some h4
  obtain ⟨x6, l6, e6, h6⟩ := pI_some h5
  obtain ⟨x7, l7, e7, h7⟩ := pB_some h6
  obtain ⟨x8, l8, e8, h8⟩ := pI_some h7
  obtain ⟨x9, l9, e9, h9⟩ := pI_some h8
  obtain ⟨x10, l10, e10, h10⟩ := pI_some h9
  obtain ⟨x11, l11, e11, h11⟩ := pI_some h10
  obtain ⟨x12, l12, e12, h12⟩ := pI_some h11
  obtain ⟨x13, l13, e13, h13⟩ := pI_some h12
  obtain ⟨x14, l14, e14, h14⟩ := pI_some h13
  obtain ⟨e, e'⟩ := pE_some h14
  simp only [Prod.mk.injEq] at e'
  obtain ⟨e', rfl, rfl⟩ := e'
  subst e'
  rw [e1, e2, e3, e4, e5, e6, e7, e8, e9, e10, e11, e12, e13, e14, e]
  rfl
def isStrV : Value → Bool
  | .string _ => true
  | _ => false
def toStrV : Value → ByteArray
  | .string s => s
  | _ => ByteArray.empty
theorem strs_of {c : List Value} (h : c.all isStrV = true) : c = strsC (c.map toStrV) := by
  induction c with
  | nil => rfl
  | cons v c ih =>
    simp only [List.all_cons, Bool.and_eq_true] at h
    rw [ih h.2]
    cases v <;> first | (have := h.1; cases this; done) | skip
    unfold strsC
    simp [toStrV]
@[simp] theorem isStrs (L : List ByteArray) : (strsC L).all isStrV = true := by unfold strsC; simp [isStrV]
def gMB (f : RefV → Nat → Bool) (a : List Value) (o : List VObj) : Option (Bool × CRes × List VObj) := match a, o with
  | [.agg x], [.cells c el false] => match asRef x.toList with
    | some (M, n, m) => some (c.all isStrV && (Nat.beq el 9 && (Nat.beq c.length n && (Nat.beq m n && Nat.ble n 500))), .ret (.bool (f M n)), [.cells c el false])
    | none => none
  | _, _ => none
theorem gMB_ok {fn : FuncId} {f : RefV → Nat → Bool} (h : ∀ (M : RefV) (L : List ByteArray), L.length ≤ 500 → FnT Try.prog fn [.agg (refC M (.slice (some ⟨0, 0, none⟩) L.length L.length)).toArray] [.cells (strsC L) 9 false] fun r o => r = .ret (.bool (f M L.length)) ∧ o = [.cells (strsC L) 9 false]) : FnOk Try.prog fn (Sum.of (gMB f)) := by
  refine FnOk.of fun a o r o' hg => ?_
  unfold gMB at hg
  split at hg
  · split at hg
    · rename_i x c el _ M n m hM
      simp only [Option.some.injEq, Prod.mk.injEq, Bool.and_eq_true] at hg
      obtain ⟨⟨h1, h2, h3, h4, h5⟩, rfl, rfl⟩ := hg
      have e1 := asRef_some hM
      have e2 := strs_of h1
      have h3 := Nat.eq_of_beq_eq_true h3
      have h4 := Nat.eq_of_beq_eq_true h4
      have h5 := Nat.le_of_ble_eq_true h5
      have hl : (c.map toStrV).length = n := by simp [h3]
      have := h M (c.map toStrV) (by omega)
      rw [hl, ← e2] at this
      rw [Nat.eq_of_beq_eq_true h2]
      have e3 : x = (refC M (.slice (some ⟨0, 0, none⟩) n n)).toArray := by rw [h4] at e1; rw [← e1]
      rw [e3]
      exact this
    · cases hg
  · cases hg
noncomputable def tblDP : List (FuncId × Sum) := (53, Sum.of (gMB fullM)) :: (54, Sum.of (gMB waitsM)) :: tblDV
theorem callsDP : CallsOk Try.prog (callT Try.prog (tblL tblDP) 50 40) := callT_ok plainN mixed (tblL_ok (.cons (gMB_ok mfull_fn) (.cons (gMB_ok mwaits_fn) (.cons after_ok (.cons told_ok (.cons (true_ok awake_fn) tblDuct_ok)))))) 50 40
end Go.Proofs.Ytgdpahojinknmaa
