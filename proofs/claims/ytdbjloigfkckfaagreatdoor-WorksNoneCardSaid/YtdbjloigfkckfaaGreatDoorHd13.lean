/- The small machine's logic, thirteenth text: loops whose rounds are told one by one; closed calls. -/
import Derived.Test.YtdbjloigfkckfaaGreatDoorHd12
namespace Go.Proofs.YtdbjloigfkckfaaGreatDoor.Vm
open Go.RowKit
set_option linter.unusedVariables false
set_option linter.unusedSimpArgs false

/-- Round i of N: it goes on to the next, or leaves. -/
def QI (D : Nat → Desc) (i N : Nat) (Q : VEx → Desc → Prop) : VEx → Desc → Prop
  | .normal, d => i < N ∧ d = D (i + 1)
  | x, d => Q x d
theorem QI.next {D : Nat → Desc} {i N : Nat} {Q : VEx → Desc → Prop} {d : Desc} (h : i < N) (e : d = D (i + 1)) : QI D i N Q .normal d := ⟨h, e⟩
theorem QI.exit {D : Nat → Desc} {i N j : Nat} {Q : VEx → Desc → Prop} {d : Desc} (h : Q (.exit j) d) : QI D i N Q (.exit j) d := h
theorem QI.ret {D : Nat → Desc} {i N : Nat} {Q : VEx → Desc → Prop} {d : Desc} (h : Q .ret d) : QI D i N Q .ret d := h
theorem TriL.iters {P : Program} {n k : Nat} {l : List Code} {Q : VEx → Desc → Prop} (D : Nat → Desc) (N : Nat) (hl : isLoop l = true) (h : ∀ i, i ≤ N → TriL P n k (flat2 (inner l)) (D i) (QI D i N Q)) : TriL P n k l (D 0) Q :=
  TriL.loopAt D (fun i => N - i) (fun i => i ≤ N) 0 hl (Nat.zero_le N) fun i hi => (h i hi).mono fun x d' hq => by
    cases x with
    | normal => obtain ⟨h1, h2⟩ := hq; exact ⟨i + 1, h1, by show N - (i + 1) < N - i; omega, h2⟩
    | exit j => exact hq
    | ret => exact hq
    | panic v => exact hq

/- Are two values the same? (As far as it says so, they are.) -/
mutual
def sameV : Nat → Value → Value → Bool
  | _, .bool a, .bool b => a == b
  | _, .int k a, .int k' b => decide (k = k') && a == b
  | _, .string a, .string b => a.data.toList == b.data.toList
  | _, .nilFunc, .nilFunc => true
  | _, .nilIface, .nilIface => true
  | _, .pointer none, .pointer none => true
  | _, .pointer (some ⟨b, o, none⟩), .pointer (some ⟨b', o', none⟩) => Nat.beq b b' && Nat.beq o o'
  | _, .slice none n c, .slice none n' c' => Nat.beq n n' && Nat.beq c c'
  | _, .slice (some ⟨b, o, none⟩) n c, .slice (some ⟨b', o', none⟩) n' c' => Nat.beq b b' && Nat.beq o o' && Nat.beq n n' && Nat.beq c c'
  | _, .map none, .map none => true
  | _, .map (some a), .map (some b) => Nat.beq a b
  | d + 1, .iface t v, .iface t' v' => Nat.beq t t' && sameV d v v'
  | d + 1, .agg a, .agg b => sameL d a.toList b.toList
  | d + 1, .tuple a, .tuple b => sameL d a.toList b.toList
  | d + 1, .func (.func f) a b, .func (.func f') a' b' => Nat.beq f f' && sameL d a.toList a'.toList && sameL d b.toList b'.toList
  | _, _, _ => false
def sameL : Nat → List Value → List Value → Bool
  | _, [], [] => true
  | d, v :: l, v' :: l' => sameV d v v' && sameL d l l'
  | _, _, _ => false
end
mutual
theorem sameV_eq : ∀ (d : Nat) (v v' : Value), sameV d v v' = true → v = v'
  | d, v, v', h => by
    unfold sameV at h
    split at h <;> first
      | rfl
      | (cases h; done)
      | (have h := eq_of_beq h; rw [h]; done)
      | (have e := congrArg (fun l : List UInt8 => Value.string ⟨l.toArray⟩) (eq_of_beq h); simp only [Array.toArray_toList] at e; exact e)
      | (simp only [Bool.and_eq_true, decide_eq_true_eq, beq_iff_eq, beq_t] at h; obtain ⟨h1, h2⟩ := h; subst h1; subst h2; rfl)
      | (simp only [Bool.and_eq_true, beq_t] at h; obtain ⟨⟨⟨h1, h2⟩, h3⟩, h4⟩ := h; subst h1; subst h2; subst h3; subst h4; rfl)
      | (have h := Nat.eq_of_beq_eq_true h; rw [h]; done)
      | (simp only [Bool.and_eq_true, beq_t] at h; obtain ⟨h1, h2⟩ := h; have h2 := sameV_eq _ _ _ h2; subst h1; subst h2; rfl)
      | (have e1 := congrArg List.toArray (sameL_eq _ _ _ h); simp only [Array.toArray_toList] at e1; rw [e1]; done)
      | (simp only [Bool.and_eq_true, beq_t] at h; obtain ⟨⟨h1, h2⟩, h3⟩ := h; have e1 := congrArg List.toArray (sameL_eq _ _ _ h2); have e2 := congrArg List.toArray (sameL_eq _ _ _ h3); simp only [Array.toArray_toList] at e1 e2; rw [h1, e1, e2]; done)
theorem sameL_eq : ∀ (d : Nat) (l l' : List Value), sameL d l l' = true → l = l'
  | d, l, l', h => by
    unfold sameL at h
    split at h
    · rfl
    · simp only [Bool.and_eq_true] at h
      rw [sameV_eq _ _ _ h.1, sameL_eq _ _ _ h.2]
    · cases h
end
def sameO : VObj → VObj → Bool
  | .cells c el ro, .cells c' el' ro' => sameL 6 c c' && (Nat.beq el el' && (ro == ro'))
  | _, _ => false
theorem sameO_eq {o o' : VObj} (h : sameO o o' = true) : o = o' := by
  unfold sameO at h
  split at h
  · simp only [Bool.and_eq_true, beq_t, beq_iff_eq] at h
    obtain ⟨h1, h2, h3⟩ := h
    rw [sameL_eq _ _ _ h1, h2, h3]
  · cases h
def sameOs : List VObj → List VObj → Bool
  | [], [] => true
  | o :: l, o' :: l' => sameO o o' && sameOs l l'
  | _, _ => false
theorem sameOs_eq : ∀ {l l' : List VObj}, sameOs l l' = true → l = l'
  | [], [], _ => rfl
  | o :: l, o' :: l', h => by
    simp only [sameOs, Bool.and_eq_true] at h
    rw [sameO_eq h.1, sameOs_eq h.2]
  | [], _ :: _, h => by cases h
  | _ :: _, [], h => by cases h
/-- A closed call, and what it comes to. -/
structure Told1 where
  args : List Value
  objs : List VObj
  r : CRes
  out : List VObj
def toldSpec : List Told1 → List Value → List VObj → Option (Bool × CRes × List VObj)
  | [], _, _ => none
  | t :: l, a, o => match sameL 6 a t.args && sameOs o t.objs with
    | true => some (true, t.r, t.out)
    | false => toldSpec l a o
theorem FnOk.told {P : Program} {f : FuncId} {l : List Told1} (h : ∀ t ∈ l, FnT P f t.args t.objs fun r o => r = t.r ∧ o = t.out) : FnOk P f (Sum.ofR P (toldSpec l)) := FnOk.ofR fun a o r o' hs => by
  induction l with
  | nil => cases hs
  | cons t l ih =>
    unfold toldSpec at hs
    split at hs
    · rename_i he
      simp only [Bool.and_eq_true] at he
      simp only [Option.some.injEq, Prod.mk.injEq, true_and] at hs
      obtain ⟨rfl, rfl⟩ := hs
      rw [sameL_eq _ _ _ he.1, sameOs_eq he.2]
      exact h t List.mem_cons_self
    · exact ih (fun t ht => h t (List.mem_cons_of_mem _ ht)) hs
end Go.Proofs.YtdbjloigfkckfaaGreatDoor.Vm
