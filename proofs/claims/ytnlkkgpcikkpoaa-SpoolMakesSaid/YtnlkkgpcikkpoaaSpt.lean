/- slices.Clone of bytes, and the table for params.Check. -/
import Derived.Test.YtnlkkgpcikkpoaaSpc
namespace Go.Proofs.Ytnlkkgpcikkpoaa
open Go Vm Go.RowKit
set_option maxRecDepth 100000
theorem FnT.retNil {P : Program} {f : FuncId} {args : List Value} {objs : List VObj} {Q Q' : CRes → List VObj → Prop} (el : TypeId) {s : Nat} (hz : szOf P el = some s) (hk : objs.length < 262144) (h : FnT P f args objs Q)
    (hq : ∀ r o, Q r o → objs.length ≤ o.length ∧ o.length < 262144 ∧ (Q' r o ∨ (r = .ret (.slice none 0 0) ∧ Q' (.ret (.slice (some ⟨o.length, 0, none⟩) 0 0)) (o ++ [.cells [] el false])))) : FnT P f args objs Q' := by
  intro B w₀ ρ w args' h1 h2 h3 h4
  refine (h B w₀ ρ w args' h1 h2 h3 h4).mono ?_
  rintro e w' ⟨r, o, ρ', a, b, c, d, e1, e2⟩
  obtain ⟨hl, hl2, hq⟩ := hq r o a
  rcases hq with hq | ⟨rfl, hq⟩
  · exact ⟨r, o, ρ', hq, b, c, d, e1, e2⟩
  · obtain ⟨ρ1, f1, f2, f3, r', f4⟩ := d.addNil hz hl2
    refine ⟨_, _, ρ1, hq, ?_, fun r => ?_, f2, by simp; omega, fun x hx => by rw [f3 x (by omega), e2 x hx]⟩
    · cases e with
      | returned v => have hv : VR ρ' (.slice none 0 0) v := b; cases hv with
        | scal _ _ => exact VR.slE _ _
      | panicked ch => cases b
      | outgrown => cases b
    · obtain ⟨y, g1, g2⟩ := c r
      exact ⟨y, g1, f1 _ _ g2⟩
theorem cl_fn0 (ro : Bool) : FnT Try.prog 30 [.slice (some ⟨0, 0, none⟩) 0 0] [.cells [] 5 ro] fun r o => r = .ret (.slice (some ⟨1, 0, none⟩) 0 0) ∧ o = [.cells [] 5 ro, .cells [] 5 false] := by
  refine FnT.retNil (Q := fun r o => (r = .ret (.slice (some ⟨1, 0, none⟩) 0 0) ∧ o = [.cells [] 5 ro, .cells [] 5 false]) ∨ (r = .ret (.slice none 0 0) ∧ o = [.cells [] 5 ro])) 5 (s := 1) (by kernel_rfl) (by simp) ?_ ?_
  · refine FnT.ofT (n := slotsC Try.prog 30) (by kernel_rfl) ?_
    apply cl_0 true ro
    refine TriL.eqNil ⟨0, 3, 4, 22⟩ 5 ⟨0, 0, none⟩ (by kernel_rfl) (by kernel_rfl) (by rfl) (by rfl) ?_
    intro b
    cases b with
    | true => exact cl_b ro (cl_b_r0 ro (.inr ⟨rfl, rfl⟩))
    | false => exact cl_c ro (cl_c_r0 ro (.inl ⟨rfl, rfl⟩))
  · rintro r o (⟨rfl, rfl⟩ | ⟨rfl, rfl⟩)
    · exact ⟨by simp, by simp, .inl ⟨rfl, rfl⟩⟩
    · exact ⟨by simp, by simp, .inr ⟨rfl, rfl, rfl⟩⟩
theorem cl_fn (d : Array UInt8) (n : Nat) (ro : Bool) (hd : d.size = n) (hn : n ≤ 1000) : FnT Try.prog 30 [slA n] [rowR d ro] fun r o => r = .ret (.slice (some ⟨1, 0, none⟩) n n) ∧ o = [rowR d ro, rowA d] := by
  subst hd
  by_cases h0 : d.size = 0
  · have e : d = #[] := Array.eq_empty_of_size_eq_zero h0
    subst e
    exact cl_fn0 ro
  · refine FnT.ofT (n := slotsC Try.prog 30) (by kernel_rfl) ?_
    apply cl_a (arB d) ro (by rw [arB_size]; omega) hn
    case n0 => exact one_of_plain (pl_take (pl_bytes _) _)
    case pl0 => simp
    case l2 =>
      have e : ([] : List Value) ++ List.take ((arB d).size * 1) (bytesC (arB d)) = bytesC (arB d) := by
        rw [List.nil_append, Nat.mul_one, List.take_of_length_le (by rw [bytesC_length]; exact Nat.le_refl _)]
      refine cl_a_r0 (arB d) ro (by simp) ⟨by rw [Nat.zero_add]; rfl, ?_⟩
      rw [e]
noncomputable def gCl (a : List Value) (o : List VObj) : Option (Bool × CRes × List VObj) := match a, o with
  | [.slice (some ⟨0, 0, none⟩) n m], [.cells l el ro] => some (okA l (m = n ∧ el = 5 ∧ l.length = n ∧ n ≤ 1000), .ret (.slice (some ⟨1, 0, none⟩) n n), [.cells l el ro, .cells l el false])
  | _, _ => none
theorem cl_ok : FnOk Try.prog 30 (Sum.of gCl) := FnOk.of fun a o r o' hg => by
  unfold gCl at hg
  split at hg
  · rename_i n m l el ro
    simp only [Option.some.injEq, Prod.mk.injEq, okA_iff] at hg
    obtain ⟨⟨⟨d, rfl⟩, rfl, rfl, hl, hn⟩, rfl, rfl⟩ := hg
    have hd : d.size = m := by rw [← hl, bytesC_length]; rfl
    exact cl_fn d m ro hd hn
  · cases hg
noncomputable def tblT : List (FuncId × Sum) := (30, Sum.of gCl) :: tblR
theorem callsT : CallsOk Try.prog (callT Try.prog (tblL tblT) 50 40) := callT_ok plainN mixed (tblL_ok (.cons cl_ok (.cons ru_ok (.cons so_ok (.cons ix_ok (.cons co_ok (.cons hs_ok (.cons un_ok .nil)))))))) 50 40
end Go.Proofs.Ytnlkkgpcikkpoaa
