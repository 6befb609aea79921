/- Part of the proof: Cie, Cif. -/
import Derived.Test.YtgepfmamfdmclaaGreatDoorJAd
import Derived.KernelRfl
set_option linter.unusedVariables false
set_option linter.unusedSimpArgs false
set_option maxRecDepth 100000
namespace Go.Proofs.YtgepfmamfdmclaaGreatDoor
open Go Vm Go.RowKit
noncomputable def Lslices_Clone___int_int_ : List Code := flat2 (bodyC Tryz.prog 133)
open Tree renaming mkNeed → mN, mkFork → mF, mkLeaf → mL, mkQ → mQ, mkR → mR, mkE → mE
noncomputable abbrev cie_k0 : List Code := (Lslices_Clone___int_int_.drop 2)
noncomputable abbrev ci_0_d0  : Desc := ⟨[(0, .slice (some ⟨0, 1, none⟩) (0) (0))], [.cells [.int .i64 0] 3 false]⟩
theorem ci_0  {Q : VEx → Desc → Prop} (l0 : TriL Tryz.prog 8 1 (Lslices_Clone___int_int_.drop 1) (ci_0_d0 ) Q) : TriL Tryz.prog 8 1 Lslices_Clone___int_int_ ⟨[(0, .slice (some ⟨0, 1, none⟩) 0 0)], [.cells [.int .i64 0] 3 false]⟩ Q :=
 TriL.tree plainN mixed calls0 (lf := 50) (m := 1) (s := (.leaf [0] [0] [])) (fun u => by kernel_rfl) (mQ l0)
noncomputable abbrev ci_b_d0  : Desc := ⟨[(2, .slice none (0) (0))], [.cells [.int .i64 0] 3 false]⟩
theorem ci_b_r0 {Q : CRes → List VObj → Prop} (hq : Q (.ret (.slice none (0) (0))) [.cells [.int .i64 0] 3 false]) : FinT Tryz.prog 133 8 1 Q .ret (ci_b_d0 ) := FinT.ret (vs := [.slice none (0) (0)]) (l := []) (bs := [0]) (pl := []) (q := []) (fun u => by kernel_rfl) (by kernel_rfl) pls_nil hq
theorem ci_b  {Q : VEx → Desc → Prop} (l0 : Q (.ret) (ci_b_d0 )) : TriL Tryz.prog 8 1 cie_k0 ⟨[(0, .slice (some ⟨0, 1, none⟩) 0 0), (4, .bool true)], [.cells [.int .i64 0] 3 false]⟩ Q :=
 TriL.tree plainN mixed calls0 (lf := 50) (m := 1000) (s := (.leaf [2] [0] [])) (fun u => by kernel_rfl) (mR l0)
noncomputable abbrev ci_c_d0  : Desc := ⟨[(2, .slice (some ⟨1, 0, none⟩) (0) (0))], [.cells [.int .i64 0] 3 false, .cells ([]) 3 false]⟩
theorem ci_c_r0 {Q : CRes → List VObj → Prop} (hq : Q (.ret (.slice (some ⟨1, 0, none⟩) (0) (0))) [.cells [.int .i64 0] 3 false, .cells ([]) 3 false]) : FinT Tryz.prog 133 8 1 Q .ret (ci_c_d0 ) := FinT.ret (vs := [.slice (some ⟨1, 0, none⟩) (0) (0)]) (l := []) (bs := [0, 1]) (pl := []) (q := []) (fun u => by kernel_rfl) (by kernel_rfl) pls_nil hq
theorem ci_c  {Q : VEx → Desc → Prop} (l0 : Q (.ret) (ci_c_d0 )) : TriL Tryz.prog 8 1 cie_k0 ⟨[(0, .slice (some ⟨0, 1, none⟩) 0 0), (4, .bool false)], [.cells [.int .i64 0] 3 false]⟩ Q :=
 TriL.tree plainN mixed calls0 (lf := 50) (m := 1000) (s := (.leaf [2] [0, 2] [])) (fun u => by kernel_rfl) (mR l0)
theorem FnT.retNil {P : Program} {f : FuncId} {args : List Value} {objs : List VObj} {Q Q' : CRes → List VObj → Prop} (el : TypeId) {s : Nat} (hz : szOf P el = some s) (hk : objs.length < 262144) (h : FnT P f args objs Q)
  (hq : ∀ r o, Q r o → objs.length ≤ o.length ∧ o.length < 262144 ∧ (Q' r o ∨ (r = .ret (.slice none 0 0) ∧ Q' (.ret (.slice (some ⟨o.length, 0, none⟩) 0 0)) (o ++ [.cells [] el false])))) : FnT P f args objs Q' := by
 intro B w₀ ρ w args' h1 h2 h3 h4
 refine (h B w₀ ρ w args' h1 h2 h3 h4).mono ?_
 rintro e w' ⟨r, o, ρ', a, b, c, d, e1, e2⟩
 obtain ⟨hl, hl2, hq⟩ := hq r o a
 rcases hq with hq | ⟨rfl, hq⟩
 ·exact ⟨r, o, ρ', hq, b, c, d, e1, e2⟩
 ·obtain ⟨ρ1, f1, f2, f3, r', f4⟩ := d.addNil hz hl2
  refine ⟨_, _, ρ1, hq, ?_, fun r => ?_, f2, by simp; omega, fun x hx => by rw [f3 x (by omega), e2 x hx]⟩
  ·cases e with
   | returned v => have hv : VR ρ' (.slice none 0 0) v := b; cases hv with
    | scal _ _ => exact VR.slE _ _
   | panicked ch => cases b
   | outgrown => cases b
  ·obtain ⟨y, g1, g2⟩ := c r
   exact ⟨y, g1, f1 _ _ g2⟩
abbrev ci_t : Told1 := ⟨[.slice (some ⟨0, 1, none⟩) 0 0], [.cells [.int .i64 0] 3 false], .ret (.slice (some ⟨1, 0, none⟩) 0 0), [.cells [.int .i64 0] 3 false, .cells [] 3 false]⟩
theorem ci_fn : FnT Tryz.prog 133 ci_t.args ci_t.objs fun r o => r = ci_t.r ∧ o = ci_t.out := by
 refine FnT.retNil (Q := fun r o => (r = .ret (.slice (some ⟨1, 0, none⟩) 0 0) ∧ o = [.cells [.int .i64 0] 3 false, .cells [] 3 false]) ∨ (r = .ret (.slice none 0 0) ∧ o = [.cells [.int .i64 0] 3 false])) 3 (s := 1) (by kernel_rfl) (by simp) ?_ ?_
 ·refine FnT.ofT (n := slotsC Tryz.prog 133) (by kernel_rfl) ?_
  apply ci_0
  refine TriL.eqNil ⟨0, 3, 4, 32⟩ 3 ⟨0, 1, none⟩ (by kernel_rfl) (by kernel_rfl) (by rfl) (by rfl) ?_
  intro b
  cases b with
  | true => exact ci_b (ci_b_r0 (.inr ⟨rfl, rfl⟩))
  | false => exact ci_c (ci_c_r0 (.inl ⟨rfl, rfl⟩))
 ·rintro r o (⟨rfl, rfl⟩ | ⟨rfl, rfl⟩)
  ·exact ⟨by simp, by simp, .inl ⟨rfl, rfl⟩⟩
  ·exact ⟨by simp, by simp, .inr ⟨rfl, rfl, rfl⟩⟩
noncomputable def tblI : List (FuncId × Sum) := [(133, Sum.ofR Tryz.prog (toldSpec [ci_t]))]
theorem callsI : CallsOk Tryz.prog (callT Tryz.prog (tblL tblI) 1000 60) :=
 callT_ok plainN mixed (tblL_ok (.cons (FnOk.told fun t ht => by
  rcases List.mem_cons.1 ht with rfl | ht
  ·exact ci_fn
  cases ht) .nil)) 1000 60
end Go.Proofs.YtgepfmamfdmclaaGreatDoor
