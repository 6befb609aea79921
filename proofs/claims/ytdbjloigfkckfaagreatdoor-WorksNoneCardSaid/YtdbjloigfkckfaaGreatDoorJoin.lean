/- What is said of strings.Join, from the kit's contract. -/
import Derived.Test.YtdbjloigfkckfaaGreatDoorLay
import Derived.Test.YtdbjloigfkckfaaGreatDoorCall0
namespace Go.Proofs.YtdbjloigfkckfaaGreatDoor
open Go Vm Go.RowKit
set_option linter.unusedVariables false
set_option linter.unusedSimpArgs false
set_option maxRecDepth 100000

theorem Vm.WR.under {P : Program} {B : Nat → Prop} {w₀ w w' : World} {ρ : Vm.Ren} {g : Nat → Option VObj} (h : WR P B w₀ ρ g w) (hb : Below w.heap.size w w') : WR P B w₀ ρ g w' where
  below := h.below.trans ⟨hb.os, hb.tape, hb.output, hb.size, fun k hk => hb.block k (h.size k hk)⟩
  size := fun k hk => Nat.lt_of_lt_of_le (h.size k hk) hb.size
  live := fun x o r hx hr hl => by
    obtain ⟨o', h1, h2⟩ := h.live x o r hx hr hl
    exact ⟨o', (hb.block _ (Array.getElem?_eq_some_iff.1 h1).1).trans h1, h2⟩
  inj := h.inj
  fresh := h.fresh
  rows := h.rows
  nil := h.nil
  named := h.named

def isStrVJ : Value → Bool
  | .string _ => true
  | _ => false
def toStrVJ : Value → ByteArray
  | .string s => s
  | _ => ByteArray.empty
theorem strs_ofJ {c : List Value} (h : c.all isStrVJ = true) : c = strsC (c.map toStrVJ) := by
  induction c with
  | nil => rfl
  | cons v c ih =>
    simp only [List.all_cons, Bool.and_eq_true] at h
    rw [ih h.2]
    have h1 := h.1
    unfold isStrVJ at h1
    split at h1
    · unfold strsC; simp [toStrVJ]
    · cases h1
def joinB (l : List ByteArray) (sep : ByteArray) : ByteArray := ⟨(Lib.join (l.map (·.data.toList)) sep.data.toList).toArray⟩
theorem join_fn (c : List Value) (el : TypeId) (ro : Bool) (off n m : Nat) (sep : ByteArray) (l : List ByteArray) (hcut : cut c off n = some (strsC l)) (hm : n ≤ m) (hN : n ≤ 140737488355328)
    (hlen : (Lib.join (l.map (·.data.toList)) sep.data.toList).length ≤ 140737488355328) :
    FnT Tryz.prog 161 [.slice (some ⟨0, off, none⟩) n m, .string sep] [.cells c el ro] fun r o => r = .ret (.string (joinB l sep)) ∧ o = [.cells c el ro] := by
  intro B w₀ ρ w args' hfull hnamed hargs hw
  obtain ⟨v1, l1, e1, h1, t1⟩ := hargs.inv_cons
  obtain ⟨v2, l2, e2, h2, t2⟩ := t1.inv_cons
  have e3 := t2.inv_nil
  have e4 : v2 = .string sep := by cases h2; rfl
  have ea : args' = #[v1, .string sep] := by rw [← Array.toArray_toList (xs := args'), e1, e2, e3, e4]
  subst ea
  have hl : l.length = n := by
    unfold cut at hcut
    split at hcut
    · rename_i hb
      have hb := Nat.le_of_ble_eq_true hb
      simp only [Option.some.injEq] at hcut
      have := congrArg List.length hcut
      rw [strsC_length] at this
      simp at this
      omega
    · cases hcut
  have fin : ∀ e w', e = .returned (.string (joinB l sep)) → Below w.heap.size w w' → ∃ r objs' ρ', (r = CRes.ret (.string (joinB l sep)) ∧ objs' = [VObj.cells c el ro]) ∧ CR ρ' r e ∧ Full ρ' ∧ WR Tryz.prog B w₀ ρ' (memOf objs') w' ∧ objs'.length ≤ 262144 ∧ ∀ x, x < [VObj.cells c el ro].length → ρ' x = ρ x := by
    rintro e w' rfl hb
    exact ⟨_, _, ρ, ⟨rfl, rfl⟩, VR.scal _ rfl, hfull, hw.under hb, by simp, fun _ _ => rfl⟩
  have none0 : l = [] → joinB l sep = ⟨#[]⟩ := fun e => by subst e; rfl
  cases h1 with
  | scal _ h => cases h
  | slE _ a' =>
    have hl0 : l = [] := List.length_eq_zero_iff.1 (by omega)
    exact (Tryz.strings_Join_none a' 0 sep w).mono fun e w' ⟨he, hw'⟩ => fin e w' (by rw [he, none0 hl0]) (by rw [hw']; exact Below.refl _ _)
  | sl _ _ _ _ cap' r hr hc =>
    cases hn : l with
    | nil =>
      rw [hn] at hl
      simp only [List.length_nil] at hl
      subst hl
      rw [← hn]
      exact (Tryz.strings_Join_none _ cap' sep w).mono fun e w' ⟨he, hw'⟩ => fin e w' (by rw [he, none0 hn]) (by rw [hw']; exact Below.refl _ _)
    | cons x rest =>
      have hne : c ≠ [] := by
        intro e
        subst e
        unfold cut at hcut
        split at hcut
        · rename_i hb
          have hb := Nat.le_of_ble_eq_true hb
          rw [hn] at hl
          simp at hb hl
          omega
        · cases hcut
      obtain ⟨o', g1, g2, g3⟩ := hw.live 0 (.cells c el ro) r rfl hr (live_ne hne)
      cases g2 with
      | cells _ _ el' _ c' fr hp hs he hz hf hcc =>
        have hcells : ∀ (j : Nat) x, l[j]? = some x → w.cell? ⟨r.blk, r.sh + off + j, none⟩ = some (.string x) := fun j x hx => by
          have h3 : c[off + j]? = some (.string x) := by
            unfold cut at hcut
            split at hcut
            · simp only [Option.some.injEq] at hcut
              have h4 : (strsC l)[j]? = some (.string x) := by unfold strsC; rw [List.getElem?_map, hx]; rfl
              rw [← hcut, List.getElem?_take] at h4
              split at h4
              · rwa [List.getElem?_drop] at h4
              · cases h4
            · cases hcut
          obtain ⟨v', h5, h6⟩ := hcc _ _ h3
          have : v' = .string x := by cases h6; rfl
          subst this
          unfold World.cell?
          simp only [g1]
          rw [show r.sh + off + j = r.sh + (off + j) by omega]
          exact h5
        have := (Tryz.strings_Join r.blk (r.sh + off) cap' l sep w hcells (Array.getElem?_eq_some_iff.1 g1).1 (by omega) (by rcases hc with h | h <;> omega) hlen)
        rw [hl] at this
        rw [← hn]
        exact this.mono fun e w' ⟨he, hw'⟩ => fin e w' he hw'
def gJoin (a : List Value) (o : List VObj) : Option (Bool × CRes × List VObj) := match a, o with
  | [.slice (some ⟨0, off, none⟩) n m, .string sep], [.cells c el ro] => match cut c off n with
    | some d => some (d.all isStrVJ && (Nat.ble n m && (Nat.ble n 140737488355328 && Nat.ble (Lib.join ((d.map toStrVJ).map (·.data.toList)) sep.data.toList).length 140737488355328)), .ret (.string (joinB (d.map toStrVJ) sep)), [.cells c el ro])
    | none => none
  | _, _ => none
theorem join_ok : FnOk Tryz.prog 161 (Sum.of gJoin) := FnOk.of fun a o r o' h => by
  unfold gJoin at h
  split at h
  · rename_i off n m sep c el ro
    split at h
    · rename_i d hd
      simp only [Option.some.injEq, Prod.mk.injEq, Bool.and_eq_true, ble_t] at h
      obtain ⟨⟨h1, h2, h3, h4⟩, rfl, rfl⟩ := h
      have e := strs_ofJ h1
      exact join_fn c el ro off n m sep (d.map toStrVJ) (by rw [← e]; exact hd) h2 h3 h4
    · cases h
  · cases h
def tblC1 : List (FuncId × Sum) := [(161, Sum.of gJoin)]
theorem callsC1 : CallsOk Tryz.prog (callT Tryz.prog (tblL tblC1) 1000 60) := callT_ok plainN mixed (tblL_ok (.cons join_ok .nil)) 1000 60
end Go.Proofs.YtdbjloigfkckfaaGreatDoor
