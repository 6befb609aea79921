/- The small machine's logic, eleventh text: nil rows within structs as empty ones. -/
import Derived.Test.YtdbjloigfkckfaaGreatDoorHd10
namespace Go.Proofs.YtdbjloigfkckfaaGreatDoor.Vm
open Go.RowKit
set_option linter.unusedVariables false
set_option linter.unusedSimpArgs false

theorem LR.nil_cell {ρ ρ1 : Ren} (hle : ρ.le ρ1) {c c' : List Value} {i : Nat} (a : Addr) (hi : c[i]? = some (.slice none 0 0)) (h : LR ρ c c') : LR ρ1 (c.set i (.slice (some a) 0 0)) c' := by
  have h1 : LR ρ1 c c' := ⟨h.len, fun k v v' x y => (h.at_ k v v' x y).mono hle⟩
  obtain ⟨v', h2, h3⟩ := h.get hi
  have := VR.scal_inv rfl h3
  subst this
  exact h1.set h2 (.slE _ _)
theorem VR.nil_cell {ρ ρ1 : Ren} (hle : ρ.le ρ1) {c : List Value} {i : Nat} {v' : Value} (a : Addr) (hi : c[i]? = some (.slice none 0 0)) (h : VR ρ (.agg c.toArray) v') : VR ρ1 (.agg (c.set i (.slice (some a) 0 0)).toArray) v' := by
  obtain ⟨c', rfl, h2⟩ := h.agg_inv
  exact VR.agg_iff (by simpa using LR.nil_cell hle a hi (by simpa using h2))

/-- A memory with one more row, an empty one. -/
theorem WR.addNil {P : Program} {B : Nat → Prop} {w₀ w : World} {ρ : Ren} {objs : List VObj} (h : WR P B w₀ ρ (memOf objs) w) {el : TypeId} {s : Nat} (hz : szOf P el = some s) (hl : objs.length < 262144) :
    ∃ ρ1, ρ.le ρ1 ∧ WR P B w₀ ρ1 (memOf (objs ++ [.cells [] el false])) w ∧ (∀ x, x ≠ objs.length → ρ1 x = ρ x) ∧ ∃ r, ρ1 objs.length = some r := by
  have hsk : small objs.length = true := small_iff.2 (by have : (2 : Nat) ^ 18 = 262144 := rfl; omega)
  have hnone : memOf objs objs.length = none := by rw [memOf_small hsk]; simp
  have hw := h.addDead hnone (o := .cells [] el false) (r := ⟨0, 0, s, 0⟩) rfl (fun m sz row e => by cases e) (fun el' ro e k hk => by
    cases e
    rw [hz] at hk
    cases hk
    rfl)
  have hm : upd (memOf objs) objs.length (.cells [] el false) = memOf (objs ++ [.cells [] el false]) := by
    funext x
    by_cases hx : x = objs.length
    · subst hx
      rw [upd_same, memOf_small hsk]
      simp
    · rw [upd_other _ hx]
      cases hs : small x with
      | false => rw [memOf_great hs, memOf_great hs]
      | true =>
        rw [memOf_small hs, memOf_small hs]
        by_cases hl : x < objs.length
        · rw [List.getElem?_append_left hl]
        · rw [List.getElem?_eq_none (by omega), List.getElem?_eq_none (by simp; omega)]
  rw [hm] at hw
  exact ⟨_, Ren.put_le (h.fresh _ hnone) _, hw, fun x hx => Ren.put_other ρ _ hx, _, Ren.put_same ρ _ _⟩

/-- An argument that holds a nil row. -/
theorem FnT.nilArg {P : Program} {f : FuncId} {v : Value} {c : List Value} {i : Nat} {objs : List VObj} {Q : CRes → List VObj → Prop} (el : TypeId) {s : Nat} (hz : szOf P el = some s) (hl : objs.length < 262144) (hi : c[i]? = some (.slice none 0 0))
    (h : FnT P f [v, .agg (c.set i (.slice (some ⟨objs.length, 0, none⟩) 0 0)).toArray] (objs ++ [.cells [] el false]) Q) : FnT P f [v, .agg c.toArray] objs Q := by
  intro B w₀ ρ w args' h1 h2 h3 h4
  obtain ⟨ρ1, g1, g2, g3, r0, g4⟩ := h4.addNil hz hl
  have hfull : Full ρ1 := fun q => by
    obtain ⟨y, a, b⟩ := h1 q
    exact ⟨y, a, g1 _ _ b⟩
  have hnm : ∀ x, x < (objs ++ [VObj.cells [] el false]).length → ∃ r, ρ1 x = some r := fun x hx => by
    by_cases e : x = objs.length
    · subst e; exact ⟨_, g4⟩
    · obtain ⟨r, hr⟩ := h2 x (by simp at hx; omega)
      exact ⟨r, g1 _ _ hr⟩
  obtain ⟨v', l2, e1, a1, a2⟩ := h3.inv_cons
  obtain ⟨u', l3, rfl, a3, a4⟩ := a2.inv_cons
  have hlr : LR ρ1 [v, .agg (c.set i (.slice (some ⟨objs.length, 0, none⟩) 0 0)).toArray] args'.toList := by
    rw [e1]
    rw [a4.inv_nil]
    exact LR.cons (a1.mono g1) (LR.cons (VR.nil_cell g1 _ hi a3) (LR.nil _))
  refine (h B w₀ ρ1 w args' hfull hnm hlr g2).mono fun e w' he => ?_
  obtain ⟨r, o', ρ', b1, b2, b3, b4, b5, b6⟩ := he
  exact ⟨r, o', ρ', b1, b2, b3, b4, b5, fun x hx => by rw [b6 x (by simp; omega), g3 x (by omega)]⟩

/-- Block i, a struct whose k-th cell is a nil row, gets an empty one. -/
def nilObj (i k : Nat) (el : TypeId) (d : Desc) : Desc :=
  ⟨d.sl, (match d.objs[i]? with
    | some (.cells c e ro) => d.objs.set i (.cells (c.set k (.slice (some ⟨d.objs.length, 0, none⟩) 0 0)) e ro)
    | _ => d.objs) ++ [.cells [] el false]⟩

theorem TriL.nilObj {P : Program} {n k : Nat} {l : List Code} {d d' : Desc} {Q : VEx → Desc → Prop} (i kk : Nat) (el : TypeId) {s : Nat} {c : List Value} {e : TypeId} (hz : szOf P el = some s) (hi : d.objs[i]? = some (.cells c e false)) (hc : c[kk]? = some (.slice none 0 0))
    (hb : (Nat.blt d.objs.length 262144 && Nat.ble k d.objs.length) = true) (hd : Go.Proofs.YtdbjloigfkckfaaGreatDoor.Vm.nilObj i kk el d = d') (h : TriL P n k l d' Q) : TriL P n k l d Q := by
  intro X hn hk a w hd0
  subst hd
  refine h X hn hk a w ?_
  obtain ⟨ρ, u, hd⟩ := hd0
  simp only [Bool.and_eq_true] at hb
  have c3 := blt_iff.1 hb.1
  have c4 := Nat.le_of_ble_eq_true hb.2
  obtain ⟨ρ1, g1, g2, g3, r0, g4⟩ := hd.mem.addNil hz c3
  have hil : i < d.objs.length := (List.getElem?_eq_some_iff.1 hi).1
  have hsi : small i = true := small_iff.2 (by have : (2 : Nat) ^ 18 = 262144 := rfl; omega)
  have hsm : ∀ x, x ≤ d.objs.length → small x = true := fun x hx => small_iff.2 (by have : (2 : Nat) ^ 18 = 262144 := rfl; omega)
  have hfull : Full ρ1 := fun q => by
    obtain ⟨y, a, b⟩ := hd.full q
    exact ⟨y, a, g1 _ _ b⟩
  have hobjs : (Go.Proofs.YtdbjloigfkckfaaGreatDoor.Vm.nilObj i kk el d).objs = d.objs.set i (.cells (c.set kk (.slice (some ⟨d.objs.length, 0, none⟩) 0 0)) e false) ++ [.cells [] el false] := by
    unfold Go.Proofs.YtdbjloigfkckfaaGreatDoor.Vm.nilObj
    rw [hi]
  have hne : c ≠ [] := by rintro rfl; simp at hc
  have hmem : ∀ x o, memOf (Go.Proofs.YtdbjloigfkckfaaGreatDoor.Vm.nilObj i kk el d).objs x = some o → (x ≠ i ∧ memOf (d.objs ++ [.cells [] el false]) x = some o) ∨ (x = i ∧ o = .cells (c.set kk (.slice (some ⟨d.objs.length, 0, none⟩) 0 0)) e false) := fun x o hx => by
    rw [hobjs] at hx
    cases hs : small x with
    | false =>
      refine .inl ⟨(fun e => by subst e; rw [hsi] at hs; cases hs), ?_⟩
      rw [memOf_great hs] at hx ⊢
      exact hx
    | true =>
      rw [memOf_small hs] at hx
      by_cases e0 : x = i
      · subst e0
        rw [List.getElem?_append_left (by simpa using hil), List.getElem?_set_self hil] at hx
        exact .inr ⟨rfl, (Option.some.inj hx).symm⟩
      · refine .inl ⟨e0, ?_⟩
        rw [memOf_small hs]
        by_cases hxl : x < d.objs.length
        · rw [List.getElem?_append_left (by simpa using hxl), List.getElem?_set_ne (Ne.symm e0)] at hx
          rw [List.getElem?_append_left hxl]
          exact hx
        · rw [List.getElem?_append_right (by simp; omega)] at hx
          rw [List.getElem?_append_right (by omega)]
          simpa using hx
  have hmi : memOf (d.objs ++ [.cells [] el false]) i = some (.cells c e false) := by
    rw [memOf_small hsi, List.getElem?_append_left hil]; exact hi
  have hlive : ∀ r, Live (.cells c e false) r = true := fun r => live_ne hne
  have hwr : WR P X.B X.w₀ ρ1 (memOf (Go.Proofs.YtdbjloigfkckfaaGreatDoor.Vm.nilObj i kk el d).objs) w :=
    { below := g2.below, size := g2.size
      live := by
        intro x o r hx hr hl
        rcases hmem x o hx with ⟨_, h2⟩ | ⟨rfl, rfl⟩
        · exact g2.live x o r h2 hr hl
        · obtain ⟨o', q1, q2, q3⟩ := g2.live x _ r hmi hr (hlive r)
          refine ⟨o', q1, ?_, fun _ => q3 rfl⟩
          cases q2 with
          | cells _ _ el' _ c' fr hp hs he hzz hf hcc =>
            refine .cells _ e el' false c' fr hp (by rw [List.length_set]; exact hs) he hzz hf fun j v hv => ?_
            by_cases ej : j = kk
            · subst ej
              have hjl : j < c.length := (List.getElem?_eq_some_iff.1 hc).1
              rw [List.getElem?_set_self hjl] at hv
              cases hv
              obtain ⟨v', q4, q5⟩ := hcc j _ hc
              have := VR.scal_inv rfl q5
              subst this
              exact ⟨_, q4, .slE _ _⟩
            · rw [List.getElem?_set_ne (Ne.symm ej)] at hv
              exact hcc j v hv
      inj := by
        intro x y ox oy rx ry hx hy hrx hry hlx hly hdd he
        have key : ∀ x o r, memOf (Go.Proofs.YtdbjloigfkckfaaGreatDoor.Vm.nilObj i kk el d).objs x = some o → Live o r = true → ∃ ob, memOf (d.objs ++ [.cells [] el false]) x = some ob ∧ Live ob r = true ∧ ob.ro = o.ro := fun x o r hx hl => by
          rcases hmem x o hx with ⟨_, h2⟩ | ⟨rfl, rfl⟩
          · exact ⟨o, h2, hl, rfl⟩
          · exact ⟨_, hmi, hlive r, rfl⟩
        obtain ⟨a, a1, a2, a3⟩ := key x ox rx hx hlx
        obtain ⟨b, b1, b2, b3⟩ := key y oy ry hy hly
        exact g2.inj x y a b rx ry a1 b1 hrx hry a2 b2 (hdd.imp (fun h => a3 ▸ h) (fun h => b3 ▸ h)) he
      fresh := by
        intro x hx
        refine g2.fresh x ?_
        rw [hobjs] at hx
        cases hs : small x with
        | false => rw [memOf_great hs] at hx; cases hx
        | true =>
          rw [memOf_small hs, List.getElem?_eq_none_iff] at hx
          rw [memOf_small hs, List.getElem?_eq_none_iff]
          simp at hx ⊢
          omega
      rows := by
        intro x m size row hx
        rcases hmem x _ hx with ⟨_, h2⟩ | ⟨rfl, h2⟩
        · exact g2.rows x m size row h2
        · cases h2
      nil := by
        intro x el' ro r hx hr
        rcases hmem x _ hx with ⟨_, h2⟩ | ⟨rfl, h2⟩
        · exact g2.nil x el' ro r h2 hr
        · exfalso
          simp only [VObj.cells.injEq] at h2
          have := congrArg List.length h2.1
          rw [List.length_set] at this
          exact hne (List.eq_nil_of_length_eq_zero this.symm)
      named := by
        intro x o hx hdead
        rcases hmem x o hx with ⟨_, h2⟩ | ⟨rfl, _⟩
        · exact g2.named x o h2 hdead
        · exact g2.named x _ hmi (by intro e; cases e) }
  refine ⟨ρ1, u, hfull, fun x hx => ?_, hd.fr.mono g1, hwr, ?_⟩
  · rw [← hd.kept x hx, g3 x (by omega)]
  · rw [hobjs]; simp; omega
end Go.Proofs.YtdbjloigfkckfaaGreatDoor.Vm
