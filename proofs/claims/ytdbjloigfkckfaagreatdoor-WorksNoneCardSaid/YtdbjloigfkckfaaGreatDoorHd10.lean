/- The small machine's logic, tenth text: a nil row as an empty one. -/
import Derived.Test.YtdbjloigfkckfaaGreatDoorHd9
namespace Go.Proofs.YtdbjloigfkckfaaGreatDoor.Vm
open Go.RowKit
set_option linter.unusedVariables false
set_option linter.unusedSimpArgs false

theorem slotOf_nodup : ∀ {l : List (Nat × Value)}, nodupB (l.map (·.1)) = true → ∀ p ∈ l, slotOf l p.1 = some p.2
  | [], _, p, hp => by cases hp
  | q :: l, h, p, hp => by
    simp only [List.map_cons, nodupB, Bool.and_eq_true, Bool.not_eq_true', List.any_eq_false] at h
    obtain ⟨h1, h2⟩ := h
    unfold slotOf
    rcases List.mem_cons.1 hp with rfl | hp
    · have hn : slotOf l p.1 = none := by
        have key : ∀ l : List (Nat × Value), (∀ x ∈ l.map (·.1), ¬ Nat.beq p.1 x = true) → slotOf l p.1 = none := by
          intro l
          induction l with
          | nil => intro _; rfl
          | cons q l ih =>
            intro hx
            unfold slotOf
            rw [ih fun x hm => hx x (by simp at hm ⊢; exact .inr hm)]
            have := hx q.1 (by simp)
            cases hb : Nat.beq q.1 p.1 with
            | false => rfl
            | true => exact absurd (by rw [Nat.eq_of_beq_eq_true hb, Nat.beq_refl]) this
        exact key l h1
      rw [hn, Nat.beq_refl]
    · rw [slotOf_nodup h2 p hp]

/-- Slot i, nil so far, gets an empty row. -/
def nilRow (i : Nat) (el : TypeId) (d : Desc) : Desc :=
  ⟨d.sl.map fun p => bif Nat.beq p.1 i then (i, .slice (some ⟨d.objs.length, 0, none⟩) 0 0) else p, d.objs ++ [.cells [] el false]⟩

theorem Holds.nilAt {P : Program} {X : Ctx} {d : Desc} {a : Act} {w : World} (i : Nat) (el : TypeId) {s : Nat} (hz : szOf P el = some s) (hi : slotOf d.sl i = some (.slice none 0 0))
    (hc : (nodupB (d.sl.map (·.1)) && d.sl.all (fun p => Nat.blt p.1 X.n) && Nat.blt d.objs.length 262144 && Nat.ble X.k d.objs.length) = true) (h : Holds P X d a w) : Holds P X (nilRow i el d) a w := by
  obtain ⟨ρ, u, hd⟩ := h
  simp only [Bool.and_eq_true] at hc
  obtain ⟨⟨⟨c1, c2⟩, c3⟩, c4⟩ := hc
  have c3 := blt_iff.1 c3
  have c4 := Nat.le_of_ble_eq_true c4
  have hsk : small d.objs.length = true := small_iff.2 (by have : (2 : Nat) ^ 18 = 262144 := rfl; omega)
  have hnone : memOf d.objs d.objs.length = none := by rw [memOf_small hsk]; simp
  let r : Where := ⟨0, 0, s, 0⟩
  have hle : ρ.le (ρ.put d.objs.length r) := Ren.put_le (hd.mem.fresh _ hnone) r
  have hw := hd.mem.addDead hnone (o := .cells [] el false) (r := r) rfl (fun m sz row e => by cases e) (fun el' ro e k hk => by
    cases e
    rw [hz] at hk
    cases hk
    rfl)
  have hm : upd (memOf d.objs) d.objs.length (.cells [] el false) = memOf (d.objs ++ [.cells [] el false]) := by
    funext x
    by_cases hx : x = d.objs.length
    · subst hx
      rw [upd_same, memOf_small hsk]
      simp
    · rw [upd_other _ hx]
      cases hs : small x with
      | false => rw [memOf_great hs, memOf_great hs]
      | true =>
        rw [memOf_small hs, memOf_small hs]
        by_cases hl : x < d.objs.length
        · rw [List.getElem?_append_left hl]
        · rw [List.getElem?_eq_none (by omega), List.getElem?_eq_none (by simp; omega)]
  rw [hm] at hw
  have hnl : (frU X.n u d.sl).n = X.n := by show (valsU X.n u d.sl).length = _; unfold valsU; rw [foldset_len]; simp
  have hsz : a.tmps.size = X.n := by rw [hd.fr.size, hnl]
  have hn : X.n ≤ 1024 := by have := hd.fr.small; omega
  have hfull2 : Full (ρ.put d.objs.length r) := fun q => by
    obtain ⟨y, h1, h2⟩ := hd.full q
    exact ⟨y, h1, hle _ _ h2⟩
  obtain ⟨u', hu⟩ : ∃ u' : Nat → Value, FR (ρ.put d.objs.length r) (frU X.n u' (nilRow i el d).sl) a := by
    refine FR.make hsz hn (hd.fr.none_left rfl) (fun j => ⟨_, (hd.fr.at_ j).mono hle⟩) fun p hp => ?_
    simp only [nilRow, List.mem_map] at hp
    obtain ⟨p0, hp0, rfl⟩ := hp
    have hp0n : p0.1 < X.n := blt_iff.1 (List.all_eq_true.1 c2 p0 hp0)
    have hat := hd.fr.at_ p0.1
    rw [frU_at hn hp0n (slotOf_nodup c1 p0 hp0)] at hat
    cases hb : Nat.beq p0.1 i with
    | false => exact ⟨hp0n, hat.mono hle⟩
    | true =>
      have e := Nat.eq_of_beq_eq_true hb
      subst e
      refine ⟨hp0n, ?_⟩
      have h2 := slotOf_nodup c1 p0 hp0
      rw [hi] at h2
      have h3 : p0.2 = .slice none 0 0 := (Option.some.inj h2).symm
      rw [h3] at hat
      show VR _ (.slice (some ⟨d.objs.length, 0, none⟩) 0 0) (a.tmps.getD p0.1 undef)
      rw [VR.scal_inv rfl hat]
      exact .slE _ _
  exact ⟨_, u', hfull2, fun x hx => by
    rw [← hd.kept x hx]
    show (if x = d.objs.length then some r else ρ x) = ρ x
    rw [if_neg (by omega)], hu, hw, by
    show Nat.le (d.objs ++ [VObj.cells [] el false]).length 262144
    simp; omega⟩

theorem TriL.nilAt {P : Program} {n k : Nat} {l : List Code} {d d' : Desc} {Q : VEx → Desc → Prop} (i : Nat) (el : TypeId) {s : Nat} (hz : szOf P el = some s) (hi : slotOf d.sl i = some (.slice none 0 0))
    (hc : (nodupB (d.sl.map (·.1)) && d.sl.all (fun p => Nat.blt p.1 n) && Nat.blt d.objs.length 262144 && Nat.ble k d.objs.length) = true) (hd : nilRow i el d = d') (h : TriL P n k l d' Q) : TriL P n k l d Q := by
  intro X hn hk a w hd0
  subst hd
  exact h X hn hk a w (hd0.nilAt i el hz hi (by rw [hn, hk]; exact hc))
end Go.Proofs.YtdbjloigfkckfaaGreatDoor.Vm
