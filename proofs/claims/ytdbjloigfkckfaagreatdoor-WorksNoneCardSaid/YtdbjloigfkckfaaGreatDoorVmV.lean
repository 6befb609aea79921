/- The small machine: rows of arguments get names of their own when they are come to. -/
import Derived.Test.YtdbjloigfkckfaaGreatDoorVm8
namespace Go.Proofs.YtdbjloigfkckfaaGreatDoor.Vm
open Go.RowKit
set_option linter.unusedVariables false
set_option linter.unusedSimpArgs false

section
variable {P : Program} {B : Nat → Prop} {w₀ : World} {ρ : Ren} {g : Nat → Option VObj} {w : World}

/-- A name for what need not be anywhere. -/
theorem WR.addDead (h : WR P B w₀ ρ g w) {n : Nat} (hn : g n = none) {o : VObj} {r : Where} (hl : Live o r = false)
    (hrows : ∀ m size row, o = .rows m size row → 0 < m → RowsAt P w₀ B r m size row) (hnil : ∀ el ro, o = .cells [] el ro → ∀ k, szOf P el = some k → r.sz = k) : WR P B w₀ (ρ.put n r) (upd g n o) w :=
  h.put hn (fun y hy => .inl (upd_other _ hy)) (upd_same _ _ _) (BelowK.refl B w) (Nat.le_refl _) (fun y oy ry _ _ h1 h2 h3 => rfl) (fun e => by rw [hl] at e; cases e) (fun e => by rw [hl] at e; cases e) hrows hnil

/-- A name for a row of cells, to be read. -/
theorem WR.addRo (h : WR P B w₀ ρ g w) {n : Nat} (hn : g n = none) {c : List Value} {el : TypeId} {r : Where} (hz : ∀ k, szOf P el = some k → r.sz = k)
    (hc : c ≠ [] ∨ r.phys ≠ 0 → B r.blk ∧ ∃ (c' : Array Value) (el' : TypeId) (fr : Nat × Nat), w.heap[r.blk]? = some (.cells c' el' fr) ∧ c'.size = r.phys ∧ r.sh + c.length ≤ r.phys ∧
      ∀ (i : Nat) (v : Value), c[i]? = some v → ∃ v', c'[r.sh + i]? = some v' ∧ VR (ρ.put n r) v v') : WR P B w₀ (ρ.put n r) (upd g n (.cells c el true)) w := by
  have hc' : Live (.cells c el true) r = true → B r.blk ∧ ∃ (c' : Array Value) (el' : TypeId) (fr : Nat × Nat), w.heap[r.blk]? = some (.cells c' el' fr) ∧ c'.size = r.phys ∧ r.sh + c.length ≤ r.phys ∧
      ∀ (i : Nat) (v : Value), c[i]? = some v → ∃ v', c'[r.sh + i]? = some v' ∧ VR (ρ.put n r) v v' := fun hl => by
    refine hc ?_
    by_cases hne : c = []
    · right
      intro e
      subst hne
      simp [Live, e] at hl
    · exact .inl hne
  refine h.put hn (fun y hy => .inl (upd_other _ hy)) (upd_same _ _ _) (BelowK.refl B w) (Nat.le_refl _) (fun y oy ry _ _ h1 h2 h3 => rfl) (fun hl => ?_) (fun hl y oy ry e h0 h1 h2 h3 hd e' => ?_) (fun m s q e => by cases e) (fun el' ro e => by cases e; exact hz)
  · obtain ⟨hB, c', el', fr, hb, hp, hs, hcc⟩ := hc' hl
    exact ⟨_, hb, .cells c el el' true c' fr hp hs (fun e => by cases e) hz (fun e => by cases e) hcc, fun e => by cases e⟩
  · obtain ⟨hB, _⟩ := hc' hl
    obtain ⟨_, _, _, h6⟩ := h.live y oy ry h1 h2 h3
    rcases hd with hd | hd
    · exact h6 hd (e' ▸ hB)
    · cases hd

def updN (g : Nat → Option VObj) : Nat → List VObj → Nat → Option VObj
  | _, [] => g
  | k, o :: l => updN (upd g k o) (k + 1) l
theorem updN_append (g : Nat → Option VObj) : ∀ (k : Nat) (l l' : List VObj), updN g k (l ++ l') = updN (updN g k l) (k + l.length) l'
  | k, [], l' => rfl
  | k, o :: l, l' => by
    show updN (upd g k o) (k + 1) (l ++ l') = _
    rw [updN_append]
    simp only [List.length_cons]
    rw [show k + 1 + l.length = k + (l.length + 1) by omega]
    rfl
theorem updN_other {k x : Nat} {l : List VObj} {g : Nat → Option VObj} (h : x < k ∨ k + l.length ≤ x) : updN g k l x = g x := by
  induction l generalizing k g with
  | nil => rfl
  | cons o l ih =>
    show updN (upd g k o) (k + 1) l x = _
    rw [ih (by simp only [List.length_cons] at h; omega), upd_other _ (by simp only [List.length_cons] at h; omega)]

theorem viewLen_eq : ∀ l : List SV, (viewObjs l).length = viewLen l
  | [] => rfl
  | .val _ :: l => viewLen_eq l
  | .cells _ _ _ :: l => by show (viewObjs l).length + 1 = _; rw [viewLen_eq l]; rfl
  | .rows _ _ _ :: l => by show (viewObjs l).length + 1 = _; rw [viewLen_eq l]; rfl

/-- Values of an argument's row, one for one. -/
structure SRs (P : Program) (w₀ : World) (B : Nat → Prop) (l : List SV) (l' : List Value) : Prop where
  len : l.length = l'.length
  at_ : ∀ (i : Nat) (s : SV) (v : Value), l[i]? = some s → l'[i]? = some v → SR P w₀ B s v
theorem SRs.tail {s : SV} {v : Value} {l : List SV} {l' : List Value} (h : SRs P w₀ B (s :: l) (v :: l')) : SRs P w₀ B l l' :=
  ⟨by simpa using h.len, fun i a b h1 h2 => h.at_ (i + 1) a b (by simpa using h1) (by simpa using h2)⟩

theorem SR.cells_place {n : Nat} {c : List Value} {el : TypeId} {v : Value} (h : SR P w₀ B (.cells n c el) v) (hb : BelowK B w₀ w) :
    ∃ r : Where, (∀ k, szOf P el = some k → r.sz = k) ∧ (∀ (ρ : Ren) (x : Nat), ρ x = some r → VR ρ (.slice (some ⟨x, 0, none⟩) n n) v) ∧
      (c ≠ [] ∨ r.phys ≠ 0 → B r.blk ∧ ∃ (c' : Array Value) (el' : TypeId) (fr : Nat × Nat), w.heap[r.blk]? = some (.cells c' el' fr) ∧ c'.size = r.phys ∧ r.sh + c.length ≤ r.phys ∧
        ∀ (ρ : Ren) (i : Nat) (v : Value), c[i]? = some v → ∃ v', c'[r.sh + i]? = some v' ∧ VR ρ v v') := by
  cases h with
  | nil _ a => exact ⟨⟨0, 0, (szOf P el).getD 0, 0⟩, fun k hk => by simp [hk], fun ρ x _ => .slE _ _, fun hc => by rcases hc with hc | hc <;> exact absurd rfl hc⟩
  | cells _ _ _ b off cap c' el' fr hB hbb hc hl hn hcap =>
    refine ⟨⟨b, off, (szOf P el).getD 0, c'.size⟩, fun k hk => by simp [hk], fun ρ x hx => ?_, fun _ => ⟨hB, c', el', fr, (hb.block b hB).trans hbb, rfl, hl, fun ρ i v hv => ?_⟩⟩
    · refine .sl x 0 n n cap _ hx ?_
      right
      refine ⟨hn, ?_⟩
      dsimp only
      cases hs : szOf P el with
      | none => simp; omega
      | some s => have := hcap s hs; simpa using this
    · obtain ⟨h1, h2⟩ := hc i v hv
      exact ⟨v, h2, .scal v h1⟩

theorem SR.rows_place {n size : Nat} {row : Nat → List SV} {v : Value} (h : SR P w₀ B (.rows n size row) v) :
    ∃ r : Where, (0 < n → RowsAt P w₀ B r n size row) ∧ (∀ (ρ : Ren) (x : Nat), ρ x = some r → VR ρ (.slice (some ⟨x, 0, none⟩) n n) v) := by
  cases h with
  | rnil _ _ a => exact ⟨⟨0, 0, 0, 0⟩, fun h => absurd h (by omega), fun ρ x _ => .slE _ _⟩
  | rows _ _ _ b off cap c' el' fr hB hbb hl hn hcap hlen u hu hr =>
    refine ⟨⟨b, off, size, c'.size⟩, fun _ => ⟨hB, rfl, c', el', fr, hbb, rfl, hl, fun i hi => ⟨hlen i hi, fun k sv hk => ?_⟩⟩, fun ρ x hx => .sl x 0 n n cap _ hx (.inr ⟨hn, hcap⟩)⟩
    have hk' : k < size := by rw [← hlen i hi]; exact (List.getElem?_eq_some_iff.1 hk).1
    exact ⟨_, hu i k hi hk', hr i k sv hi hk⟩

/-- What stands in a row gets names. -/
theorem view_ok : ∀ {l : List SV} {l' : List Value} {k : Nat} {g : Nat → Option VObj} {ρ : Ren}, SRs P w₀ B l l' → WR P B w₀ ρ g w → (∀ j, j < viewLen l → g (k + j) = none) →
    ∃ ρ', ρ.le ρ' ∧ WR P B w₀ ρ' (updN g k (viewObjs l)) w ∧ LR ρ' (viewVals l k) l'
  | [], l', k, g, ρ, hs, hw, hf => by
    have : l' = [] := by have := hs.len; exact List.eq_nil_of_length_eq_zero (by simpa using this.symm)
    subst this
    exact ⟨ρ, Ren.le_refl ρ, hw, LR.nil ρ⟩
  | s :: l, [], k, g, ρ, hs, hw, hf => by have := hs.len; simp at this
  | .val v :: l, v' :: l', k, g, ρ, hs, hw, hf => by
    obtain ⟨ρ', h1, h2, h3⟩ := view_ok (k := k) hs.tail hw hf
    have h0 := hs.at_ 0 _ _ rfl rfl
    cases h0 with
    | val _ hv => exact ⟨ρ', h1, h2, LR.cons (.scal v hv) h3⟩
  | .cells n c el :: l, v' :: l', k, g, ρ, hs, hw, hf => by
    obtain ⟨r, h1, h2, h3⟩ := (hs.at_ 0 _ _ rfl rfl).cells_place hw.below
    have hk : g k = none := hf 0 (by simp [viewLen])
    have hw' := hw.addRo hk h1 fun hne => let ⟨a, c', el', fr, b1, b2, b3, b4⟩ := h3 hne; ⟨a, c', el', fr, b1, b2, b3, b4 _⟩
    obtain ⟨ρ', h4, h5, h6⟩ := view_ok (k := k + 1) hs.tail hw' fun j hj => by
      rw [upd_other _ (by omega), show k + 1 + j = k + (j + 1) by omega]
      exact hf (j + 1) (by simp only [viewLen]; omega)
    exact ⟨ρ', Ren.le_trans (Ren.put_le (hw.fresh k hk) r) h4, h5, LR.cons (h2 _ _ (h4 _ _ (Ren.put_same _ _ _))) h6⟩
  | .rows n size row :: l, v' :: l', k, g, ρ, hs, hw, hf => by
    obtain ⟨r, h1, h2⟩ := (hs.at_ 0 _ _ rfl rfl).rows_place
    have hk : g k = none := hf 0 (by simp [viewLen])
    have hw' := hw.addDead hk (o := .rows n size row) (r := r) rfl (fun m s q e hm => by cases e; exact h1 hm) (fun el ro' e => by cases e)
    obtain ⟨ρ', h4, h5, h6⟩ := view_ok (k := k + 1) hs.tail hw' fun j hj => by
      rw [upd_other _ (by omega), show k + 1 + j = k + (j + 1) by omega]
      exact hf (j + 1) (by simp only [viewLen]; omega)
    exact ⟨ρ', Ren.le_trans (Ren.put_le (hw.fresh k hk) r) h4, h5, LR.cons (h2 _ _ (h4 _ _ (Ren.put_same _ _ _))) h6⟩
end
end Go.Proofs.YtdbjloigfkckfaaGreatDoor.Vm
