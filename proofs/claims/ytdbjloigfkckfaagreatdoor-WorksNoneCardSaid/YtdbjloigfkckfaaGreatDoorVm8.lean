/- The small machine, its eighth text: builds and slices. -/
import Derived.Test.YtdbjloigfkckfaaGreatDoorVm7
namespace Go.Proofs.YtdbjloigfkckfaaGreatDoor.Vm
open Go.RowKit
set_option linter.unusedVariables false
set_option linter.unusedSimpArgs false

section
variable {P : Program} {B : Nat → Prop} {w₀ : World} {ρ : Ren} {g : Nat → Option VObj} {n : Nat} {w : World}

theorem foldl_zip (off : Nat) : ∀ (vs : List Value) (k : Nat) (c : Array Value),
    (vs.zipIdx k).foldl (fun (cs : Array Value) (x : Value × Nat) => cs.setIfInBounds (off + x.2) x.1) c = setMany c (off + k) vs
  | [], k, c => rfl
  | v :: vs, k, c => by
    rw [List.zipIdx_cons, List.foldl_cons, foldl_zip off vs (k + 1)]
    rfl

theorem foldl_zipA (off : Nat) (vs : Array Value) (c : Array Value) :
    vs.zipIdx.foldl (fun (cs : Array Value) (x : Value × Nat) => cs.setIfInBounds (off + x.2) x.1) c = setMany c off vs.toList := by
  rw [← Array.foldl_toList, Array.toList_zipIdx, foldl_zip]
  rfl

/-- Splicing on both sides. -/
theorem LR.splice {c : List Value} {c' : Array Value} (h : LR ρ c c'.toList) {vs vs' : List Value} (hv : LR ρ vs vs') {off : Nat} (hle : off + vs.length ≤ c.length) :
    LR ρ (splice c off vs) (setMany c' off vs').toList := by
  have hl := h.len
  have hvl := hv.len
  refine ⟨by rw [splice_length hle]; simpa [setMany_size] using hl, fun i v v' h1 h2 => ?_⟩
  rw [splice_get hle] at h1
  rw [Array.getElem?_toList, setMany_get _ _ _ _ (by simp at hl; omega)] at h2
  by_cases hin : off ≤ i ∧ i < off + vs.length
  · rw [if_pos hin] at h1
    rw [if_pos (by omega)] at h2
    exact hv.at_ _ _ _ h1 h2
  · rw [if_neg hin] at h1
    rw [if_neg (by omega)] at h2
    exact h.at_ i v v' h1 (by simpa using h2)

/-- Parts of a literal, on both sides. -/
inductive PR (ρ : Ren) : List (Nat × Value) → List (Nat × Value) → Prop where
  | nil : PR ρ [] []
  | cons (i : Nat) (v v' : Value) (l l' : List (Nat × Value)) (h : VR ρ v v') (hl : PR ρ l l') : PR ρ ((i, v) :: l) ((i, v') :: l')

theorem PR.map {e e' : Operand → Value} : ∀ (l : List (Nat × Operand)), (∀ x ∈ l, VR ρ (e x.2) (e' x.2)) → PR ρ (l.map fun x => (x.1, e x.2)) (l.map fun x => (x.1, e' x.2))
  | [], _ => .nil
  | (i, x) :: l, h => .cons _ _ _ _ _ (h (i, x) (by simp)) (PR.map l fun y hy => h y (by simp [hy]))

theorem fill_ok {pl : Nat → Option (Nat × Nat)} : ∀ {parts parts' : List (Nat × Value)}, PR ρ parts parts' → ∀ {c : List Value} {c' : Array Value} {out : List Value}, LR ρ c c'.toList →
    fillV pl c parts = some out → ∃ out', Instr.fill pl c' parts' = some out' ∧ LR ρ out out'.toList := by
  intro parts parts' hp
  induction hp with
  | nil => intro c c' out hc h; simp [fillV] at h; subst h; exact ⟨c', rfl, hc⟩
  | cons i v v' l l' hv hl ih =>
    intro c c' out hc h
    unfold fillV at h
    unfold Instr.fill
    cases hpl : pl i with
    | none => rw [hpl] at h; cases h
    | some p =>
      obtain ⟨off, k⟩ := p
      rw [hpl] at h
      simp only [] at h ⊢
      split at h
      · rename_i hcond
        simp only [Bool.and_eq_true] at hcond
        obtain ⟨h1, h2⟩ := hcond
        have h1 := Nat.eq_of_beq_eq_true h1
        have h2 := Nat.le_of_ble_eq_true h2
        have hs := hv.cells.sizes
        have hcl := hc.len
        simp only [Array.length_toList] at hcl
        rw [if_neg (by simp; omega)]
        have := foldl_zipA off v'.cells c'
        rw [this]
        exact ih (hc.splice hv.cells (by simp; omega)) h
      · cases h

theorem run_places {fs : List Field} : ∀ {ps : List (Nat × Nat)}, places P fs = some ps → (fs.mapM (m := Sem) fun f => do pure (f.offset, ← sizeOf f.type)).run P w = .ok ps w := by
  induction fs with
  | nil => intro ps h; simp [places] at h; subst h; rfl
  | cons f fs ih =>
    intro ps h
    unfold places at h
    split at h
    · rename_i k r hk hr
      cases h
      rw [List.mapM_cons, Sem.run_bind, Sem.run_bind, run_sizeOf hk, Result.andThen_ok, Sem.run_pure, Result.andThen_ok, Sem.run_bind, ih hr, Result.andThen_ok]
      rfl
    · cases h

theorem run_placesA {fs : Array Field} {ps : List (Nat × Nat)} (h : places P fs.toList = some ps) : (fs.mapM (m := Sem) fun f => do pure (f.offset, ← sizeOf f.type)).run P w = .ok ps.toArray w := by
  rw [Array.mapM_eq_mapM_toList, Sem.run_map, run_places h]
  rfl

theorem buildV_ok (hw : WR P B w₀ ρ g w) {t : TypeId} {parts : List (Nat × Value)} {parts' : Array (Nat × Value)} (hp : PR ρ parts parts'.toList) {out : OOut} {l : List Nat}
    (h : (buildV P t parts).run g = some (out, l)) : Fits P B w₀ ρ g n out ((do let v ← Instr.build t parts'; pure (Next.value v) : Sem Next).run P w) := by
  unfold buildV at h
  split at h
  · rename_i z fs hz hu
    split at h
    · rename_i ps hps hf
      split at h
      · rename_i cs hfill
        have hz0 : LR ρ z.cells.toList z.cells.toList := flat_cells hf
        obtain ⟨out', h1, h2⟩ := fill_ok hp hz0 hfill
        have : (Instr.build t parts').run P w = .ok (.agg out') w := by
          unfold Instr.build
          rw [Sem.run_bind, run_zeroValue hz, Result.andThen_ok]
          dsimp only
          rw [Sem.run_bind, run_underlying hu, Result.andThen_ok]
          dsimp only
          rw [Sem.run_bind, run_placesA hps, Result.andThen_ok]
          have h1' : Instr.fill (fun x => ps.toArray[x]?) z.cells parts'.toList = some out' := by
            have : (fun i : Nat => ps.toArray[i]?) = (fun i : Nat => ps[i]?) := by funext i; simp
            rw [this]; exact h1
          rw [h1']
          rfl
        rw [Sem.run_bind, this]
        exact Fits.of_val hw h (.agg_iff (by simpa using h2))
      · cases h
    · cases h
  · rename_i z k el hz hu
    split at h
    · rename_i size hs hf
      split at h
      · rename_i cs hfill
        obtain ⟨out', h1, h2⟩ := fill_ok hp (flat_cells hf) hfill
        have : (Instr.build t parts').run P w = .ok (.agg out') w := by
          unfold Instr.build
          rw [Sem.run_bind, run_zeroValue hz, Result.andThen_ok]
          dsimp only
          rw [Sem.run_bind, run_underlying hu, Result.andThen_ok]
          dsimp only
          rw [Sem.run_bind, run_sizeOf hs, Result.andThen_ok, h1]
          rfl
        rw [Sem.run_bind, this]
        exact Fits.of_val hw h (.agg_iff (by simpa using h2))
      · cases h
    · cases h
  · cases h

theorem buildSliceV_ok (hw : WR P B w₀ ρ g w) {t : TypeId} {len : Nat} {parts : List (Nat × Value)} {parts' : Array (Nat × Value)} (hp : PR ρ parts parts'.toList) {out : OOut} {l : List Nat}
    (hn : out.nw ≠ none → g n = none) (h : (buildSliceV P t len parts n).run g = some (out, l)) : Fits P B w₀ ρ g n out ((do let v ← Instr.buildSlice t len parts'; pure (Next.value v) : Sem Next).run P w) := by
  unfold buildSliceV at h
  split at h
  · rename_i el hu
    split at h
    · rename_i size z hs hz
      split at h
      · rename_i hcond
        simp only [Bool.and_eq_true] at hcond
        obtain ⟨⟨hf, h1⟩, h2⟩ := hcond
        have h1 := Nat.le_of_ble_eq_true h1
        have h2 := Nat.eq_of_beq_eq_true h2
        split at h
        · rename_i cs hfill
          obtain rfl := new_run h
          replace hn := hn (by simp)
          have hrl : LR ρ (repl z.cells.toList len) ((repl z.cells.toList len).toArray).toList := by simpa using (flat_cells hf).repl len
          obtain ⟨out', h3, h4⟩ := fill_ok hp hrl hfill
          have hzero : (repl z.cells.toList len).toArray = (Array.range (len * size)).map fun i => z.cells[i % z.cells.size]! := by rw [← h2]; exact (zeros_eq z len).symm
          have hrun : (Instr.buildSlice t len parts').run P w = .ok (.slice (some ⟨w.heap.size, 0, none⟩) len len) (w.alloc (.cells out' el)) := by
            unfold Instr.buildSlice
            rw [Sem.run_bind, run_underlying hu, Result.andThen_ok]
            dsimp only
            rw [Sem.run_bind, run_sizeOf hs, Result.andThen_ok, if_neg (by omega)]
            by_cases h0 : len * size = 0
            · have e : ∀ f : Nat → Value, Array.map f (Array.range 0) = #[] := fun f => by apply Array.ext'; simp
              have e2 : (repl z.cells.toList len).toArray = #[] := by rw [hzero, h0, e]
              rw [e2] at h3
              simp only [h0, if_true, Sem.run_bind, Sem.run_pure, Result.andThen_ok, e, h3, run_newRow]
            · rw [hzero] at h3
              simp only [h0, if_false, Sem.run_bind, run_zeroValue hz, Sem.run_pure, Result.andThen_ok, h3, run_newRow]
          rw [Sem.run_bind, hrun, Result.andThen_ok]
          have hln := h4.len
          refine Fits.newRow hw hn (by simpa using hln) h4 fun ρ' h' => ?_
          simpa using VR.sl (ρ := ρ') n 0 len len len _ h' (.inl rfl)
        · cases h
      · cases h
    · cases h
  · cases h

/- Slices. -/
theorem run_sliceBound_nat {k : IntKind} {i m : Nat} (code : BoundsCode) (h : i ≤ m) : (Instr.sliceBound (.int k i) m code).run P w = .ok i w := by
  unfold Instr.sliceBound
  simp only [asIntOf, Sem.run_bind, Sem.run_pure, Result.andThen_ok]
  rw [if_pos ⟨by omega, by omega⟩]
  simp

theorem run_sliceBounds_nat {isSlice : Bool} {len cap l h : Nat} {lo hi : Option Value} (hlo : optN 0 lo = some l) (hhi : optN len hi = some h) (h1 : l ≤ h) (h2 : h ≤ cap) :
    (Instr.sliceBounds isSlice len cap lo hi none).run P w = .ok (l, h, cap) w := by
  unfold Instr.sliceBounds
  cases hi with
  | none =>
    simp only [optN, Option.some.injEq] at hhi
    subst hhi
    cases lo with
    | none =>
      simp only [optN, Option.some.injEq] at hlo
      subst hlo
      simp
    | some v =>
      obtain ⟨k, rfl⟩ := nOf_some hlo
      simp only [Sem.run_bind, Sem.run_pure, Result.andThen_ok, Option.isSome_none, Bool.false_eq_true, if_false, run_sliceBound_nat _ h1]
  | some u =>
    obtain ⟨ku, rfl⟩ := nOf_some hhi
    cases lo with
    | none =>
      simp only [optN, Option.some.injEq] at hlo
      subst hlo
      simp only [Sem.run_bind, Sem.run_pure, Result.andThen_ok, run_sliceBound_nat _ h2]
    | some v =>
      obtain ⟨k, rfl⟩ := nOf_some hlo
      simp only [Sem.run_bind, Sem.run_pure, Result.andThen_ok, Option.isSome_none, Bool.false_eq_true, if_false, run_sliceBound_nat _ h1, run_sliceBound_nat _ h2]

theorem optN_same {d m : Nat} {o o' : Option Value} (hr : ∀ v, o = some v → ∃ v', o' = some v' ∧ VR ρ v v') (hr0 : o = none → o' = none) (h : optN d o = some m) : o' = o := by
  cases o with
  | none => exact hr0 rfl
  | some v =>
    obtain ⟨v', rfl, hv⟩ := hr v rfl
    obtain ⟨k, rfl⟩ := nOf_some h
    rw [hv.int_inv]

theorem optFl_same {o o' : Option Value} (hr : ∀ v, o = some v → ∃ v', o' = some v' ∧ VR ρ v v') (hr0 : o = none → o' = none) (h : o.all fl = true) : o' = o := by
  cases o with
  | none => exact hr0 rfl
  | some v =>
    obtain ⟨v', rfl, hv⟩ := hr v rfl
    rw [fl_inv (by simpa using h) hv]

/-- Optional operands, on both sides. -/
structure OpR (ρ : Ren) (o o' : Option Value) : Prop where
  some_ : ∀ v, o = some v → ∃ v', o' = some v' ∧ VR ρ v v'
  none_ : o = none → o' = none

theorem OpR.map {e e' : Operand → Value} (x : Option Operand) (h : ∀ y, x = some y → VR ρ (e y) (e' y)) : OpR ρ (x.map e) (x.map e') := by
  cases x with
  | none => exact ⟨by simp, by simp⟩
  | some y => exact ⟨fun v hv => by simp at hv; subst hv; exact ⟨_, rfl, h y rfl⟩, by simp⟩

theorem sliceV_ok (hw : WR P B w₀ ρ g w) {t : TypeId} {x x' : Value} (hx : VR ρ x x') {lo lo' hi hi' mx mx' : Option Value} (hlo : OpR ρ lo lo') (hhi : OpR ρ hi hi') (hmx : OpR ρ mx mx')
    {out : OOut} {l : List Nat} (h : (sliceV P t x lo hi mx).run g = some (out, l)) : Fits P B w₀ ρ g n out ((do let v ← Instr.sliceAt t x' lo' hi' mx'; pure (Next.value v) : Sem Next).run P w) := by
  unfold sliceV at h
  split at h
  · rename_i hf
    split at h
    · rename_i hfl
      simp only [Bool.and_eq_true] at hfl
      rw [fl_inv hf hx, optFl_same hlo.some_ hlo.none_ hfl.1.1, optFl_same hhi.some_ hhi.none_ hfl.1.2, optFl_same hmx.some_ hmx.none_ hfl.2]
      exact fits_pure hw h
    · cases h
  · split at h
    · rename_i el b off len cap hu _
      rw [hmx.none_ rfl]
      split at h
      · rename_i i j size hi' hj' hs
        rw [optN_same hlo.some_ hlo.none_ hi', optN_same hhi.some_ hhi.none_ hj']
        split at h
        · rename_i hcond
          simp only [Bool.and_eq_true] at hcond
          have h1 := Nat.le_of_ble_eq_true hcond.1
          have h2 := Nat.le_of_ble_eq_true hcond.2
          obtain ⟨o, l', hb, hk, rfl⟩ := Rd.run_read h
          split at hk
          · rename_i c eb ro
            split at hk
            · rename_i sb hsb
              split at hk
              · rename_i hle
                have hle := Nat.le_of_ble_eq_true hle
                have key0 : (i = 0 → j = 0 → (Instr.sliceAt t (.slice none len 0) lo hi none).run P w = .ok (.slice none 0 0) w) := by
                  intro hi0 hj0
                  subst hi0 hj0
                  unfold Instr.sliceAt
                  rw [Sem.run_bind, run_underlying hu, Result.andThen_ok]
                  dsimp only
                  unfold Instr.slice
                  rw [Sem.run_bind, run_underlying hu, Result.andThen_ok]
                  dsimp only
                  rw [Sem.run_bind, run_sliceBounds_nat hi' hj' h1 (Nat.le_refl _), Result.andThen_ok]
                  dsimp only
                  try rw [Sem.run_bind, run_sizeOf hs, Result.andThen_ok]
                  try rfl
                have key : ∀ (a : Addr) (cap' : Nat), j ≤ cap' → (Instr.sliceAt t (.slice (some a) len cap') lo hi none).run P w = .ok (.slice (if cap' = i then some a else some (a.add (i * size))) (j - i) (cap' - i)) w := by
                  intro a cap' hcap
                  unfold Instr.sliceAt
                  rw [Sem.run_bind, run_underlying hu, Result.andThen_ok]
                  dsimp only
                  unfold Instr.slice
                  rw [Sem.run_bind, run_underlying hu, Result.andThen_ok]
                  dsimp only
                  rw [Sem.run_bind, run_sliceBounds_nat hi' hj' h1 hcap, Result.andThen_ok]
                  dsimp only
                  rw [Sem.run_bind, run_sizeOf hs, Result.andThen_ok]
                  rfl
                cases hx with
                | scal _ h => cases h
                | slE _ a' =>
                  have hi0 : i = 0 := by omega
                  have hj0 : j = 0 := by omega
                  cases a' with
                  | none =>
                    rw [Sem.run_bind, key0 hi0 hj0, Result.andThen_ok]
                    subst hi0 hj0
                    refine Fits.of_val hw hk ?_
                    simpa using VR.slE (ρ := ρ) ⟨b, off + 0 * size, none⟩ none
                  | some a' =>
                    rw [Sem.run_bind, key a' 0 h2, Result.andThen_ok]
                    subst hi0 hj0
                    refine Fits.of_val hw hk ?_
                    simpa using VR.slE (ρ := ρ) ⟨b, off + 0 * size, none⟩ (some a')
                | sl _ _ _ _ cap' r hr hc =>
                  have hcc : cap ≤ cap' := by rcases hc with hc | hc <;> omega
                  rw [Sem.run_bind, key _ cap' (by omega), Result.andThen_ok]
                  refine Fits.of_val hw hk ?_
                  by_cases hci : cap' = i
                  · rw [if_pos hci]
                    have e1 : j - i = 0 := by omega
                    have e2 : cap - i = 0 := by omega
                    have e3 : cap' - i = 0 := by omega
                    rw [e1, e2, e3]
                    exact .slE _ _
                  · rw [if_neg hci, addr_add0, Nat.add_assoc]
                    refine .sl _ _ _ _ _ r hr ?_
                    rcases hc with hc | ⟨hc1, hc2⟩
                    · left; omega
                    · right
                      refine ⟨by omega, ?_⟩
                      have hsz : r.sz = sb := sz_of hw hb hr sb hsb
                      rw [hsz] at hc2 ⊢
                      have : i * size + (cap' - i) * sb ≤ cap' * sb := by
                        have h3 : i * size ≤ i * sb := Nat.mul_le_mul_left _ hle
                        have h4 : i * sb + (cap' - i) * sb = cap' * sb := by rw [← Nat.add_mul]; congr 1; omega
                        omega
                      omega
              · cases hk
            · cases hk
          · cases hk
        · cases h
      · cases h
    · rename_i k el b off hu _
      rw [hmx.none_ rfl]
      obtain ⟨r, hr, rfl⟩ := hx.ptr_inv
      split at h
      · rename_i i j size hi' hj' hs
        rw [optN_same hlo.some_ hlo.none_ hi', optN_same hhi.some_ hhi.none_ hj']
        split at h
        · rename_i hcond
          simp only [Bool.and_eq_true] at hcond
          have h1 := Nat.le_of_ble_eq_true hcond.1
          have h2 := Nat.le_of_ble_eq_true hcond.2
          have key : (Instr.sliceAt t (.pointer (some ⟨r.blk, r.sh + off, none⟩)) lo hi none).run P w = .ok (.slice (some (if k = i then ⟨r.blk, r.sh + off, none⟩ else (⟨r.blk, r.sh + off, none⟩ : Addr).add (i * size))) (j - i) (k - i)) w := by
            unfold Instr.sliceAt
            rw [Sem.run_bind, run_underlying hu, Result.andThen_ok]
            dsimp only
            simp only [Instr.sureAddr, Sem.run_bind, Sem.run_pure, Result.andThen_ok, run_sliceBounds_nat hi' hj' h1 h2, run_sizeOf hs]
          rw [Sem.run_bind, key, Result.andThen_ok]
          refine Fits.of_val hw h ?_
          by_cases hki : k = i
          · subst hki
            have e : Nat.beq k k = true := Nat.beq_refl k
            simp only [e, if_true, Nat.add_zero]
            exact .sl _ _ _ _ _ r hr (.inl rfl)
          · have e : Nat.beq k i = false := by
              cases hb : Nat.beq k i with
              | false => rfl
              | true => exact absurd (Nat.eq_of_beq_eq_true hb) hki
            simp only [e, Bool.false_eq_true, if_false, hki, addr_add0, Nat.add_assoc]
            exact .sl _ _ _ _ _ r hr (.inl rfl)
        · cases h
      · cases h
    · cases h
end
end Go.Proofs.YtdbjloigfkckfaaGreatDoor.Vm
