/- The small machine, its fourth text: single operations. -/
import Derived.Test.YtdbjloigfkckfaaGreatDoorVm3
namespace Go.Proofs.YtdbjloigfkckfaaGreatDoor.Vm
open Go.RowKit
set_option linter.unusedVariables false
set_option linter.unusedSimpArgs false

theorem pureRun_ok {α : Type} {P : Program} : ∀ {s : Sem α} {a : α}, pureRun P s = some (.ok a) → ∀ w : World, s.run P w = .ok a w := by
  intro s
  induction s with
  | pure b => intro a h w; simp [pureRun] at h; subst h; rfl
  | program k ih => intro a h w; simp only [pureRun] at h; simp only [Sem.run]; exact ih P h w
  | mark m k ih => intro a h w; simp only [pureRun] at h; simp only [Sem.run]; exact ih h w
  | halt x => intro a h w; cases x <;> simp [pureRun] at h
  | _ => intro a h; simp [pureRun] at h

theorem pureRun_panic {α : Type} {P : Program} : ∀ {s : Sem α} {v : Value}, pureRun P s = some (.error v) → ∀ w : World, s.run P w = .halt (.panic v) w := by
  intro s
  induction s with
  | pure b => intro a h; simp [pureRun] at h
  | program k ih => intro a h w; simp only [pureRun] at h; simp only [Sem.run]; exact ih P h w
  | mark m k ih => intro a h w; simp only [pureRun] at h; simp only [Sem.run]; exact ih h w
  | halt x => intro a h w; cases x <;> simp [pureRun] at h; subst h; rfl
  | _ => intro a h; simp [pureRun] at h

section
variable {P : Program}
theorem run_underlying {t : TypeId} {d : TypeDesc} (h : P.underlying t = some d) (w : World) : (underlying t).run P w = .ok d w := by
  simp only [underlying, Sem.run_bind, run_program, Result.andThen_ok, h]; rfl
theorem run_sizeOf {t : TypeId} {n : Nat} (h : szOf P t = some n) (w : World) : (sizeOf t).run P w = .ok n w := by
  unfold szOf at h
  cases hi : P.info? t with
  | none => rw [hi] at h; cases h
  | some i =>
    rw [hi] at h
    cases h
    simp only [sizeOf, typeInfo, Sem.run_bind, run_program, Result.andThen_ok, hi]; rfl
theorem run_isAgg {t : TypeId} {b : Bool} (h : agg? P t = some b) (w : World) : (isAgg t).run P w = .ok b w := by
  unfold agg? at h
  unfold isAgg
  cases hu : P.underlying t with
  | none => rw [hu] at h; cases h
  | some d =>
    rw [hu] at h
    rw [Sem.run_bind, run_underlying hu, Result.andThen_ok]
    cases d <;> simp at h <;> subst h <;> rfl
theorem run_zeroValue {t : TypeId} {z : Value} (h : zeroOf P t = some z) (w : World) : (zeroValue t).run P w = .ok z w := by
  unfold zeroOf at h
  cases hi : P.info? t with
  | none => rw [hi] at h; cases h
  | some i =>
    rw [hi] at h
    simp only [zeroValue, typeInfo, Sem.run_bind, run_program, Result.andThen_ok, hi, Sem.run_pure]
    have : i.zero = some z := h
    rw [this]; rfl
end

/-- How what an operation comes to stands to what the model's comes to. -/
inductive RR (ρ : Ren) : ORes → Result Next → World → Prop where
  | val (v v' : Value) (w : World) (h : VR ρ v v') : RR ρ (.val v) (.ok (.value v') w) w
  | skip (w : World) : RR ρ .skip (.ok .skip w) w
  | panic (v v' : Value) (w : World) (h : VR ρ v v') : RR ρ (.panic v) (.halt (.panic v') w) w
  | enter (f : FuncId) (l : List Value) (a : Array Value) (w : World) (h : LR ρ l a.toList) : RR ρ (.enter f l) (.ok (.enter f a) w) w

def applyO (g : Nat → Option VObj) (n : Nat) (out : OOut) : Nat → Option VObj :=
  let g1 := out.ws.foldl (fun g (x, o) => upd g x o) g
  match out.nw with
  | none => g1
  | some o => upd g1 n o

structure Fits (P : Program) (B : Nat → Prop) (w₀ : World) (ρ : Ren) (g : Nat → Option VObj) (n : Nat) (out : OOut) (res : Result Next) : Prop where
  ex : ∃ ρ' w', ρ.le ρ' ∧ RR ρ' out.r res w' ∧ WR P B w₀ ρ' (applyO g n out) w'

section
variable {P : Program} {B : Nat → Prop} {w₀ : World} {ρ : Ren} {g : Nat → Option VObj} {n : Nat} {w : World}

theorem Fits.val (hw : WR P B w₀ ρ g w) {v v' : Value} (h : VR ρ v v') : Fits P B w₀ ρ g n ⟨.val v, [], none⟩ (.ok (.value v') w) :=
  ⟨ρ, w, Ren.le_refl ρ, .val v v' w h, hw⟩

theorem Fits.of_val (hw : WR P B w₀ ρ g w) {v v' : Value} {out : OOut} {l : List Nat} (ho : (Vm.val v).run g = some (out, l)) (h : VR ρ v v') :
    Fits P B w₀ ρ g n out (.ok (.value v') w) := by
  simp only [Vm.val, Rd.run, Option.some.injEq, Prod.mk.injEq] at ho
  obtain ⟨rfl, rfl⟩ := ho
  exact Fits.val hw h

theorem fits_pure (hw : WR P B w₀ ρ g w) {s : Sem Next} {out : OOut} {l : List Nat} (ho : (ofPure P s).run g = some (out, l)) :
    Fits P B w₀ ρ g n out (s.run P w) := by
  unfold ofPure at ho
  split at ho
  · rename_i v hp
    split at ho
    · rename_i hf
      rw [pureRun_ok hp]
      exact Fits.of_val hw ho (fl_refl hf)
    · cases ho
  · rename_i v hp
    split at ho
    · rename_i hf
      rw [pureRun_panic hp]
      simp only [Rd.run, Option.some.injEq, Prod.mk.injEq] at ho
      obtain ⟨rfl, rfl⟩ := ho
      exact ⟨ρ, w, Ren.le_refl ρ, .panic v v w (fl_refl hf), hw⟩
    · cases ho
  · cases ho

/-- A live row of cells, and the model's row. -/
theorem cells_of (hw : WR P B w₀ ρ g w) {b : Nat} {c : List Value} {el : TypeId} {ro : Bool} (hb : g b = some (.cells c el ro)) {r : Where} (hr : ρ b = some r) (hlv : Live (.cells c el ro) r = true) :
    ∃ c' fr, (∃ el', w.heap[r.blk]? = some (.cells c' el' fr) ∧ (ro = false → el' = el)) ∧ c'.size = r.phys ∧ r.sh + c.length ≤ r.phys ∧ (∀ n, szOf P el = some n → r.sz = n) ∧
      (ro = false → fr.1 = fr.2 ∨ r.phys ≤ fr.1) ∧ LR ρ c ((c'.toList.drop r.sh).take c.length) ∧ (ro = false → ¬ B r.blk) := by
  obtain ⟨o', h1, h2, h3⟩ := hw.mem hb hlv hr
  cases h2 with
  | cells _ _ el' _ c' fr hp hs he hz hf hc =>
    refine ⟨c', fr, ⟨el', h1, he⟩, hp, hs, hz, hf, ⟨by simp; omega, fun i v v' hv hv' => ?_⟩, h3⟩
    obtain ⟨u, hu, hr⟩ := hc i v hv
    rw [List.getElem?_take] at hv'
    split at hv'
    · rw [List.getElem?_drop] at hv'
      have : c'.toList[r.sh + i]? = some u := by simpa using hu
      rw [this] at hv'
      cases hv'
      exact hr
    · cases hv'

/-- The size of an element, of empty rows, too. -/
theorem sz_of (hw : WR P B w₀ ρ g w) {b : Nat} {c : List Value} {el : TypeId} {ro : Bool} (hb : g b = some (.cells c el ro)) {r : Where} (hr : ρ b = some r) : ∀ n, szOf P el = some n → r.sz = n := by
  cases hlv : Live (.cells c el ro) r with
  | true =>
    obtain ⟨_, _, _, _, _, h, _⟩ := cells_of hw hb hr hlv
    exact h
  | false =>
    obtain ⟨rfl, _⟩ := live_not hlv
    exact hw.nil b el ro r hb hr

theorem cut_some {c : List Value} {off n : Nat} {l : List Value} (h : cut c off n = some l) : off + n ≤ c.length ∧ l = (c.drop off).take n := by
  unfold cut at h
  split at h
  · rename_i hb; cases h; exact ⟨Nat.le_of_ble_eq_true hb, rfl⟩
  · cases h

theorem cut_LR {c : List Value} {d : List Value} {sh off n : Nat} (hl : LR ρ c ((d.drop sh).take c.length)) (h : off + n ≤ c.length) :
    LR ρ ((c.drop off).take n) ((d.drop (sh + off)).take n) := by
  have h1 := (hl.drop off).take n
  rwa [List.drop_take, List.take_take, List.drop_drop, Nat.min_eq_left (by omega)] at h1

theorem ldV_ok (hw : WR P B w₀ ρ g w) {t : TypeId} {b off : Nat} {v : Value} {l : List Nat} (h : (ldV P t b off).run g = some (v, l)) {r : Where} (hr : ρ b = some r) :
    ∃ v', (loadVar t ⟨r.blk, r.sh + off, none⟩).run P w = .ok v' w ∧ VR ρ v v' := by
  obtain ⟨o, l', hb, hk, rfl⟩ := Rd.run_read h
  split at hk
  · rename_i c el ro
    split at hk
    · rename_i hagg
      split at hk
      · rename_i m hm
        split at hk
        · rename_i cs hcut
          obtain ⟨hle, rfl⟩ := cut_some hcut
          obtain ⟨c', fr, ⟨el', h1, _⟩, hp, hs, hz, hf, hl, _⟩ := cells_of hw hb hr (live_ne (by intro e; rw [e] at hle; simp at hle))
          simp only [Rd.run, Option.some.injEq, Prod.mk.injEq] at hk
          obtain ⟨rfl, rfl⟩ := hk
          refine ⟨_, ?_, VR.agg_of (cut_LR hl hle)⟩
          unfold loadVar
          rw [Sem.run_bind, run_isAgg hagg, Result.andThen_ok]
          simp only [if_true, Sem.run_bind, run_sizeOf hm, Result.andThen_ok, run_loadCells_block h1 (r.sh + off) (m + 1) (by omega), Sem.run_pure]
        · cases hk
      · cases hk
    · rename_i hagg
      split at hk
      · rename_i u hu
        simp only [Rd.run, Option.some.injEq, Prod.mk.injEq] at hk
        obtain ⟨rfl, rfl⟩ := hk
        obtain ⟨c', fr, ⟨el', h1, _⟩, hp, hs, hz, hf, hl, _⟩ := cells_of hw hb hr (live_ne (by intro e; rw [e] at hu; cases hu))
        obtain ⟨u', h2, h3⟩ := hl.get hu
        rw [List.getElem?_take] at h2
        split at h2
        · rw [List.getElem?_drop] at h2
          refine ⟨u', ?_, h3⟩
          unfold loadVar
          rw [Sem.run_bind, run_isAgg hagg, Result.andThen_ok]
          have hcell : w.cell? ⟨r.blk, r.sh + off, none⟩ = some u' := by rw [cell_of_block h1]; simpa using h2
          simp only [Bool.false_eq_true, if_false, run_load, hcell]
        · cases h2
      · cases hk
    · cases hk
  · cases hk

/-- A new row of cells. -/
theorem WR.newRow (hw : WR P B w₀ ρ g w) (hn : g n = none) {c : List Value} {t : TypeId} {c' : Array Value} {fr : Nat × Nat} (hs : c.length ≤ c'.size)
    (hf : fr.1 = fr.2 ∨ c'.size ≤ fr.1) (hc : LR ρ c (c'.toList.take c.length)) :
    WR P B w₀ (ρ.put n ⟨w.heap.size, 0, (szOf P t).getD 0, c'.size⟩) (upd g n (.cells c t false)) (w.alloc (.cells c' t fr)) := by
  refine hw.alloc hn rfl ?_
  refine .cells c t t false c' fr rfl (by simpa using hs) (fun _ => rfl) (fun m hm => by simp [hm]) (fun _ => hf) fun i v hv => ?_
  obtain ⟨v', h1, h2⟩ := hc.get hv
  rw [List.getElem?_take] at h1
  split at h1
  · exact ⟨v', by simpa using h1, h2.mono (Ren.put_le (hw.fresh n hn) _)⟩
  · cases h1

theorem Fits.newRow (hw : WR P B w₀ ρ g w) (hn : g n = none) {c : List Value} {t : TypeId} {c' : Array Value} {v v' : Value} (hs : c.length = c'.size)
    (hc : LR ρ c c'.toList) (hv : ∀ ρ' : Ren, ρ' n = some ⟨w.heap.size, 0, (szOf P t).getD 0, c'.size⟩ → VR ρ' v v') :
    Fits P B w₀ ρ g n ⟨.val v, [], some (.cells c t false)⟩ (.ok (.value v') (w.alloc (.cells c' t))) :=
  ⟨_, _, Ren.put_le (hw.fresh n hn) _, .val v v' _ (hv _ (Ren.put_same _ _ _)), hw.newRow hn (Nat.le_of_eq hs) (.inl rfl) (by rw [hs, List.take_of_length_le (by simp)]; exact hc)⟩

theorem LR.of_cells {v v' : Value} (h : VR ρ v v') : LR ρ v.cells.toList v'.cells.toList := h.cells
theorem LR.sizes {c c' : Array Value} (h : LR ρ c.toList c'.toList) : c.size = c'.size := by have := h.len; simpa using this

theorem new_run {ob : VObj} {v : Value} {out : OOut} {l : List Nat} (h : (new ob v).run g = some (out, l)) : out = ⟨.val v, [], some ob⟩ := by
  simp only [new, Rd.run, Option.some.injEq, Prod.mk.injEq] at h
  exact h.1.symm

theorem allocV_ok (hw : WR P B w₀ ρ g w) {t : TypeId} {out : OOut} {l : List Nat} (hn : out.nw ≠ none → g n = none) (h : (allocV P t n).run g = some (out, l)) :
    Fits P B w₀ ρ g n out ((do let v ← Instr.alloc t true (.tuple #[]); pure (Next.value v) : Sem Next).run P w) := by
  unfold allocV at h
  split at h
  · rename_i z hz
    split at h
    · rename_i hf
      obtain rfl := new_run h
      replace hn := hn (by simp)
      simp only [Instr.alloc, Sem.run_bind, run_zeroValue hz, Result.andThen_ok, newVar, newRow, run_newObj, Sem.run_pure]
      exact Fits.newRow hw hn (by simp) (fl_refl hf).cells fun ρ' h' => by simpa using VR.ptr (ρ := ρ') n 0 _ h'
    · cases h
  · cases h

theorem boxV_ok (hw : WR P B w₀ ρ g w) {t : TypeId} {v v' : Value} (hv : VR ρ v v') {out : OOut} {l : List Nat}
    (hn : out.nw ≠ none → g n = none) (h : (new (.cells v.cells.toList t false) (.pointer (some ⟨n, 0, none⟩))).run g = some (out, l)) :
    Fits P B w₀ ρ g n out ((do let v ← Instr.box t v'; pure (Next.value v) : Sem Next).run P w) := by
  obtain rfl := new_run h
  replace hn := hn (by simp)
  simp only [Instr.box, Sem.run_bind, Result.andThen_ok, newVar, newRow, run_newObj, Sem.run_pure]
  exact Fits.newRow hw hn (by simpa using hv.cells.sizes) hv.cells fun ρ' h' => by simpa using VR.ptr (ρ := ρ') n 0 _ h'

theorem loadV_ok (hw : WR P B w₀ ρ g w) {t : TypeId} {a a' : Value} (ha : VR ρ a a') {out : OOut} {l : List Nat} (h : (loadV P t a).run g = some (out, l)) :
    Fits P B w₀ ρ g n out ((do let v ← Instr.loadAt t a'; pure (Next.value v) : Sem Next).run P w) := by
  unfold loadV at h
  split at h
  · rename_i b off
    obtain ⟨r, hr, rfl⟩ := ha.ptr_inv
    obtain ⟨v, l1, l2, h1, h2, rfl⟩ := (Rd.run_bind _ _ _ _ _).1 h
    obtain ⟨v', h3, h4⟩ := ldV_ok hw h1 hr
    simp only [Instr.loadAt, Instr.sureAddr, Sem.run_bind, Sem.run_pure, Result.andThen_ok, h3]
    exact Fits.of_val hw h2 h4
  · cases h

theorem splice_get {c vs : List Value} {off : Nat} (h : off + vs.length ≤ c.length) (i : Nat) :
    (splice c off vs)[i]? = if off ≤ i ∧ i < off + vs.length then vs[i - off]? else c[i]? := by
  unfold splice
  have hl : (c.take off).length = off := by simp; omega
  by_cases h1 : i < off
  · rw [if_neg (by omega), List.append_assoc, List.getElem?_append_left (by omega), List.getElem?_take, if_pos h1]
  · rw [List.append_assoc, List.getElem?_append_right (by omega), hl]
    by_cases h2 : i < off + vs.length
    · rw [if_pos ⟨by omega, h2⟩, List.getElem?_append_left (by omega)]
    · rw [if_neg (by omega), List.getElem?_append_right (by omega), List.getElem?_drop]
      congr 1
      omega
theorem splice_length {c vs : List Value} {off : Nat} (h : off + vs.length ≤ c.length) : (splice c off vs).length = c.length := by
  unfold splice; simp; omega

theorem LR.oneCell {l l' : List Value} (h : LR ρ l l') (ho : (l.all Value.oneCell') = true) : (l'.all Value.oneCell') = true := by
  rw [List.all_eq_true] at *
  intro v' hv'
  obtain ⟨i, hi⟩ := List.getElem?_of_mem hv'
  have hlt : i < l'.length := (List.getElem?_eq_some_iff.1 hi).1
  have hlt' : i < l.length := h.len ▸ hlt
  rw [(h.at_ i _ v' (List.getElem?_eq_getElem hlt') hi).oneCell]
  exact ho _ (List.getElem_mem hlt')

/-- Cells of a live row are laid anew, on both sides. -/
theorem WR.store (hw : WR P B w₀ ρ g w) {b : Nat} {c : List Value} {el : TypeId} (hb : g b = some (.cells c el false)) {r : Where} (hr : ρ b = some r)
    {vs vs' : List Value} (hv : LR ρ vs vs') {off : Nat} (hle : off + vs.length ≤ c.length) (ho : (vs.all Value.oneCell') = true) :
    ∃ w', (storeCells ⟨r.blk, r.sh + off, none⟩ vs').run P w = .ok () w' ∧ WR P B w₀ ρ (upd g b (.cells (splice c off vs) el false)) w' := by
  by_cases hne : c = []
  · subst hne
    have hvs : vs = [] := List.eq_nil_of_length_eq_zero (by have : off + vs.length ≤ 0 := hle; omega)
    subst hvs
    have := hv.inv_nil
    subst this
    refine ⟨w, rfl, ?_⟩
    have : upd g b (.cells (splice [] off []) el false) = g := by
      funext x
      by_cases e : x = b
      · subst e; rw [upd_same, hb]; simp [splice]
      · rw [upd_other _ e]
    rw [this]
    exact hw
  obtain ⟨c', fr, ⟨el', h1, he⟩, hp, hs, hz, hf, hl, hB⟩ := cells_of hw hb hr (live_ne hne)
  obtain rfl := he rfl
  replace hf := hf rfl
  have hlen := hv.len
  obtain ⟨w', h2, h3⟩ := run_storeCells (P := P) vs' w c' (r.sh + off) 0 (Chg.refl h1) (by omega) (by rwa [hp]) (hv.oneCell ho)
  refine ⟨w', h2, hw.change hb (live_ne hne) hr (hB rfl) h3 ?_⟩
  refine .cells _ _ _ _ _ fr (by rw [setMany_size, hp]) (by rw [splice_length hle]; exact hs) (fun _ => rfl) hz (fun _ => hf) fun i v hi => ?_
  rw [splice_get hle] at hi
  rw [setMany_get _ _ _ _ (by omega)]
  by_cases hin : off ≤ i ∧ i < off + vs.length
  · rw [if_pos hin] at hi
    rw [if_pos (by omega)]
    obtain ⟨v', h4, h5⟩ := hv.get hi
    refine ⟨v', ?_, h5⟩
    rw [show r.sh + i - (r.sh + off + 0) = i - off by omega]
    exact h4
  · rw [if_neg hin] at hi
    rw [if_neg (by omega)]
    obtain ⟨v', h4, h5⟩ := hl.get hi
    rw [List.getElem?_take] at h4
    split at h4
    · exact ⟨v', by simpa using h4, h5⟩
    · cases h4

theorem storeV_ok (hw : WR P B w₀ ρ g w) {t : TypeId} {a a' x x' : Value} (ha : VR ρ a a') (hx : VR ρ x x') {out : OOut} {l : List Nat} (h : (storeV P t a x).run g = some (out, l)) :
    Fits P B w₀ ρ g n out ((do Instr.storeAt t a' x'; pure Next.skip : Sem Next).run P w) := by
  unfold storeV at h
  split at h
  · rename_i b off
    obtain ⟨r, hr, rfl⟩ := ha.ptr_inv
    split at h
    · rename_i size hsz
      obtain ⟨o, l', hb, hk, rfl⟩ := Rd.run_read h
      split at hk
      · rename_i c el
        split at hk
        · rename_i hc
          simp only [Bool.and_eq_true] at hc
          obtain ⟨⟨h1, h2⟩, h3⟩ := hc
          have h1 := Nat.eq_of_beq_eq_true h1
          have h2 := Nat.le_of_ble_eq_true h2
          simp only [Rd.run, Option.some.injEq, Prod.mk.injEq] at hk
          obtain ⟨rfl, rfl⟩ := hk
          obtain ⟨w', h4, h5⟩ := hw.store hb hr hx.cells (off := off) (by simp; omega) h3
          refine ⟨ρ, w', Ren.le_refl ρ, ?_, h5⟩
          have hsz' : x'.cells.size = size := by rw [← hx.cells.sizes, h1]
          have hrun : (Instr.storeAt t (.pointer (some ⟨r.blk, r.sh + off, none⟩)) x').run P w = .ok () w' := by
            simp only [Instr.storeAt, Instr.sureAddr, storeVar, Sem.run_bind, Sem.run_pure, Result.andThen_ok, run_sizeOf hsz, hsz', ne_eq, not_true_eq_false, if_false, h4]
          rw [Sem.run_bind, hrun]
          exact .skip w'
        · cases hk
      · cases hk
    · cases h
  · cases h
end
end Go.Proofs.YtdbjloigfkckfaaGreatDoor.Vm
