/- The small machine, its third text: the two memories. -/
import Derived.Test.YtdbjloigfkckfaaGreatDoorVm2
namespace Go.Proofs.YtdbjloigfkckfaaGreatDoor.Vm
open Go.RowKit
set_option linter.unusedVariables false
set_option linter.unusedSimpArgs false

theorem list_eq_of {l l' : List Value} (hl : l.length = l'.length) (h : ∀ (i : Nat) (v v' : Value), l[i]? = some v → l'[i]? = some v' → v' = v) : l' = l := by
  apply List.ext_getElem?
  intro i
  by_cases hi : i < l.length
  · have hi' : i < l'.length := hl ▸ hi
    rw [List.getElem?_eq_getElem hi, List.getElem?_eq_getElem hi', h i _ _ (List.getElem?_eq_getElem hi) (List.getElem?_eq_getElem hi')]
  · rw [List.getElem?_eq_none (by omega), List.getElem?_eq_none (by omega)]

theorem flat_inv (ρ : Ren) : ∀ (d : Nat) (v v' : Value), flat d v = true → VR ρ v v' → v' = v := by
  intro d
  induction d with
  | zero =>
    intro v v' h hr
    cases hr with
    | scal => rfl
    | func fn f f' c c' ho h1 h2 h3 h4 =>
      cases fn with
      | func k =>
        simp only [flat, Bool.and_eq_true, List.isEmpty_iff] at h
        have e1 : f' = f := by apply Array.ext'; rw [h.1] at h1 ⊢; cases hf : f'.toList <;> simp_all
        have e2 : c' = c := by apply Array.ext'; rw [h.2] at h3 ⊢; cases hf : c'.toList <;> simp_all
        rw [e1, e2]
      | _ => simp [flat] at h
    | _ => simp [flat] at h
  | succ d ih =>
    intro v v' h hr
    cases hr with
    | scal => rfl
    | func fn f f' c c' ho h1 h2 h3 h4 =>
      cases fn with
      | func k =>
        simp only [flat, Bool.and_eq_true, List.isEmpty_iff] at h
        have e1 : f' = f := by apply Array.ext'; rw [h.1] at h1 ⊢; cases hf : f'.toList <;> simp_all
        have e2 : c' = c := by apply Array.ext'; rw [h.2] at h3 ⊢; cases hf : c'.toList <;> simp_all
        rw [e1, e2]
      | _ => simp [flat] at h
    | iface t v v' hv =>
      simp only [flat] at h
      rw [ih _ _ h hv]
    | agg c c' h1 h2 =>
      simp only [flat] at h
      have : c' = c := Array.ext' (list_eq_of h1 fun i a b ha hb => ih _ _ (List.all_eq_true.1 h _ (List.mem_of_getElem? ha)) (h2 i a b ha hb))
      rw [this]
    | tuple c c' h1 h2 =>
      simp only [flat] at h
      have : c' = c := Array.ext' (list_eq_of h1 fun i a b ha hb => ih _ _ (List.all_eq_true.1 h _ (List.mem_of_getElem? ha)) (h2 i a b ha hb))
      rw [this]
    | _ => simp [flat] at h

theorem fl_inv {ρ : Ren} {v v' : Value} (h : fl v = true) (r : VR ρ v v') : v' = v := flat_inv ρ 6 v v' h r
theorem fl_refl {ρ : Ren} {v : Value} (h : fl v = true) : VR ρ v v := flat_refl ρ 6 v h
theorem LR.flat_inv {ρ : Ren} {l l' : List Value} (h : l.all fl = true) (r : LR ρ l l') : l' = l :=
  list_eq_of r.len fun i v v' h1 h2 => fl_inv (List.all_eq_true.1 h _ (List.mem_of_getElem? h1)) (r.at_ i v v' h1 h2)
theorem LR.flat_refl {ρ : Ren} {l : List Value} (h : l.all fl = true) : LR ρ l l :=
  ⟨rfl, fun i v v' h1 h2 => by rw [h1] at h2; cases h2; exact fl_refl (List.all_eq_true.1 h _ (List.mem_of_getElem? h1))⟩

/- Blocks. -/
def VObj.ro : VObj → Bool
  | .cells _ _ r => r
  | .rows _ _ _ => true
  | _ => false
/-- An empty row with no room need be nowhere; rows of rows are told apart (WR.rows). -/
def Live (o : VObj) (r : Where) : Bool := match o with
  | .dead => false
  | .rows _ _ _ => false
  | .cells c _ _ => !c.isEmpty || !(Nat.beq r.phys 0)
  | _ => true
theorem live_ne {c : List Value} {el : TypeId} {ro : Bool} {r : Where} (h : c ≠ []) : Live (.cells c el ro) r = true := by
  cases c with
  | nil => exact absurd rfl h
  | cons v c => rfl
theorem live_not {c : List Value} {el : TypeId} {ro : Bool} {r : Where} (h : Live (.cells c el ro) r = false) : c = [] ∧ r.phys = 0 := by
  simp only [Live, Bool.or_eq_false_iff, Bool.not_eq_false', List.isEmpty_iff] at h
  exact ⟨h.1, Nat.eq_of_beq_eq_true h.2⟩

/-- What had been stays, but for what is given free. -/
structure BelowK (K : Nat → Prop) (w w' : World) : Prop where
  os : w'.os = w.os
  tape : w'.tape = w.tape
  output : w'.output = w.output
  size : w.heap.size ≤ w'.heap.size
  block : ∀ k, K k → w'.heap[k]? = w.heap[k]?
theorem BelowK.refl (K : Nat → Prop) (w : World) : BelowK K w w := ⟨rfl, rfl, rfl, Nat.le_refl _, fun _ _ => rfl⟩
theorem BelowK.trans {K : Nat → Prop} {a b c : World} (h : BelowK K a b) (k : BelowK K b c) : BelowK K a c :=
  ⟨k.os.trans h.os, k.tape.trans h.tape, k.output.trans h.output, Nat.le_trans h.size k.size, fun i hi => (k.block i hi).trans (h.block i hi)⟩
theorem BelowK.alloc {K : Nat → Prop} {a w : World} (h : BelowK K a w) (hB : ∀ k, K k → k < w.heap.size) (o : Obj) : BelowK K a (w.alloc o) :=
  h.trans ⟨rfl, rfl, rfl, by simp, fun k hk => Below.heap_alloc _ _ _ (hB k hk)⟩
theorem BelowK.below {w₀ w : World} (h : BelowK (fun k => k < w₀.heap.size) w₀ w) : Below w₀.heap.size w₀ w := ⟨h.os, h.tape, h.output, h.size, h.block⟩

/- Rows of arguments, as they lie in the world in which the call began. -/
inductive SR (P : Program) (w₀ : World) (B : Nat → Prop) : SV → Value → Prop where
  | val (v : Value) (h : isScal v = true) : SR P w₀ B (.val v) v
  | nil (el : TypeId) (a : Option Addr) : SR P w₀ B (.cells 0 [] el) (.slice a 0 0)
  | cells (n : Nat) (c : List Value) (el : TypeId) (b off cap : Nat) (c' : Array Value) (el' : TypeId) (fr : Nat × Nat) (hB : B b) (hb : w₀.heap[b]? = some (.cells c' el' fr))
      (hc : ∀ (i : Nat) (v : Value), c[i]? = some v → isScal v = true ∧ c'[off + i]? = some v) (hl : off + c.length ≤ c'.size) (hn : n ≤ cap) (hcap : ∀ s, szOf P el = some s → off + cap * s ≤ c'.size) :
      SR P w₀ B (.cells n c el) (.slice (some ⟨b, off, none⟩) n cap)
  | rnil (size : Nat) (row : Nat → List SV) (a : Option Addr) : SR P w₀ B (.rows 0 size row) (.slice a 0 0)
  | rows (n size : Nat) (row : Nat → List SV) (b off cap : Nat) (c' : Array Value) (el' : TypeId) (fr : Nat × Nat) (hB : B b) (hb : w₀.heap[b]? = some (.cells c' el' fr)) (hl : off + n * size ≤ c'.size) (hn : n ≤ cap) (hcap : off + cap * size ≤ c'.size)
      (hlen : ∀ i, i < n → (row i).length = size) (u : Nat → Nat → Value) (hu : ∀ i k, i < n → k < size → c'[off + i * size + k]? = some (u i k))
      (hr : ∀ (i k : Nat) (sv : SV), i < n → (row i)[k]? = some sv → SR P w₀ B sv (u i k)) : SR P w₀ B (.rows n size row) (.slice (some ⟨b, off, none⟩) n cap)

structure RowsAt (P : Program) (w₀ : World) (B : Nat → Prop) (r : Where) (n size : Nat) (row : Nat → List SV) : Prop where
  blk : B r.blk
  sz : r.sz = size
  at_ : ∃ (c' : Array Value) (el' : TypeId) (fr : Nat × Nat), w₀.heap[r.blk]? = some (.cells c' el' fr) ∧ c'.size = r.phys ∧ r.sh + n * size ≤ r.phys ∧
    ∀ i, i < n → (row i).length = size ∧ ∀ (k : Nat) (sv : SV), (row i)[k]? = some sv → ∃ v', c'[r.sh + i * size + k]? = some v' ∧ SR P w₀ B sv v'

structure EntryR (ρ : Ren) (e e' : MapEntry) : Prop where
  key : VR ρ e.key e'.key
  val : VR ρ e.val e'.val
  born : e.born = e'.born

inductive OR (P : Program) (ρ : Ren) (r : Where) : VObj → Obj → Prop where
  | cells (c : List Value) (el el' : TypeId) (ro : Bool) (c' : Array Value) (fr : Nat × Nat) (hp : c'.size = r.phys) (hs : r.sh + c.length ≤ r.phys)
      (he : ro = false → el' = el) (hz : ∀ n, szOf P el = some n → r.sz = n) (hf : ro = false → fr.1 = fr.2 ∨ r.phys ≤ fr.1)
      (hc : ∀ (i : Nat) (v : Value), c[i]? = some v → ∃ v', c'[r.sh + i]? = some v' ∧ VR ρ v v') : OR P ρ r (.cells c el ro) (.cells c' el' fr)
  | map (es : List MapEntry) (es' : Array MapEntry) (clock : Nat) (h1 : es.length = es'.toList.length)
      (h2 : ∀ (i : Nat) (e e' : MapEntry), es[i]? = some e → es'.toList[i]? = some e' → EntryR ρ e e') : OR P ρ r (.map es clock) (.map es' clock)
  | siter (s : ByteArray) (pos : Nat) : OR P ρ r (.siter s pos) (.stringIter s pos)

theorem OR.mono {P : Program} {ρ ρ' : Ren} (hl : ρ.le ρ') {r : Where} {o : VObj} {o' : Obj} (h : OR P ρ r o o') : OR P ρ' r o o' := by
  cases h with
  | cells c el el' ro c' fr hp hs he hz hf hc => exact .cells c el el' ro c' fr hp hs he hz hf fun i v hv => let ⟨v', h1, h2⟩ := hc i v hv; ⟨v', h1, h2.mono hl⟩
  | map es es' clock h1 h2 => exact .map es es' clock h1 fun i e e' a b => let q := h2 i e e' a b; ⟨q.key.mono hl, q.val.mono hl, q.born⟩
  | siter s pos => exact .siter s pos

/-- The machine's memory g stands to the world w by ρ; what w₀ had in B is as it was. -/
structure WR (P : Program) (B : Nat → Prop) (w₀ : World) (ρ : Ren) (g : Nat → Option VObj) (w : World) : Prop where
  below : BelowK B w₀ w
  size : ∀ k, B k → k < w.heap.size
  live : ∀ x o r, g x = some o → ρ x = some r → Live o r = true → ∃ o', w.heap[r.blk]? = some o' ∧ OR P ρ r o o' ∧ (o.ro = false → ¬ B r.blk)
  inj : ∀ x y ox oy rx ry, g x = some ox → g y = some oy → ρ x = some rx → ρ y = some ry → Live ox rx = true → Live oy ry = true → (ox.ro = false ∨ oy.ro = false) → rx.blk = ry.blk → x = y
  fresh : ∀ x, g x = none → ρ x = none
  rows : ∀ x n size row, g x = some (.rows n size row) → ∃ r, ρ x = some r ∧ (0 < n → RowsAt P w₀ B r n size row)
  nil : ∀ x el ro r, g x = some (.cells [] el ro) → ρ x = some r → ∀ n, szOf P el = some n → r.sz = n
  named : ∀ x o, g x = some o → o ≠ .dead → ∃ r, ρ x = some r

theorem OR.rows {P : Program} {ρ : Ren} {r : Where} {n size : Nat} {row : Nat → List SV} {o' : Obj} (h : OR P ρ r (.rows n size row) o') : False := by cases h
theorem OR.nil_sz {P : Program} {ρ : Ren} {r : Where} {c : List Value} {el : TypeId} {ro : Bool} {o' : Obj} (h : OR P ρ r (.cells c el ro) o') : ∀ n, szOf P el = some n → r.sz = n := by
  cases h with
  | cells _ _ _ _ _ _ _ _ _ hz _ _ => exact hz

section
variable {P : Program} {B : Nat → Prop} {w₀ : World} {ρ : Ren} {g : Nat → Option VObj} {w : World}

theorem WR.mem (h : WR P B w₀ ρ g w) {x : Nat} {o : VObj} (hx : g x = some o) {r : Where} (hl : Live o r = true) (hr : ρ x = some r) :
    ∃ o', w.heap[r.blk]? = some o' ∧ OR P ρ r o o' ∧ (o.ro = false → ¬ B r.blk) := h.live x o r hx hr hl

/-- Nothing but counts has turned. -/
theorem WR.same (h : WR P B w₀ ρ g w) {w' : World} (hh : w'.heap = w.heap) (ho : w'.os = w.os) (ht : w'.tape = w.tape) (hu : w'.output = w.output) : WR P B w₀ ρ g w' where
  below := ⟨ho.trans h.below.os, ht.trans h.below.tape, hu.trans h.below.output, by rw [hh]; exact h.below.size, fun k hk => by rw [hh]; exact h.below.block k hk⟩
  size := by rw [hh]; exact h.size
  live := by rw [hh]; exact h.live
  inj := h.inj
  fresh := h.fresh
  rows := h.rows
  nil := h.nil
  named := h.named

theorem WR.drew (h : WR P B w₀ ρ g w) : WR P B w₀ ρ g w.drew := h.same rfl rfl rfl rfl

/-- One block is another one now. -/
structure Chg (w w' : World) (b : Nat) (o : Obj) : Prop where
  os : w'.os = w.os
  tape : w'.tape = w.tape
  output : w'.output = w.output
  size : w'.heap.size = w.heap.size
  now : w'.heap[b]? = some o
  rest : ∀ k, k ≠ b → w'.heap[k]? = w.heap[k]?

theorem WR.change (h : WR P B w₀ ρ g w) {x : Nat} {o o2 : VObj} (hx : g x = some o) {r : Where} (hl : Live o r = true) (hr : ρ x = some r) (hB : ¬ B r.blk)
    {w' : World} {o' : Obj} (hc : Chg w w' r.blk o') (ho : OR P ρ r o2 o') (hro : o.ro = false := by rfl) : WR P B w₀ ρ (upd g x o2) w' where
  below := h.below.trans ⟨hc.os, hc.tape, hc.output, Nat.le_of_eq hc.size.symm, fun k hk => hc.rest k (fun e => hB (e ▸ hk))⟩
  size := by rw [hc.size]; exact h.size
  live := by
    intro y oy ry hy hry hly
    by_cases e : y = x
    · subst e
      rw [upd_same] at hy
      cases hy
      rw [hr] at hry
      cases hry
      exact ⟨o', hc.now, ho, fun _ => hB⟩
    · rw [upd_other _ e] at hy
      obtain ⟨oy', h2, h3, h4⟩ := h.live y oy ry hy hry hly
      refine ⟨oy', ?_, h3, h4⟩
      rw [hc.rest]
      · exact h2
      · intro e'
        exact e (h.inj y x oy o ry r hy hx hry hr hly hl (.inr hro) e')
  inj := by
    intro y z oy oz ry rz hy hz hry hrz hly hlz hd e
    have live : ∀ u ou ru, upd g x o2 u = some ou → ρ u = some ru → Live ou ru = true → ∃ ou', g u = some ou' ∧ Live ou' ru = true ∧ (ou.ro = false → ou'.ro = false) := by
      intro u ou ru hu hru hlu
      by_cases eu : u = x
      · subst eu; rw [hr] at hru; cases hru; exact ⟨o, hx, hl, fun _ => hro⟩
      · rw [upd_other _ eu] at hu; exact ⟨ou, hu, hlu, fun h => h⟩
    obtain ⟨oy', hy', hly', hdy⟩ := live y oy ry hy hry hly
    obtain ⟨oz', hz', hlz', hdz⟩ := live z oz rz hz hrz hlz
    exact h.inj y z oy' oz' ry rz hy' hz' hry hrz hly' hlz' (hd.imp hdy hdz) e
  fresh := by
    intro y hy
    by_cases e : y = x
    · subst e; rw [upd_same] at hy; cases hy
    · rw [upd_other _ e] at hy; exact h.fresh y hy
  rows := by
    intro y n size row hy
    by_cases e : y = x
    · subst e; rw [upd_same] at hy; cases hy; exact ho.rows.elim
    · rw [upd_other _ e] at hy; exact h.rows y n size row hy
  nil := by
    intro y el ro' ry hy hry
    by_cases e : y = x
    · subst e; rw [upd_same] at hy; cases hy; rw [hr] at hry; cases hry; exact ho.nil_sz
    · rw [upd_other _ e] at hy; exact h.nil y el ro' ry hy hry
  named := by
    intro y oy hy hne
    by_cases e : y = x
    · subst e; exact ⟨r, hr⟩
    · rw [upd_other _ e] at hy; exact h.named y oy hy hne

theorem WR.kill (h : WR P B w₀ ρ g w) (x : Nat) {o : VObj} (hx : g x = some o) : WR P B w₀ ρ (upd g x .dead) w where
  below := h.below
  size := h.size
  live := by
    intro y oy ry hy hry hly
    by_cases e : y = x
    · subst e; rw [upd_same] at hy; cases hy; cases hly
    · rw [upd_other _ e] at hy; exact h.live y oy ry hy hry hly
  inj := by
    intro y z oy oz ry rz hy hz hry hrz hly hlz
    have key : ∀ u ou ru, upd g x .dead u = some ou → Live ou ru = true → g u = some ou := by
      intro u ou ru hu hlu
      by_cases eu : u = x
      · subst eu; rw [upd_same] at hu; cases hu; cases hlu
      · rw [upd_other _ eu] at hu; exact hu
    exact h.inj y z oy oz ry rz (key y oy ry hy hly) (key z oz rz hz hlz) hry hrz hly hlz
  fresh := by
    intro y hy
    by_cases e : y = x
    · subst e; rw [upd_same] at hy; cases hy
    · rw [upd_other _ e] at hy; exact h.fresh y hy
  rows := by
    intro y n size row hy
    by_cases e : y = x
    · subst e; rw [upd_same] at hy; cases hy
    · rw [upd_other _ e] at hy; exact h.rows y n size row hy
  nil := by
    intro y el ro' ry hy hry
    by_cases e : y = x
    · subst e; rw [upd_same] at hy; cases hy
    · rw [upd_other _ e] at hy; exact h.nil y el ro' ry hy hry
  named := by
    intro y oy hy hne
    by_cases e : y = x
    · subst e; rw [upd_same] at hy; cases hy; exact absurd rfl hne
    · rw [upd_other _ e] at hy; exact h.named y oy hy hne

def Ren.put (ρ : Ren) (x : Nat) (r : Where) : Ren := fun y => if y = x then some r else ρ y
theorem Ren.put_same (ρ : Ren) (x : Nat) (r : Where) : ρ.put x r x = some r := by simp [Ren.put]
theorem Ren.put_other (ρ : Ren) {x y : Nat} (r : Where) (h : y ≠ x) : ρ.put x r y = ρ y := by simp [Ren.put, h]
theorem Ren.put_le {ρ : Ren} {x : Nat} (h : ρ x = none) (r : Where) : ρ.le (ρ.put x r) := fun y s e => by
  unfold Ren.put
  by_cases hy : y = x
  · subst hy; rw [h] at e; cases e
  · rw [if_neg hy, e]

/-- A new name n by a place r: what there is to show. -/
theorem WR.put (h : WR P B w₀ ρ g w) {n : Nat} (hn : g n = none) {g' : Nat → Option VObj} (hg : ∀ y, y ≠ n → g' y = g y ∨ g' y = some .dead) {o : VObj} (hgn : g' n = some o) {r : Where} {w' : World}
    (hb : BelowK B w w') (hsz : w.heap.size ≤ w'.heap.size)
    (hold : ∀ y oy ry, y ≠ n → g' y = some oy → g y = some oy → ρ y = some ry → Live oy ry = true → w'.heap[ry.blk]? = w.heap[ry.blk]?)
    (hnew : Live o r = true → ∃ o', w'.heap[r.blk]? = some o' ∧ OR P (ρ.put n r) r o o' ∧ (o.ro = false → ¬ B r.blk))
    (hinj : Live o r = true → ∀ y oy ry, y ≠ n → g' y = some oy → g y = some oy → ρ y = some ry → Live oy ry = true → (oy.ro = false ∨ o.ro = false) → ry.blk ≠ r.blk)
    (hrows : ∀ m size row, o = .rows m size row → 0 < m → RowsAt P w₀ B r m size row) (hnil : ∀ el ro, o = .cells [] el ro → ∀ k, szOf P el = some k → r.sz = k) : WR P B w₀ (ρ.put n r) g' w' := by
  have own : ∀ u ou ru, u ≠ n → g' u = some ou → Live ou ru = true → (ρ.put n r) u = some ru → g u = some ou ∧ ρ u = some ru := by
    intro u ou ru hu h1 h2 h3
    rw [Ren.put_other _ _ hu] at h3
    rcases hg u hu with h4 | h4
    · rw [h4] at h1; exact ⟨h1, h3⟩
    · rw [h4] at h1; cases h1; cases h2
  exact
  { below := h.below.trans hb
    size := fun k hk => Nat.lt_of_lt_of_le (h.size k hk) hsz
    live := by
      intro y oy ry hy hry hly
      by_cases e : y = n
      · subst e
        rw [hgn] at hy
        cases hy
        rw [Ren.put_same] at hry
        cases hry
        exact hnew hly
      · obtain ⟨h1, h2⟩ := own y oy ry e hy hly hry
        obtain ⟨o', h3, h4, h5⟩ := h.live y oy ry h1 h2 hly
        exact ⟨o', by rw [hold y oy ry e hy h1 h2 hly, h3], h4.mono (Ren.put_le (h.fresh n hn) r), h5⟩
    inj := by
      intro y z oy oz ry rz hy hz hry hrz hly hlz hd e
      by_cases ey : y = n
      · by_cases ez : z = n
        · rw [ey, ez]
        · obtain ⟨h1, h2⟩ := own z oz rz ez hz hlz hrz
          subst ey
          rw [hgn] at hy
          cases hy
          rw [Ren.put_same] at hry
          cases hry
          exact absurd e.symm (hinj hly z oz rz ez hz h1 h2 hlz hd.symm)
      · obtain ⟨h1, h2⟩ := own y oy ry ey hy hly hry
        by_cases ez : z = n
        · subst ez
          rw [hgn] at hz
          cases hz
          rw [Ren.put_same] at hrz
          cases hrz
          exact absurd e (hinj hlz y oy ry ey hy h1 h2 hly hd)
        · obtain ⟨h3, h4⟩ := own z oz rz ez hz hlz hrz
          exact h.inj y z oy oz ry rz h1 h3 h2 h4 hly hlz hd e
    fresh := by
      intro y hy
      by_cases e : y = n
      · subst e; rw [hgn] at hy; cases hy
      · rw [Ren.put_other _ _ e]
        rcases hg y e with h4 | h4
        · rw [h4] at hy; exact h.fresh y hy
        · rw [h4] at hy; cases hy
    rows := by
      intro y m size row hy
      by_cases e : y = n
      · subst e; rw [hgn] at hy; cases hy; exact ⟨r, Ren.put_same _ _ _, hrows m size row rfl⟩
      · rw [Ren.put_other _ _ e]
        rcases hg y e with h4 | h4
        · rw [h4] at hy; exact h.rows y m size row hy
        · rw [h4] at hy; cases hy
    nil := by
      intro y el ro' ry hy hry
      by_cases e : y = n
      · subst e; rw [hgn] at hy; cases hy; rw [Ren.put_same] at hry; cases hry; exact hnil el ro' rfl
      · rw [Ren.put_other _ _ e] at hry
        rcases hg y e with h4 | h4
        · rw [h4] at hy; exact h.nil y el ro' ry hy hry
        · rw [h4] at hy; cases hy
    named := by
      intro y oy hy hne
      by_cases e : y = n
      · subst e; exact ⟨r, Ren.put_same _ _ _⟩
      · rw [Ren.put_other _ _ e]
        rcases hg y e with h4 | h4
        · rw [h4] at hy; exact h.named y oy hy hne
        · rw [h4] at hy; cases hy; exact absurd rfl hne }

/-- A block of its own, laid at the heap's end. -/
theorem WR.alloc (h : WR P B w₀ ρ g w) {n : Nat} (hn : g n = none) {o : VObj} {o' : Obj} {r : Where} (hb : r.blk = w.heap.size) (ho : OR P (ρ.put n r) r o o') :
    WR P B w₀ (ρ.put n r) (upd g n o) (w.alloc o') := by
  have hlt : ∀ y oy ry, g y = some oy → ρ y = some ry → Live oy ry = true → ry.blk < w.heap.size := fun y oy ry h1 h2 h3 => by
    obtain ⟨o2, h5, _⟩ := h.live y oy ry h1 h2 h3
    exact (Array.getElem?_eq_some_iff.1 h5).1
  refine h.put hn (fun y hy => .inl (upd_other _ hy)) (upd_same _ _ _) ((BelowK.refl B w).alloc h.size o') (by simp) (fun y oy ry _ _ h1 h2 h3 => Below.heap_alloc _ _ _ (hlt y oy ry h1 h2 h3))
    (fun _ => ⟨o', by rw [hb]; show (w.heap.push o')[w.heap.size]? = some o'; simp, ho, fun _ hk => by have := h.size _ hk; omega⟩)
    (fun _ y oy ry _ _ h1 h2 h3 _ e => by have := hlt y oy ry h1 h2 h3; omega) (fun m s q e => by subst e; exact ho.rows.elim) (fun el ro e => by subst e; exact ho.nil_sz)

/-- A new name for a block whose old name is dead (an append in its place). -/
theorem WR.rename (h : WR P B w₀ ρ g w) {n b : Nat} (hn : g n = none) {ob : VObj} (hb : g b = some ob) {rb : Where} (hlb : Live ob rb = true) (hrb : ρ b = some rb) (hB : ¬ B rb.blk)
    {w' : World} {o' : Obj} (hc : Chg w w' rb.blk o') {o : VObj} {r : Where} (hr : r.blk = rb.blk) (ho : OR P (ρ.put n r) r o o') (hro : ob.ro = false := by rfl) :
    WR P B w₀ (ρ.put n r) (upd (upd g b .dead) n o) w' := by
  have hne : ∀ y oy ry, y ≠ n → upd (upd g b .dead) n o y = some oy → Live oy ry = true → y ≠ b := fun y oy ry e h1 h2 eb => by
    subst eb
    rw [upd_other _ e, upd_same] at h1
    cases h1
    cases h2
  have hap : ∀ y oy ry, y ≠ n → upd (upd g b .dead) n o y = some oy → g y = some oy → ρ y = some ry → Live oy ry = true → ry.blk ≠ rb.blk := fun y oy ry e h0 h1 h2 h3 e' =>
    hne y oy ry e h0 h3 (h.inj y b oy ob ry rb h1 hb h2 hrb h3 hlb (.inr hro) e')
  refine h.put hn (fun y hy => ?_) (upd_same _ _ _) ⟨hc.os, hc.tape, hc.output, Nat.le_of_eq hc.size.symm, fun k hk => hc.rest k (fun e => hB (e ▸ hk))⟩ (Nat.le_of_eq hc.size.symm)
    (fun y oy ry e h0 h1 h2 h3 => hc.rest _ (hap y oy ry e h0 h1 h2 h3)) (fun _ => ⟨o', by rw [hr]; exact hc.now, ho, fun _ => by rw [hr]; exact hB⟩)
    (fun _ y oy ry e h0 h1 h2 h3 _ => by rw [hr]; exact hap y oy ry e h0 h1 h2 h3) (fun m s q e => by subst e; exact ho.rows.elim) (fun el ro e => by subst e; exact ho.nil_sz)
  rw [upd_other _ hy]
  by_cases e : y = b
  · right; rw [e, upd_same]
  · left; rw [upd_other _ e]
end

/- Cells. -/
theorem addr_add0 (b off j : Nat) : (⟨b, off, none⟩ : Addr).add j = ⟨b, off + j, none⟩ := by
  unfold Addr.add
  by_cases h : j = 0
  · rw [if_pos h, h]; rfl
  · rw [if_neg h]

theorem cell_of_block {w : World} {b : Nat} {c : Array Value} {el : TypeId} {fr : Nat × Nat} (h : w.heap[b]? = some (.cells c el fr)) (i : Nat) : w.cell? ⟨b, i, none⟩ = c[i]? := by
  simp [World.cell?, h]

/-- Many cells of a row, laid anew. -/
def setMany (c : Array Value) (off : Nat) : List Value → Array Value
  | [] => c
  | v :: l => setMany (c.setIfInBounds off v) (off + 1) l

theorem setMany_size (c : Array Value) : ∀ (l : List Value) (off : Nat), (setMany c off l).size = c.size := by
  intro l
  induction l generalizing c with
  | nil => intro off; rfl
  | cons v l ih => intro off; simp [setMany, ih]

theorem setMany_get : ∀ (l : List Value) (c : Array Value) (off i : Nat), off + l.length ≤ c.size →
    (setMany c off l)[i]? = if off ≤ i ∧ i < off + l.length then l[i - off]? else c[i]?
  | [], c, off, i, h => by
    have : ¬ (off ≤ i ∧ i < off + ([] : List Value).length) := fun hh => by simp at hh; omega
    rw [if_neg this]; rfl
  | v :: l, c, off, i, h => by
    simp only [List.length_cons] at h
    rw [setMany, setMany_get l _ (off + 1) i (by simp; omega)]
    by_cases h1 : off + 1 ≤ i ∧ i < off + 1 + l.length
    · rw [if_pos h1, if_pos (by simp; omega)]
      rw [show i - off = (i - (off + 1)) + 1 by omega]
      rfl
    · rw [if_neg h1]
      by_cases h2 : i = off
      · subst h2
        rw [if_pos (by simp), Array.getElem?_setIfInBounds_self, if_pos (by omega)]
        simp
      · rw [if_neg (by simp; omega)]
        simp [Array.getElem?_setIfInBounds_ne (Ne.symm h2)]

theorem run_storeCells {P : Program} {w : World} {b : Nat} {el : TypeId} {fr : Nat × Nat} : ∀ (vs : List Value) (w' : World) (c : Array Value) (off i : Nat),
    Chg w w' b (.cells c el fr) → off + i + vs.length ≤ c.size → (fr.1 = fr.2 ∨ c.size ≤ fr.1) → (vs.all Value.oneCell') = true →
    ∃ w2, (storeCells ⟨b, off, none⟩ vs i).run P w' = .ok () w2 ∧ Chg w w2 b (.cells (setMany c (off + i) vs) el fr)
  | [], w', c, off, i, hc, _, _, _ => ⟨w', rfl, hc⟩
  | v :: vs, w', c, off, i, hc, hl, hf, ho => by
    simp only [List.length_cons] at hl
    simp only [List.all_cons, Bool.and_eq_true] at ho
    have hcell : w'.cell? ⟨b, off + i, none⟩ = some (c[off + i]'(by omega)) := by
      rw [cell_of_block hc.now, Array.getElem?_eq_getElem]
    have hfz : w'.frozen? ⟨b, off + i, none⟩ = false := by
      simp only [World.frozen?, hc.now]
      rcases hf with hf | hf
      · obtain ⟨lo, hi⟩ := fr
        simp only at hf
        subst hf
        simp only [Bool.and_eq_false_iff, decide_eq_false_iff_not]
        omega
      · have : ¬ fr.1 ≤ off + i := by omega
        simp [this]
    have hc2 : Chg w (w'.setCell ⟨b, off + i, none⟩ v) b (.cells (c.setIfInBounds (off + i) v) el fr) :=
      ⟨hc.os, hc.tape, hc.output, by rw [World.size_setCell, hc.size], by simp [World.setCell, Array.getElem?_modify, hc.now], fun k hk => by
        rw [Below.heap_setCell _ _ _ _ hk]; exact hc.rest k hk⟩
    obtain ⟨w2, hr, hw⟩ := run_storeCells vs _ (c.setIfInBounds (off + i) v) off (i + 1) hc2 (by simp; omega) (by simpa using hf) ho.2
    refine ⟨w2, ?_, hw⟩
    show (Sem.run P (store ((⟨b, off, none⟩ : Addr).add i) v >>= fun _ => storeCells ⟨b, off, none⟩ vs (i + 1)) w') = _
    rw [Sem.run_bind, addr_add0, run_store _ _ _ _ _ ho.1, hcell]
    simp only [hfz, Bool.false_eq_true, if_false, Result.andThen_ok]
    exact hr

theorem Chg.refl {w : World} {b : Nat} {o : Obj} (h : w.heap[b]? = some o) : Chg w w b o := ⟨rfl, rfl, rfl, rfl, h, fun _ _ => rfl⟩

theorem run_loadCells_block {P : Program} {w : World} {b : Nat} {c : Array Value} {el : TypeId} {fr : Nat × Nat} (hb : w.heap[b]? = some (.cells c el fr)) (off n : Nat) (h : off + n ≤ c.size) :
    (loadCells ⟨b, off, none⟩ n).run P w = .ok ((c.toList.drop off).take n).toArray w := by
  have hlen : ((c.toList.drop off).take n).length = n := by simp; omega
  have := run_loadCells_list (P := P) w ⟨b, off, none⟩ ((c.toList.drop off).take n) (fun j v hj => by
    rw [addr_add0, cell_of_block hb]
    rw [List.getElem?_take] at hj
    split at hj
    · simpa using hj
    · cases hj)
  rwa [hlen] at this

end Go.Proofs.YtdbjloigfkckfaaGreatDoor.Vm
