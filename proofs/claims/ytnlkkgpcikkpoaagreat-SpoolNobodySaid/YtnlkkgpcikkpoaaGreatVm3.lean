/- The small machine, its third text: the two memories. -/
import Derived.Test.YtnlkkgpcikkpoaaGreatVm2
namespace Go.Proofs.YtnlkkgpcikkpoaaGreat.Vm
open Go.RowKit
set_option linter.unusedVariables false
set_option linter.unusedSimpArgs false

theorem list_eq_of {l l' : List Value} (hl : l.length = l'.length) (h : ∀ (i : Nat) (v v' : Value), l[i]? = some v → l'[i]? = some v' → v' = v) : l' = l := by
  apply List.ext_getElem?
  intro i
  by_cases hi : i < l.length
  · have hi' : i < l'.length := hl ▸ hi
    rw [List.getElem?_eq_getElem hi, List.getElem?_eq_getElem hi', h i _ _ (List.getElem?_eq_getElem hi) (List.getElem?_eq_getElem hi')]
  · rw [List.getElem?_eq_none (by omega), List.getElem?_eq_none (by omega)]

theorem flat_inv (ρ : Ren) : ∀ (d : Nat) (v v' : Value), flat d v = true → VR ρ v v' → v' = v := by
  intro d
  induction d with
  | zero =>
    intro v v' h hr
    cases hr with
    | scal => rfl
    | func fn f f' c c' ho h1 h2 h3 h4 =>
      cases fn with
      | func k =>
        simp only [flat, Bool.and_eq_true, List.isEmpty_iff] at h
        have e1 : f' = f := by apply Array.ext'; rw [h.1] at h1 ⊢; cases hf : f'.toList <;> simp_all
        have e2 : c' = c := by apply Array.ext'; rw [h.2] at h3 ⊢; cases hf : c'.toList <;> simp_all
        rw [e1, e2]
      | _ => simp [flat] at h
    | _ => simp [flat] at h
  | succ d ih =>
    intro v v' h hr
    cases hr with
    | scal => rfl
    | func fn f f' c c' ho h1 h2 h3 h4 =>
      cases fn with
      | func k =>
        simp only [flat, Bool.and_eq_true, List.isEmpty_iff] at h
        have e1 : f' = f := by apply Array.ext'; rw [h.1] at h1 ⊢; cases hf : f'.toList <;> simp_all
        have e2 : c' = c := by apply Array.ext'; rw [h.2] at h3 ⊢; cases hf : c'.toList <;> simp_all
        rw [e1, e2]
      | _ => simp [flat] at h
    | iface t v v' hv =>
      simp only [flat] at h
      rw [ih _ _ h hv]
    | agg c c' h1 h2 =>
      simp only [flat] at h
      have : c' = c := Array.ext' (list_eq_of h1 fun i a b ha hb => ih _ _ (List.all_eq_true.1 h _ (List.mem_of_getElem? ha)) (h2 i a b ha hb))
      rw [this]
    | tuple c c' h1 h2 =>
      simp only [flat] at h
      have : c' = c := Array.ext' (list_eq_of h1 fun i a b ha hb => ih _ _ (List.all_eq_true.1 h _ (List.mem_of_getElem? ha)) (h2 i a b ha hb))
      rw [this]
    | _ => simp [flat] at h

theorem fl_inv {ρ : Ren} {v v' : Value} (h : fl v = true) (r : VR ρ v v') : v' = v := flat_inv ρ 6 v v' h r
theorem fl_refl {ρ : Ren} {v : Value} (h : fl v = true) : VR ρ v v := flat_refl ρ 6 v h
theorem LR.flat_inv {ρ : Ren} {l l' : List Value} (h : l.all fl = true) (r : LR ρ l l') : l' = l :=
  list_eq_of r.len fun i v v' h1 h2 => fl_inv (List.all_eq_true.1 h _ (List.mem_of_getElem? h1)) (r.at_ i v v' h1 h2)
theorem LR.flat_refl {ρ : Ren} {l : List Value} (h : l.all fl = true) : LR ρ l l :=
  ⟨rfl, fun i v v' h1 h2 => by rw [h1] at h2; cases h2; exact fl_refl (List.all_eq_true.1 h _ (List.mem_of_getElem? h1))⟩

/- Blocks. -/
def VObj.ro : VObj → Bool
  | .cells _ _ r => r
  | _ => false
def VObj.live : VObj → Bool
  | .dead => false
  | _ => true

structure EntryR (ρ : Ren) (e e' : MapEntry) : Prop where
  key : VR ρ e.key e'.key
  val : VR ρ e.val e'.val
  born : e.born = e'.born

inductive OR (P : Program) (ρ : Ren) (r : Where) : VObj → Obj → Prop where
  | cells (c : List Value) (el : TypeId) (ro : Bool) (c' : Array Value) (fr : Nat × Nat) (hp : c'.size = r.phys) (hs : r.sh + c.length ≤ r.phys)
      (hz : ∀ n, szOf P el = some n → r.sz = n) (hf : fr.1 = fr.2 ∨ r.phys ≤ fr.1)
      (hc : ∀ (i : Nat) (v : Value), c[i]? = some v → ∃ v', c'[r.sh + i]? = some v' ∧ VR ρ v v') : OR P ρ r (.cells c el ro) (.cells c' el fr)
  | map (es : List MapEntry) (es' : Array MapEntry) (clock : Nat) (h1 : es.length = es'.toList.length)
      (h2 : ∀ (i : Nat) (e e' : MapEntry), es[i]? = some e → es'.toList[i]? = some e' → EntryR ρ e e') : OR P ρ r (.map es clock) (.map es' clock)
  | siter (s : ByteArray) (pos : Nat) : OR P ρ r (.siter s pos) (.stringIter s pos)

theorem OR.mono {P : Program} {ρ ρ' : Ren} (hl : ρ.le ρ') {r : Where} {o : VObj} {o' : Obj} (h : OR P ρ r o o') : OR P ρ' r o o' := by
  cases h with
  | cells c el ro c' fr hp hs hz hf hc => exact .cells c el ro c' fr hp hs hz hf fun i v hv => let ⟨v', h1, h2⟩ := hc i v hv; ⟨v', h1, h2.mono hl⟩
  | map es es' clock h1 h2 => exact .map es es' clock h1 fun i e e' a b => let q := h2 i e e' a b; ⟨q.key.mono hl, q.val.mono hl, q.born⟩
  | siter s pos => exact .siter s pos

/-- The machine's memory g stands to the world w by ρ; what w₀ had below B is as it was. -/
structure WR (P : Program) (B : Nat) (w₀ : World) (ρ : Ren) (g : Nat → Option VObj) (w : World) : Prop where
  below : Below B w₀ w
  size : B ≤ w.heap.size
  live : ∀ x o, g x = some o → o.live = true → ∃ r o', ρ x = some r ∧ w.heap[r.blk]? = some o' ∧ OR P ρ r o o' ∧ (o.ro = false → B ≤ r.blk)
  inj : ∀ x y ox oy rx ry, g x = some ox → g y = some oy → ox.live = true → oy.live = true → ρ x = some rx → ρ y = some ry → rx.blk = ry.blk → x = y
  fresh : ∀ x, g x = none → ρ x = none

section
variable {P : Program} {B : Nat} {w₀ : World} {ρ : Ren} {g : Nat → Option VObj} {w : World}

theorem WR.mem (h : WR P B w₀ ρ g w) {x : Nat} {o : VObj} (hx : g x = some o) (hl : o.live = true) {r : Where} (hr : ρ x = some r) :
    ∃ o', w.heap[r.blk]? = some o' ∧ OR P ρ r o o' ∧ (o.ro = false → B ≤ r.blk) := by
  obtain ⟨r', o', h1, h2⟩ := h.live x o hx hl
  rw [hr] at h1
  cases h1
  exact ⟨o', h2⟩

/-- Nothing but counts has turned. -/
theorem WR.same (h : WR P B w₀ ρ g w) {w' : World} (hh : w'.heap = w.heap) (ho : w'.os = w.os) (ht : w'.tape = w.tape) (hu : w'.output = w.output) : WR P B w₀ ρ g w' where
  below := ⟨ho.trans h.below.os, ht.trans h.below.tape, hu.trans h.below.output, by rw [hh]; exact h.below.size, fun k hk => by rw [hh]; exact h.below.block k hk⟩
  size := by rw [hh]; exact h.size
  live := by rw [hh]; exact h.live
  inj := h.inj
  fresh := h.fresh

theorem WR.drew (h : WR P B w₀ ρ g w) : WR P B w₀ ρ g w.drew := h.same rfl rfl rfl rfl

/-- One block is another one now. -/
structure Chg (w w' : World) (b : Nat) (o : Obj) : Prop where
  os : w'.os = w.os
  tape : w'.tape = w.tape
  output : w'.output = w.output
  size : w'.heap.size = w.heap.size
  now : w'.heap[b]? = some o
  rest : ∀ k, k ≠ b → w'.heap[k]? = w.heap[k]?

theorem WR.change (h : WR P B w₀ ρ g w) {x : Nat} {o o2 : VObj} (hx : g x = some o) (hl : o.live = true) {r : Where} (hr : ρ x = some r) (hB : B ≤ r.blk)
    {w' : World} {o' : Obj} (hc : Chg w w' r.blk o') (ho : OR P ρ r o2 o') : WR P B w₀ ρ (upd g x o2) w' where
  below := h.below.trans ⟨hc.os, hc.tape, hc.output, Nat.le_of_eq hc.size.symm, fun k hk => hc.rest k (by omega)⟩
  size := by rw [hc.size]; exact h.size
  live := by
    intro y oy hy hly
    by_cases e : y = x
    · subst e
      rw [upd_same] at hy
      cases hy
      exact ⟨r, o', hr, hc.now, ho, fun _ => hB⟩
    · rw [upd_other _ e] at hy
      obtain ⟨ry, oy', h1, h2, h3, h4⟩ := h.live y oy hy hly
      refine ⟨ry, oy', h1, ?_, h3, h4⟩
      rw [hc.rest]
      · exact h2
      · intro e'
        exact e (h.inj y x oy o ry r hy hx hly hl h1 hr e')
  inj := by
    intro y z oy oz ry rz hy hz hly hlz hry hrz e
    have live : ∀ u ou, upd g x o2 u = some ou → ou.live = true → ∃ ou', g u = some ou' ∧ ou'.live = true := by
      intro u ou hu hlu
      by_cases eu : u = x
      · subst eu; exact ⟨o, hx, hl⟩
      · rw [upd_other _ eu] at hu; exact ⟨ou, hu, hlu⟩
    obtain ⟨oy', hy', hly'⟩ := live y oy hy hly
    obtain ⟨oz', hz', hlz'⟩ := live z oz hz hlz
    exact h.inj y z oy' oz' ry rz hy' hz' hly' hlz' hry hrz e
  fresh := by
    intro y hy
    by_cases e : y = x
    · subst e; rw [upd_same] at hy; cases hy
    · rw [upd_other _ e] at hy; exact h.fresh y hy

theorem WR.kill (h : WR P B w₀ ρ g w) (x : Nat) {o : VObj} (hx : g x = some o) : WR P B w₀ ρ (upd g x .dead) w where
  below := h.below
  size := h.size
  live := by
    intro y oy hy hly
    by_cases e : y = x
    · subst e; rw [upd_same] at hy; cases hy; cases hly
    · rw [upd_other _ e] at hy; exact h.live y oy hy hly
  inj := by
    intro y z oy oz ry rz hy hz hly hlz
    have key : ∀ u ou, upd g x .dead u = some ou → ou.live = true → g u = some ou := by
      intro u ou hu hlu
      by_cases eu : u = x
      · subst eu; rw [upd_same] at hu; cases hu; cases hlu
      · rw [upd_other _ eu] at hu; exact hu
    exact h.inj y z oy oz ry rz (key y oy hy hly) (key z oz hz hlz) hly hlz
  fresh := by
    intro y hy
    by_cases e : y = x
    · subst e; rw [upd_same] at hy; cases hy
    · rw [upd_other _ e] at hy; exact h.fresh y hy

def Ren.put (ρ : Ren) (x : Nat) (r : Where) : Ren := fun y => if y = x then some r else ρ y
theorem Ren.put_same (ρ : Ren) (x : Nat) (r : Where) : ρ.put x r x = some r := by simp [Ren.put]
theorem Ren.put_le {ρ : Ren} {x : Nat} (h : ρ x = none) (r : Where) : ρ.le (ρ.put x r) := fun y s e => by
  unfold Ren.put
  by_cases hy : y = x
  · subst hy; rw [h] at e; cases e
  · rw [if_neg hy, e]

/-- A block of its own, laid at the heap's end. -/
theorem WR.alloc (h : WR P B w₀ ρ g w) {n : Nat} (hn : g n = none) {o : VObj} {o' : Obj} {r : Where} (hb : r.blk = w.heap.size) (ho : OR P (ρ.put n r) r o o') :
    WR P B w₀ (ρ.put n r) (upd g n o) (w.alloc o') where
  below := h.below.alloc h.size o'
  size := by have := h.size; simp; omega
  live := by
    intro y oy hy hly
    by_cases e : y = n
    · subst e
      rw [upd_same] at hy
      cases hy
      exact ⟨r, o', Ren.put_same _ _ _, by rw [hb]; show (w.heap.push o')[w.heap.size]? = some o'; simp, ho, fun _ => by rw [hb]; exact h.size⟩
    · rw [upd_other _ e] at hy
      obtain ⟨ry, oy', h1, h2, h3, h4⟩ := h.live y oy hy hly
      refine ⟨ry, oy', by simp [Ren.put, e, h1], ?_, h3.mono (Ren.put_le (h.fresh n hn) r), h4⟩
      have hlt : ry.blk < w.heap.size := (Array.getElem?_eq_some_iff.1 h2).1
      rw [Below.heap_alloc _ _ _ hlt, h2]
  inj := by
    intro y z oy oz ry rz hy hz hly hlz hry hrz e
    have old : ∀ u ou ru, u ≠ n → upd g n o u = some ou → ou.live = true → (ρ.put n r) u = some ru → g u = some ou ∧ ρ u = some ru ∧ ru.blk < w.heap.size := by
      intro u ou ru hu h1 h2 h3
      rw [upd_other _ hu] at h1
      have h4 : ρ u = some ru := by simpa [Ren.put, hu] using h3
      obtain ⟨o2, h5, _⟩ := h.mem h1 h2 h4
      exact ⟨h1, h4, (Array.getElem?_eq_some_iff.1 h5).1⟩
    by_cases ey : y = n
    · by_cases ez : z = n
      · rw [ey, ez]
      · obtain ⟨_, _, h3⟩ := old z oz rz ez hz hlz hrz
        rw [ey, Ren.put_same] at hry
        cases hry
        omega
    · obtain ⟨h1, h2, h3⟩ := old y oy ry ey hy hly hry
      by_cases ez : z = n
      · rw [ez, Ren.put_same] at hrz
        cases hrz
        omega
      · obtain ⟨h4, h5, h6⟩ := old z oz rz ez hz hlz hrz
        exact h.inj y z oy oz ry rz h1 h4 hly hlz h2 h5 e
  fresh := by
    intro y hy
    by_cases e : y = n
    · subst e; rw [upd_same] at hy; cases hy
    · rw [upd_other _ e] at hy
      simp [Ren.put, e, h.fresh y hy]

/-- A new name for a block whose old name is dead (an append in its place). -/
theorem WR.rename (h : WR P B w₀ ρ g w) {n b : Nat} (hn : g n = none) {ob : VObj} (hb : g b = some ob) (hlb : ob.live = true) {rb : Where} (hrb : ρ b = some rb) (hB : B ≤ rb.blk)
    {w' : World} {o' : Obj} (hc : Chg w w' rb.blk o') {o : VObj} {r : Where} (hr : r.blk = rb.blk) (ho : OR P (ρ.put n r) r o o') :
    WR P B w₀ (ρ.put n r) (upd (upd g b .dead) n o) w' where
  below := h.below.trans ⟨hc.os, hc.tape, hc.output, Nat.le_of_eq hc.size.symm, fun k hk => hc.rest k (by omega)⟩
  size := by rw [hc.size]; exact h.size
  live := by
    intro y oy hy hly
    by_cases e : y = n
    · subst e
      rw [upd_same] at hy
      cases hy
      exact ⟨r, o', Ren.put_same _ _ _, by rw [hr]; exact hc.now, ho, fun _ => by rw [hr]; exact hB⟩
    · rw [upd_other _ e] at hy
      by_cases eb : y = b
      · subst eb; rw [upd_same] at hy; cases hy; cases hly
      · rw [upd_other _ eb] at hy
        obtain ⟨ry, oy', h1, h2, h3, h4⟩ := h.live y oy hy hly
        refine ⟨ry, oy', by simp [Ren.put, e, h1], ?_, h3.mono (Ren.put_le (h.fresh n hn) r), h4⟩
        rw [hc.rest]
        · exact h2
        · intro e'
          exact eb (h.inj y b oy ob ry rb hy hb hly hlb h1 hrb e')
  inj := by
    intro y z oy oz ry rz hy hz hly hlz hry hrz e
    have old : ∀ u ou ru, u ≠ n → upd (upd g b .dead) n o u = some ou → ou.live = true → (ρ.put n r) u = some ru → u ≠ b ∧ g u = some ou ∧ ρ u = some ru := by
      intro u ou ru hu h1 h2 h3
      rw [upd_other _ hu] at h1
      by_cases eb : u = b
      · subst eb; rw [upd_same] at h1; cases h1; cases h2
      · rw [upd_other _ eb] at h1
        exact ⟨eb, h1, by simpa [Ren.put, hu] using h3⟩
    by_cases ey : y = n
    · by_cases ez : z = n
      · rw [ey, ez]
      · obtain ⟨h0, h1, h2⟩ := old z oz rz ez hz hlz hrz
        rw [ey, Ren.put_same] at hry
        cases hry
        exact absurd (h.inj z b oz ob rz rb h1 hb hlz hlb h2 hrb (by rw [← e, hr])) h0
    · obtain ⟨h0, h1, h2⟩ := old y oy ry ey hy hly hry
      by_cases ez : z = n
      · rw [ez, Ren.put_same] at hrz
        cases hrz
        exact absurd (h.inj y b oy ob ry rb h1 hb hly hlb h2 hrb (by rw [e, hr])) h0
      · obtain ⟨h3, h4, h5⟩ := old z oz rz ez hz hlz hrz
        exact h.inj y z oy oz ry rz h1 h4 hly hlz h2 h5 e
  fresh := by
    intro y hy
    by_cases e : y = n
    · subst e; rw [upd_same] at hy; cases hy
    · rw [upd_other _ e] at hy
      by_cases eb : y = b
      · subst eb; rw [upd_same] at hy; cases hy
      · rw [upd_other _ eb] at hy
        simp [Ren.put, e, h.fresh y hy]
end

/- Cells. -/
theorem addr_add0 (b off j : Nat) : (⟨b, off, none⟩ : Addr).add j = ⟨b, off + j, none⟩ := by
  unfold Addr.add
  by_cases h : j = 0
  · rw [if_pos h, h]; rfl
  · rw [if_neg h]

theorem cell_of_block {w : World} {b : Nat} {c : Array Value} {el : TypeId} {fr : Nat × Nat} (h : w.heap[b]? = some (.cells c el fr)) (i : Nat) : w.cell? ⟨b, i, none⟩ = c[i]? := by
  simp [World.cell?, h]

/-- Many cells of a row, laid anew. -/
def setMany (c : Array Value) (off : Nat) : List Value → Array Value
  | [] => c
  | v :: l => setMany (c.setIfInBounds off v) (off + 1) l

theorem setMany_size (c : Array Value) : ∀ (l : List Value) (off : Nat), (setMany c off l).size = c.size := by
  intro l
  induction l generalizing c with
  | nil => intro off; rfl
  | cons v l ih => intro off; simp [setMany, ih]

theorem setMany_get : ∀ (l : List Value) (c : Array Value) (off i : Nat), off + l.length ≤ c.size →
    (setMany c off l)[i]? = if off ≤ i ∧ i < off + l.length then l[i - off]? else c[i]?
  | [], c, off, i, h => by
    have : ¬ (off ≤ i ∧ i < off + ([] : List Value).length) := fun hh => by simp at hh; omega
    rw [if_neg this]; rfl
  | v :: l, c, off, i, h => by
    simp only [List.length_cons] at h
    rw [setMany, setMany_get l _ (off + 1) i (by simp; omega)]
    by_cases h1 : off + 1 ≤ i ∧ i < off + 1 + l.length
    · rw [if_pos h1, if_pos (by simp; omega)]
      rw [show i - off = (i - (off + 1)) + 1 by omega]
      rfl
    · rw [if_neg h1]
      by_cases h2 : i = off
      · subst h2
        rw [if_pos (by simp), Array.getElem?_setIfInBounds_self, if_pos (by omega)]
        simp
      · rw [if_neg (by simp; omega)]
        simp [Array.getElem?_setIfInBounds_ne (Ne.symm h2)]

theorem run_storeCells {P : Program} {w : World} {b : Nat} {el : TypeId} {fr : Nat × Nat} : ∀ (vs : List Value) (w' : World) (c : Array Value) (off i : Nat),
    Chg w w' b (.cells c el fr) → off + i + vs.length ≤ c.size → (fr.1 = fr.2 ∨ c.size ≤ fr.1) → (vs.all Value.oneCell') = true →
    ∃ w2, (storeCells ⟨b, off, none⟩ vs i).run P w' = .ok () w2 ∧ Chg w w2 b (.cells (setMany c (off + i) vs) el fr)
  | [], w', c, off, i, hc, _, _, _ => ⟨w', rfl, hc⟩
  | v :: vs, w', c, off, i, hc, hl, hf, ho => by
    simp only [List.length_cons] at hl
    simp only [List.all_cons, Bool.and_eq_true] at ho
    have hcell : w'.cell? ⟨b, off + i, none⟩ = some (c[off + i]'(by omega)) := by
      rw [cell_of_block hc.now, Array.getElem?_eq_getElem]
    have hfz : w'.frozen? ⟨b, off + i, none⟩ = false := by
      simp only [World.frozen?, hc.now]
      rcases hf with hf | hf
      · obtain ⟨lo, hi⟩ := fr
        simp only at hf
        subst hf
        simp only [Bool.and_eq_false_iff, decide_eq_false_iff_not]
        omega
      · have : ¬ fr.1 ≤ off + i := by omega
        simp [this]
    have hc2 : Chg w (w'.setCell ⟨b, off + i, none⟩ v) b (.cells (c.setIfInBounds (off + i) v) el fr) :=
      ⟨hc.os, hc.tape, hc.output, by rw [World.size_setCell, hc.size], by simp [World.setCell, Array.getElem?_modify, hc.now], fun k hk => by
        rw [Below.heap_setCell _ _ _ _ hk]; exact hc.rest k hk⟩
    obtain ⟨w2, hr, hw⟩ := run_storeCells vs _ (c.setIfInBounds (off + i) v) off (i + 1) hc2 (by simp; omega) (by simpa using hf) ho.2
    refine ⟨w2, ?_, hw⟩
    show (Sem.run P (store ((⟨b, off, none⟩ : Addr).add i) v >>= fun _ => storeCells ⟨b, off, none⟩ vs (i + 1)) w') = _
    rw [Sem.run_bind, addr_add0, run_store _ _ _ _ _ ho.1, hcell]
    simp only [hfz, Bool.false_eq_true, if_false, Result.andThen_ok]
    exact hr

theorem Chg.refl {w : World} {b : Nat} {o : Obj} (h : w.heap[b]? = some o) : Chg w w b o := ⟨rfl, rfl, rfl, rfl, h, fun _ _ => rfl⟩

theorem run_loadCells_block {P : Program} {w : World} {b : Nat} {c : Array Value} {el : TypeId} {fr : Nat × Nat} (hb : w.heap[b]? = some (.cells c el fr)) (off n : Nat) (h : off + n ≤ c.size) :
    (loadCells ⟨b, off, none⟩ n).run P w = .ok ((c.toList.drop off).take n).toArray w := by
  have hlen : ((c.toList.drop off).take n).length = n := by simp; omega
  have := run_loadCells_list (P := P) w ⟨b, off, none⟩ ((c.toList.drop off).take n) (fun j v hj => by
    rw [addr_add0, cell_of_block hb]
    rw [List.getElem?_take] at hj
    split at hj
    · simpa using hj
    · cases hj)
  rwa [hlen] at this

end Go.Proofs.YtnlkkgpcikkpoaaGreat.Vm
