/- Small laws on blocks of memory that the walks share. -/
import Derived.Laws.Rows
import Derived.Below
import Derived.Laws.BytesArg
import Derived.Lib.ConvBytes
import Derived.Lib.Hide
import Derived.Tactics2
import Derived.Laws.NewBlocks
import Derived.Laws.CopyOwn
namespace Go.Proofs.Ytgdpahojinknmaa
open Go.RowKit

/-- A call's word, kept from the walk's simp. -/
def Post (R : Ending → World → Prop) : Ending → World → Prop := R
theorem Post.mk {R : Ending → World → Prop} {e : Ending} {w : World} (h : R e w) : Post R e w := h

/-- A block that stands below n reads, in every later world, as it did. -/
theorem blk_cell {w w' : World} {n B : Nat} {c : Array Value} {T : TypeId} {fr : Nat × Nat} (h : w.heap[B]? = some (.cells c T fr)) (hb : Below n w w') (hn : B < n) :
    ∀ j, w'.cell? ⟨B, j, none⟩ = c[j]? := fun j => by
  have := (hb.block B hn).trans h
  simp [World.cell?, this]

theorem blk_free {w w' : World} {n B : Nat} {c : Array Value} {T : TypeId} (h : w.heap[B]? = some (.cells c T (0, 0))) (hb : Below n w w') (hn : B < n) :
    ∀ j, w'.frozen? ⟨B, j, none⟩ = false := fun j => by
  have := (hb.block B hn).trans h
  simp [World.frozen?, this]

theorem blk_new (w : World) (o : Obj) : (w.alloc o).heap[w.heap.size]? = some o := heap_alloc_new w o
theorem blk_old {w : World} {B : Nat} {o : Obj} (h : w.heap[B]? = some o) (o' : Obj) : (w.alloc o').heap[B]? = some o := by
  have hlt : B < w.heap.size := (Array.getElem?_eq_some_iff.1 h).1
  rw [heap_alloc_old w o' B hlt]; exact h

/-- Block g is an ordinary row of cells. -/
def isRow (w : World) (g : Nat) : Prop := ∃ cs T, w.heap[g]? = some (.cells cs T (0, 0))
theorem isRow_lt {w : World} {g : Nat} (h : isRow w g) : g < w.heap.size := by
  obtain ⟨cs, T, h⟩ := h; exact (Array.getElem?_eq_some_iff.1 h).1
section
variable {w : World} {g : Nat} {cs : Array Value}
@[go_sem] theorem cell?_setRow_at (i : Nat) (h : isRow w g) : (w.setRow g cs).cell? ⟨g, i, none⟩ = cs[i]? := by
  obtain ⟨c, T, h⟩ := h; exact cell_setRow_same w g i c cs T _ h
@[go_sem] theorem cell?_setRow_past (n i : Nat) (h : n ≠ g) : (w.setRow g cs).cell? ⟨n, i, none⟩ = w.cell? ⟨n, i, none⟩ := cell_setRow_other w g cs _ h
@[go_sem] theorem frozen?_setRow (a : Addr) : (w.setRow g cs).frozen? a = w.frozen? a := by
  have key : (w.setRow g cs).heap[a.block]? = (w.heap[a.block]?).map fun o => if a.block = g then (match o with | .cells _ t f => .cells cs t f | o => o) else o := by
    by_cases e : a.block = g
    · subst e
      simp only [World.setRow, Array.getElem?_modify, if_true]
      rfl
    · rw [setRow_other w g a.block cs e]; simp [e]
  unfold World.frozen?
  rw [key]
  cases w.heap[a.block]? with
  | none => rfl
  | some o =>
    simp only [Option.map_some]
    by_cases e : a.block = g
    · rw [if_pos e]; cases o <;> rfl
    · rw [if_neg e]
@[go_sem] theorem frozen?_isRow (i : Nat) (h : isRow w g) : w.frozen? ⟨g, i, none⟩ = false := by
  obtain ⟨c, T, h⟩ := h; exact frozen_of_row w g i c T h
@[go_sem] theorem setCell_setRow_at (i : Nat) (v : Value) (h : isRow w g) : (w.setRow g cs).setCell ⟨g, i, none⟩ v = w.setRow g (cs.setIfInBounds i v) := by
  obtain ⟨c, T, h⟩ := h
  rw [setCell_eq_setRow _ g i cs T (0, 0) v (setRow_heap w g c cs T _ h), setRow_setRow]
theorem setRow_comm (n : Nat) (c2 : Array Value) (h : n ≠ g) : (w.setRow g cs).setRow n c2 = (w.setRow n c2).setRow g cs := by
  unfold World.setRow
  congr 1
  apply Array.ext_getElem?
  intro k
  simp only [Array.getElem?_modify]
  by_cases h1 : n = k <;> by_cases h2 : g = k
  · omega
  · simp [h1, h2]
  · simp [h1, h2]
  · simp [h1, h2]
@[go_sem] theorem setCell_setRow_past (n i : Nat) (v : Value) (h : n ≠ g) : (w.setRow g cs).setCell ⟨n, i, none⟩ v = (w.setCell ⟨n, i, none⟩ v).setRow g cs := by
  unfold World.setRow World.setCell
  congr 1
  apply Array.ext_getElem?
  intro k
  simp only [Array.getElem?_modify]
  by_cases h1 : n = k <;> by_cases h2 : g = k
  · omega
  · simp [h1, h2]
  · simp [h1, h2]
  · simp [h1, h2]
@[go_sem] theorem setRow_drew : w.drew.setRow g cs = (w.setRow g cs).drew := rfl
theorem isRow_setRow {k : Nat} (h : isRow w k) : isRow (w.setRow g cs) k := by
  obtain ⟨c, T, h⟩ := h
  by_cases e : k = g
  · subst e; exact ⟨cs, T, setRow_heap w k c cs T _ h⟩
  · exact ⟨c, T, by rw [setRow_other w g k cs e]; exact h⟩
theorem setRow_none {k : Nat} (h : ¬ ∃ c T, w.heap[k]? = some (.cells c T (0, 0))) : ¬ ∃ c T, (w.setRow g cs).heap[k]? = some (.cells c T (0, 0)) := by
  rintro ⟨c, T, hc⟩
  by_cases e : k = g
  · subst e
    refine h ?_
    simp only [World.setRow, Array.getElem?_modify, if_true] at hc
    cases hk : w.heap[k]? with
    | none => rw [hk] at hc; cases hc
    | some o =>
      rw [hk] at hc
      cases o <;> simp at hc
      exact ⟨_, _, by rw [hc.2.2]⟩
  · exact h ⟨c, T, by rw [← setRow_other w g k cs e]; exact hc⟩
@[go_sem] theorem isRow_setRow_iff {k : Nat} : isRow (w.setRow g cs) k = isRow w k :=
  propext ⟨fun h => Classical.byContradiction fun hn => setRow_none hn h, isRow_setRow⟩
@[go_sem] theorem isRow_drew {k : Nat} : isRow w.drew k = isRow w k := rfl
/-- A row whose content is known is laid open in the world's own spelling. -/
theorem open_row {T : TypeId} (h : w.heap[g]? = some (.cells cs T (0, 0))) : ∃ w2, w = w2.setRow g cs ∧ isRow w2 g ∧ w2 = w :=
  ⟨w, (setRow_self w g cs T (0, 0) h).symm, ⟨cs, T, h⟩, rfl⟩
theorem open_row2 {g1 : Nat} {c1 : Array Value} {T T1 : TypeId} (h : w.heap[g]? = some (.cells cs T (0, 0))) (h1 : w.heap[g1]? = some (.cells c1 T1 (0, 0))) :
    ∃ w2, w = (w2.setRow g1 c1).setRow g cs ∧ isRow w2 g ∧ isRow w2 g1 ∧ isRow (w2.setRow g1 c1) g ∧ w2 = w :=
  ⟨w, by rw [setRow_self w g1 c1 T1 (0, 0) h1, setRow_self w g cs T (0, 0) h], ⟨cs, T, h⟩, ⟨c1, T1, h1⟩, isRow_setRow ⟨cs, T, h⟩, rfl⟩
theorem below_rows {B : Nat} {W : World} (h : Below B W w) (hg : B ≤ g) (cs : Array Value) : Below B W (w.setRow g cs) := below_setRow h hg cs
theorem blk_kept {w w' : World} {n B : Nat} {o : Obj} (h : w.heap[B]? = some o) (hb : Below n w w') (hn : B < n) : w'.heap[B]? = some o := (hb.block B hn).trans h
end

theorem heap_of1 {w W : World} {A : Obj} (h : w.alloc A = W) : W.heap[w.heap.size]? = some A ∧ W.heap.size = w.heap.size + 1 ∧ Below w.heap.size w W := by
  subst h; exact ⟨blk_new w A, by simp, (Below.refl _ _).alloc (Nat.le_refl _) _⟩
theorem heap_of2 {w W : World} {A B : Obj} (h : (w.alloc A).alloc B = W) : W.heap[w.heap.size]? = some A ∧ W.heap[w.heap.size + 1]? = some B ∧ W.heap.size = w.heap.size + 2 ∧ Below w.heap.size w W := by
  subst h; exact ⟨heap_alloc2_old w A B, heap_alloc2_new w A B, by simp, ((Below.refl _ _).alloc (Nat.le_refl _) _).alloc (by simp) _⟩
theorem heap_of3 {w W : World} {A B C : Obj} (h : ((w.alloc A).alloc B).alloc C = W) :
    W.heap[w.heap.size]? = some A ∧ W.heap[w.heap.size + 1]? = some B ∧ W.heap[w.heap.size + 2]? = some C ∧ W.heap.size = w.heap.size + 3 ∧ Below w.heap.size w W := by
  subst h
  refine ⟨blk_old (heap_alloc2_old w A B) C, blk_old (heap_alloc2_new w A B) C, ?_, by simp, (((Below.refl _ _).alloc (Nat.le_refl _) _).alloc (by simp) _).alloc (by simp; omega) _⟩
  have := blk_new ((w.alloc A).alloc B) C
  simpa using this

/-- The numbers of a string's bytes. -/
def nb (s : ByteArray) : List Int := s.data.toList.map fun x => (x.toNat : Int)
theorem nb_len (s : ByteArray) : (nb s).length = s.size := by unfold nb; rw [List.length_map]; rfl
theorem str_nb (s : ByteArray) : strOfNums (nb s) = s := by
  have h : (strOfNums (nb s)).data.toList = s.data.toList := by
    rw [strOfNums_data, nb, List.map_map]
    conv => rhs; rw [← List.map_id s.data.toList]
    refine List.map_congr_left fun x _ => ?_
    simp
  cases s with | mk d =>
  cases hs : strOfNums (nb ⟨d⟩) with | mk e =>
  rw [hs] at h
  simp only at h
  rw [Array.toList_inj.1 h]

/-- A slice of bytes that reads as s. -/
def BytesAt (w : World) (v : Value) (s : ByteArray) : Prop :=
  ∃ a cap, v = .slice a s.size cap ∧ (0 < s.size → ∃ b off, a = some ⟨b, off, none⟩ ∧ b < w.heap.size ∧ ∀ i, i < s.size → w.cell? ⟨b, off + i, none⟩ = some (.int .u8 ((nb s).getD i 0)))

theorem BytesAt.below {w w' : World} {v : Value} {s : ByteArray} (h : BytesAt w v s) (hb : Below w.heap.size w w') : BytesAt w' v s := by
  obtain ⟨a, cap, rfl, h⟩ := h
  refine ⟨a, cap, rfl, fun hp => ?_⟩
  obtain ⟨b, off, rfl, hlt, hc⟩ := h hp
  exact ⟨b, off, rfl, Nat.lt_of_lt_of_le hlt hb.size, fun i hi => (hb.cell (p := ⟨b, off + i, none⟩) hlt).trans (hc i hi)⟩

theorem BytesAt.conv {P : Program} {w : World} {v : Value} {s : ByteArray} (h : BytesAt w v s) (src e dst : TypeId) (hs : P.underlying src = some (.slice e)) (he : P.underlying e = some (.int .u8))
    (hd : P.underlying dst = some .string) : (convert src dst v).run P w = .ok (.string s) w := by
  obtain ⟨a, cap, rfl, h⟩ := h
  by_cases hp : 0 < s.size
  · obtain ⟨b, off, rfl, _, hc⟩ := h hp
    rw [run_convert_bytes_arg w src e hs he b off s.size cap (nb s) (nb_len s) hc dst hd, str_nb]
  · have h0 : s.size = 0 := by omega
    have he0 : s = ByteArray.empty := by
      cases s with | mk d =>
      have : d = #[] := Array.eq_empty_of_size_eq_zero h0
      rw [this]; rfl
    rw [h0, he0]
    cases a with
    | none => exact run_convert_bytes_nil w src e hs he _ _ dst hd
    | some p =>
      rw [run_convert_bytes_string w src dst e _ 0 cap hs he hd, run_bytesToString w p 0 cap [] (by simp [loadCells, loadCellsFrom])]
      rfl

/-- A slice of bytes in a block of its own from B on, not frozen. -/
def BytesNew (B : Nat) (w : World) (v : Value) (s : ByteArray) : Prop :=
  ∃ b cap, v = .slice (some ⟨b, 0, none⟩) s.size cap ∧ B ≤ b ∧ b < w.heap.size ∧ ∀ i, i < s.size → w.cell? ⟨b, i, none⟩ = some (.int .u8 ((nb s).getD i 0)) ∧ w.frozen? ⟨b, i, none⟩ = false

theorem BytesNew.at {B : Nat} {w : World} {v : Value} {s : ByteArray} (h : BytesNew B w v s) : BytesAt w v s := by
  obtain ⟨b, cap, rfl, _, hlt, hc⟩ := h
  exact ⟨_, cap, rfl, fun _ => ⟨b, 0, rfl, hlt, fun i hi => by rw [Nat.zero_add]; exact (hc i hi).1⟩⟩

theorem BytesNew.below {B : Nat} {w w' : World} {v : Value} {s : ByteArray} (h : BytesNew B w v s) (hb : Below w.heap.size w w') : BytesNew B w' v s := by
  obtain ⟨b, cap, rfl, hB, hlt, hc⟩ := h
  exact ⟨b, cap, rfl, hB, Nat.lt_of_lt_of_le hlt hb.size, fun i hi => ⟨(hb.cell (p := ⟨b, i, none⟩) hlt).trans (hc i hi).1, (hb.frozen (p := ⟨b, i, none⟩) hlt).trans (hc i hi).2⟩⟩

theorem BytesNew.mono {B B' : Nat} {w : World} {v : Value} {s : ByteArray} (h : BytesNew B w v s) (hB : B' ≤ B) : BytesNew B' w v s := by
  obtain ⟨b, cap, rfl, h1, h2⟩ := h
  exact ⟨b, cap, rfl, Nat.le_trans hB h1, h2⟩

theorem nb_getD (s : ByteArray) (j : Nat) : (nb s).getD j 0 = ((s.data.toList.getD j 0).toNat : Int) := by
  unfold nb
  rw [List.getD_eq_getElem?_getD, List.getD_eq_getElem?_getD, List.getElem?_map]
  cases s.data.toList[j]? <;> rfl

/-- '[]byte(s)' of a string: new bytes. -/
theorem wpList_sb {P : Program} {ops : Array Oper} {rest : List Oper} {o : Oper} {a : Act} {w : World} {Q : Exit → Act → World → Prop} (hgd : o.guard = none) (src dst e : TypeId) (x : Operand)
    (ho : o.op = .convert src dst x) (s : ByteArray) (hx : a.eval x = .string s) {u : TypeDesc} (hs : P.underlying src = some u) (hd : P.underlying dst = some (.slice e)) (he : P.underlying e = some (.int .u8))
    (h : ∀ cap w', BytesNew w.heap.size w' (.slice (some ⟨w.heap.size, 0, none⟩) s.size cap) s → Below w.heap.size w w' → w'.heap.size = w.heap.size + 1 →
      wpList P ops Q rest (a.put o.dst (.slice (some ⟨w.heap.size, 0, none⟩) s.size cap)) w') : wpList P ops Q (o :: rest) a w :=
  wpList_plain hgd fun K hK => by
    unfold Oper.wp execOp
    simp only [ho, hx]
    have hr := Lib.run_convert_string_bytes (P := P) w src dst e s hs hd he
    simp only [Sem.run_bind, Functor.map, hr, Result.andThen_ok]
    refine hK _ _ (h _ _ ?_ ?_ (Lib.bytesWorld_size w e s))
    · refine ⟨w.heap.size, _, rfl, Nat.le_refl _, by rw [Lib.bytesWorld_size]; omega, fun i hi => ⟨?_, ?_⟩⟩
      · rw [Lib.bytesWorld_cell w e s i hi, nb_getD]
      · have := Lib.bytesWorld_at_new w e s
        simp only [World.frozen?, this]
        have hsz : s.size ≤ (Lib.bytesCells w e s).size := by unfold Lib.bytesCells; rw [Array.size_append, Array.size_map]; exact Nat.le_add_right _ _
        simp; omega
    · exact ⟨rfl, rfl, rfl, by rw [Lib.bytesWorld_size]; omega, fun k hk => Lib.bytesWorld_at_old w e s k hk⟩

theorem BytesNew.row {B g : Nat} {w : World} {v : Value} {s : ByteArray} (h : BytesNew B w v s) (hg : g < B) (cs : Array Value) : BytesNew B (w.setRow g cs) v s := by
  obtain ⟨b, cap, rfl, hB, hlt, hc⟩ := h
  exact ⟨b, cap, rfl, hB, by simpa using hlt, fun i hi => ⟨(cell?_setRow_past b i (by omega)).trans (hc i hi).1, (frozen?_setRow _).trans (hc i hi).2⟩⟩

theorem BytesNew.unrow {B g : Nat} {w : World} {v : Value} {s : ByteArray} {cs : Array Value} (h : BytesNew B (w.setRow g cs) v s) (hg : g < B) : BytesNew B w v s := by
  obtain ⟨b, cap, rfl, hB, hlt, hc⟩ := h
  exact ⟨b, cap, rfl, hB, by simpa using hlt, fun i hi => ⟨(cell?_setRow_past b i (by omega)).symm.trans (hc i hi).1, (frozen?_setRow _).symm.trans (hc i hi).2⟩⟩
theorem BytesNew.rows2 {B g h n : Nat} {w : World} {v : Value} {s : ByteArray} {a b : Array Value} (hh : BytesNew B ((w.setRow h b).setRow g a) v s) (hg : g < B) (h1 : h < B) (hn : n ≤ B) (a' b' : Array Value) :
    BytesNew n ((w.setRow h b').setRow g a') v s := (((hh.unrow hg).unrow h1).row h1 b').row hg a' |>.mono hn

/-- Behind a call that leaves all that was: two fresh boxes laid open again. -/
theorem after2 {w w1 : World} {A B : Array Value} {T T' : TypeId} (hb : Below ((w.alloc (.cells A T)).alloc (.cells B T')).heap.size ((w.alloc (.cells A T)).alloc (.cells B T')) w1) :
    ∃ w2, w1 = (w2.setRow (w.heap.size + 1) B).setRow w.heap.size A ∧ isRow w2 w.heap.size ∧ isRow w2 (w.heap.size + 1) ∧ Below w.heap.size w w2 ∧ w.heap.size + 2 ≤ w2.heap.size := by
  obtain ⟨H0, H1, HZ, HB⟩ := heap_of2 (w := w) (A := .cells A T) (B := .cells B T') rfl
  obtain ⟨w2, h, r0, r1, _, rfl⟩ := open_row2 (blk_kept H0 hb (by omega)) (blk_kept H1 hb (by omega))
  exact ⟨w2, h, r0, r1, HB.trans (hb.mono HB.size), by have := hb.size; omega⟩
theorem after1 {w w1 : World} {A : Array Value} {T : TypeId} (hb : Below (w.alloc (.cells A T)).heap.size (w.alloc (.cells A T)) w1) :
    ∃ w2, w1 = w2.setRow w.heap.size A ∧ isRow w2 w.heap.size ∧ Below w.heap.size w w2 ∧ w.heap.size + 1 ≤ w2.heap.size := by
  obtain ⟨H0, HZ, HB⟩ := heap_of1 (w := w) (A := .cells A T) rfl
  obtain ⟨w2, h, r0, rfl⟩ := open_row (blk_kept H0 hb (by omega))
  exact ⟨w2, h, r0, HB.trans (hb.mono HB.size), by have := hb.size; omega⟩
/-- The same where they were laid open before. -/
theorem again2 {w w1 : World} {A B : Array Value} {g h : Nat} (hb : Below ((w.setRow h B).setRow g A).heap.size ((w.setRow h B).setRow g A) w1) (r0 : isRow w g) (r1 : isRow w h) (hne : h ≠ g) :
    ∃ w2, w1 = (w2.setRow h B).setRow g A ∧ isRow w2 g ∧ isRow w2 h ∧ Below w.heap.size ((w.setRow h B).setRow g A) w2 ∧ w.heap.size ≤ w2.heap.size := by
  have e : ((w.setRow h B).setRow g A).heap.size = w.heap.size := by simp
  have g0 := isRow_lt r0
  have g1 := isRow_lt r1
  obtain ⟨c0, T0, q0⟩ := r0
  obtain ⟨c1, T1, q1⟩ := r1
  have H0 : ((w.setRow h B).setRow g A).heap[g]? = some (.cells A T0 (0, 0)) := setRow_heap _ g c0 A T0 _ (by rw [setRow_other w h g B (Ne.symm hne)]; exact q0)
  have H1 : ((w.setRow h B).setRow g A).heap[h]? = some (.cells B T1 (0, 0)) := by rw [setRow_other _ g h A hne]; exact setRow_heap w h c1 B T1 _ q1
  obtain ⟨w2, hh, r0, r1, _, rfl⟩ := open_row2 (blk_kept H0 hb (by omega)) (blk_kept H1 hb (by omega))
  rw [e] at hb
  exact ⟨w2, hh, r0, r1, hb, by have := hb.size; rw [e] at this; exact this⟩
theorem below_unrows {W w w2 : World} {n g h : Nat} {A B : Array Value} (hB : Below n W w) (hb : Below w.heap.size ((w.setRow h B).setRow g A) w2) (hg : n ≤ g) (hh : n ≤ h) (hn : n ≤ w.heap.size) : Below n W w2 :=
  (below_rows (below_rows hB hh B) hg A).trans (hb.mono hn)

/-- Block g is an ordinary row and holds A. -/
def Row (w : World) (g : Nat) (A : Array Value) : Prop := ∃ T, w.heap[g]? = some (.cells A T (0, 0))
theorem Row.new (w : World) (A : Array Value) (T : TypeId) : Row (w.alloc (.cells A T)) w.heap.size A := ⟨T, blk_new w _⟩
theorem Row.old {w : World} {g : Nat} {A : Array Value} (h : Row w g A) (o : Obj) : Row (w.alloc o) g A := h.imp fun _ h => blk_old h o
theorem Row.set {w : World} {g : Nat} (h : isRow w g) (A : Array Value) : Row (w.setRow g A) g A := by
  obtain ⟨c, T, h⟩ := h; exact ⟨T, setRow_heap w g c A T _ h⟩
theorem Row.past {w : World} {g k : Nat} {A : Array Value} (hne : g ≠ k) (h : Row w g A) (B : Array Value) : Row (w.setRow k B) g A := h.imp fun _ h => by rw [setRow_other w k g B hne]; exact h
theorem Row.drew {w : World} {g : Nat} {A : Array Value} (h : Row w g A) : Row w.drew g A := h
theorem Row.lt {w : World} {g : Nat} {A : Array Value} (h : Row w g A) : g < w.heap.size := by obtain ⟨T, h⟩ := h; exact (Array.getElem?_eq_some_iff.1 h).1
theorem Row.kept {w w' : World} {n g : Nat} {A : Array Value} (h : Row w g A) (hb : Below n w w') (hn : g < n) : Row w' g A := h.imp fun _ h => blk_kept h hb hn
theorem Row.is {w : World} {g : Nat} {A : Array Value} (h : Row w g A) : isRow w g := by obtain ⟨T, h⟩ := h; exact ⟨A, T, h⟩
theorem Row.cell {w : World} {g : Nat} {A : Array Value} (h : Row w g A) (j : Nat) : w.cell? ⟨g, j, none⟩ = A[j]? := by obtain ⟨T, h⟩ := h; simp [World.cell?, h]
/-- Behind a call that keeps all that was, the rows laid open again. -/
theorem Row.open {w : World} {g : Nat} {A : Array Value} (h : Row w g A) : ∃ w2, w = w2.setRow g A ∧ isRow w2 g ∧ w2 = w := by
  obtain ⟨T, h⟩ := h; exact open_row h
theorem open1 {W w' : World} {g : Nat} {A : Array Value} (hb : Below W.heap.size W w') (h : Row W g A) : ∃ w2, w' = w2.setRow g A ∧ isRow w2 g ∧ Below W.heap.size W w2 ∧ W.heap.size ≤ w2.heap.size := by
  obtain ⟨w2, e, r, rfl⟩ := (h.kept hb h.lt).open
  exact ⟨w2, e, r, hb, hb.size⟩
theorem open2 {W w' : World} {g h : Nat} {A B : Array Value} (hb : Below W.heap.size W w') (hA : Row W g A) (hB : Row W h B) :
    ∃ w2, w' = (w2.setRow h B).setRow g A ∧ isRow w2 g ∧ isRow w2 h ∧ Below W.heap.size W w2 ∧ W.heap.size ≤ w2.heap.size := by
  obtain ⟨T, h1⟩ := hA.kept hb hA.lt
  obtain ⟨T', h2⟩ := hB.kept hb hB.lt
  obtain ⟨w2, e, r0, r1, _, rfl⟩ := open_row2 h1 h2
  exact ⟨w2, e, r0, r1, hb, hb.size⟩
theorem open3 {W w' : World} {g h k : Nat} {A B C : Array Value} (hb : Below W.heap.size W w') (hA : Row W g A) (hB : Row W h B) (hC : Row W k C) :
    ∃ w2, w' = ((w2.setRow k C).setRow h B).setRow g A ∧ isRow w2 g ∧ isRow w2 h ∧ isRow w2 k ∧ Below W.heap.size W w2 ∧ W.heap.size ≤ w2.heap.size := by
  obtain ⟨T, h1⟩ := hA.kept hb hA.lt
  obtain ⟨T', h2⟩ := hB.kept hb hB.lt
  obtain ⟨T'', h3⟩ := hC.kept hb hC.lt
  refine ⟨w', ?_, ⟨_, _, h1⟩, ⟨_, _, h2⟩, ⟨_, _, h3⟩, hb, hb.size⟩
  rw [setRow_self w' k C _ _ h3, setRow_self w' h B _ _ h2, setRow_self w' g A _ _ h1]
/-- Block g holds A, whatever its mark. -/
def Rowf (w : World) (g : Nat) (A : Array Value) : Prop := ∃ T fr, w.heap[g]? = some (.cells A T fr)
theorem Row.f {w : World} {g : Nat} {A : Array Value} (h : Row w g A) : Rowf w g A := by obtain ⟨T, h⟩ := h; exact ⟨T, _, h⟩
theorem Rowf.new (w : World) (A : Array Value) (T : TypeId) (fr : Nat × Nat) : Rowf (w.alloc (.cells A T fr)) w.heap.size A := ⟨T, fr, blk_new w _⟩
theorem Rowf.old {w : World} {g : Nat} {A : Array Value} (h : Rowf w g A) (o : Obj) : Rowf (w.alloc o) g A := by obtain ⟨T, fr, h⟩ := h; exact ⟨T, fr, blk_old h o⟩
theorem Rowf.past {w : World} {g k : Nat} {A : Array Value} (hne : g ≠ k) (h : Rowf w g A) (B : Array Value) : Rowf (w.setRow k B) g A := by
  obtain ⟨T, fr, h⟩ := h; exact ⟨T, fr, by rw [setRow_other w k g B hne]; exact h⟩
theorem Rowf.drew {w : World} {g : Nat} {A : Array Value} (h : Rowf w g A) : Rowf w.drew g A := h
theorem Rowf.lt {w : World} {g : Nat} {A : Array Value} (h : Rowf w g A) : g < w.heap.size := by obtain ⟨T, fr, h⟩ := h; exact (Array.getElem?_eq_some_iff.1 h).1
theorem Rowf.kept {w w' : World} {n g : Nat} {A : Array Value} (h : Rowf w g A) (hb : Below n w w') (hn : g < n) : Rowf w' g A := by obtain ⟨T, fr, h⟩ := h; exact ⟨T, fr, blk_kept h hb hn⟩
theorem Rowf.cell {w : World} {g : Nat} {A : Array Value} (h : Rowf w g A) (j : Nat) : w.cell? ⟨g, j, none⟩ = A[j]? := by obtain ⟨T, fr, h⟩ := h; simp [World.cell?, h]
/-- Bytes of a block that is known whole. -/
theorem bytesAt_row {w : World} {g cap : Nat} {A : Array Value} {s : ByteArray} (h : Rowf w g A) (hc : ∀ i, i < s.size → A[i]? = some (.int .u8 ((nb s).getD i 0))) : BytesAt w (.slice (some ⟨g, 0, none⟩) s.size cap) s :=
  ⟨_, cap, rfl, fun _ => ⟨g, 0, rfl, h.lt, fun i hi => by rw [Nat.zero_add, h.cell]; exact hc i hi⟩⟩
/-- Bytes written out. -/
theorem bytes_lit {w : World} {g cap : Nat} {A : Array Value} (s : ByteArray) (h : Rowf w g A) (hA : A.toList = (nb s).map (Value.int .u8)) : BytesAt w (.slice (some ⟨g, 0, none⟩) s.size cap) s :=
  bytesAt_row h fun i hi => by
    have hl : i < (nb s).length := by rw [nb_len]; exact hi
    rw [← Array.getElem?_toList, hA, List.getElem?_map, List.getElem?_eq_getElem hl]
    simp [List.getD, hl]
end Go.Proofs.Ytgdpahojinknmaa
