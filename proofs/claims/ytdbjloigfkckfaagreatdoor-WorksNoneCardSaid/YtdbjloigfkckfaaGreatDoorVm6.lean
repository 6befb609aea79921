/- The small machine, its sixth text: conversions, makes and builds. -/
import Derived.Test.YtdbjloigfkckfaaGreatDoorVm5
import Derived.IntWalk
namespace Go.Proofs.YtdbjloigfkckfaaGreatDoor.Vm
open Go.RowKit
set_option linter.unusedVariables false
set_option linter.unusedSimpArgs false

theorem modify_push (a : Array Obj) (x : Obj) (f : Obj → Obj) : (a.push x).modify a.size f = a.push (f x) := by
  apply Array.ext_getElem?
  intro i
  rw [Array.getElem?_modify, Array.getElem?_push, Array.getElem?_push]
  by_cases h : i = a.size
  · subst h; simp
  · have : ¬ a.size = i := fun e => h e.symm
    simp [h, this]

theorem freeze_alloc (w : World) (c : Array Value) (el : TypeId) (k : Nat) : (w.alloc (.cells c el)).freeze ⟨w.heap.size, k, none⟩ 1 = w.alloc (.cells c el (k, k + 1)) := by
  unfold World.freeze World.alloc
  simp only [Nat.one_ne_zero, if_false]
  rw [modify_push]
  rfl

section
variable {P : Program} {B : Nat → Prop} {w₀ : World} {ρ : Ren} {g : Nat → Option VObj} {n : Nat} {w : World}

theorem shape_alloc (w : World) (c : Array Value) (el : TypeId) : (w.alloc (.cells c el)).shape? w.heap.size = some (el, c.size) := by
  unfold World.shape? World.alloc
  simp only [Array.getElem?_push, if_true]

theorem run_newRow (el : TypeId) (arr : Array Value) (w : World) : (newRow el arr).run P w = .ok ⟨w.heap.size, 0, none⟩ (w.alloc (.cells arr el)) := rfl

theorem run_mark_new (el : TypeId) (arr : Array Value) (w : World) : (markStringish ⟨w.heap.size, 0, none⟩).run P (w.alloc (.cells arr el)) = .ok () (w.alloc (.cells arr el (arr.size, arr.size + 1))) := by
  unfold markStringish
  rw [Sem.run_bind, run_shape, Result.andThen_ok, shape_alloc]
  simp only [run_freeze]
  rw [freeze_alloc]

theorem run_stringToBytes (el : TypeId) (s : ByteArray) : ∃ cap', s.size ≤ cap' ∧ (Conv.stringToBytes el s).run P w = .ok (.slice (some ⟨w.heap.size, 0, none⟩) s.size cap')
    (w.drew.alloc (.cells ((s.data.map fun b => Value.int .u8 b.toNat) ++ Array.replicate (cap' - s.size) (.int .u8 0)) el (cap', cap' + 1))) := by
  refine ⟨(Question.appendCap s.size 0 el).cut (w.tape w.drawn (.appendCap s.size 0 el)), by simp [Question.cut], ?_⟩
  generalize hq : (Question.appendCap s.size 0 el).cut (w.tape w.drawn (.appendCap s.size 0 el)) = cap'
  have hle : s.size ≤ cap' := by rw [← hq]; simp [Question.cut]
  unfold Conv.stringToBytes
  rw [Sem.run_bind, run_choose, if_neg (by simp [Question.forced]), hq, Result.andThen_ok]
  dsimp only
  generalize harr : ((s.data.map fun b => Value.int .u8 b.toNat) ++ Array.replicate (cap' - s.size) (Value.int .u8 0)) = arr
  have hsz : arr.size = cap' := by
    rw [← harr, Array.size_append, Array.size_map, Array.size_replicate]
    have : s.data.size = s.size := rfl
    omega
  rw [Sem.run_bind, run_newRow, Result.andThen_ok, Sem.run_bind]
  have := run_mark_new (P := P) el arr w.drew
  rw [World.size_drew] at this
  show ((markStringish ⟨w.heap.size, 0, none⟩).run P (w.drew.alloc (.cells arr el))).andThen _ = _
  rw [this, hsz]
  rfl

theorem bytes_LR (s : ByteArray) : LR ρ (s.data.toList.map fun b => Value.int .u8 b.toNat) (s.data.toList.map fun b => Value.int .u8 b.toNat) := LR.map _ _ _ fun b _ => .scal _ rfl

theorem upd_self {b : Nat} {o : VObj} (h : g b = some o) : upd g b o = g := by
  funext y
  by_cases e : y = b
  · subst e; rw [upd_same, h]
  · rw [upd_other _ e]

theorem bytesOf_some : ∀ {c : List Value} {l : List UInt8}, bytesOf c = some l → ∃ ns : List Int, c = ns.map (Value.int .u8) ∧ l = ns.map fun n => UInt8.ofNat n.toNat
  | [], l, h => by simp [bytesOf] at h; exact ⟨[], rfl, by simp [h]⟩
  | v :: c, l, h => by
    unfold bytesOf at h
    split at h
    · rename_i e; cases e
    · rename_i m c' e
      cases e
      split at h
      · rename_i r hr
        cases h
        obtain ⟨ns, h1, h2⟩ := bytesOf_some hr
        exact ⟨m :: ns, by simp [h1], by simp [h2]⟩
      · cases h
    · cases h

theorem run_convert_sb {src dst el : TypeId} {d : TypeDesc} {s : ByteArray} (hs : P.underlying src = some d) (hd : P.underlying dst = some (.slice el)) (he : P.underlying el = some (.int .u8)) :
    (convert src dst (.string s)).run P w = (Conv.stringToBytes el s).run P w := by
  unfold convert
  rw [Sem.run_bind, run_underlying hs, Result.andThen_ok, Sem.run_bind, run_underlying hd, Result.andThen_ok]
  cases d <;> simp only [Sem.run_bind, run_underlying he, Result.andThen_ok]

theorem chg_freeze {w : World} {b m : Nat} {c : Array Value} {el : TypeId} {fr : Nat × Nat} (h : w.heap[b]? = some (.cells c el fr)) :
    Chg w (w.freeze ⟨b, m, none⟩ 1) b (.cells c el (if fr.1 == fr.2 then (m, m + 1) else (min fr.1 m, max fr.2 (m + 1)))) := by
  unfold World.freeze
  simp only [Nat.one_ne_zero, if_false]
  refine ⟨rfl, rfl, rfl, by simp, ?_, fun k hk => ?_⟩
  · simp only [Array.getElem?_modify, if_true, h, Option.map_some]
  · simp only [Array.getElem?_modify]
    rw [if_neg (fun e => hk e.symm)]

theorem run_mark_old {b off : Nat} {c : Array Value} {el : TypeId} {fr : Nat × Nat} (h : w.heap[b]? = some (.cells c el fr)) :
    (markStringish ⟨b, off, none⟩).run P w = .ok () (w.freeze ⟨b, c.size, none⟩ 1) := by
  unfold markStringish
  rw [Sem.run_bind, run_shape, Result.andThen_ok]
  have : w.shape? b = some (el, c.size) := by unfold World.shape?; simp only [h]
  simp only [this, run_freeze]

theorem run_convert_same {src el : TypeId} {a : Addr} {len cap : Nat} (hs : P.underlying src = some (.slice el)) (he : P.underlying el = some (.int .u8)) :
    (convert src src (.slice (some a) len cap)).run P w = ((do markStringish a; pure (Value.slice (some a) len cap)) : Sem Value).run P w := by
  unfold convert
  rw [Sem.run_bind, run_underlying hs, Result.andThen_ok, Sem.run_bind, run_underlying hs, Result.andThen_ok]
  simp only [beq_self_eq_true]
  rw [Sem.run_bind, run_underlying he, Result.andThen_ok]

theorem convertV_ok (hw : WR P B w₀ ρ g w) {src dst : TypeId} {x x' : Value} (hx : VR ρ x x') {out : OOut} {l : List Nat} (hn : out.nw ≠ none → g n = none) (h : (convertV P src dst x n).run g = some (out, l)) :
    Fits P B w₀ ρ g n out ((do let v ← convert src dst x'; pure (Next.value v) : Sem Next).run P w) := by
  unfold convertV at h
  split at h
  · rename_i d el s hs hd
    split at h
    · rename_i he h1
      obtain rfl := new_run h
      replace hn := hn (by simp)
      rw [hx.string_inv, Sem.run_bind, run_convert_sb hs hd he]
      obtain ⟨cap', hle, hr⟩ := run_stringToBytes (P := P) (w := w) el s
      rw [hr, Result.andThen_ok]
      generalize harr : ((s.data.map fun b => Value.int .u8 b.toNat) ++ Array.replicate (cap' - s.size) (Value.int .u8 0)) = arr
      have hds : s.data.size = s.size := rfl
      have hsz : arr.size = cap' := by
        rw [← harr, Array.size_append, Array.size_map, Array.size_replicate]
        omega
      have hll : (s.data.toList.map fun b => Value.int .u8 b.toNat).length = s.size := by simp [hds]
      have hz : (szOf P el).getD 0 = 1 := by rw [h1]; rfl
      refine ⟨ρ.put n ⟨w.drew.heap.size, 0, (szOf P el).getD 0, arr.size⟩, _, Ren.put_le (hw.fresh n hn) _, .val _ _ _ ?_, hw.drew.newRow hn (by rw [hll, hsz]; exact hle) (.inr (by rw [hsz]; exact Nat.le_refl _)) ?_⟩
      · have := VR.sl (ρ := ρ.put n ⟨w.drew.heap.size, 0, (szOf P el).getD 0, arr.size⟩) n 0 s.size s.size cap' _ (Ren.put_same _ _ _) (.inr ⟨hle, by simp [hz, hsz]⟩)
        simpa using this
      · rw [← harr, hll, Array.toList_append, List.take_append_of_le_length (by simp [hds]), List.take_of_length_le (by simp [hds]), Array.toList_map]
        exact bytes_LR s
    · cases h
  · rename_i el e2 b off len cap hs hd
    split at h
    · rename_i he hsd
      have hsd := Nat.eq_of_beq_eq_true hsd
      subst hsd
      rw [hs] at hd
      cases hd
      split at h
      · cases h
      · rename_i hcap
        obtain ⟨o, l', hb, hk, rfl⟩ := Rd.run_read h
        split at hk
        · rename_i cv cr ce
          generalize hcc : cv :: cr = c at hb
          cases hx with
          | scal _ h => cases h
          | sl _ _ _ _ cap' r hr hc =>
            obtain ⟨c', fr, ⟨el', h1, hel⟩, hp, hsh, hz, hf, hl, hB⟩ := cells_of hw hb hr (live_ne (by rw [← hcc]; simp))
            obtain rfl := hel rfl
            replace hf := hf rfl
            have hch := chg_freeze (m := c'.size) h1
            have hor : OR P ρ r (.cells c el' false) (.cells c' el' (if fr.1 == fr.2 then (c'.size, c'.size + 1) else (min fr.1 c'.size, max fr.2 (c'.size + 1)))) := by
              refine .cells _ _ _ _ _ _ hp hsh (fun _ => rfl) hz (fun _ => ?_) fun i v hv => ?_
              · right
                split
                · exact Nat.le_of_eq hp.symm
                · rename_i hne
                  rcases hf with hf | hf
                  · rw [hf] at hne; simp at hne
                  · simp only; omega
              · obtain ⟨v', h2, h3⟩ := hl.get hv
                rw [List.getElem?_take] at h2
                split at h2
                · exact ⟨v', by simpa using h2, h3⟩
                · cases h2
            have hw2 := hw.change hb (live_ne (by rw [← hcc]; simp)) hr (hB rfl) hch hor
            rw [upd_self hb] at hw2
            rw [Sem.run_bind, run_convert_same hs he, Sem.run_bind, run_mark_old h1, Result.andThen_ok, Sem.run_pure, Result.andThen_ok, Sem.run_pure]
            exact Fits.of_val hw2 hk (.sl _ _ _ _ _ _ hr hc)
        · cases hk
    · cases h
  · rename_i el len cap hs hd
    split at h
    · rename_i he
      cases hx
      rw [Sem.run_bind, run_convert_bytes_string w src dst _ none _ _ hs he hd]
      exact Fits.of_val hw h (.scal _ rfl)
    · rename_i b off he
      obtain ⟨o, l', hb, hk, rfl⟩ := Rd.run_read h
      split at hk
      · rename_i c ce ro
        split at hk
        · rename_i bs hbs
          obtain ⟨cs, hcut, hcs⟩ := Option.bind_eq_some_iff.1 hbs
          obtain ⟨hle, rfl⟩ := cut_some hcut
          obtain ⟨ns, h1, rfl⟩ := bytesOf_some hcs
          have key : (∃ a', ns = [] ∧ x' = .slice a' 0 0) ∨ ∃ a' cap', x' = .slice (some a') len cap' ∧ (loadCells a' len).run P w = .ok (ns.map (Value.int .u8)).toArray w := by
            cases hx with
            | scal _ h => cases h
            | slE _ a' =>
              exact .inl ⟨a', by simp at h1; exact h1, rfl⟩
            | sl _ _ _ _ cap' r hr hc =>
              refine .inr ⟨_, cap', rfl, ?_⟩
              by_cases hlen : len = 0
              · subst hlen
                have : ns = [] := by simp at h1; exact h1
                subst this
                rfl
              obtain ⟨c', fr, ⟨el', h2, hel⟩, hp, hsh, hz, hf, hl, hB⟩ := cells_of hw hb hr (live_ne (by intro e; rw [e] at hle; simp at hle; omega))
              rw [run_loadCells_block h2 _ _ (by omega)]
              have h3 := cut_LR hl hle
              rw [h1] at h3
              rw [LR.flat_inv (by simp [fl, flat]) h3]
          rcases key with ⟨a', rfl, rfl⟩ | ⟨a', cap', rfl, hload⟩
          · cases a' with
            | none =>
              rw [Sem.run_bind, run_convert_bytes_string w src dst _ none _ _ hs he hd]
              exact Fits.of_val hw hk (.scal _ rfl)
            | some a' =>
              rw [Sem.run_bind, run_convert_bytes_string w src dst _ _ _ _ hs he hd, run_bytesToString w a' 0 0 [] rfl, Result.andThen_ok, foldl_push_bytes]
              exact Fits.of_val hw hk (.scal _ rfl)
          rw [Sem.run_bind, run_convert_bytes_string w src dst _ _ _ _ hs he hd, run_bytesToString w a' len cap' ns hload, Result.andThen_ok, foldl_push_bytes]
          refine Fits.of_val hw hk ?_
          have : (ByteArray.mk (ByteArray.empty.data ++ (ns.map fun n => UInt8.ofNat n.toNat).toArray)) = ⟨(ns.map fun n => UInt8.ofNat n.toNat).toArray⟩ := by
            congr 1
            exact Array.empty_append ..
          rw [this]
          exact .scal _ rfl
        · cases hk
      · cases hk
    · cases h
  · split at h
    · rename_i hf
      rw [fl_inv hf hx]
      exact fits_pure hw h
    · cases h
end
end Go.Proofs.YtdbjloigfkckfaaGreatDoor.Vm
