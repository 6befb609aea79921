/- Part of the proof: Vb. -/
import Derived.Test.YtgepfmamfdmclaaGreatDoorJAa
import Derived.Lib.UnsafeStr
import Derived.Laws.Externs
import Derived.KernelRfl
import Derived.LoopNIn
import Derived.OrdersIn
import Derived.Scope
import Derived.Recover
set_option linter.unusedVariables false
set_option linter.unusedSimpArgs false
set_option maxRecDepth 100000
namespace Go.Proofs.YtgepfmamfdmclaaGreatDoor.Vm
open Go.RowKit
section
variable {P : Program} {B : Nat → Prop} {w₀ : World} {ρ : Ren} {g : Nat → Option VObj} {n : Nat} {w : World}
theorem isScal_slice {a : Option Addr} {l c : Nat} (h : isScal (.slice a l c) = true) : a = none ∧ l = 0 ∧ c = 0 := by
 cases a with
 | some a => simp [isScal] at h
 | none =>
  cases l with
  | succ l => simp [isScal] at h
  | zero => cases c with
   | succ c => simp [isScal] at h
   | zero => exact ⟨rfl, rfl, rfl⟩
theorem lenV_ok {x x' : Value} (hx : VR ρ x x') {k : Nat} (h : lenV x = some k) : (Builtin.lenOf x').run P w = .ok k w := by
 unfold lenV at h
 split at h
 ·cases h; cases hx <;> first | rfl | (rename_i h; unfold isScal at h; split at h <;> first | (rename_i e; cases e; rfl) | cases h)
 ·cases h; rw [hx.string_inv]; rfl
 ·cases h
theorem cellsV_ok (hw : WR P B w₀ ρ g w) {x x' : Value} (hx : VR ρ x x') {size k m : Nat} (hm : lenV x = some m) (hk : k ≤ m) {xs : List Value} {l : List Nat}
  (h : (cellsV size x k).run g = some (xs, l)) : ∃ xs' : Array Value, (∀ w' : World, w'.heap = w.heap → (Builtin.firstCells size k x').run P w' = .ok xs' w') ∧ LR ρ xs xs'.toList := by
 unfold cellsV at h
 split at h
 ·rename_i b off len cap
  obtain ⟨o, l', hb, hkk, rfl⟩ := Rd.run_read h
  split at hkk
  ·rename_i c el ro
   have hcut := Rd.run_ofO hkk
   obtain ⟨hle, rfl⟩ := cut_some hcut
   simp only [lenV, Option.some.injEq] at hm
   cases hx with
   | scal _ h => cases h
   | slE _ a' =>
    have : k = 0 := by omega
    subst this
    refine ⟨#[], fun w' _ => ?_, by simpa using LR.nil ρ⟩
    unfold Builtin.firstCells
    simp only [Nat.zero_mul]
    cases a' <;> rfl
   | sl _ _ _ _ cap' r hr hc =>
    by_cases hlen : k * size = 0
    ·refine ⟨#[], fun w' _ => ?_, by rw [hlen]; simpa using LR.nil ρ⟩
     unfold Builtin.firstCells
     simp only [hlen]
     rfl
    obtain ⟨c', fr, ⟨el', h1, he⟩, hp, hsh, hz, hf, hl, hB⟩ := cells_of hw hb hr (live_ne (by intro e; rw [e] at hle; simp at hle; omega))
    refine ⟨_, fun w' hh => run_loadCells_block (by rw [hh]; exact h1) _ _ (by omega), ?_⟩
    simpa using cut_LR hl hle
  ·cases hkk
 ·cases hx with
  | scal =>
   simp only [Rd.run, Option.some.injEq, Prod.mk.injEq] at h
   obtain ⟨rfl, rfl⟩ := h
   exact ⟨#[], fun w' _ => rfl, by simpa using LR.nil ρ⟩
 ·rename_i s
  rw [hx.string_inv]
  simp only [Rd.run, Option.some.injEq, Prod.mk.injEq] at h
  obtain ⟨rfl, rfl⟩ := h
  refine ⟨_, fun w' _ => rfl, ?_⟩
  have : (Array.map (fun b : UInt8 => Value.int .u8 b.toNat) (s.extract 0 k).data).toList = (s.data.toList.take k).map fun b => Value.int .u8 b.toNat := by
   simp [ByteArray.data_extract, Array.toList_extract, List.extract_eq_take_drop]
  rw [this]
  exact LR.map _ _ _ fun b _ => .scal _ rfl
 ·cases h
theorem cellsV_zero {x : Value} {size : Nat} {xs : List Value} {l : List Nat} (h : (cellsV size x 0).run g = some (xs, l)) : xs = [] := by
 unfold cellsV at h
 split at h
 ·obtain ⟨o, l', hb, hkk, rfl⟩ := Rd.run_read h
  split at hkk
  ·obtain ⟨hle, rfl⟩ := cut_some (Rd.run_ofO hkk)
   simp
  ·cases hkk
 ·simp only [Rd.run, Option.some.injEq, Prod.mk.injEq] at h; exact h.1.symm
 ·simp only [Rd.run, Option.some.injEq, Prod.mk.injEq] at h; rw [← h.1]; rfl
 ·cases h
theorem growBy_le (newLen : Nat) : ∀ (r c : Nat), c ≤ newLen + (newLen + 768) / 4 → Builtin.growBy newLen r c ≤ newLen + (newLen + 768) / 4
 | 0, c, h => h
 | r + 1, c, h => by
  unfold Builtin.growBy
  split
  ·exact h
  ·exact growBy_le newLen r _ (by omega)
theorem nextslicecap_le {need cap : Nat} (h : cap < need) : Builtin.nextslicecap need cap ≤ 2 * need + 768 := by
 unfold Builtin.nextslicecap
 split
 ·omega
 ·split
  ·omega
  ·have := growBy_le need 4 cap (by omega)
   omega
structure AppArgs (P : Program) (w : World) (argTypes : Array TypeId) (args : Array Value) (elem : TypeId) (size len cap k : Nat) (base : Option Addr) (x : Value) (z : Value) (bytes : Nat) (xs : Array Value) : Prop where
 e1 : ∃ sT xT rest xd, argTypes.toList = sT :: xT :: rest ∧ P.underlying sT = some (.slice elem) ∧ P.underlying xT = some xd ∧ isInt xd = false
 e2 : ∃ rest, args.toList = .slice base len cap :: x :: rest
 sz : szOf P elem = some size
 zero : zeroOf P elem = some z
 by_ : ∃ inf, P.info? elem = some inf ∧ inf.bytes = bytes
 len_ : ∀ w : World, (Builtin.lenOf x).run P w = .ok k w
 cells : ∀ w' : World, w'.heap = w.heap → (Builtin.firstCells size k x).run P w' = .ok xs w'
theorem arr_get {α : Type} {a : Array α} {l : List α} (h : a.toList = l) (i : Nat) : a[i]? = l[i]? := by rw [← h]; simp
theorem run_append_in {argTypes : Array TypeId} {ty : TypeId} {args : Array Value} {elem : TypeId} {size len cap k : Nat} {base : Option Addr} {x z : Value} {bytes : Nat} {xs : Array Value}
    (h : AppArgs P w argTypes args elem size len cap k base x z bytes xs) (hle : len + k ≤ cap) :
    (Builtin.append_ argTypes ty args).run P w = match base with
      | some a => ((storeCells (a.add (len * size)) xs.toList).run P w).andThen fun _ w' => .ok (.slice (some a) (len + k) cap) w'
      | none => .ok (.slice none (len + k) cap) w := by
  obtain ⟨⟨sT, xT, rest, xd, h1, h2, h3, h4⟩, ⟨rest', h5⟩, h6, h7, h8, h9, h10⟩ := h
  unfold Builtin.append_
  have a0 : argTypes[0]? = some sT := by rw [arr_get h1]; rfl
  have a1 : argTypes[1]? = some xT := by rw [arr_get h1]; rfl
  have b0 : args[0]? = some (.slice base len cap) := by rw [arr_get h5]; rfl
  have b1 : args[1]? = some x := by rw [arr_get h5]; rfl
  simp only [a0, a1, b0, b1]
  rw [Sem.run_bind, run_underlying h2, Result.andThen_ok]
  dsimp only
  rw [Sem.run_bind, run_sizeOf h6, Result.andThen_ok]
  rw [Sem.run_bind, run_underlying h3, Result.andThen_ok, Sem.run_bind, Sem.run_pure, Result.andThen_ok]
  cases xd
  case int => cases h4
  all_goals
   dsimp only
   simp only [Bool.false_eq_true, if_false]
   rw [Sem.run_bind, h9, Result.andThen_ok, if_pos hle]
   simp only [Bool.not_false, if_true]
   rw [Sem.run_bind, h10 w rfl, Result.andThen_ok]
   cases base with
   | none => rfl
   | some a => rw [Sem.run_bind]; rfl
theorem run_append_grow {argTypes : Array TypeId} {ty : TypeId} {args : Array Value} {elem : TypeId} {size len cap k : Nat} {base : Option Addr} {x z : Value} {bytes : Nat} {xs old : Array Value}
    (h : AppArgs P w argTypes args elem size len cap k base x z bytes xs) (hlt : cap < len + k) (hb : bytes ≤ 1000000) (hn : len + k ≤ 10000000)
    (hold : (Builtin.firstCells size len (.slice base len cap)).run P w.drew = .ok old w.drew) :
    ∃ cap', len + k ≤ cap' ∧ (Builtin.append_ argTypes ty args).run P w =
      .ok (.slice (some ⟨w.heap.size, 0, none⟩) (len + k) cap') (w.drew.alloc (.cells (old ++ xs ++ Builtin.zeroCells z.cells (cap' - (len + k))) elem)) := by
  obtain ⟨⟨sT, xT, rest, xd, h1, h2, h3, h4⟩, ⟨rest', h5⟩, h6, h7, ⟨inf, h8, h8'⟩, h9, h10⟩ := h
  refine ⟨(Question.appendCap (len + k) cap elem).cut (w.tape w.drawn (.appendCap (len + k) cap elem)), by simp [Question.cut], ?_⟩
  generalize hq : (Question.appendCap (len + k) cap elem).cut (w.tape w.drawn (.appendCap (len + k) cap elem)) = cap'
  unfold Builtin.append_
  have a0 : argTypes[0]? = some sT := by rw [arr_get h1]; rfl
  have a1 : argTypes[1]? = some xT := by rw [arr_get h1]; rfl
  have b0 : args[0]? = some (.slice base len cap) := by rw [arr_get h5]; rfl
  have b1 : args[1]? = some x := by rw [arr_get h5]; rfl
  simp only [a0, a1, b0, b1]
  rw [Sem.run_bind, run_underlying h2, Result.andThen_ok]
  dsimp only
  rw [Sem.run_bind, run_sizeOf h6, Result.andThen_ok]
  rw [Sem.run_bind, run_underlying h3, Result.andThen_ok, Sem.run_bind, Sem.run_pure, Result.andThen_ok]
  cases xd
  case int => cases h4
  all_goals
   dsimp only
   simp only [Bool.false_eq_true, if_false]
   rw [Sem.run_bind, h9, Result.andThen_ok, if_neg (by omega)]
   have hti : ∀ w : World, (typeInfo elem).run P w = .ok inf w := fun w => by unfold typeInfo; rw [Sem.run_bind, run_program, Result.andThen_ok, h8]; rfl
   have hnext := nextslicecap_le hlt
   have hprod : Builtin.nextslicecap (len + k) cap * inf.bytes ≤ 20000768 * 1000000 := Nat.mul_le_mul (by omega) (by omega)
   have hmax : ¬ ((len + k : Nat) : Int) > IntKind.i64.max := by
     have : IntKind.i64.max = 9223372036854775807 := rfl
     rw [this]; omega
   rw [Sem.run_bind, hti, Result.andThen_ok]
   rw [if_neg (by rintro ⟨h, _⟩; exact hmax h)]
   rw [Sem.run_bind, hti, Result.andThen_ok]
   rw [if_neg (by omega)]
   rw [Sem.run_bind, run_choose, if_neg (by simp [Question.forced]), hq, Result.andThen_ok, Sem.run_bind, hti, Result.andThen_ok, Sem.run_bind, run_askRoom, Result.andThen_ok]
   have hold' := hold
   simp only [World.drew_eq]
   rw [Sem.run_bind, hold', Result.andThen_ok, Sem.run_bind]
   simp only [Bool.not_false, if_true]
   rw [h10 w.drew rfl, Result.andThen_ok, Sem.run_bind, run_zeroValue h7, Result.andThen_ok, Sem.run_bind, run_newRow, Result.andThen_ok]
   rfl
theorem zeroCells_size (z : Array Value) (m : Nat) : (Builtin.zeroCells z m).size = m * z.size := by simp [Builtin.zeroCells]
theorem appendNew_run {elem : TypeId} {size len k : Nat} {b off : Nat} {xs : List Value} {out : OOut} {l : List Nat} (h : (appendNew elem size len k (some ⟨b, off, none⟩) xs n).run g = some (out, l)) :
  ∃ c, g b = some (.cells c elem false) ∧ off + len * size = c.length ∧ out = ⟨.val (.slice (some ⟨n, 0, none⟩) (len + k) (len + k)), [(b, .dead)], some (.cells (c.drop off ++ xs) elem false)⟩ := by
 unfold appendNew at h
 obtain ⟨o, l', hb, hk, rfl⟩ := Rd.run_read h
 split at hk
 ·rename_i c el
  split at hk
  ·rename_i hc
   simp only [Bool.and_eq_true] at hc
   have h1 := Nat.eq_of_beq_eq_true hc.1
   have h2 := Nat.eq_of_beq_eq_true hc.2
   subst h2
   simp only [Rd.run, Option.some.injEq, Prod.mk.injEq] at hk
   exact ⟨c, hb, h1, hk.1.symm⟩
  ·cases hk
 ·cases hk
theorem appendIn_run {size len cap k : Nat} {b off : Nat} {xs : List Value} {out : OOut} {l : List Nat} (h : (appendIn size len cap k (some ⟨b, off, none⟩) xs).run g = some (out, l)) :
  ∃ c el, g b = some (.cells c el false) ∧ off + len * size + xs.length ≤ c.length ∧ len + k ≤ cap ∧
   out = ⟨.val (.slice (some ⟨b, off, none⟩) (len + k) cap), [(b, .cells (splice c (off + len * size) xs) el false)], none⟩ := by
 unfold appendIn at h
 obtain ⟨o, l', hb, hk, rfl⟩ := Rd.run_read h
 split at hk
 ·rename_i c el
  split at hk
  ·rename_i hc
   simp only [Bool.and_eq_true] at hc
   have h0 := Nat.le_of_ble_eq_true hc.1
   have h1 := Nat.le_of_ble_eq_true hc.2
   simp only [Rd.run, Option.some.injEq, Prod.mk.injEq] at hk
   exact ⟨c, el, hb, h1, h0, hk.1.symm⟩
  ·cases hk
 ·cases hk
theorem Fits.grown (hw : WR P B w₀ ρ g w) (hn : g n = none) {cs : List Value} {old xs : Array Value} {elem : TypeId} {size need cap' : Nat} {z : Value} (hsz : szOf P elem = some size) (hz : z.cells.size = size)
  (hle : need ≤ cap') (hl : LR ρ cs (old ++ xs).toList) (hlen : cs.length = need * size) :
  Fits P B w₀ ρ g n ⟨.val (.slice (some ⟨n, 0, none⟩) need need), [], some (.cells cs elem false)⟩
   (.ok (.value (.slice (some ⟨w.heap.size, 0, none⟩) need cap')) (w.drew.alloc (.cells (old ++ xs ++ Builtin.zeroCells z.cells (cap' - need)) elem))) := by
 have hs : (old ++ xs).size = need * size := by have := hl.len; simp at this ⊢; omega
 have hmul : need * size + (cap' - need) * size = cap' * size := by rw [← Nat.add_mul]; congr 1; omega
 have hphys : (old ++ xs ++ Builtin.zeroCells z.cells (cap' - need)).size = cap' * size := by
  rw [Array.size_append, hs, zeroCells_size, hz, hmul]
 refine ⟨ρ.put n ⟨w.drew.heap.size, 0, (szOf P elem).getD 0, (old ++ xs ++ Builtin.zeroCells z.cells (cap' - need)).size⟩, _, Ren.put_le (hw.fresh n hn) _, .val _ _ _ ?_, hw.drew.newRow hn ?_ (.inl rfl) ?_⟩
 ·have := VR.sl (ρ := ρ.put n ⟨w.drew.heap.size, 0, (szOf P elem).getD 0, (old ++ xs ++ Builtin.zeroCells z.cells (cap' - need)).size⟩) n 0 need need cap' _ (Ren.put_same _ _ _) (.inr ⟨hle, by rw [hphys, hsz]; simp⟩)
  simpa using this
 ·rw [hphys, hlen]; exact Nat.mul_le_mul_right _ hle
 ·rw [Array.toList_append, hlen, List.take_append_of_le_length (by simp at hs ⊢; omega), List.take_of_length_le (by simp at hs ⊢; omega)]
  exact hl
theorem Fits.kill {b : Nat} {ob : VObj} (hb : g b = some ob) {v : Value} {o : VObj} {res : Result Next} (h : Fits P B w₀ ρ (upd g b .dead) n ⟨.val v, [], some o⟩ res) :
  Fits P B w₀ ρ g n ⟨.val v, [(b, .dead)], some o⟩ res := by
 obtain ⟨ρ', w', h1, h2, h3⟩ := h
 exact ⟨ρ', w', h1, h2, h3⟩
theorem appendV_ok (hw : WR P B w₀ ρ g w) {argTypes : Array TypeId} {ty : TypeId} {args : List Value} {args' : Array Value} (hargs : LR ρ args args'.toList) {out : OOut} {l : List Nat}
    (hn : out.nw ≠ none → g n = none) (h : (appendV P argTypes.toList args n).run g = some (out, l)) : Fits P B w₀ ρ g n out ((do let v ← Builtin.append_ argTypes ty args'; pure (Next.value v) : Sem Next).run P w) := by
  unfold appendV at h
  split at h
  · rename_i sT xT rest base len cap x rest2 hat
    obtain ⟨s', t', ht, hs', hl2⟩ := hargs.inv_cons
    obtain ⟨x', t2, rfl, hx', hl3⟩ := hl2.inv_cons
    split at h
    · rename_i elem xd hu1 hu2
      split at h
      · rename_i size k z bytes hsz hlen hz hby
        obtain ⟨inf, hinf, hbi⟩ : ∃ inf, P.info? elem = some inf ∧ inf.bytes = bytes := by
          cases hinf : P.info? elem with
          | none => rw [hinf] at hby; cases hby
          | some inf => rw [hinf] at hby; cases hby; exact ⟨inf, rfl, rfl⟩
        split at h
        · cases h
        · rename_i hcond
          simp only [Bool.and_eq_true, Bool.not_eq_true'] at hcond
          obtain ⟨⟨⟨⟨hint, hbb⟩, hzs⟩, hs0⟩, hself⟩ := hcond
          have hs0 : 0 < size := by simp [Nat.blt] at hs0; omega
          have hbb := Nat.le_of_ble_eq_true hbb
          have hzs := Nat.eq_of_beq_eq_true hzs
          have app : ∀ {len' cap' : Nat} {base' : Option Addr} {xs' : Array Value} {k : Nat}, s' = .slice base' len' cap' → lenV x = some k →
              (∀ w' : World, w'.heap = w.heap → (Builtin.firstCells size k x').run P w' = .ok xs' w') → AppArgs P w argTypes args' elem size len' cap' k base' x' z bytes xs' := by
            intro len' cap' base' xs' k hs hl hc
            subst hs
            exact ⟨⟨sT, xT, rest, xd, hat, hu1, hu2, hint⟩, ⟨t2, ht⟩, hsz, hz, ⟨inf, hinf, hbi⟩, fun w => lenV_ok hx' hl, hc⟩
          obtain ⟨xs, l1, l2, h1, h2, rfl⟩ := (Rd.run_bind _ _ _ _ _).1 h
          obtain ⟨xs', hfc, hxs⟩ := cellsV_ok hw hx' hlen (Nat.le_refl _) h1
          split at h2
          · cases h2
          · rename_i hcond
            simp only [Bool.and_eq_true] at hcond
            obtain ⟨⟨hnd, hone⟩, hxl⟩ := hcond
            have hnd := Nat.le_of_ble_eq_true hnd
            have hxl := Nat.eq_of_beq_eq_true hxl
            have hxl' : xs'.size = k * size := by have := hxs.len; simp at this; omega
            have hszz : ∀ q, szOf P elem = some q → (szOf P elem).getD 0 = q := fun q hq => by rw [hq]; rfl
            split at h2
            · rename_i hful
              have hful : cap ≤ len := by
                unfold full at hful
                split at hful
                · omega
                · exact Nat.le_of_ble_eq_true hful
              cases base with
              | none =>
                cases hs' with
                | scal _ hsc =>
                  obtain ⟨_, rfl, rfl⟩ := isScal_slice hsc
                  have h2' : out = ⟨.val (.slice (some ⟨n, 0, none⟩) k k), [], some (.cells xs elem false)⟩ := by
                    unfold appendNew at h2
                    simp only [Rd.run, Option.some.injEq, Prod.mk.injEq] at h2
                    exact h2.1.symm
                  subst h2'
                  replace hn := hn (by intro hh; cases hh)
                  by_cases hk0 : k = 0
                  · subst hk0
                    have hx0 : xs = [] := List.eq_nil_of_length_eq_zero (by rw [hxl]; omega)
                    subst hx0
                    have hx1 : xs'.toList = [] := hxs.inv_nil
                    rw [Sem.run_bind, run_append_in (app rfl hlen hfc) (Nat.le_refl 0)]
                    exact ⟨_, w, Ren.put_le (hw.fresh n hn) ⟨0, 0, (szOf P elem).getD 0, 0⟩, .val _ _ _ (.slE _ _), hw.addDead hn rfl (fun m s q e => by cases e) (fun el ro e => by cases e; exact hszz)⟩
                  · obtain ⟨cap', h3, h4⟩ := run_append_grow (ty := ty) (old := #[]) (app rfl hlen hfc) (by omega) hbb hnd rfl
                    rw [Sem.run_bind, h4, Result.andThen_ok]
                    rw [Nat.zero_add] at h3 ⊢
                    exact Fits.grown hw hn hsz hzs h3 (by simpa using hxs) hxl
              | some a =>
                obtain ⟨b, off, spot⟩ := a
                cases spot with
                | some sp => cases h2
                | none =>
                  obtain ⟨c, hb, hend, rfl⟩ := appendNew_run h2
                  replace hn := hn (by intro hh; cases hh)
                  have hne : n ≠ b := by rintro rfl; rw [hn] at hb; cases hb
                  have hnk : upd g b .dead n = none := by rw [upd_other _ hne, hn]
                  have hdl : (c.drop off).length = len * size := by simp; omega
                  have hcl : (c.drop off ++ xs).length = (len + k) * size := by rw [List.length_append, hdl, hxl, Nat.add_mul len k size]
                  have fin0 : ∀ a', s' = .slice a' 0 0 → len = 0 → c.drop off = [] → Fits P B w₀ ρ g n ⟨.val (.slice (some ⟨n, 0, none⟩) (len + k) (len + k)), [(b, .dead)], some (.cells (c.drop off ++ xs) elem false)⟩ ((do let v ← Builtin.append_ argTypes ty args'; pure (Next.value v) : Sem Next).run P w) := by
                    intro a' hs hl0 hd0
                    subst hl0
                    by_cases hk0 : k = 0
                    · subst hk0
                      have hx0 : xs = [] := List.eq_nil_of_length_eq_zero (by rw [hxl]; omega)
                      subst hx0
                      have hx1 : xs'.toList = [] := hxs.inv_nil
                      rw [Sem.run_bind, run_append_in (app hs hlen hfc) (Nat.le_refl 0), hd0]
                      refine Fits.kill hb ?_
                      suffices hfin : WR P B w₀ (ρ.put n ⟨0, 0, (szOf P elem).getD 0, 0⟩) (upd (upd g b .dead) n (.cells ([] ++ []) elem false)) w by
                        cases a' with
                        | none => exact ⟨_, w, Ren.put_le (hw.fresh n hn) _, .val _ _ _ (.slE _ _), hfin⟩
                        | some a' => rw [hx1]; exact ⟨_, w, Ren.put_le (hw.fresh n hn) _, .val _ _ _ (.slE _ _), hfin⟩
                      exact (hw.kill b hb).addDead hnk rfl (fun m s q e => by cases e) (fun el ro e => by cases e; exact hszz)
                    · obtain ⟨cap', h3, h4⟩ := run_append_grow (ty := ty) (old := #[]) (app hs hlen hfc) (by omega) hbb hnd (by unfold Builtin.firstCells; simp only [Nat.zero_mul]; cases a' <;> rfl)
                      rw [Sem.run_bind, h4, Result.andThen_ok]
                      refine Fits.kill hb (Fits.grown (hw.kill b hb) hnk hsz hzs h3 ?_ hcl)
                      rw [hd0]; simpa using hxs
                  generalize hgs : s' = sv at hs'
                  cases hs' with
                  | scal _ hsc => cases hsc
                  | slE _ a' => exact fin0 a' hgs rfl (by rw [List.drop_eq_nil_iff]; omega)
                  | sl _ _ _ _ cap' r hr hc =>
                    cases hlv : Live (.cells c elem false) r with
                    | false =>
                      obtain ⟨hce, hph⟩ := live_not hlv
                      have hrz := sz_of hw hb hr size hsz
                      have hl0 : len = 0 := by
                        rw [hce] at hend
                        have : len * size = 0 := by simp at hend; omega
                        rcases Nat.mul_eq_zero.1 this with h | h <;> omega
                      have hc0 : cap' = 0 := by
                        rcases hc with hc | ⟨_, hc⟩
                        · omega
                        · rw [hph, hrz] at hc
                          have : cap' * size = 0 := by omega
                          rcases Nat.mul_eq_zero.1 this with h | h <;> omega
                      refine fin0 _ (by rw [hgs, hl0, hc0]) hl0 (by rw [hce]; simp)
                    | true =>
                      obtain ⟨c', fr, ⟨el', hh1, he⟩, hp, hsh, hzz, hf, hl, hB⟩ := cells_of hw hb hr hlv
                      obtain rfl := he rfl
                      replace hf := hf rfl
                      have hrs : r.sz = size := hzz size hsz
                      by_cases hin : len + k ≤ cap'
                      · have hroom2 : r.sh + off + (len + k) * size ≤ r.phys := by
                          rcases hc with hc | ⟨hc1, hc2⟩
                          · have hk0 : k = 0 := by omega
                            subst hk0
                            rw [Nat.add_zero]; omega
                          · rw [hrs] at hc2
                            have hroom : (len + k) * size ≤ cap' * size := Nat.mul_le_mul_right _ hin
                            omega
                        have hroom3 := hroom2
                        rw [Nat.add_mul len k size] at hroom3
                        obtain ⟨w', h3, h4⟩ := run_storeCells (P := P) xs'.toList w c' (r.sh + off + len * size) 0 (Chg.refl hh1) (by simp; omega) (by rwa [hp]) (hxs.oneCell hone)
                        rw [Sem.run_bind, run_append_in (app hgs hlen hfc) hin]
                        simp only [addr_add0]
                        rw [h3]
                        refine ⟨ρ.put n ⟨r.blk, r.sh + off, r.sz, r.phys⟩, w', Ren.put_le (hw.fresh n hn) _, .val _ _ _ ?_, hw.rename hn hb hlv hr (hB rfl) h4 rfl ?_⟩
                        · have hcap2 : CapOk ⟨r.blk, r.sh + off, r.sz, r.phys⟩ 0 (len + k) cap' := by
                            rcases hc with hc | ⟨hc1, hc2⟩
                            · left; omega
                            · right; exact ⟨hin, by simpa using hc2⟩
                          have := VR.sl (ρ := ρ.put n ⟨r.blk, r.sh + off, r.sz, r.phys⟩) n 0 (len + k) (len + k) cap' _ (Ren.put_same _ _ _) hcap2
                          simpa using this
                        · refine .cells _ _ _ _ _ fr (fun _ hh => by rw [hself] at hh; cases hh) (by rw [setMany_size]; exact hp) (by show r.sh + off + (c.drop off ++ xs).length ≤ r.phys; rw [hcl]; exact hroom2) (fun _ => rfl) (fun m hm => hzz m hm) (fun _ => hf) fun i v hi => ?_
                          simp only at *
                          rw [setMany_get _ _ _ _ (by simp; omega)]
                          have hxs2 := hxs.len
                          simp at hxs2
                          by_cases hil : i < len * size
                          · rw [List.getElem?_append_left (by omega), List.getElem?_drop] at hi
                            rw [if_neg (by omega)]
                            obtain ⟨v', h5, h6⟩ := hl.get hi
                            rw [List.getElem?_take] at h5
                            split at h5
                            · exact ⟨v', by simpa [Nat.add_assoc] using h5, h6.mono (Ren.put_le (hw.fresh n hn) _)⟩
                            · cases h5
                          · rw [List.getElem?_append_right (by omega), hdl] at hi
                            have hilt : i - len * size < xs.length := (List.getElem?_eq_some_iff.1 hi).1
                            obtain ⟨v', h5, h6⟩ := hxs.get hi
                            rw [if_pos (by simp; omega)]
                            refine ⟨v', ?_, h6.mono (Ren.put_le (hw.fresh n hn) _)⟩
                            rw [← h5]
                            congr 1
                            omega
                      · have hold : ∀ w' : World, w'.heap = w.heap → (Builtin.firstCells size len (.slice (some ⟨r.blk, r.sh + off, none⟩) len cap')).run P w' = .ok ((c'.toList.drop (r.sh + off)).take (len * size)).toArray w' :=
                          fun w' hh => run_loadCells_block (by rw [hh]; exact hh1) _ _ (by omega)
                        obtain ⟨cap2, h3, h4⟩ := run_append_grow (ty := ty) (app hgs hlen hfc) (by omega) hbb hnd (hold w.drew rfl)
                        rw [Sem.run_bind, h4, Result.andThen_ok]
                        refine Fits.kill hb (Fits.grown (hw.kill b hb) hnk hsz hzs h3 ?_ hcl)
                        have h5 := cut_LR hl (off := off) (n := len * size) (by omega)
                        rw [List.take_of_length_le (by omega : (c.drop off).length ≤ len * size)] at h5
                        simpa using h5.append hxs
            · cases base with
              | none => cases h2
              | some a =>
                obtain ⟨b, off, spot⟩ := a
                cases spot with
                | some sp => cases h2
                | none =>
                  obtain ⟨c, el, hb, hbound, hle, rfl⟩ := appendIn_run h2
                  generalize hgs : s' = sv at hs'
                  cases hs' with
                  | scal _ hsc => cases hsc
                  | slE _ a' =>
                    have hx0 : xs = [] := List.eq_nil_of_length_eq_zero (by rw [hxl]; have : k = 0 := by omega
                                                                            rw [this]; omega)
                    subst hx0
                    have hx1 : xs'.toList = [] := hxs.inv_nil
                    have hk0 : k = 0 := by omega
                    subst hk0
                    have : upd g b (.cells (splice c (off + 0 * size) []) el false) = g := by
                      funext x
                      by_cases e : x = b
                      · subst e; rw [upd_same, hb]; simp [splice]
                      · rw [upd_other _ e]
                    rw [Sem.run_bind, run_append_in (app hgs hlen hfc) (by omega)]
                    suffices hfin : WR P B w₀ ρ (upd g b (.cells (splice c (off + 0 * size) []) el false)) w by
                      cases a' with
                      | none => exact ⟨ρ, w, Ren.le_refl ρ, .val _ _ _ (.slE _ _), hfin⟩
                      | some a' => rw [hx1]; exact ⟨ρ, w, Ren.le_refl ρ, .val _ _ _ (.slE _ _), hfin⟩
                    rw [this]
                    exact hw
                  | sl _ _ _ _ cap' r hr hc =>
                    have hcc : cap ≤ cap' := by rcases hc with hc | hc <;> omega
                    obtain ⟨w', h3, h4⟩ := hw.store hb hr hxs hbound hone
                    rw [Sem.run_bind, run_append_in (app hgs hlen hfc) (by omega)]
                    simp only [addr_add0, Nat.add_assoc]
                    rw [h3]
                    exact ⟨ρ, w', Ren.le_refl ρ, .val _ _ _ (.sl _ _ _ _ _ _ hr hc), h4⟩
      · cases h
    · cases h
  · cases h
theorem copyV_ok (hw : WR P B w₀ ρ g w) {argTypes : Array TypeId} {ty : TypeId} {args : List Value} {args' : Array Value} (hargs : LR ρ args args'.toList) {out : OOut} {l : List Nat}
  (h : (copyV P argTypes.toList args).run g = some (out, l)) : Fits P B w₀ ρ g n out ((do let v ← Builtin.copy_ argTypes ty args'; pure (Next.value v) : Sem Next).run P w) := by
 unfold copyV at h
 split at h
 ·rename_i dT rest base len cap x rest2 hat
  obtain ⟨s', t', ht, hs', hl2⟩ := hargs.inv_cons
  obtain ⟨x', t2, rfl, hx', hl3⟩ := hl2.inv_cons
  split at h
  ·rename_i elem hu
   split at h
   ·rename_i size k hsz hlen
    obtain ⟨xs, l1, l2, h1, h2, rfl⟩ := (Rd.run_bind _ _ _ _ _).1 h
    obtain ⟨xs', hfc, hxs⟩ := cellsV_ok hw hx' hlen (Nat.min_le_left _ _) h1
    have a0 : argTypes[0]? = some dT := by rw [arr_get hat]; rfl
    have b0 : args'[0]? = some s' := by rw [arr_get ht]; rfl
    have b1 : args'[1]? = some x' := by rw [arr_get ht]; rfl
    have key : ∀ (base' : Option Addr) (cap' : Nat), s' = .slice base' len cap' → (Builtin.copy_ argTypes ty args').run P w = match base' with
      | some a => ((storeCells a xs'.toList).run P w).andThen fun _ w' => .ok (.int .i64 (Nat.min k len)) w'
      | none => .ok (.int .i64 (Nat.min k len)) w := by
     intro base' cap' hs
     subst hs
     unfold Builtin.copy_
     simp only [a0, b0, b1]
     rw [Sem.run_bind, run_underlying hu, Result.andThen_ok]
     dsimp only
     rw [Sem.run_bind, lenV_ok hx' hlen, Result.andThen_ok]
     rw [Sem.run_bind, run_sizeOf hsz, Result.andThen_ok, Sem.run_bind, hfc w rfl, Result.andThen_ok]
     cases base' with
     | none => rfl
     | some a => rw [Sem.run_bind]; rfl
    split at h2
    ·cases hs' with
     | scal _ hsc =>
      rw [Sem.run_bind, key _ _ rfl]
      exact Fits.of_val hw h2 (.scal _ rfl)
    ·rename_i b off
     obtain ⟨o, l', hb, hk, rfl⟩ := Rd.run_read h2
     split at hk
     ·rename_i c el
      split at hk
      ·rename_i hcond
       simp only [Bool.and_eq_true] at hcond
       have hle := Nat.le_of_ble_eq_true hcond.1
       simp only [Rd.run, Option.some.injEq, Prod.mk.injEq] at hk
       obtain ⟨rfl, rfl⟩ := hk
       cases hs' with
       | scal _ hsc => cases hsc
       | slE _ a' =>
        have hx0 : xs = [] := cellsV_zero (by have hm : Nat.min k 0 = 0 := Nat.min_zero k; rw [hm] at h1; exact h1)
        subst hx0
        have hx1 : xs'.toList = [] := hxs.inv_nil
        rw [Sem.run_bind, key _ _ rfl]
        simp only [hx1]
        suffices hfin : WR P B w₀ ρ (applyO g n { r := ORes.val (Value.int .i64 (Nat.min k 0)), ws := [(b, VObj.cells (splice c off []) el false)], nw := none }) w by
         cases a' <;> exact ⟨ρ, w, Ren.le_refl ρ, .val _ _ _ (.scal _ rfl), hfin⟩
        have hsp : splice c off [] = c := by
         unfold splice
         simp
        have : applyO g n { r := ORes.val (Value.int .i64 (Nat.min k 0)), ws := [(b, VObj.cells (splice c off []) el false)], nw := none } = g := by
         show upd g b _ = g
         rw [hsp]
         exact upd_self hb
        rw [this]
        exact hw
       | sl _ _ _ _ cap' r hr hc =>
        obtain ⟨w', h3, h4⟩ := hw.store hb hr hxs hle hcond.2
        rw [Sem.run_bind, key _ _ rfl]
        simp only [h3, Result.andThen_ok]
        exact ⟨ρ, w', Ren.le_refl ρ, .val _ _ _ (.scal _ rfl), h4⟩
      ·cases hk
     ·cases hk
    ·cases h2
   ·cases h
  ·cases h
 ·cases h
end
end Go.Proofs.YtgepfmamfdmclaaGreatDoor.Vm
namespace Go.Proofs.YtgepfmamfdmclaaGreatDoor.Vm
open Go.RowKit
theorem ba_eq {x y : ByteArray} (h : (x == y) = true) : x = y := by
 have h2 : (x.data == y.data) = true := h
 cases x; cases y
 simp at h2
 rw [h2]
theorem ba_self (x : ByteArray) : (x == x) = true := by
 show (x.data == x.data) = true
 simp
section
variable {P : Program} {B : Nat → Prop} {w₀ : World} {ρ : Ren} {g : Nat → Option VObj} {n : Nat} {w : World}
theorem map_of (hw : WR P B w₀ ρ g w) {b : Nat} {es : List MapEntry} {clock : Nat} (hb : g b = some (.map es clock)) {r : Where} (hr : ρ b = some r) :
  ∃ es', w.heap[r.blk]? = some (.map es' clock) ∧ es.length = es'.toList.length ∧ (∀ (i : Nat) (e e' : MapEntry), es[i]? = some e → es'.toList[i]? = some e' → EntryR ρ e e') ∧ ¬ B r.blk := by
 obtain ⟨o', h1, h2, h3⟩ := hw.mem hb rfl hr
 cases h2 with
 | map _ es' _ h4 h5 => exact ⟨es', h1, h4, h5, h3 rfl⟩
theorem keyFits_some {t : TypeId} {k : Value} (h : keyFits P t k = true) : ∃ d, P.underlying t = some d ∧ ((∃ ik, d = .int ik ∧ ∃ j m, k = .int j m) ∨ (d = .string ∧ ∃ s, k = .string s)) := by
 unfold keyFits at h
 split at h
 ·rename_i ik j m hu; exact ⟨_, hu, .inl ⟨ik, rfl, j, m, rfl⟩⟩
 ·rename_i s hu; exact ⟨_, hu, .inr ⟨rfl, s, rfl⟩⟩
 ·cases h
theorem checkKey_unfold (b : Bool) (t : TypeId) (v : Value) : Instr.checkKey b 10000 t v = Instr.checkKey b (9999 + 1) t v := rfl
theorem run_checkKey {t : TypeId} {k : Value} (h : keyFits P t k = true) (b : Bool) : (Instr.checkKey b 10000 t k).run P w = .ok () w := by
 obtain ⟨d, hu, hd⟩ := keyFits_some h
 rw [checkKey_unfold]
 unfold Instr.checkKey
 rw [Sem.run_bind, run_underlying hu, Result.andThen_ok]
 rcases hd with ⟨ik, rfl, j, m, rfl⟩ | ⟨rfl, s, rfl⟩ <;> rfl
theorem find_ok {t : TypeId} {d : TypeDesc} {k : Value} (hu : P.underlying t = some d) (hd : (∃ ik, d = .int ik ∧ ∃ j m, k = .int j m) ∨ (d = .string ∧ ∃ s, k = .string s)) :
  ∀ {es : List MapEntry} {es' : List MapEntry} {i : Nat} {r : Option (Nat × Value)}, es.length = es'.length → (∀ (i : Nat) (e e' : MapEntry), es[i]? = some e → es'[i]? = some e' → EntryR ρ e e') →
   findV k es i = some r → ∃ r', Instr.findNow d k es' i = some r' ∧ ((r = none ∧ r' = none) ∨ ∃ j v v' e', r = some (i + j, v) ∧ r' = some (i + j, v') ∧ VR ρ v v' ∧ es'[j]? = some e' ∧ e'.key = k ∧ ∃ e, es[j]? = some e ∧ e.val = v) := by
 intro es
 induction es with
 | nil =>
  intro es' i r hl he h
  simp only [findV, Option.some.injEq] at h
  subst h
  cases es' with
  | nil => exact ⟨none, rfl, .inl ⟨rfl, rfl⟩⟩
  | cons => simp at hl
 | cons e es ih =>
  intro es' i r hl he h
  cases es' with
  | nil => simp at hl
  | cons e' es' =>
   have hee := he 0 e e' rfl rfl
   have hl' : es.length = es'.length := by simpa using hl
   have he' : ∀ (i : Nat) (a a' : MapEntry), es[i]? = some a → es'[i]? = some a' → EntryR ρ a a' := fun i a a' h1 h2 => he (i + 1) a a' (by simpa using h1) (by simpa using h2)
   have rest : ∀ {r}, findV k es (i + 1) = some r → Instr.sameNow d k e'.key = some false → ∃ r', Instr.findNow d k (e' :: es') i = some r' ∧ ((r = none ∧ r' = none) ∨ ∃ j v v' e2, r = some (i + j, v) ∧ r' = some (i + j, v') ∧ VR ρ v v' ∧ (e' :: es')[j]? = some e2 ∧ e2.key = k ∧ ∃ e0, (e :: es)[j]? = some e0 ∧ e0.val = v) := by
    intro r h hs
    obtain ⟨r', h1, h2⟩ := ih hl' he' h
    refine ⟨r', by unfold Instr.findNow; simp only [hs, h1], ?_⟩
    rcases h2 with h2 | ⟨j, v, v', e2, ha, hb, hc, hd, hk, e0, hf, hv⟩
    ·exact .inl h2
    ·exact .inr ⟨j + 1, v, v', e2, by rw [ha]; congr 2; omega, by rw [hb]; congr 2; omega, hc, by simpa using hd, hk, e0, by simpa using hf, hv⟩
   unfold findV at h
   split at h
   ·rename_i a x b y hkey
    have hkey' : e'.key = .int b y := by have := hee.key; rw [hkey] at this; exact this.int_inv
    rcases hd with ⟨ik, rfl, j, m, hkk⟩ | ⟨rfl, s, hkk⟩
    ·split at h
     ·rename_i hab
      have hab : a = b := by simpa using hab
      subst hab
      by_cases hxy : (x == y) = true
      ·rw [if_pos hxy] at h
       cases h
       have : x = y := by simpa using hxy
       subst this
       exact ⟨some (i, e'.val), by unfold Instr.findNow Instr.sameNow; rw [hkey']; simp, .inr ⟨0, e.val, e'.val, e', rfl, rfl, hee.val, rfl, hkey', e, rfl, rfl⟩⟩
      ·rw [if_neg hxy] at h
       refine rest h ?_
       unfold Instr.sameNow
       rw [hkey']
       simp at hxy ⊢
       exact hxy
     ·cases h
    ·cases hkk
   ·rename_i x y hkey
    have hkey' : e'.key = .string y := by have := hee.key; rw [hkey] at this; exact this.string_inv
    rcases hd with ⟨ik, rfl, j, m, hkk⟩ | ⟨rfl, s, hkk⟩
    ·cases hkk
    ·by_cases hxy : (x == y) = true
     ·rw [if_pos hxy] at h
      cases h
      have : x = y := ba_eq hxy
      subst this
      exact ⟨some (i, e'.val), by unfold Instr.findNow Instr.sameNow; rw [hkey']; simp only [ba_self], .inr ⟨0, e.val, e'.val, e', rfl, rfl, hee.val, rfl, hkey', e, rfl, rfl⟩⟩
     ·rw [if_neg hxy] at h
      refine rest h ?_
      unfold Instr.sameNow
      rw [hkey']
      have : (x == y) = false := by cases hh : (x == y) with
       | true => exact absurd hh hxy
       | false => rfl
      simp only [this]
   ·cases h
theorem run_findKey {t : TypeId} {d : TypeDesc} {k : Value} (hu : P.underlying t = some d) {es : List MapEntry} {r : Option (Nat × Value)} (h : Instr.findNow d k es 0 = some r) :
  (Instr.findKey t k es).run P w = .ok r w := by
 unfold Instr.findKey
 rw [Sem.run_bind, run_underlying hu, Result.andThen_ok]
 simp only [h, Sem.run_pure]
theorem run_getObj_map {b : Nat} {es : Array MapEntry} {clock : Nat} (h : w.heap[b]? = some (.map es clock)) : (getObj b).run P w = .ok (.map es clock) w := by
 simp only [getObj, Sem.run, h]
theorem run_setObj_map {b : Nat} {es : Array MapEntry} {clock : Nat} (h : w.heap[b]? = some (.map es clock)) (o : Obj) :
  (setObj b o).run P w = .ok () { w with heap := w.heap.setIfInBounds b o } := by
 simp only [setObj, Sem.run, h]
theorem chg_setObj {b : Nat} {o1 : Obj} (h : w.heap[b]? = some o1) (o : Obj) : Chg w { w with heap := w.heap.setIfInBounds b o } b o := by
 have hb : b < w.heap.size := (Array.getElem?_eq_some_iff.1 h).1
 refine ⟨rfl, rfl, rfl, by simp, by simp [hb], fun k hk => ?_⟩
 show (w.heap.setIfInBounds b o)[k]? = _
 rw [Array.getElem?_setIfInBounds_ne (Ne.symm hk)]
theorem fits_tell (hw : WR P B w₀ ρ g w) {v v' : Value} (hv : VR ρ v v') (ok b : Bool) {out : OOut} {l : List Nat} (h : (val (if ok then .tuple #[v, .bool b] else v)).run g = some (out, l)) :
  Fits P B w₀ ρ g n out (.ok (.value (if ok then .tuple #[v', .bool b] else v')) w) := by
 cases ok with
 | true => exact Fits.of_val hw h (.tuple_of (LR.cons hv (LR.cons (.scal _ rfl) (LR.nil ρ))))
 | false => exact Fits.of_val hw h hv
theorem lookupV_ok (hw : WR P B w₀ ρ g w) {t : TypeId} {x x' k k' : Value} (hx : VR ρ x x') (hk : VR ρ k k') (ok : Bool) {out : OOut} {l : List Nat} (h : (lookupV P t x k ok).run g = some (out, l)) :
  Fits P B w₀ ρ g n out ((do let v ← Instr.lookup t x' k' ok; pure (Next.value v) : Sem Next).run P w) := by
 unfold lookupV at h
 split at h
 ·rename_i kt et hu
  split at h
  ·rename_i z hkf hz
   obtain ⟨d, hkd, hd⟩ := keyFits_some hkf
   have hkk : k' = k := by
    rcases hd with ⟨ik, rfl, j, m, rfl⟩ | ⟨rfl, s, rfl⟩
    ·exact hk.int_inv
    ·exact hk.string_inv
   subst hkk
   dsimp only at h
   split at h
   ·split at h
    ·rename_i hfz
     cases hx with
     | scal =>
      have : (Instr.lookup t (.map none) k' ok).run P w = .ok (if ok then .tuple #[z, .bool false] else z) w := by
       unfold Instr.lookup
       rw [Sem.run_bind, run_underlying hu, Result.andThen_ok]
       dsimp only
       rw [Sem.run_bind, Sem.run_pure, Result.andThen_ok, Sem.run_bind, run_checkKey hkf, Result.andThen_ok, Sem.run_bind, run_findKey hkd (by rfl : Instr.findNow d k' [] 0 = some none), Result.andThen_ok]
       dsimp only
       first | rw [Sem.run_bind, Sem.run_bind, run_zeroValue hz] | rw [Sem.run_bind, run_zeroValue hz]
       rfl
      rw [Sem.run_bind, this]
      exact fits_tell hw (fl_refl hfz) ok false h
    ·cases h
   ·rename_i b
    obtain ⟨r, hr, rfl⟩ := hx.map_inv
    obtain ⟨o, l', hb, hkk, rfl⟩ := Rd.run_read h
    split at hkk
    ·rename_i es clock
     split at hkk
     ·rename_i f hfnd hfz
      obtain ⟨es', h1, h2, h3, hB⟩ := map_of hw hb hr
      obtain ⟨r', h4, h5⟩ := find_ok hkd hd h2 h3 hfnd
      have pre : ∀ (rest : Option (Nat × Value) → Sem Value), True := fun _ => trivial
      rcases h5 with ⟨rfl, rfl⟩ | ⟨j, v, v', e', rfl, rfl, hv, _, _, _⟩
      ·have : (Instr.lookup t (.map (some r.blk)) k' ok).run P w = .ok (if ok then .tuple #[z, .bool false] else z) w := by
        unfold Instr.lookup
        rw [Sem.run_bind, run_underlying hu, Result.andThen_ok]
        dsimp only
        rw [Sem.run_bind, run_getObj_map h1, Result.andThen_ok]
        dsimp only
        rw [Sem.run_bind, Sem.run_pure, Result.andThen_ok, Sem.run_bind, run_checkKey hkf, Result.andThen_ok, Sem.run_bind, run_findKey hkd h4, Result.andThen_ok]
        dsimp only
        first | rw [Sem.run_bind, Sem.run_bind, run_zeroValue hz] | rw [Sem.run_bind, run_zeroValue hz]
        rfl
       rw [Sem.run_bind, this]
       exact fits_tell hw (fl_refl hfz) ok false hkk
      ·have : (Instr.lookup t (.map (some r.blk)) k' ok).run P w = .ok (if ok then .tuple #[v', .bool true] else v') w := by
        unfold Instr.lookup
        rw [Sem.run_bind, run_underlying hu, Result.andThen_ok]
        dsimp only
        rw [Sem.run_bind, run_getObj_map h1, Result.andThen_ok]
        dsimp only
        rw [Sem.run_bind, Sem.run_pure, Result.andThen_ok, Sem.run_bind, run_checkKey hkf, Result.andThen_ok, Sem.run_bind, run_findKey hkd h4, Result.andThen_ok]
        rfl
       rw [Sem.run_bind, this]
       exact fits_tell hw hv ok true hkk
     ·cases hkk
    ·cases hkk
   ·cases h
  ·cases h
 ·cases h
theorem sameBits_self {k : Value} {d : TypeDesc} (hd : (∃ ik, d = .int ik ∧ ∃ j m, k = .int j m) ∨ (d = .string ∧ ∃ s, k = .string s)) : Instr.sameBits 10000 k k = true := by
 rcases hd with ⟨ik, _, j, m, rfl⟩ | ⟨_, s, rfl⟩
 ·show (j == j && m == m) = true; simp
 ·exact ba_self s
theorem mapUpdateV_ok (hw : WR P B w₀ ρ g w) {t : TypeId} {x x' k k' v v' : Value} (hx : VR ρ x x') (hk : VR ρ k k') (hv : VR ρ v v') {out : OOut} {l : List Nat}
  (h : (mapUpdateV P t x k v).run g = some (out, l)) : Fits P B w₀ ρ g n out ((do Instr.mapUpdate t x' k' v'; pure Next.skip : Sem Next).run P w) := by
 unfold mapUpdateV at h
 split at h
 ·rename_i kt et hu
  split at h
  ·rename_i b hkf
   obtain ⟨r, hr, rfl⟩ := hx.map_inv
   obtain ⟨d, hkd, hd⟩ := keyFits_some hkf
   have hkk : k' = k := by
    rcases hd with ⟨ik, rfl, j, m, rfl⟩ | ⟨rfl, s, rfl⟩
    ·exact hk.int_inv
    ·exact hk.string_inv
   subst hkk
   obtain ⟨o, l', hb, hkk, rfl⟩ := Rd.run_read h
   split at hkk
   ·rename_i es clock
    obtain ⟨es', h1, h2, h3, hB⟩ := map_of hw hb hr
    split at hkk
    ·rename_i i vv hfnd
     obtain ⟨r', h4, h5⟩ := find_ok hkd hd h2 h3 hfnd
     rcases h5 with ⟨h5, _⟩ | ⟨j, u, u', e', h5, rfl, hu', he', hkey, _⟩
     ·cases h5
     ·simp only [Nat.zero_add, Option.some.injEq, Prod.mk.injEq] at h5
      obtain ⟨rfl, rfl⟩ := h5
      simp only [Rd.run, Option.some.injEq, Prod.mk.injEq] at hkk
      obtain ⟨rfl, rfl⟩ := hkk
      have hes : es'[i]? = some e' := by simpa using he'
      have hrun : (Instr.mapUpdate t (.map (some r.blk)) k' v').run P w = .ok () { w with heap := w.heap.setIfInBounds r.blk (.map (es'.modify i fun e => { e with key := k', val := v' }) clock) } := by
       unfold Instr.mapUpdate
       rw [Sem.run_bind, run_underlying hu, Result.andThen_ok]
       dsimp only
       rw [Sem.run_bind, run_getObj_map h1, Result.andThen_ok]
       dsimp only
       rw [Sem.run_bind, run_checkKey hkf, Result.andThen_ok, Sem.run_bind, run_findKey hkd h4, Result.andThen_ok]
       simp only [Nat.zero_add, hes, Option.map_some, Option.getD_some, hkey]
       rw [Sem.run_bind]
       unfold Instr.keyThatStays
       rw [if_pos (sameBits_self hd), Sem.run_pure, Result.andThen_ok, run_setObj_map h1]
      rw [Sem.run_bind, hrun, Result.andThen_ok]
      refine ⟨ρ, _, Ren.le_refl ρ, .skip _, hw.change hb (by first | rfl | exact live_cells _ _) hr hB (chg_setObj h1 _) ?_⟩
      refine .map _ _ _ (by simp [h2]) fun m a a' ha ha' => ?_
      rw [List.getElem?_modify] at ha
      rw [Array.getElem?_toList, Array.getElem?_modify] at ha'
      by_cases him : i = m
      ·subst him
       rw [if_pos rfl, hes] at ha'
       cases ha'
       cases hg : es[i]? with
       | none => rw [hg] at ha; cases ha
       | some e0 =>
        rw [hg] at ha
        simp at ha
        subst ha
        exact ⟨hk, hv, (h3 i e0 e' hg he').born⟩
      ·rw [if_neg him] at ha'
       cases hg : es[m]? with
       | none => rw [hg] at ha; cases ha
       | some e0 =>
        rw [hg] at ha
        simp [him] at ha
        subst ha
        exact h3 m e0 a' hg (by simpa using ha')
    ·rename_i hfnd
     obtain ⟨r', h4, h5⟩ := find_ok hkd hd h2 h3 hfnd
     rcases h5 with ⟨_, rfl⟩ | ⟨j, u, u', e', h5, _⟩
     ·simp only [Rd.run, Option.some.injEq, Prod.mk.injEq] at hkk
      obtain ⟨rfl, rfl⟩ := hkk
      have hrun : (Instr.mapUpdate t (.map (some r.blk)) k' v').run P w = .ok () { w with heap := w.heap.setIfInBounds r.blk (.map (es'.push { key := k', val := v', born := clock }) (clock + 1)) } := by
       unfold Instr.mapUpdate
       rw [Sem.run_bind, run_underlying hu, Result.andThen_ok]
       dsimp only
       rw [Sem.run_bind, run_getObj_map h1, Result.andThen_ok]
       dsimp only
       rw [Sem.run_bind, run_checkKey hkf, Result.andThen_ok, Sem.run_bind, run_findKey hkd h4, Result.andThen_ok]
       dsimp only
       rw [run_setObj_map h1]
      rw [Sem.run_bind, hrun, Result.andThen_ok]
      refine ⟨ρ, _, Ren.le_refl ρ, .skip _, hw.change hb (by first | rfl | exact live_cells _ _) hr hB (chg_setObj h1 _) ?_⟩
      refine .map _ _ _ (by simp [h2]) fun m a a' ha ha' => ?_
      rw [Array.toList_push] at ha'
      by_cases hm : m < es.length
      ·rw [List.getElem?_append_left hm] at ha
       rw [List.getElem?_append_left (by omega)] at ha'
       exact h3 m a a' ha ha'
      ·rw [List.getElem?_append_right (by omega)] at ha
       rw [List.getElem?_append_right (by omega)] at ha'
       rw [← h2] at ha'
       cases hs : m - es.length with
       | zero => rw [hs] at ha ha'; cases ha; cases ha'; exact ⟨hk, hv, rfl⟩
       | succ q => rw [hs] at ha; cases ha
     ·cases h5
    ·cases hkk
   ·cases hkk
  ·cases h
 ·cases h
theorem toList_erase (a : Array MapEntry) (i : Nat) : (a.eraseIdxIfInBounds i).toList = a.toList.eraseIdx i := by simp
theorem deleteV_ok (hw : WR P B w₀ ρ g w) {argTypes : Array TypeId} {ty : TypeId} {args : List Value} {args' : Array Value} (hargs : LR ρ args args'.toList) {out : OOut} {l : List Nat}
  (h : (deleteV P argTypes.toList args).run g = some (out, l)) : Fits P B w₀ ρ g n out ((do let v ← Builtin.delete_ argTypes ty args'; pure (Next.value v) : Sem Next).run P w) := by
 unfold deleteV at h
 split at h
 ·rename_i t rest b k rest2 hat
  obtain ⟨s', t', ht, hs', hl2⟩ := hargs.inv_cons
  obtain ⟨k', t2, rfl, hk, hl3⟩ := hl2.inv_cons
  obtain ⟨r, hr, rfl⟩ := hs'.map_inv
  have a0 : argTypes[0]? = some t := by rw [arr_get hat]; rfl
  have b0 : args'[0]? = some (.map (some r.blk)) := by rw [arr_get ht]; rfl
  have b1 : args'[1]? = some k' := by rw [arr_get ht]; rfl
  split at h
  ·rename_i kt et hu
   split at h
   ·rename_i hkf
    obtain ⟨d, hkd, hd⟩ := keyFits_some hkf
    have hkk : k' = k := by
     rcases hd with ⟨ik, rfl, j, m, rfl⟩ | ⟨rfl, s, rfl⟩
     ·exact hk.int_inv
     ·exact hk.string_inv
    subst hkk
    obtain ⟨o, l', hb, hkk, rfl⟩ := Rd.run_read h
    split at hkk
    ·rename_i es clock
     obtain ⟨es', h1, h2, h3, hB⟩ := map_of hw hb hr
     split at hkk
     ·rename_i i vv hfnd
      obtain ⟨r', h4, h5⟩ := find_ok hkd hd h2 h3 hfnd
      rcases h5 with ⟨h5, _⟩ | ⟨j, u, u', e', h5, rfl, hu', he', hkey, _⟩
      ·cases h5
      ·simp only [Nat.zero_add, Option.some.injEq, Prod.mk.injEq] at h5
       obtain ⟨rfl, rfl⟩ := h5
       simp only [Rd.run, Option.some.injEq, Prod.mk.injEq] at hkk
       obtain ⟨rfl, rfl⟩ := hkk
       have hrun : (Builtin.delete_ argTypes ty args').run P w = .ok (.tuple #[]) { w with heap := w.heap.setIfInBounds r.blk (.map (es'.eraseIdxIfInBounds i) clock) } := by
        unfold Builtin.delete_
        simp only [a0, b0, b1]
        rw [Sem.run_bind, run_underlying hu, Result.andThen_ok]
        dsimp only
        rw [Sem.run_bind, run_getObj_map h1, Result.andThen_ok]
        dsimp only
        rw [Sem.run_bind, run_checkKey hkf, Result.andThen_ok, Sem.run_bind, run_findKey hkd h4, Result.andThen_ok]
        simp only [Nat.zero_add]
        rw [Sem.run_bind, run_setObj_map h1]
        rfl
       rw [Sem.run_bind, hrun, Result.andThen_ok]
       refine ⟨ρ, _, Ren.le_refl ρ, .val _ _ _ (VR.undef ρ), hw.change hb (by first | rfl | exact live_cells _ _) hr hB (chg_setObj h1 _) ?_⟩
       refine .map _ _ _ (by rw [toList_erase, List.length_eraseIdx, List.length_eraseIdx, h2]) fun m a a' ha ha' => ?_
       rw [toList_erase] at ha'
       rw [List.getElem?_eraseIdx] at ha ha'
       split at ha
       ·rename_i hm; rw [if_pos hm] at ha'; exact h3 m a a' ha ha'
       ·rename_i hm; rw [if_neg hm] at ha'; exact h3 _ a a' ha ha'
     ·rename_i hfnd
      obtain ⟨r', h4, h5⟩ := find_ok hkd hd h2 h3 hfnd
      rcases h5 with ⟨_, rfl⟩ | ⟨j, u, u', e', h5, _⟩
      ·simp only [Rd.run, Option.some.injEq, Prod.mk.injEq] at hkk
       obtain ⟨rfl, rfl⟩ := hkk
       have hrun : (Builtin.delete_ argTypes ty args').run P w = .ok (.tuple #[]) { w with heap := w.heap.setIfInBounds r.blk (.map es' clock) } := by
        unfold Builtin.delete_
        simp only [a0, b0, b1]
        rw [Sem.run_bind, run_underlying hu, Result.andThen_ok]
        dsimp only
        rw [Sem.run_bind, run_getObj_map h1, Result.andThen_ok]
        dsimp only
        rw [Sem.run_bind, run_checkKey hkf, Result.andThen_ok, Sem.run_bind, run_findKey hkd h4, Result.andThen_ok]
        dsimp only
        rw [Sem.run_bind, run_setObj_map h1]
        rfl
       rw [Sem.run_bind, hrun, Result.andThen_ok]
       exact ⟨ρ, _, Ren.le_refl ρ, .val _ _ _ (VR.undef ρ), hw.change hb (by first | rfl | exact live_cells _ _) hr hB (chg_setObj h1 _) (.map _ _ _ h2 h3)⟩
      ·cases h5
     ·cases hkk
    ·cases hkk
   ·cases h
  ·cases h
 ·cases h
theorem lenBuiltin_ok (hw : WR P B w₀ ρ g w) {argTypes : Array TypeId} {ty : TypeId} {args : List Value} {args' : Array Value} (hargs : LR ρ args args'.toList) {out : OOut} {l : List Nat}
  (h : (lenBuiltin P argTypes.toList args).run g = some (out, l)) : Fits P B w₀ ρ g n out ((do let v ← Builtin.len_ argTypes ty args'; pure (Next.value v) : Sem Next).run P w) := by
 unfold lenBuiltin at h
 split at h
 ·rename_i t rest x rest2 hat
  obtain ⟨x', t', ht, hx, hl2⟩ := hargs.inv_cons
  have a0 : argTypes[0]? = some t := by rw [arr_get hat]; rfl
  have b0 : args'[0]? = some x' := by rw [arr_get ht]; rfl
  split at h
  ·rename_i sa m sc hu
   cases hx with
   | scal _ hsc =>
    obtain ⟨rfl, rfl, rfl⟩ := isScal_slice hsc
    have hr : (Builtin.len_ argTypes ty args').run P w = .ok (goInt (0 : Nat)) w := by unfold Builtin.len_; simp only [a0, b0]; rw [Sem.run_bind, run_underlying hu, Result.andThen_ok]; rfl
    rw [Sem.run_bind, hr]; exact Fits.of_val hw h (.scal _ rfl)
   | sl =>
    have hr : (Builtin.len_ argTypes ty args').run P w = .ok (goInt m) w := by unfold Builtin.len_; simp only [a0, b0]; rw [Sem.run_bind, run_underlying hu, Result.andThen_ok]; rfl
    rw [Sem.run_bind, hr]; exact Fits.of_val hw h (.scal _ rfl)
   | rawS =>
    have hr : (Builtin.len_ argTypes ty args').run P w = .ok (goInt m) w := by unfold Builtin.len_; simp only [a0, b0]; rw [Sem.run_bind, run_underlying hu, Result.andThen_ok]; rfl
    rw [Sem.run_bind, hr]; exact Fits.of_val hw h (.scal _ rfl)
   | slE =>
    have hr : (Builtin.len_ argTypes ty args').run P w = .ok (goInt (0 : Nat)) w := by unfold Builtin.len_; simp only [a0, b0]; rw [Sem.run_bind, run_underlying hu, Result.andThen_ok]; rfl
    rw [Sem.run_bind, hr]; exact Fits.of_val hw h (.scal _ rfl)
  ·rename_i hu
   cases hx with
   | scal =>
    have hr : (Builtin.len_ argTypes ty args').run P w = .ok (goInt 0) w := by unfold Builtin.len_; simp only [a0, b0]; rw [Sem.run_bind, run_underlying hu, Result.andThen_ok]; rfl
    rw [Sem.run_bind, hr]; exact Fits.of_val hw h (.scal _ rfl)
  ·rename_i b hu
   obtain ⟨r, hr, rfl⟩ := hx.map_inv
   obtain ⟨o, l', hb, hk, rfl⟩ := Rd.run_read h
   split at hk
   ·rename_i es clock
    obtain ⟨es', h1, h2, h3, hB⟩ := map_of hw hb hr
    have hr : (Builtin.len_ argTypes ty args').run P w = .ok (goInt es'.size) w := by
     unfold Builtin.len_; simp only [a0, b0]; rw [Sem.run_bind, run_underlying hu, Result.andThen_ok]
     dsimp only
     rw [Sem.run_bind, run_getObj_map h1]; rfl
    rw [Sem.run_bind, hr]
    refine Fits.of_val hw hk ?_
    have : es.length = es'.size := by simpa using h2
    rw [this]
    exact .scal _ rfl
   ·cases hk
  ·rename_i k el hu
   have hr : (Builtin.len_ argTypes ty args').run P w = .ok (goInt k) w := by unfold Builtin.len_; simp only [a0, b0]; rw [Sem.run_bind, run_underlying hu, Result.andThen_ok]; rfl
   rw [Sem.run_bind, hr]
   exact Fits.of_val hw h (.scal _ rfl)
  ·rename_i a hu
   split at h
   ·rename_i k el hu2
    have hr : (Builtin.len_ argTypes ty args').run P w = .ok (goInt k) w := by
     unfold Builtin.len_; simp only [a0, b0]; rw [Sem.run_bind, run_underlying hu, Result.andThen_ok]
     dsimp only
     rw [Sem.run_bind, run_underlying hu2]; rfl
    rw [Sem.run_bind, hr]
    exact Fits.of_val hw h (.scal _ rfl)
   ·cases h
  ·cases h
 ·cases h
theorem zeroCells_repl {z : Value} (k : Nat) : (Builtin.zeroCells z.cells k).toList = repl z.cells.toList k := by
 have := zeros_eq z k
 unfold Builtin.zeroCells
 rw [this]
theorem clearV_ok (hw : WR P B w₀ ρ g w) {argTypes : Array TypeId} {ty : TypeId} {args : List Value} {args' : Array Value} (hargs : LR ρ args args'.toList) {out : OOut} {l : List Nat}
  (h : (clearV P argTypes.toList args).run g = some (out, l)) : Fits P B w₀ ρ g n out ((do let v ← Builtin.clear_ argTypes ty args'; pure (Next.value v) : Sem Next).run P w) := by
 unfold clearV at h
 split at h
 ·rename_i t rest x rest2 hat
  obtain ⟨x', t', ht, hx, hl2⟩ := hargs.inv_cons
  have a0 : argTypes[0]? = some t := by rw [arr_get hat]; rfl
  have b0 : args'[0]? = some x' := by rw [arr_get ht]; rfl
  have none_ : ∀ {d}, P.underlying t = some d → (∃ a c, x' = .slice a 0 c) ∨ (∃ l c, x' = .slice none l c) → (Builtin.clear_ argTypes ty args').run P w = .ok (.tuple #[]) w := by
   intro d hu hc
   unfold Builtin.clear_
   simp only [a0, b0]
   rw [Sem.run_bind, run_underlying hu, Result.andThen_ok]
   rcases hc with ⟨a, c, rfl⟩ | ⟨l, c, rfl⟩
   ·cases a <;> cases d <;> rfl
   ·cases d <;> rfl
  split at h
  ·rename_i hu
   cases hx with
   | scal _ hsc =>
    obtain ⟨_, rfl, rfl⟩ := isScal_slice hsc
    rw [Sem.run_bind, none_ hu (.inr ⟨_, _, rfl⟩)]
    exact Fits.of_val hw h (VR.undef ρ)
  ·rename_i hu
   rw [Sem.run_bind]
   cases hx with
   | scal _ hsc =>
    obtain ⟨rfl, _, rfl⟩ := isScal_slice hsc
    rw [none_ hu (.inl ⟨_, _, rfl⟩)]
    exact Fits.of_val hw h (VR.undef ρ)
   | sl => rw [none_ hu (.inl ⟨_, _, rfl⟩)]; exact Fits.of_val hw h (VR.undef ρ)
   | slE => rw [none_ hu (.inl ⟨_, _, rfl⟩)]; exact Fits.of_val hw h (VR.undef ρ)
   | rawS => rw [none_ hu (.inl ⟨_, _, rfl⟩)]; exact Fits.of_val hw h (VR.undef ρ)
  ·rename_i el b off k cap hk0 hu
   split at h
   ·rename_i size z hs hz
    obtain ⟨o, l', hb, hk, rfl⟩ := Rd.run_read h
    split at hk
    ·rename_i c ce
     split at hk
     ·rename_i hcond
      simp only [Bool.and_eq_true] at hcond
      obtain ⟨⟨⟨hf, h1⟩, h2⟩, h3⟩ := hcond
      have h1 := Nat.eq_of_beq_eq_true h1
      have h2 := Nat.le_of_ble_eq_true h2
      simp only [Rd.run, Option.some.injEq, Prod.mk.injEq] at hk
      obtain ⟨rfl, rfl⟩ := hk
      have hrl : (repl z.cells.toList k).length = k * size := by rw [repl_length, ← h1]; simp
      have hone : ((repl z.cells.toList k).all Value.oneCell') = true := by
       rw [List.all_eq_true] at h3 ⊢
       intro v hv
       obtain ⟨i, hi⟩ := List.getElem?_of_mem hv
       have hlt : i < (repl z.cells.toList k).length := (List.getElem?_eq_some_iff.1 hi).1
       rw [repl_get _ _ _ (by rw [repl_length] at hlt; exact hlt)] at hi
       exact h3 _ (List.mem_of_getElem? hi)
      cases hx with
      | scal _ hsc => cases hsc
      | slE => first | exact (hk0 rfl).elim | exact (hk0 _ _ rfl).elim | exact (hk0 _ rfl).elim
      | sl _ _ _ _ cap' r hr hc =>
       obtain ⟨w', h4, h5⟩ := hw.store hb hr ((flat_cells hf).repl k) (off := off) (by rw [hrl]; exact h2) hone
       have hrun : (Builtin.clear_ argTypes ty args').run P w = .ok (.tuple #[]) w' := by
        unfold Builtin.clear_
        simp only [a0, b0]
        rw [Sem.run_bind, run_underlying hu, Result.andThen_ok]
        cases k with
        | zero => first | exact (hk0 rfl).elim | exact (hk0 _ _ rfl).elim | exact (hk0 _ rfl).elim
        | succ k =>
         show ((do let z ← zeroValue el; storeCells ⟨r.blk, r.sh + off, none⟩ (Builtin.zeroCells z.cells (k + 1)).toList; pure (Value.tuple #[])) : Sem Value).run P w = _
         rw [Sem.run_bind, run_zeroValue hz, Result.andThen_ok, zeroCells_repl, Sem.run_bind, h4]
         rfl
       rw [Sem.run_bind, hrun]
       exact ⟨ρ, w', Ren.le_refl ρ, .val _ _ _ (VR.undef ρ), h5⟩
     ·cases hk
    ·cases hk
   ·cases h
  ·cases h
 ·cases h
theorem liesAt_row {e : TypeId} (hc : P.cellsOf e = 1) (count off k : Nat) (hn : off + k ≤ count) : liesAt P P.depth e count off e k = true := by
 have hd : P.depth = (2 * (P.types.size + Made.depth) + 1) + 1 := rfl
 rw [hd]
 simp only [liesAt, Bool.or_eq_true]
 left
 rw [hd]
 simp [Go.rowAt, hc, hn, sameLayout, Nat.mod_one]
theorem run_loadNs : ∀ (ns : List Int) (a : Addr) (acc : ByteArray), (∀ j x, ns[j]? = some x → w.cell? (a.add j) = some (.int .u8 x)) →
  (loadBytes a acc ns.length).run P w = .ok ⟨acc.data ++ (ns.map fun x => UInt8.ofNat x.toNat).toArray⟩ w
 | [], a, acc, _ => by simp [loadBytes]
 | x :: l, a, acc, h => by
  have h0 : w.cell? a = some (.int .u8 x) := by
   have := h 0 x rfl
   simpa [Addr.add] using this
  have ih := run_loadNs l (a.add 1) (acc.push x.toNat.toUInt8) (fun j y hy => by
   have := h (j + 1) y (by simpa using hy)
   have e : (a.add 1).add j = a.add (j + 1) := by
    unfold Addr.add
    by_cases hj : j = 0
    ·subst hj; simp
    ·simp [hj]; omega
   rw [e]; exact this)
  simp only [List.length_cons, loadBytes, Sem.run_bind, run_load, h0, Result.andThen]
  rw [ih]
  congr 1
  apply ByteArray.ext
  simp [ByteArray.push]
theorem run_unsafeString_at (pt it ty e : TypeId) (hp : P.underlying pt = some (.pointer e)) (hc : P.cellsOf e = 1) (b o cells : Nat) (hsh : w.shape? b = some (e, cells)) (ns : List Int) (h0 : ns ≠ []) (hn : o + ns.length ≤ cells) (h63 : ns.length ≤ 9223372036854775807)
  (hcell : ∀ j x, ns[j]? = some x → w.cell? ((⟨b, o, none⟩ : Addr).add j) = some (.int .u8 x)) :
  (Builtin.unsafeString_ #[pt, it] ty #[.pointer (some ⟨b, o, none⟩), .int .i64 ns.length]).run P w = .ok (.string ⟨(ns.map fun x => UInt8.ofNat x.toNat).toArray⟩) (w.freeze ⟨b, o, none⟩ ns.length) := by
 have hl : ns.length ≠ 0 := by simpa using h0
 have hlb := run_loadNs (P := P) ns ⟨b, o, none⟩ .empty hcell
 have hlies := liesAt_row (P := P) hc (cells / P.cellsOf e) o ns.length (by rw [hc]; simpa using hn)
 have h63' : ¬ (9223372036854775807 : Int) < (ns.length : Int) := by omega
 have hmax : IntKind.i64.max = 9223372036854775807 := rfl
 have hneg : ¬ (ns.length : Int) < 0 := by omega
 rw [show Builtin.unsafeString_ #[pt, it] ty #[.pointer (some ⟨b, o, none⟩), .int .i64 ns.length] = (asInt (.int .i64 ns.length) >>= fun n => _) from rfl]
 simp [asInt, asIntOf, hmax, h63', hneg, hl, variablesAt, hsh, elemOf, run_underlying hp, hlies, hlb]
theorem chg_freezeN {w : World} {b m k : Nat} (hk : k ≠ 0) {c : Array Value} {el : TypeId} {fr : Nat × Nat} (h : w.heap[b]? = some (.cells c el fr)) :
  Chg w (w.freeze ⟨b, m, none⟩ k) b (.cells c el (if fr.1 == fr.2 then (m, m + k) else (min fr.1 m, max fr.2 (m + k)))) := by
 unfold World.freeze
 simp only [hk, if_false]
 refine ⟨rfl, rfl, rfl, by simp, ?_, fun k hk => ?_⟩
 ·simp only [Array.getElem?_modify, if_true, h, Option.map_some]
 ·simp only [Array.getElem?_modify]
  rw [if_neg (fun e => hk e.symm)]
theorem unsafeDataV_ok (hw : WR P B w₀ ρ g w) {argTypes : Array TypeId} {ty : TypeId} {args : List Value} {args' : Array Value} (hargs : LR ρ args args'.toList) {out : OOut} {l : List Nat}
  (h : (unsafeDataV args).run g = some (out, l)) : Fits P B w₀ ρ g n out ((do let v ← Builtin.unsafeSliceData_ argTypes ty args'; pure (Next.value v) : Sem Next).run P w) := by
 unfold unsafeDataV at h
 split at h
 ·obtain ⟨x', t', ht, hx, hl2⟩ := hargs.inv_cons
  have e3 := hl2.inv_nil
  have ea : args' = #[x'] := by rw [← Array.toArray_toList (xs := args'), ht, e3]
  subst ea
  cases hx with
  | scal _ hsc =>
   rw [Sem.run_bind, Lib.run_unsafeSliceData_nil]
   exact Fits.of_val hw h (.scal _ rfl)
 ·obtain ⟨x', t', ht, hx, hl2⟩ := hargs.inv_cons
  have e3 := hl2.inv_nil
  have ea : args' = #[x'] := by rw [← Array.toArray_toList (xs := args'), ht, e3]
  subst ea
  cases hx with
  | scal _ hsc => cases hsc
  | sl _ _ _ _ cap' r hr hc =>
   have hc0 : cap' ≠ 0 := by rcases hc with h | h <;> omega
   rw [Sem.run_bind, Lib.run_unsafeSliceData_row _ _ _ _ _ _ hc0]
   exact Fits.of_val hw h (.ptr _ _ r hr)
 ·cases h
theorem unsafeStrV_ok (hw : WR P B w₀ ρ g w) {argTypes : Array TypeId} {ty : TypeId} {args : List Value} {args' : Array Value} (hargs : LR ρ args args'.toList) {out : OOut} {l : List Nat}
  (h : (unsafeStrV P argTypes.toList args).run g = some (out, l)) : Fits P B w₀ ρ g n out ((do let v ← Builtin.unsafeString_ argTypes ty args'; pure (Next.value v) : Sem Next).run P w) := by
 unfold unsafeStrV at h
 split at h
 ·rename_i pt it hat
  obtain ⟨x', t', ht, hx, hl2⟩ := hargs.inv_cons
  obtain ⟨y', t2, ht2, hy, hl3⟩ := hl2.inv_cons
  have e3 := hl3.inv_nil
  have ea : args' = #[x', y'] := by rw [← Array.toArray_toList (xs := args'), ht, ht2, e3]
  subst ea
  cases hy with
  | scal _ hsc2 =>
   cases hx with
   | scal _ hsc =>
    have et : argTypes = #[pt, it] := by rw [← Array.toArray_toList (xs := argTypes), hat]
    subst et
    rw [Sem.run_bind, Lib.run_unsafeString_none]
    exact Fits.of_val hw h (.scal _ rfl)
 ·rename_i pt it b off z hat
  obtain ⟨x', t', ht, hx, hl2⟩ := hargs.inv_cons
  obtain ⟨y', t2, ht2, hy, hl3⟩ := hl2.inv_cons
  have e3 := hl3.inv_nil
  have ea : args' = #[x', y'] := by rw [← Array.toArray_toList (xs := args'), ht, ht2, e3]
  subst ea
  have et : argTypes = #[pt, it] := by rw [← Array.toArray_toList (xs := argTypes), hat]
  subst et
  split at h
  ·rename_i e hp
   obtain ⟨o, l', hb, hk, rfl⟩ := Rd.run_read h
   split at hk
   ·rename_i c el
    split at hk
    ·rename_i bs hbs hcond
     simp only [Bool.and_eq_true, decide_eq_true_eq, beq_iff_eq] at hcond
     obtain ⟨⟨⟨hz0, hz1⟩, hee⟩, hsz⟩ := hcond
     have hee := Nat.eq_of_beq_eq_true hee
     subst hee
     simp only [Rd.run, Option.some.injEq, Prod.mk.injEq] at hk
     obtain ⟨rfl, rfl⟩ := hk
     obtain ⟨cs, hcut, hcs⟩ := Option.bind_eq_some_iff.1 hbs
     obtain ⟨hle, rfl⟩ := cut_some hcut
     obtain ⟨ns, h1, rfl⟩ := bytesOf_some hcs
     have hlen : ns.length = z.toNat := by
      have := congrArg List.length h1
      simp at this
      omega
     have hne : c ≠ [] := by intro e; rw [e] at hle; simp at hle; omega
     cases hy with
     | scal _ hsc2 =>
      cases hx with
      | scal _ hsc => cases hsc
      | ptr _ _ r hr =>
       obtain ⟨c', fr, ⟨el', h2, hel⟩, hp2, hsh, hz, hf, hl, hB⟩ := cells_of hw hb hr (live_ne hne)
       obtain rfl := hel rfl
       have hco : P.cellsOf el' = 1 := by unfold Program.cellsOf; unfold szOf at hsz; rw [hsz]; rfl
       have hshape : w.shape? r.blk = some (el', c'.size) := by unfold World.shape?; simp only [h2]
       have h3 := cut_LR hl hle
       rw [h1] at h3
       have h4 := LR.flat_inv (by simp [fl, flat]) h3
       have hcell : ∀ j x, ns[j]? = some x → w.cell? ((⟨r.blk, r.sh + off, none⟩ : Addr).add j) = some (.int .u8 x) := fun j x hx => by
        have hj : j < ns.length := (List.getElem?_eq_some_iff.1 hx).1
        have h5 : (ns.map (Value.int .u8))[j]? = some (.int .u8 x) := by rw [List.getElem?_map, hx]; rfl
        rw [← h4, List.getElem?_take] at h5
        split at h5
        ·rw [List.getElem?_drop] at h5
         unfold Addr.add
         by_cases h0 : j = 0
         ·subst h0
          simp only [if_true, World.cell?, h2]
          simpa using h5
         ·simp only [h0, if_false, World.cell?, h2]
          simpa using h5
        ·cases h5
       have hrun := run_unsafeString_at (w := w) pt it ty el' hp hco r.blk (r.sh + off) c'.size hshape ns (by intro e; rw [e] at hlen; simp at hlen; omega) (by omega) (by omega) hcell
       rw [show ((ns.length : Nat) : Int) = z by omega] at hrun
       have hch := chg_freezeN (m := r.sh + off) (k := ns.length) (by omega) h2
       have hor : OR P ρ r (.cells c el' true) (.cells c' el' (if fr.1 == fr.2 then (r.sh + off, r.sh + off + ns.length) else (min fr.1 (r.sh + off), max fr.2 (r.sh + off + ns.length)))) := by
        refine .cells _ _ _ _ _ _ (fun h => by cases h) hp2 hsh (fun h => by cases h) hz (fun h => by cases h) fun i v hv => ?_
        obtain ⟨v', h5, h6⟩ := hl.get hv
        rw [List.getElem?_take] at h5
        split at h5
        ·exact ⟨v', by simpa using h5, h6⟩
        ·cases h5
       have hw2 := hw.change hb (live_ne hne) hr (hB rfl) hch hor
       have hw3 := hw2.kill b (upd_same _ _ _)
       rw [Sem.run_bind, hrun, Result.andThen_ok, Sem.run_pure]
       refine ⟨ρ, _, Ren.le_refl ρ, .val _ _ _ (.scal _ rfl), ?_⟩
       have hu : applyO g n ⟨.val (.string ⟨(ns.map fun x => UInt8.ofNat x.toNat).toArray⟩), [(b, .dead)], none⟩ = upd (upd g b (.cells c el' true)) b .dead := by
        funext y
        by_cases hy : y = b
        ·subst hy; simp [applyO, upd]
        ·simp [applyO, upd, hy]
       rw [hu]
       exact hw3
    ·cases hk
   ·cases hk
  ·cases h
 ·cases h
end
end Go.Proofs.YtgepfmamfdmclaaGreatDoor.Vm
namespace Go.Proofs.YtgepfmamfdmclaaGreatDoor.Vm
open Go.RowKit
section
variable {P : Program} {B : Nat → Prop} {w₀ : World} {ρ : Ren} {g : Nat → Option VObj} {n : Nat} {w : World}
inductive PlR (ρ : Ren) : Pl → Place → Prop where
 | val (v v' : Value) (h : VR ρ v v') : PlR ρ (.val v) (.val v')
 | var (b off : Nat) (r : Where) (h : ρ b = some r) : PlR ρ (.var b off) (.var ⟨r.blk, r.sh + off, none⟩)
theorem get_ok (hw : WR P B w₀ ρ g w) {t : TypeId} {x : Pl} {x' : Place} (hx : PlR ρ x x') {v : Value} {l : List Nat}
  (h : (getV P t x).run g = some (v, l)) : ∃ v', (x'.get t).run P w = .ok v' w ∧ VR ρ v v' := by
 cases hx with
 | val u u' hu =>
  simp only [getV, Rd.run, Option.some.injEq, Prod.mk.injEq] at h
  obtain ⟨rfl, rfl⟩ := h
  exact ⟨u', rfl, hu⟩
 | var b off r hr =>
  obtain ⟨v', h1, h2⟩ := ldV_ok hw h hr
  exact ⟨v', h1, h2⟩
theorem followV_ok (hw : WR P B w₀ ρ g w) : ∀ {path : List FieldStep} {t : TypeId} {x : Pl} {x' : Place}, PlR ρ x x' → ∀ {t2 : TypeId} {y : Pl} {l : List Nat}, (followV P path t x).run g = some ((t2, y), l) →
  ∃ y', (follow path t x').run P w = .ok (t2, y') w ∧ PlR ρ y y' := by
 intro path
 induction path with
 | nil =>
  intro t x x' hx t2 y l h
  simp only [followV, Rd.run, Option.some.injEq, Prod.mk.injEq] at h
  obtain ⟨⟨rfl, rfl⟩, _⟩ := h
  exact ⟨x', rfl, hx⟩
 | cons s rest ih =>
  intro t x x' hx t2 y l h
  unfold followV at h
  split at h
  ·cases h
  ·rename_i off ft k hf
   obtain ⟨fs, f, hu, hfs, rfl, rfl, hk, hk0⟩ := fieldOff_some hf
   split at h
   ·rename_i hd
    obtain ⟨v, l1, l2, h1, h2, rfl⟩ := (Rd.run_bind _ _ _ _ _).1 h
    obtain ⟨v', h3, h4⟩ := get_ok hw hx h1
    split at h2
    ·rename_i b o
     obtain ⟨r, hr, rfl⟩ := h4.ptr_inv
     obtain ⟨y', h5, h6⟩ := ih (.var b (o + f.offset) r hr) h2
     refine ⟨y', ?_, h6⟩
     unfold follow
     rw [Sem.run_bind, run_underlying hu, Result.andThen_ok]
     simp only [hfs, hd, if_true]
     rw [Sem.run_bind, h3, Result.andThen_ok]
     simp only [asAddr, Sem.run_bind, Sem.run_pure, Result.andThen_ok, run_fieldPlace hk hk0]
     rw [Nat.add_assoc]
     exact h5
    ·cases h2
   ·rename_i hd
    cases hx with
    | val => cases h
    | var b o r hr =>
     obtain ⟨y', h5, h6⟩ := ih (.var b (o + f.offset) r hr) h
     refine ⟨y', ?_, h6⟩
     unfold follow
     rw [Sem.run_bind, run_underlying hu, Result.andThen_ok]
     simp only [hfs, hd, Bool.false_eq_true, if_false]
     rw [Sem.run_bind, run_fieldPlace hk hk0, Result.andThen_ok, Nat.add_assoc]
     exact h5
theorem run_wrapNil (xt : TypeId) (a : Addr) (name : String) : (Builtin.ssaWrapNilChk_ #[xt] xt #[.pointer (some a), strVal "", strVal name]).run P w = .ok (.pointer (some a)) w := rfl
theorem recvV_ok (hw : WR P B w₀ ρ g w) {t : TypeId} {x : Pl} {x' : Place} (hx : PlR ρ x x') {ptr : Bool} {v : Value} {l : List Nat} (h : (recvV P t x ptr).run g = some (v, l)) (wr : Option String) :
  ∃ v', (receiverAt t x' ptr wr).run P w = .ok v' w ∧ VR ρ v v' := by
 unfold recvV at h
 unfold receiverAt
 split at h
 ·rename_i e u hu
  cases hx with
  | val _ u' hv =>
   simp only [Rd.run, Option.some.injEq, Prod.mk.injEq] at h
   obtain ⟨rfl, rfl⟩ := h
   exact ⟨u', by rw [Sem.run_bind, run_underlying hu, Result.andThen_ok]; rfl, hv⟩
 ·rename_i e b o hu
  cases hx with
  | var _ _ r hr =>
   obtain ⟨v', h1, h2⟩ := ldV_ok hw h hr
   exact ⟨v', by rw [Sem.run_bind, run_underlying hu, Result.andThen_ok]; exact h1, h2⟩
 ·rename_i e b o hu
  cases hx with
  | val _ u' hv =>
   obtain ⟨r, hr, rfl⟩ := hv.ptr_inv
   obtain ⟨v', h1, h2⟩ := ldV_ok hw h hr
   refine ⟨v', ?_, h2⟩
   rw [Sem.run_bind, run_underlying hu, Result.andThen_ok]
   dsimp only
   rw [Sem.run_bind]
   show ((Sem.run P (pure (Value.pointer (some ⟨r.blk, r.sh + o, none⟩))) w).andThen _) = _
   rw [Sem.run_pure, Result.andThen_ok]
   cases wr with
   | none => simp only [Sem.run_bind, Sem.run_pure, Result.andThen_ok, asAddr, h1]
   | some name => simp only [Sem.run_bind, run_wrapNil, Sem.run_pure, Result.andThen_ok, asAddr, h1]
 ·cases h
 ·rename_i d b o hd hu
  cases hx with
  | var _ _ r hr =>
   simp only [Rd.run, Option.some.injEq, Prod.mk.injEq] at h
   obtain ⟨rfl, rfl⟩ := h
   refine ⟨_, ?_, .ptr b o r hr⟩
   rw [Sem.run_bind, run_underlying hu, Result.andThen_ok]
   cases d <;> first | rfl | exact (hd _ rfl).elim
 ·rename_i d u _ hd hu
  cases hx with
  | val _ u' hv =>
   simp only [Rd.run, Option.some.injEq, Prod.mk.injEq] at h
   obtain ⟨rfl, rfl⟩ := h
   refine ⟨u', ?_, hv⟩
   rw [Sem.run_bind, run_underlying hu, Result.andThen_ok]
   cases d <;> first | rfl | exact (hd _ rfl).elim
 ·rename_i d b o hd hu
  cases hx with
  | var _ _ r hr =>
   obtain ⟨v', h1, h2⟩ := ldV_ok hw h hr
   refine ⟨v', ?_, h2⟩
   rw [Sem.run_bind, run_underlying hu, Result.andThen_ok]
   cases d <;> first | exact h1 | exact (hd _ rfl).elim
 ·cases h
theorem methodV_ok (hw : WR P B w₀ ρ g w) : ∀ (d : Nat) {t : TypeId} {v v' : Value} {name : String} {f : FuncId} {r : Value} {l : List Nat}, VR ρ v v' → (methodV P d t v name).run g = some ((f, r), l) →
  ∀ fuel, d ≤ fuel → ∃ r', (method fuel t v' name).run P w = .ok (f, r') w ∧ VR ρ r r'
 | 0, t, v, v', name, f, r, l, hv, h, fuel, hf => by cases h
 | d + 1, t, v, v', name, f, r, l, hv, h, fuel, hf => by
  cases fuel with
  | zero => omega
  | succ fuel =>
   unfold methodV at h
   unfold method
   split at h
   ·cases h
   ·rename_i m hm
    obtain ⟨inf, hinf, hfind⟩ := Option.bind_eq_some_iff.1 hm
    obtain ⟨⟨xt, x⟩, l1, l2, h1, h2, rfl⟩ := (Rd.run_bind _ _ _ _ _).1 h
    obtain ⟨x', h3, h4⟩ := followV_ok hw (.val v v' hv) h1
    have hti : (typeInfo t).run P w = .ok inf w := by unfold typeInfo; rw [Sem.run_bind, run_program, Result.andThen_ok, hinf]; rfl
    rw [Sem.run_bind, hti, Result.andThen_ok]
    simp only [hfind]
    rw [Sem.run_bind, h3, Result.andThen_ok]
    dsimp only at h2 ⊢
    split at h2
    ·rename_i hmf
     obtain ⟨u, l3, l4, h5, h6, rfl⟩ := (Rd.run_bind _ _ _ _ _).1 h2
     obtain ⟨u', h7, h8⟩ := get_ok hw h4 h5
     split at h6
     ·rename_i t' q
      obtain ⟨q', rfl, hq⟩ := h8.iface_inv
      obtain ⟨r', h9, h10⟩ := methodV_ok hw d hq h6 fuel (by omega)
      refine ⟨r', ?_, h10⟩
      simp only [hmf]
      rw [Sem.run_bind, h7, Result.andThen_ok]
      exact h9
     ·cases h6
    ·rename_i f2 ptr hmf
     obtain ⟨u, l3, l4, h5, h6, rfl⟩ := (Rd.run_bind _ _ _ _ _).1 h2
     simp only [Rd.run, Option.some.injEq, Prod.mk.injEq] at h6
     obtain ⟨⟨rfl, rfl⟩, _⟩ := h6
     obtain ⟨u', h7, h8⟩ := recvV_ok hw h4 h5 (if m.path.isEmpty then some ((name.splitOn ".").getLastD name) else none)
     refine ⟨u', ?_, h8⟩
     simp only [hmf]
     rw [Sem.run_bind, h7, Result.andThen_ok]
     rfl
def plainNames (P : Program) : Bool := P.funcs.toList.all fun f => !(f.name == "runtime.NumGoroutine")
theorem enter_ok (hP : plainNames P = true) (hw : WR P B w₀ ρ g w) {f : FuncId} {args : List Value} {args' : Array Value} (ha : LR ρ args args'.toList) {out : OOut} {l : List Nat}
  (h : (enter P f args).run g = some (out, l)) : Fits P B w₀ ρ g n out ((callFunc f args').run P w) := by
 unfold enter at h
 split at h
 ·rename_i fn hf
  have hname : (fn.name == "runtime.NumGoroutine") = false := by
   have := List.all_eq_true.1 hP fn (by rw [Array.mem_toList_iff]; exact Array.mem_of_getElem? hf)
   simpa using this
  split at h
  ·rename_i c hc
   simp only [Rd.run, Option.some.injEq, Prod.mk.injEq] at h
   obtain ⟨rfl, rfl⟩ := h
   have : (callFunc f args').run P w = .ok (.enter f args') w := by
    unfold callFunc
    rw [Sem.run_bind, run_program, Result.andThen_ok]
    simp only [hf, hname, hc, Option.isNone_some, Bool.false_eq_true, if_false, Sem.run_pure]
   rw [this]
   exact ⟨ρ, w, Ren.le_refl ρ, .enter f args args' w ha, hw⟩
  ·rename_i hbody
   split at h
   ·rename_i hfl
    have : args' = args.toArray := by apply Array.ext'; simpa using ha.flat_inv hfl
    rw [this]
    exact fits_pure hw h
   ·split at h
    ·rename_i v hnm _
     simp only [Bool.and_eq_true, beq_iff_eq] at hnm
     obtain ⟨v', t, ht, hv, hl2⟩ := ha.inv_cons
     have e3 := hl2.inv_nil
     have ea : args' = #[v'] := by rw [← Array.toArray_toList (xs := args'), ht, e3]
     subst ea
     rw [run_callFunc_extern (e := Extern.AbiNoEscape.same) hf hname (by rw [hbody]; rfl) (by unfold Extern.findNext; rw [hnm.1, hnm.2]; kernel_rfl) (by unfold Extern.find; rw [hnm.1, hnm.2]; kernel_rfl)]
     show Fits P B w₀ ρ g n out (.ok (.value v') w)
     exact Fits.of_val hw h hv
    ·cases h
 ·cases h
theorem invokeM_ok (hP : plainNames P = true) (hw : WR P B w₀ ρ g w) {recv recv' : Value} (hr : VR ρ recv recv') {name : String} {args : List Value} {args' : Array Value} (ha : LR ρ args args'.toList) {out : OOut} {l : List Nat}
  (h : (invokeM P recv name args).run g = some (out, l)) : Fits P B w₀ ρ g n out ((callMethod recv' name args').run P w) := by
 unfold invokeM at h
 split at h
 ·rename_i t v
  obtain ⟨v', rfl, hv⟩ := hr.iface_inv
  obtain ⟨⟨f, r⟩, l1, l2, h1, h2, rfl⟩ := (Rd.run_bind _ _ _ _ _).1 h
  obtain ⟨r', h3, h4⟩ := methodV_ok hw 9 hv h1 (P.types.size + Made.depth) (by have : Made.depth = 100 := rfl; omega)
  have : (callMethod (.iface t v') name args').run P w = (callFunc f (#[r'] ++ args')).run P w := by
   unfold callMethod
   simp only [Sem.run_bind, run_program, Result.andThen_ok, h3]
  rw [this]
  exact enter_ok hP hw (by rw [Array.toList_append]; exact LR.cons h4 ha) h2
 ·cases h
theorem builtinV_ok (hw : WR P B w₀ ρ g w) {b : Builtin} {argTypes : Array TypeId} {ty : TypeId} {consts : Array Bool} {args : List Value} {args' : Array Value} (ha : LR ρ args args'.toList) {out : OOut} {l : List Nat}
  (hn : out.nw ≠ none → g n = none) (h : (builtinV P b argTypes ty consts args n).run g = some (out, l)) : Fits P B w₀ ρ g n out ((builtin b argTypes ty consts args').run P w) := by
 unfold builtinV at h
 split at h
 ·rename_i hq
  simp only [Bool.and_eq_true] at hq
  have : args' = args.toArray := by apply Array.ext'; simpa using ha.flat_inv hq.2
  rw [this]
  exact fits_pure hw h
 ·split at h
  ·exact appendV_ok hw ha hn h
  ·exact copyV_ok hw ha h
  ·exact lenBuiltin_ok hw ha h
  ·exact deleteV_ok hw ha h
  ·exact clearV_ok hw ha h
  ·exact unsafeDataV_ok hw ha h
  ·exact unsafeStrV_ok hw ha h
  ·cases h
theorem callV_ok (hP : plainNames P = true) (hw : WR P B w₀ ρ g w) {c : Call} {e e' : Operand → Value} (he : ∀ x ∈ c.operands, VR ρ (e x) (e' x)) {ty : TypeId} {out : OOut} {l : List Nat}
  (hn : out.nw ≠ none → g n = none) (h : (callV P c e ty n).run g = some (out, l)) : Fits P B w₀ ρ g n out ((do let d ← resolve e' c ty; invoke d.target d.args : Sem Next).run P w) := by
 have hargs : LR ρ (c.args.toList.map e) (c.args.map e').toList := by
  rw [Array.toList_map]
  exact LR.map _ _ _ fun x hx => he x (by unfold Call.operands; exact Array.mem_append.2 (.inr (Array.mem_toList_iff.1 hx)))
 unfold callV at h
 unfold resolve
 split at h
 ·rename_i b hb
  simp only [hb]
  rw [Sem.run_bind, Sem.run_pure, Result.andThen_ok]
  exact builtinV_ok hw hargs hn h
 ·rename_i recv name hb
  simp only [hb]
  rw [Sem.run_bind, Sem.run_pure, Result.andThen_ok]
  have hr : VR ρ (e recv) (e' recv) := he recv (by unfold Call.operands; rw [hb]; simp)
  have := invokeM_ok (n := n) hP hw hr hargs h
  have e2 : (invoke (.fn (.method name) #[]) (#[e' recv] ++ c.args.map e')).run P w = (callMethod (e' recv) name (c.args.map e')).run P w := by
   unfold invoke
   have h0 : (#[e' recv] ++ c.args.map e')[0]? = some (e' recv) := by rw [Array.getElem?_append_left (by simp)]; rfl
   have h1 : (#[e' recv] ++ c.args.map e').extract 1 (#[e' recv] ++ c.args.map e').size = c.args.map e' := by
    apply Array.ext'
    simp [Array.toList_extract, List.extract_eq_take_drop]
    exact List.take_of_length_le (by simp)
   simp only [h0, h1]
  rw [e2]
  exact this
 ·rename_i f hb
  simp only [hb]
  have hr : VR ρ (e f) (e' f) := he f (by unfold Call.operands; rw [hb]; simp)
  unfold valueCallV at h
  split at h
  ·rename_i k first captured hef
   rw [hef] at hr
   obtain ⟨f', c', h1, h2, h3⟩ := hr.func_inv
   rw [h1]
   simp only [Deferred.ofValue]
   rw [Sem.run_bind, Sem.run_pure, Result.andThen_ok]
   simp only [invoke]
   refine enter_ok hP hw ?_ h
   rw [Array.toList_append, Array.toList_append]
   exact (h2.append hargs).append h3
  ·rename_i name first captured hef
   rw [hef] at hr
   obtain ⟨f', c', h1, h2, h3⟩ := hr.func_inv
   rw [h1]
   simp only [Deferred.ofValue]
   rw [Sem.run_bind, Sem.run_pure, Result.andThen_ok]
   split at h
   ·rename_i recv rest hfa
    have hl := h2.append hargs
    rw [hfa] at hl
    obtain ⟨recv', rest', h4, h5, h6⟩ := hl.inv_cons
    have harr : (f' ++ c.args.map e') = (recv' :: rest').toArray := by apply Array.ext'; rw [Array.toList_append, h4]
    have e2 : (invoke (.fn (.method name) c') (f' ++ c.args.map e')).run P w = (callMethod recv' name rest'.toArray).run P w := by
     rw [harr]
     unfold invoke
     have h0 : (recv' :: rest').toArray[0]? = some recv' := by simp
     have h1 : (recv' :: rest').toArray.extract 1 (recv' :: rest').toArray.size = rest'.toArray := by
      apply Array.ext'
      simp [Array.toList_extract, List.extract_eq_take_drop]
     simp only [h0, h1]
    rw [e2]
    exact invokeM_ok hP hw h5 (by simpa using h6) h
   ·cases h
  ·cases h
theorem ev_ok (hP : plainNames P = true) (hw : WR P B w₀ ρ g w) {o : Oper} {e e' : Operand → Value} (he : ∀ x ∈ o.op.operands, VR ρ (e x) (e' x)) {out : OOut} {l : List Nat}
  (hn : out.nw ≠ none → g n = none) (h : (ev P e n o).run g = some (out, l)) : Fits P B w₀ ρ g n out ((execOp e' o).run P w) := by
 obtain ⟨dst, op, type, pos, after, guard⟩ := o
 have hmap : ∀ {a : Array Operand}, (∀ x ∈ a, VR ρ (e x) (e' x)) → LR ρ (a.toList.map e) (a.map e').toList := fun {a} ha => by
  rw [Array.toList_map]; exact LR.map _ _ _ fun x hx => ha x (Array.mem_toList_iff.1 hx)
 cases op <;> simp only [Op.operands] at he <;> simp only [ev, evK] at h <;> try (cases h; done)
 case move x => exact Fits.of_val hw h (he x (by simp))
 case assign x => exact Fits.of_val hw h (he x (by simp))
 case pick c a b => exact pickV_ok hw (he c (by simp)) (he a (by simp)) (he b (by simp)) h
 case alloc t => exact allocV_ok hw hn h
 case box t x => exact boxV_ok hw (he x (by simp)) hn h
 case build t parts =>
  refine buildV_ok hw ?_ h
  rw [Array.toList_map]
  exact PR.map _ fun x hx => he x.2 (by simp only [List.mem_toArray, List.mem_map]; exact ⟨x, hx, rfl⟩)
 case buildSlice t len parts =>
  refine buildSliceV_ok hw ?_ hn h
  rw [Array.toList_map]
  exact PR.map _ fun x hx => he x.2 (by simp only [List.mem_toArray, List.mem_map]; exact ⟨x, hx, rfl⟩)
 case insert t m k x => exact mapUpdateV_ok hw (he m (by simp)) (he k (by simp)) (he x (by simp)) h
 case load t a => exact loadV_ok hw (he a (by simp)) h
 case store t a x => exact storeV_ok hw (he a (by simp)) (he x (by simp)) h
 case nilCheck x => exact nilCheckV_ok hw (he x (by simp)) h e' x rfl _ rfl
 case binOp op t x y yt => exact binV_ok hw (he x (by simp)) (he y (by simp)) h
 case unOp op t x => exact unV_ok hw (he x (by simp)) h
 case convert src dst x => exact convertV_ok hw (he x (by simp)) hn h
 case makeInterface t x => exact ifaceV_ok hw (he x (by simp)) h
 case makeFunc fn first captured =>
  exact makeFuncV_ok hw (hmap fun x hx => he x (Array.mem_append.2 (.inl hx))) (hmap fun x hx => he x (Array.mem_append.2 (.inr hx))) h
 case makeMap t r =>
  have := OpR.map (ρ := ρ) (e := e) (e' := e') r fun y hy => he y (by subst hy; simp)
  exact makeMapV_ok hw this.some_ this.none_ hn h
 case makeSlice t a b => exact makeSliceV_ok hw (he a (by simp)) (he b (by simp)) hn h
 case slice t x lo hi mx =>
  exact sliceV_ok hw (he x (by simp)) (OpR.map lo fun y hy => he y (by subst hy; simp)) (OpR.map hi fun y hy => he y (by subst hy; simp)) (OpR.map mx fun y hy => he y (by subst hy; simp)) h
 case fieldAddr s x i => exact fieldAddrV_ok hw (he x (by simp)) i h
 case field s x i => exact fieldV_ok hw (he x (by simp)) i h
 case indexAddr t x i => exact indexAddrV_ok hw (he x (by simp)) (he i (by simp)) h
 case index t x i => exact indexV_ok hw (he x (by simp)) (he i (by simp)) h
 case lookup t x k ok => exact lookupV_ok hw (he x (by simp)) (he k (by simp)) ok h
 case mapUpdate t m k x => exact mapUpdateV_ok hw (he m (by simp)) (he k (by simp)) (he x (by simp)) h
 case typeAssert x xt at_ ok => exact assertV_ok hw (he x (by simp)) xt at_ ok h
 case extract t i => exact extractV_ok hw (he t (by simp)) i h
 case call c => exact callV_ok hP hw he hn h
 case panic x => exact panicV_ok hw (he x (by simp)) h
end
end Go.Proofs.YtgepfmamfdmclaaGreatDoor.Vm
namespace Go.Proofs.YtgepfmamfdmclaaGreatDoor.Vm
open Go.RowKit
abbrev FF (r : Option Nat) : Fence := { Fence.wide with round := r }
inductive DsR (ρ : Ren) (base : List Deferred) : List (FuncId × List Value) → List Deferred → Prop where
 | nil : DsR ρ base [] base
 | cons {k : FuncId} {vs : List Value} {cap args : Array Value} {ds : List (FuncId × List Value)} {l : List Deferred} (h : LR ρ vs (args ++ cap).toList) (t : DsR ρ base ds l) :
   DsR ρ base ((k, vs) :: ds) ({ target := .fn (.func k) cap, args := args } :: l)
theorem DsR.mono {ρ ρ' : Ren} (hl : ρ.le ρ') {base : List Deferred} {ds : List (FuncId × List Value)} {l : List Deferred} (h : DsR ρ base ds l) : DsR ρ' base ds l := by
 induction h with
 | nil => exact .nil
 | cons h t ih => exact .cons (h.mono hl) ih
structure FR (ρ : Ren) (t : Fr) (a : Act) : Prop where
 size : a.tmps.size = t.n
 small : t.n ≤ 1024
 at_ : ∀ i, VR ρ (t.at i) (a.tmps.getD i undef)
 defers : DsR ρ t.base t.ds a.defers
theorem FR.mono {ρ ρ' : Ren} (hl : ρ.le ρ') {t : Fr} {a : Act} (h : FR ρ t a) : FR ρ' t a := ⟨h.size, h.small, fun i => (h.at_ i).mono hl, h.defers.mono hl⟩
theorem FR.none_left {ρ : Ren} {t : Fr} {a : Act} (h : FR ρ t a) (h1 : t.ds = []) : a.defers = t.base := by
 have key : ∀ {ds : List (FuncId × List Value)} {l : List Deferred}, DsR ρ t.base ds l → ds = [] → l = t.base := by
  intro ds l hd e
  cases hd with
  | nil => rfl
  | cons => cases e
 exact key h.defers h1
theorem FR.eval {ρ : Ren} {t : Fr} {a : Act} (h : FR ρ t a) {x : Operand} (hx : okOperand x = true) : VR ρ (evalL t x) (a.eval x) := by
 cases x with
 | tmp i => exact h.at_ i
 | const v => exact fl_refl hx
 | global g => cases hx
 | func f => exact .func _ _ _ _ _ rfl rfl (fun i v v' h => by simp at h) rfl (fun i v v' h => by simp at h)
theorem blt_iff {a b : Nat} : Nat.blt a b = true ↔ a < b := by
 unfold Nat.blt
 rw [Nat.ble_eq]
 omega
theorem FR.put {ρ : Ren} {t t1 : Fr} {a : Act} (h : FR ρ t a) {d : Option Tmp} {v v' : Value} (hv : VR ρ v v') (hp : Vm.put t d v = some t1) : FR ρ t1 (a.put d v') := by
 unfold Vm.put at hp
 unfold Act.put
 cases d with
 | none => cases hp; exact h
 | some d =>
  simp only [Fr.set_eq] at hp
  split at hp
  ·rename_i hlt
   have hlt := blt_iff.1 hlt
   cases hp
   refine ⟨by simpa using h.size, h.small, fun j => ?_, h.defers⟩
   have hj := h.at_ j
   unfold Fr.at at hj ⊢
   dsimp only at hj ⊢
   by_cases hjn : j < t.n
   ·rw [blt_iff.2 hjn] at hj ⊢
    dsimp only at hj ⊢
    have h10 : (2 : Nat) ^ 10 = 1024 := rfl
    rw [Tr.get_set 10 _ _ _ _ (by have := h.small; omega) (by have := h.small; omega)]
    by_cases hjd : j = d
    ·subst hjd
     rw [if_pos rfl]
     have hjs : j < a.tmps.size := by rw [h.size]; exact hjn
     simp only [Array.getD_eq_getD_getElem?, Array.getElem?_setIfInBounds_self, hjs, if_true, Option.getD_some]
     exact hv
    ·rw [if_neg hjd]
     rw [Array.getD_eq_getD_getElem?, Array.getElem?_setIfInBounds_ne (Ne.symm hjd), ← Array.getD_eq_getD_getElem?]
     exact hj
   ·have hb : Nat.blt j t.n = false := by cases hb : Nat.blt j t.n with
     | false => rfl
     | true => exact absurd (blt_iff.1 hb) hjn
    rw [hb]
    dsimp only
    have hjs : ¬ j < a.tmps.size := by rw [h.size]; exact hjn
    rw [Array.getD_eq_getD_getElem?, Array.getElem?_eq_none (by simp; omega)]
    exact VR.undef ρ
  ·cases hp
theorem yielded_eq {ρ : Ren} {t : Fr} {a : Act} (h : FR ρ t a) (ops : Array Oper) : yieldedL ops.toList t = yielded ops a.tmps := by
 funext j
 unfold yieldedL yielded
 rw [Array.getElem?_toList]
 cases hd : (ops[j]?).bind (·.dst) with
 | none => rfl
 | some d =>
  dsimp only [Option.bind_some]
  have hv := h.at_ d
  rw [Array.getD_eq_getD_getElem?] at hv
  cases hc : a.tmps[d]? with
  | none =>
   rw [hc] at hv
   have hu : ∀ b, t.at d ≠ .bool b := by
    intro b e
    rw [e] at hv
    have := hv.bool_inv
    cases this
   split
   ·rename_i b e; exact absurd e (hu b)
   ·rfl
  | some u =>
   rw [hc] at hv
   simp only [Option.getD_some] at hv
   split
   ·rename_i b e
    rw [e] at hv
    rw [hv.bool_inv]
   ·rename_i hne
    split
    ·rename_i b e
     simp only [Option.some.injEq] at e
     subst e
     generalize hx : t.at d = x at hv hne
     cases hv
     exact absurd rfl (hne b)
    ·rfl
structure Ext (S S' : VS) : Prop where
 rd : ∀ x, x ∈ S.rd → x ∈ S'.rd
 wr : ∀ x, x ∈ S.wr → x ∈ S'.wr
 frame : ∀ x, x ∉ S'.wr → gt S'.mem x = gt S.mem x
 sm : (∀ x, (x ∈ S.rd ∨ x ∈ S.wr) → small x = true) → ∀ x, (x ∈ S'.rd ∨ x ∈ S'.wr) → small x = true
theorem Ext.refl (S : VS) : Ext S S := ⟨fun _ h => h, fun _ h => h, fun _ _ => rfl, fun h => h⟩
theorem Ext.trans {a b c : VS} (h : Ext a b) (k : Ext b c) : Ext a c :=
 ⟨fun x hx => k.rd x (h.rd x hx), fun x hx => k.wr x (h.wr x hx), fun x hx => (k.frame x hx).trans (h.frame x fun hh => hx (k.wr x hh)), fun hs => k.sm (h.sm hs)⟩
def Agree (S S' : VS) (m : Nat → Option VObj) : Prop := ∀ x, (x ∈ S'.rd ∨ x ∈ S'.wr) → m x = gt S.mem x
def post (m : Nat → Option VObj) (S' : VS) : Nat → Option VObj := fun x => if x ∈ S'.wr then gt S'.mem x else m x
theorem Agree.first {S S1 S2 : VS} {m : Nat → Option VObj} (h : Agree S S2 m) (e : Ext S1 S2) : Agree S S1 m :=
 fun x hx => h x (hx.imp (e.rd x) (e.wr x))
theorem Agree.next {S S1 S2 : VS} {m : Nat → Option VObj} (h : Agree S S2 m) (e1 : Ext S S1) : Agree S1 S2 (post m S1) := by
 intro x hx
 unfold post
 by_cases hw : x ∈ S1.wr
 ·rw [if_pos hw]
 ·rw [if_neg hw, h x hx, e1.frame x hw]
theorem post_post {m : Nat → Option VObj} {S1 S2 : VS} (e : Ext S1 S2) : post (post m S1) S2 = post m S2 := by
 funext x
 unfold post
 by_cases h2 : x ∈ S2.wr
 ·rw [if_pos h2, if_pos h2]
 ·rw [if_neg h2, if_neg h2, if_neg fun h => h2 (e.wr x h)]
theorem post_self {m : Nat → Option VObj} {S : VS} (h : Agree S S m) : post m S = m := by
 funext x
 unfold post
 by_cases hw : x ∈ S.wr
 ·rw [if_pos hw, h x (.inr hw)]
 ·rw [if_neg hw]
abbrev updF (g : Nat → Option VObj) (ws : List (Nat × VObj)) : Nat → Option VObj := ws.foldl (fun g (p : Nat × VObj) => upd g p.1 p.2) g
abbrev layF (S : VS) (ws : List (Nat × VObj)) : VS := ws.foldl (fun (S : VS) (p : Nat × VObj) => { S with mem := S.mem.set 18 p.1 p.2, wr := p.1 :: S.wr }) S
theorem updF_other : ∀ {ws : List (Nat × VObj)} {g : Nat → Option VObj} {x : Nat}, (∀ p ∈ ws, p.1 ≠ x) → updF g ws x = g x
 | [], g, x, _ => rfl
 | p :: ws, g, x, h => by
  show updF (upd g p.1 p.2) ws x = g x
  rw [updF_other fun q hq => h q (by simp [hq]), upd_other _ (Ne.symm (h p (by simp)))]
theorem updF_same : ∀ {ws : List (Nat × VObj)} {g g' : Nat → Option VObj} {x : Nat}, (∃ p ∈ ws, p.1 = x) → updF g ws x = updF g' ws x
 | [], g, g', x, h => by obtain ⟨p, hp, _⟩ := h; cases hp
 | p :: ws, g, g', x, h => by
  show updF (upd g p.1 p.2) ws x = updF (upd g' p.1 p.2) ws x
  by_cases hr : ∃ q ∈ ws, q.1 = x
  ·exact updF_same hr
  ·have hn : ∀ q ∈ ws, q.1 ≠ x := fun q hq e => hr ⟨q, hq, e⟩
   rw [updF_other hn, updF_other hn]
   obtain ⟨q, hq, e⟩ := h
   rcases List.mem_cons.1 hq with rfl | hq
   ·subst e; rw [upd_same, upd_same]
   ·exact absurd e (hn q hq)
theorem layF_spec : ∀ {ws : List (Nat × VObj)} {S : VS}, (∀ p ∈ ws, small p.1 = true) →
  gt (layF S ws).mem = updF (gt S.mem) ws ∧ (layF S ws).rd = S.rd ∧ (layF S ws).next = S.next ∧ ∀ x, x ∈ (layF S ws).wr ↔ (∃ p ∈ ws, p.1 = x) ∨ x ∈ S.wr
 | [], S, _ => ⟨rfl, rfl, rfl, fun x => by simp⟩
 | p :: ws, S, h => by
  obtain ⟨h1, h2, h3, h4⟩ := layF_spec (ws := ws) (S := { S with mem := S.mem.set 18 p.1 p.2, wr := p.1 :: S.wr }) fun q hq => h q (by simp [hq])
  refine ⟨?_, h2, h3, fun x => ?_⟩
  ·show gt (layF _ ws).mem = updF (upd (gt S.mem) p.1 p.2) ws
   rw [h1, ← gt_set (h p (by simp))]
  ·show x ∈ (layF _ ws).wr ↔ _
   rw [h4 x]
   simp only [List.mem_cons]
   constructor
   ·rintro (⟨q, hq, e⟩ | rfl | hx)
    ·exact .inl ⟨q, .inr hq, e⟩
    ·exact .inl ⟨p, .inl rfl, rfl⟩
    ·exact .inr hx
   ·rintro (⟨q, rfl | hq, e⟩ | hx)
    ·exact .inr (.inl e.symm)
    ·exact .inl ⟨q, hq, e⟩
    ·exact .inr (.inr hx)
theorem commit_spec {S S1 : VS} {l : List Nat} {out : OOut} {r : ORes} (hl : ∀ x ∈ l, ∃ o, gt S.mem x = some o) (h : commit S l out = some (r, S1)) :
  Ext S S1 ∧ r = out.r ∧ (out.nw ≠ none → gt S.mem S.next = none ∧ S.next ∈ S1.wr) ∧ (∀ x ∈ l, x ∈ S1.rd) ∧ ∀ m, Agree S S1 m → post m S1 = applyO m S.next out := by
 unfold commit at h
 dsimp only at h
 split at h
 ·cases h
 ·rename_i hall
  have hsm : ∀ p ∈ out.ws, small p.1 = true := by
   intro p hp
   have := List.all_eq_true.1 hall p hp
   obtain ⟨o, ho⟩ := hl p.1 (by simpa using this)
   exact small_of_gt ho
  obtain ⟨h1, h2, h3, h4⟩ := layF_spec (ws := out.ws) (S := { S with rd := l ++ S.rd }) hsm
  split at h
  ·rename_i hnw
   simp only [Option.some.injEq, Prod.mk.injEq] at h
   obtain ⟨rfl, rfl⟩ := h
   refine ⟨⟨fun x hx => ?_, fun x hx => ?_, fun x hx => ?_, fun hS x hx => ?_⟩, rfl, fun hne => absurd hnw hne, fun x hx => ?_, fun m hm => ?_⟩
   ·show x ∈ (layF _ out.ws).rd; rw [h2]; simp [hx]
   ·exact (h4 x).2 (.inr hx)
   ·show gt (layF _ out.ws).mem x = _
    rw [h1, updF_other fun p hp e => hx ((h4 x).2 (.inl ⟨p, hp, e⟩))]
   ·rcases hx with hx | hx
    ·have hx : x ∈ (layF { S with rd := l ++ S.rd } out.ws).rd := hx
     rw [h2] at hx
     rcases List.mem_append.1 hx with hx | hx
     ·obtain ⟨o, ho⟩ := hl x hx; exact small_of_gt ho
     ·exact hS x (.inl hx)
    ·rcases (h4 x).1 hx with ⟨p, hp, rfl⟩ | hx
     ·exact hsm p hp
     ·exact hS x (.inr hx)
   ·show x ∈ (layF _ out.ws).rd; rw [h2]; simp [hx]
   ·funext x
    unfold post applyO
    rw [hnw]
    show (if x ∈ (layF _ out.ws).wr then gt (layF _ out.ws).mem x else m x) = updF m out.ws x
    by_cases hx : ∃ p ∈ out.ws, p.1 = x
    ·rw [if_pos ((h4 x).2 (.inl hx)), h1]
     exact updF_same hx
    ·have hn : ∀ p ∈ out.ws, p.1 ≠ x := fun p hp e => hx ⟨p, hp, e⟩
     rw [updF_other hn]
     by_cases hw : x ∈ (layF { S with rd := l ++ S.rd } out.ws).wr
     ·rw [if_pos hw, h1, updF_other hn]
      exact (hm x (.inr hw)).symm
     ·rw [if_neg hw]
  ·rename_i o hnw
   split at h
   ·rename_i hs hnone
    simp only [Option.some.injEq, Prod.mk.injEq] at h
    obtain ⟨rfl, rfl⟩ := h
    have hmem : gt ((layF { S with rd := l ++ S.rd } out.ws).mem.set 18 S.next o) = upd (updF (gt S.mem) out.ws) S.next o := by rw [gt_set hs, h1]
    refine ⟨⟨fun x hx => ?_, fun x hx => ?_, fun x hx => ?_, fun hS x hx => ?_⟩, rfl, fun _ => ⟨hnone, by simp⟩, fun x hx => ?_, fun m hm => ?_⟩
    ·show x ∈ (layF _ out.ws).rd; rw [h2]; simp [hx]
    ·show x ∈ S.next :: (layF _ out.ws).wr
     exact List.mem_cons_of_mem _ ((h4 x).2 (.inr hx))
    rotate_left
    ·rcases hx with hx | hx
     ·have hx : x ∈ (layF { S with rd := l ++ S.rd } out.ws).rd := hx
      rw [h2] at hx
      rcases List.mem_append.1 hx with hx | hx
      ·obtain ⟨o, ho⟩ := hl x hx; exact small_of_gt ho
      ·exact hS x (.inl hx)
     ·have hx : x ∈ S.next :: (layF { S with rd := l ++ S.rd } out.ws).wr := hx
      rcases List.mem_cons.1 hx with rfl | hx
      ·exact hs
      ·rcases (h4 x).1 hx with ⟨p, hp, rfl⟩ | hx
       ·exact hsm p hp
       ·exact hS x (.inr hx)
    rotate_left
    rotate_left
    ·have hx' : x ∉ S.next :: (layF { S with rd := l ++ S.rd } out.ws).wr := hx
     simp only [List.mem_cons, not_or] at hx'
     show gt ((layF { S with rd := l ++ S.rd } out.ws).mem.set 18 S.next o) x = _
     rw [hmem, upd_other _ hx'.1, updF_other fun p hp e => hx'.2 ((h4 x).2 (.inl ⟨p, hp, e⟩))]
    ·show x ∈ (layF _ out.ws).rd; rw [h2]; simp [hx]
    ·funext x
     unfold post applyO
     rw [hnw]
     show (if x ∈ S.next :: (layF _ out.ws).wr then gt ((layF { S with rd := l ++ S.rd } out.ws).mem.set 18 S.next o) x else m x) = upd (updF m out.ws) S.next o x
     rw [hmem]
     by_cases hxn : x = S.next
     ·subst hxn
      rw [if_pos (by simp), upd_same, upd_same]
     ·rw [upd_other _ hxn, upd_other _ hxn]
      by_cases hx : ∃ p ∈ out.ws, p.1 = x
      ·rw [if_pos (List.mem_cons_of_mem _ ((h4 x).2 (.inl hx)))]
       exact updF_same hx
      ·have hn : ∀ p ∈ out.ws, p.1 ≠ x := fun p hp e => hx ⟨p, hp, e⟩
       rw [updF_other hn, updF_other hn]
       by_cases hw : x ∈ S.next :: (layF { S with rd := l ++ S.rd } out.ws).wr
       ·rw [if_pos hw]
        exact (hm x (.inr hw)).symm
       ·rw [if_neg hw]
   ·cases h
section
variable {P : Program} {B : Nat → Prop} {w₀ : World}
theorem stepOp0_ext {t : Fr} {S S1 : VS} {o : Oper} {r : ORes} (h : stepOp0 P t S o = some (r, S1)) : Ext S S1 := by
 unfold stepOp0 at h
 split at h
 ·cases h
 ·split at h
  ·cases h
  ·rename_i out l hev
   exact (commit_spec (fun x hx => Rd.read_mem hev x hx) h).1
theorem stepOp0_ok (hP : plainNames P = true) {ρ : Ren} {m : Nat → Option VObj} {w : World} {t : Fr} {a : Act} {S S1 : VS} {o : Oper} {r : ORes} (h : stepOp0 P t S o = some (r, S1))
  (ht : FR ρ t a) (hw : WR P B w₀ ρ m w) (hm : Agree S S1 m) : ∃ ρ' w', ρ.le ρ' ∧ RR ρ' r ((execOp a.eval o).run P w) w' ∧ WR P B w₀ ρ' (post m S1) w' := by
 unfold stepOp0 at h
 split at h
 ·cases h
 ·rename_i hops
  split at h
  ·cases h
  ·rename_i out l hev
   obtain ⟨h1, rfl, h3, h4, h5⟩ := commit_spec (fun x hx => Rd.read_mem hev x hx) h
   have hev' : (ev P (evalL t) S.next o).run m = some (out, l) := Rd.run_congr hev fun x hx => hm x (.inl (h4 x hx))
   obtain ⟨ρ', w', h6, h7, h8⟩ := (ev_ok hP hw (e' := a.eval) (fun x hx => ht.eval (List.all_eq_true.1 hops x (Array.mem_toList_iff.2 hx)))
    (fun hne => by obtain ⟨h9, h10⟩ := h3 hne; rw [hm _ (.inr h10), h9]) hev').ex
   exact ⟨ρ', w', h6, h7, by rw [h5 m hm]; exact h8⟩
theorem layN_spec : ∀ {l : List VObj} {S S1 : VS}, layN l S = some S1 → Ext S S1 ∧ S1.rd = S.rd ∧ (∀ j, j < l.length → gt S.mem (S.next + j) = none ∧ S.next + j ∈ S1.wr) ∧ ∀ m, Agree S S1 m → post m S1 = updN m S.next l
 | [], S, S1, h => by
  simp only [layN, Option.some.injEq] at h
  subst h
  exact ⟨Ext.refl S, rfl, fun j hj => absurd hj (by simp), fun m hm => post_self hm⟩
 | o :: l, S, S1, h => by
  unfold layN at h
  split at h
  ·rename_i hs hn
   obtain ⟨h1, h2, h3, h4⟩ := layN_spec h
   have hmem : gt (S.mem.set 18 S.next o) = upd (gt S.mem) S.next o := gt_set hs
   have e1 : Ext S { S with mem := S.mem.set 18 S.next o, next := S.next + 1, wr := S.next :: S.wr } := by
    refine ⟨fun x hx => hx, fun x hx => List.mem_cons_of_mem _ hx, fun x hx => ?_, fun hS x hx => ?_⟩
    ·show gt (S.mem.set 18 S.next o) x = _
     rw [hmem, upd_other _ fun e => hx (by rw [e]; exact List.mem_cons_self)]
    ·rcases hx with hx | hx
     ·exact hS x (.inl hx)
     ·rcases List.mem_cons.1 hx with rfl | hx
      ·exact hs
      ·exact hS x (.inr hx)
   have hin : S.next ∈ S1.wr := h1.wr _ List.mem_cons_self
   refine ⟨e1.trans h1, h2, fun j hj => ?_, fun m hm => ?_⟩
   ·cases j with
    | zero => exact ⟨hn, hin⟩
    | succ j =>
     obtain ⟨h5, h6⟩ := h3 j (by simpa using hj)
     dsimp only at h5 h6
     rw [hmem, upd_other _ (by omega)] at h5
     rw [show S.next + (j + 1) = S.next + 1 + j by omega]
     exact ⟨h5, h6⟩
   ·have hm2 : Agree { S with mem := S.mem.set 18 S.next o, next := S.next + 1, wr := S.next :: S.wr } S1 (upd m S.next o) := by
     intro x hx
     show upd m S.next o x = gt (S.mem.set 18 S.next o) x
     rw [hmem]
     by_cases e : x = S.next
     ·subst e; rw [upd_same, upd_same]
     ·rw [upd_other _ e, upd_other _ e]; exact hm x hx
    show post m S1 = updN (upd m S.next o) (S.next + 1) l
    rw [← h4 _ hm2]
    funext x
    unfold post
    by_cases hx : x ∈ S1.wr
    ·rw [if_pos hx, if_pos hx]
    ·rw [if_neg hx, if_neg hx, upd_other _ fun e => hx (by rw [e]; exact hin)]
  ·cases h
theorem viewOf_some {t : Fr} {S : VS} {o : Oper} {V : View} (h : viewOf P t S o = some V) :
  ∃ ty x i cap, o.op = .indexAddr ty x i ∧ evalL t x = .slice (some ⟨V.b, 0, none⟩) V.len cap ∧ gt S.mem V.b = some (.rows V.n V.size V.row) ∧ P.underlying ty = some (.slice V.el) ∧ szOf P V.el = some V.size ∧ V.i = evalL t i := by
 unfold viewOf at h
 split at h
 ·rename_i ty x i hop
  split at h
  ·rename_i b off len cap hx
   split at h
   ·rename_i n size row hb
    split at h
    ·split at h
     ·rename_i el hu
      split at h
      ·rename_i s hs
       split at h
       ·rename_i hss
        have hss := Nat.eq_of_beq_eq_true hss
        subst hss
        cases h
        exact ⟨ty, x, i, cap, hop, hx, hb, hu, hs, rfl⟩
       ·cases h
      ·cases h
     ·cases h
    ·cases h
   ·cases h
  ·cases h
 ·cases h
theorem viewStep_some {S S1 : VS} {b : Nat} {el : TypeId} {l : List SV} {r : ORes} (h : viewStep S b el l = some (r, S1)) :
  r = .val (.pointer (some ⟨S.next + viewLen l, 0, none⟩)) ∧ layN (viewObjs l ++ [.cells (viewVals l S.next) el true]) { S with rd := b :: S.rd } = some S1 := by
 unfold viewStep at h
 split at h
 ·rename_i S2 hl
  simp only [Option.some.injEq, Prod.mk.injEq] at h
  obtain ⟨rfl, rfl⟩ := h
  exact ⟨rfl, hl⟩
 ·cases h
theorem rd_ext {S S1 : VS} {b : Nat} {o : VObj} (hb : gt S.mem b = some o) (h : Ext { S with rd := b :: S.rd } S1) : Ext S S1 := by
 refine Ext.trans (b := { S with rd := b :: S.rd }) ⟨fun x hx => List.mem_cons_of_mem _ hx, fun x hx => hx, fun x hx => rfl, fun hS x hx => ?_⟩ h
 rcases hx with hx | hx
 ·rcases List.mem_cons.1 hx with rfl | hx
  ·exact small_of_gt hb
  ·exact hS x (.inl hx)
 ·exact hS x (.inr hx)
theorem stepOp_view {t : Fr} {S S1 : VS} {o : Oper} {r : ORes} {V : View} (hV : viewOf P t S o = some V) (h : stepOp P t S o = some (r, S1)) :
  o.op.operands.toList.all okOperand = true ∧ ∃ k, nOf V.i = some k ∧ k < V.n ∧ k < V.len ∧ viewStep S V.b V.el (V.row k) = some (r, S1) := by
 unfold stepOp at h
 rw [hV] at h
 dsimp only at h
 split at h
 ·rename_i k hops hk
  split at h
  ·rename_i hlt
   simp only [Bool.and_eq_true, blt_iff] at hlt
   exact ⟨hops, k, hk, hlt.1, hlt.2, h⟩
  ·cases h
 ·cases h
theorem stepOp_none {t : Fr} {S : VS} {o : Oper} (hV : viewOf P t S o = none) : stepOp P t S o = stepOp0 P t S o := by
 unfold stepOp
 rw [hV]
theorem stepOp_ext {t : Fr} {S S1 : VS} {o : Oper} {r : ORes} (h : stepOp P t S o = some (r, S1)) : Ext S S1 := by
 cases hV : viewOf P t S o with
 | none => rw [stepOp_none hV] at h; exact stepOp0_ext h
 | some V =>
  obtain ⟨_, k, _, _, _, h⟩ := stepOp_view hV h
  obtain ⟨ty, x, i, cap, _, _, hb, _⟩ := viewOf_some hV
  exact rd_ext hb (layN_spec (viewStep_some h).2).1
theorem stepOp_ok (hP : plainNames P = true) {ρ : Ren} {m : Nat → Option VObj} {w : World} {t : Fr} {a : Act} {S S1 : VS} {o : Oper} {r : ORes} (h : stepOp P t S o = some (r, S1))
  (ht : FR ρ t a) (hw : WR P B w₀ ρ m w) (hm : Agree S S1 m) : ∃ ρ' w', ρ.le ρ' ∧ RR ρ' r ((execOp a.eval o).run P w) w' ∧ WR P B w₀ ρ' (post m S1) w' := by
 cases hV : viewOf P t S o with
 | none => rw [stepOp_none hV] at h; exact stepOp0_ok hP h ht hw hm
 | some V =>
  have hext := stepOp_ext h
  obtain ⟨hops, k, hk, hkn, hkl, h⟩ := stepOp_view hV h
  obtain ⟨ty, x, i, cap, hop, hx, hb, hu, hs, hi⟩ := viewOf_some hV
  obtain ⟨hr, hl⟩ := viewStep_some h
  obtain ⟨he, hrd, hfr, hpost⟩ := layN_spec hl
  have hbm : m V.b = some (.rows V.n V.size V.row) := by
   rw [hm V.b (.inl (by rw [hrd]; exact List.mem_cons_self)), hb]
  have hm' : Agree { S with rd := V.b :: S.rd } S1 m := hm
  have hpost := hpost m hm'
  obtain ⟨rr, hrr, hat⟩ := hw.rows _ _ _ _ hbm
  have hat := hat (by omega)
  obtain ⟨c', el', fr, h1, h2, h3, h4⟩ := hat.at_
  obtain ⟨h5, h6⟩ := h4 k hkn
  have hwb : w.heap[rr.blk]? = some (.cells c' el' fr) := (hw.below.block _ hat.blk).trans h1
  have hmul : k * V.size + V.size ≤ V.n * V.size := by
   have := Nat.mul_le_mul_right V.size hkn
   rw [Nat.succ_mul] at this
   exact this
  let l' : List Value := (c'.toList.drop (rr.sh + k * V.size)).take V.size
  have hl'len : l'.length = V.size := by simp [l']; omega
  have hsr : SRs P w₀ B (V.row k) l' := ⟨by rw [h5, hl'len], fun j s v hj hv => by
   obtain ⟨v', a1, a2⟩ := h6 j s hj
   have : l'[j]? = some v' := by
    show ((c'.toList.drop (rr.sh + k * V.size)).take V.size)[j]? = _
    have hjs : j < V.size := by rw [← h5]; exact (List.getElem?_eq_some_iff.1 hj).1
    rw [List.getElem?_take, if_pos hjs, List.getElem?_drop]
    simpa using a1
   rw [this] at hv
   cases hv
   exact a2⟩
  have hfree : ∀ j, j < (viewObjs (V.row k) ++ [VObj.cells (viewVals (V.row k) S.next) V.el true]).length → m (S.next + j) = none := fun j hj => by
   obtain ⟨a1, a2⟩ := hfr j hj
   rw [hm _ (.inr a2)]
   exact a1
  obtain ⟨ρ1, g1, g2, g3⟩ := view_ok (k := S.next) hsr hw fun j hj => hfree j (by rw [List.length_append, viewLen_eq]; omega)
  have hlast : updN m S.next (viewObjs (V.row k)) (S.next + viewLen (V.row k)) = none := by
   rw [updN_other (.inr (by rw [viewLen_eq]; exact Nat.le_refl _))]
   exact hfree _ (by rw [List.length_append, viewLen_eq]; simp)
  let R : Where := ⟨rr.blk, rr.sh + k * V.size, V.size, c'.size⟩
  have g4 := g2.addRo (r := R) hlast (c := viewVals (V.row k) S.next) (el := V.el) (fun q hq => by rw [hs] at hq; cases hq; rfl) fun hne =>
   ⟨hat.blk, c', el', fr, hwb, rfl, by show rr.sh + k * V.size + _ ≤ c'.size; rw [g3.len, hl'len]; omega, fun j v hv => by
    obtain ⟨v', b1, b2⟩ := g3.get hv
    refine ⟨v', ?_, b2.mono (Ren.put_le (g2.fresh _ hlast) _)⟩
    have b1 : ((c'.toList.drop (rr.sh + k * V.size)).take V.size)[j]? = some v' := b1
    rw [List.getElem?_take] at b1
    split at b1
    ·rw [List.getElem?_drop] at b1
     simpa using b1
    ·cases b1⟩
  refine ⟨_, w, Ren.le_trans g1 (Ren.put_le (g2.fresh _ hlast) R), ?_, ?_⟩
  ·-- the model's own index
   have hvx : VR ρ (.slice (some ⟨V.b, 0, none⟩) V.len cap) (a.eval x) := by
    rw [← hx]
    exact ht.eval (List.all_eq_true.1 hops x (by rw [hop]; simp [Op.operands]))
   have hvi : VR ρ (evalL t i) (a.eval i) := ht.eval (List.all_eq_true.1 hops i (by rw [hop]; simp [Op.operands]))
   have hij : (indexAddrV P ty (.slice (some ⟨V.b, 0, none⟩) V.len cap) (evalL t i)).run m = some (⟨.val (.pointer (some ⟨V.b, 0 + k * V.size, none⟩)), [], none⟩, []) := by
    unfold indexAddrV
    rw [hu]
    rw [hi] at hk
    simp only [hu, hk, hs, blt_iff.2 hkl]
    rfl
   obtain ⟨ρ2, w2, f1, f2, f3⟩ := (indexAddrV_ok (n := 0) hw hvx hvi hij).ex
   obtain ⟨dst, op, type, pos, after, guard⟩ := o
   dsimp only at hop
   subst hop
   subst hr
   generalize hres : (Sem.run P (do let v ← Instr.indexAt ty (a.eval x) (a.eval i); pure (Next.value v) : Sem Next) w) = res at f2
   cases f2 with
   | val _ v' _ hv =>
    have hw2 : w2 = w := by
     generalize hgx : a.eval x = ax at hvx hres
     generalize hvl : V.len = vl at hvx hkl
     cases hvx with
     | scal _ h => cases h
     | slE => omega
     | sl _ _ _ _ cap' r hr' hc =>
      rw [hi] at hk
      obtain ⟨ik, hik⟩ := nOf_some hk
      rw [hik] at hvi
      rw [hvi.int_inv] at hres
      have : (Instr.indexAt ty (.slice (some ⟨r.blk, r.sh + 0, none⟩) vl cap') (.int ik k)).run P w = .ok (.pointer (some ⟨r.blk, r.sh + 0 + k * V.size, none⟩)) w := by
       unfold Instr.indexAt
       simp only [asIntOf, Sem.run_bind, Sem.run_pure, Result.andThen_ok, run_underlying hu, Instr.sureAddr]
       rw [if_pos ⟨by omega, by omega⟩]
       simp only [Sem.run_bind, run_sizeOf hs, Result.andThen_ok, Sem.run_pure, addr_add0, Int.toNat_natCast]
      rw [Sem.run_bind, this] at hres
      cases hres
      rfl
    subst hw2
    obtain ⟨r, hr2, rfl⟩ := hv.ptr_inv
    rw [f1 _ _ hrr] at hr2
    cases hr2
    have e : (execOp a.eval { dst, op := Op.indexAddr ty x i, type, pos, after, guard }).run P w2 = .ok (.value (.pointer (some ⟨rr.blk, rr.sh + (0 + k * V.size), none⟩))) w2 := hres
    rw [e]
    refine .val _ _ _ ?_
    have := VR.ptr (ρ := ρ1.put (S.next + viewLen (V.row k)) R) (S.next + viewLen (V.row k)) 0 R (Ren.put_same _ _ _)
    simpa [R] using this
  ·have : post m S1 = upd (updN m S.next (viewObjs (V.row k))) (S.next + viewLen (V.row k)) (.cells (viewVals (V.row k) S.next) V.el true) := by
    rw [hpost]
    show updN m S.next _ = _
    rw [updN_append, viewLen_eq]
    rfl
   rw [this]
   exact g4
def CR (ρ : Ren) : CRes → Ending → Prop
 | .ret v, .returned v' => VR ρ v v'
 | .panic v, .panicked chain => ∃ v', chain = [{ v := v', recovered := false }] ∧ VR ρ v v'
 | _, _ => False
structure CallOk (P : Program) (call : CallF) : Prop where
 ext : ∀ {f : FuncId} {args : List Value} {S : VS} {r : CRes} {S' : VS}, call f args S = some (r, S') → Ext S S'
 ok : ∀ {f : FuncId} {args : List Value} {S : VS} {r : CRes} {S' : VS}, call f args S = some (r, S') → ∀ {B : Nat → Prop} {w₀ : World} {ρ : Ren} {m : Nat → Option VObj} {w : World} {args' : Array Value},
  LR ρ args args'.toList → WR P B w₀ ρ m w → Agree S S' m → Calls P f args' w fun e w' => ∃ ρ', ρ.le ρ' ∧ CR ρ' r e ∧ WR P B w₀ ρ' (post m S') w'
theorem opV_ext {call : CallF} (hc : CallOk P call) {ops : List Oper} {o : Oper} {t t1 : Fr} {S S1 : VS} {res : Option Value} (h : opV P call ops o t S = some (res, t1, S1)) : Ext S S1 := by
 unfold opV at h
 split at h
 ·simp only [Option.map_eq_some_iff, Prod.mk.injEq] at h
  obtain ⟨_, _, _, _, rfl⟩ := h
  exact Ext.refl S
 ·split at h
  ·cases h
  ·rename_i r S2 hs
   have e := stepOp_ext hs
   split at h
   ·simp only [Option.map_eq_some_iff, Prod.mk.injEq] at h
    obtain ⟨_, _, _, _, rfl⟩ := h
    exact e
   ·simp only [Option.map_eq_some_iff, Prod.mk.injEq] at h
    obtain ⟨_, _, _, _, rfl⟩ := h
    exact e
   ·simp only [Option.some.injEq, Prod.mk.injEq] at h
    obtain ⟨_, _, rfl⟩ := h
    exact e
   ·cases h
   ·split at h
    ·cases h
    ·rename_i v S3 hcl
     simp only [Option.map_eq_some_iff, Prod.mk.injEq] at h
     obtain ⟨_, _, _, _, rfl⟩ := h
     exact e.trans (hc.ext hcl)
    ·rename_i v S3 hcl
     simp only [Option.some.injEq, Prod.mk.injEq] at h
     obtain ⟨_, _, rfl⟩ := h
     exact e.trans (hc.ext hcl)
theorem callsFF {r : Option Nat} {n : Nat} {f : FuncId} {args : Array Value} {w : World} {R : Ending → World → Prop} (h : Calls P f args w R) : CallsIn (FF r) n P f args w R := (callsIn_wide (n := n)).2 h
theorem stepOp_noDefer {t : Fr} {S : VS} {o : Oper} {q : ORes × VS} (h : stepOp P t S o = some q) : ∀ c, o.op ≠ .defer c := by
 intro c hc
 unfold stepOp viewOf at h
 rw [hc] at h
 simp only at h
 unfold stepOp0 ev evK at h
 rw [hc] at h
 simp only [Rd.run] at h
 split at h <;> cases h
theorem opV_ok (hP : plainNames P = true) {call : CallF} (hc : CallOk P call) {ops : Array Oper} {i : Nat} {o : Oper} (ho : ops[i]? = some o) {t t1 : Fr} {S S1 : VS} {res : Option Value}
  (h : opV P call ops.toList o t S = some (res, t1, S1)) {ρ : Ren} {m : Nat → Option VObj} {w : World} {a : Act} (ht : FR ρ t a) (hw : WR P B w₀ ρ m w) (hm : Agree S S1 m)
  {r : Option Nat} {K : Act → World → Prop} {Q : Exit → Act → World → Prop}
  (hK : res = none → ∀ (ρ' : Ren) (a' : Act) (w' : World), ρ.le ρ' → FR ρ' t1 a' → (∃ v, a' = a.put o.dst v) → WR P B w₀ ρ' (post m S1) w' → K a' w')
  (hQ : ∀ v, res = some v → ∀ (ρ' : Ren) (v' : Value) (w' : World), ρ.le ρ' → VR ρ' v v' → FR ρ' t1 a → WR P B w₀ ρ' (post m S1) w' → Q (.panic [{ v := v', recovered := false }]) a w') :
  wpOpIn (FF r) 0 P ops Q i K a w := by
 unfold wpOpIn
 simp only [ho]
 unfold opV at h
 rw [yielded_eq ht] at h
 split at h
 ·rename_i hwant
  simp only [Option.map_eq_some_iff, Prod.mk.injEq] at h
  obtain ⟨t2, hp, rfl, rfl, rfl⟩ := h
  simp only [hwant, Bool.false_eq_true, if_false]
  have hpost : post m S = m := post_self hm
  exact ⟨fun _ _ => trivial, hK rfl ρ _ w (Ren.le_refl ρ) (ht.put (VR.undef ρ) hp) ⟨_, rfl⟩ (by rw [hpost]; exact hw)⟩
 ·rename_i hwant
  simp only [hwant, if_true]
  unfold Oper.wpIn
  refine ⟨fun _ _ => trivial, ?_⟩
  split at h
  ·cases h
  ·rename_i r S2 hs
   rw [Oper.semAt_eq _ _ _ (stepOp_noDefer hs)]
   have e := stepOp_ext hs
   split at h
   ·rename_i v
    simp only [Option.map_eq_some_iff, Prod.mk.injEq] at h
    obtain ⟨t2, hp, rfl, rfl, rfl⟩ := h
    obtain ⟨ρ', w', h1, h2, h3⟩ := stepOp_ok hP hs ht hw hm
    generalize (execOp a.eval o).run P w = q at h2
    cases h2 with
    | val _ v' _ hv => exact hK rfl ρ' _ w' h1 ((ht.mono h1).put hv hp) ⟨_, rfl⟩ h3
   ·simp only [Option.map_eq_some_iff, Prod.mk.injEq] at h
    obtain ⟨t2, hp, rfl, rfl, rfl⟩ := h
    obtain ⟨ρ', w', h1, h2, h3⟩ := stepOp_ok hP hs ht hw hm
    generalize (execOp a.eval o).run P w = q at h2
    cases h2 with
    | skip => exact hK rfl ρ' _ w' h1 ((ht.mono h1).put (VR.undef ρ') hp) ⟨_, rfl⟩ h3
   ·rename_i v
    simp only [Option.some.injEq, Prod.mk.injEq] at h
    obtain ⟨rfl, rfl, rfl⟩ := h
    obtain ⟨ρ', w', h1, h2, h3⟩ := stepOp_ok hP hs ht hw hm
    generalize (execOp a.eval o).run P w = q at h2
    cases h2 with
    | panic _ v' _ hv => exact hQ v rfl ρ' v' w' h1 hv (ht.mono h1) h3
   ·cases h
   ·rename_i f args
    split at h
    ·cases h
    ·rename_i v S3 hcl
     simp only [Option.map_eq_some_iff, Prod.mk.injEq] at h
     obtain ⟨t2, hp, rfl, rfl, rfl⟩ := h
     have e2 := hc.ext hcl
     obtain ⟨ρ', w', h1, h2, h3⟩ := stepOp_ok hP hs ht hw (hm.first e2)
     generalize (execOp a.eval o).run P w = q at h2
     cases h2 with
     | enter _ _ args' _ ha =>
      refine ⟨(fun hh => by cases hh), (callsFF (hc.ok hcl ha h3 (hm.next e))).mono fun en w'' hen => ?_⟩
      obtain ⟨ρ2, h4, h5, h6⟩ := hen
      rw [post_post e2] at h6
      cases en with
      | returned v' => exact hK rfl ρ2 _ w'' (Ren.le_trans h1 h4) ((ht.mono (Ren.le_trans h1 h4)).put h5 hp) ⟨_, rfl⟩ h6
      | panicked chain => cases h5
      | outgrown => cases h5
    ·rename_i v S3 hcl
     simp only [Option.some.injEq, Prod.mk.injEq] at h
     obtain ⟨rfl, rfl, rfl⟩ := h
     have e2 := hc.ext hcl
     obtain ⟨ρ', w', h1, h2, h3⟩ := stepOp_ok hP hs ht hw (hm.first e2)
     generalize (execOp a.eval o).run P w = q at h2
     cases h2 with
     | enter _ _ args' _ ha =>
      refine ⟨(fun hh => by cases hh), (callsFF (hc.ok hcl ha h3 (hm.next e))).mono fun en w'' hen => ?_⟩
      obtain ⟨ρ2, h4, h5, h6⟩ := hen
      rw [post_post e2] at h6
      cases en with
      | returned v' => cases h5
      | panicked chain =>
       obtain ⟨v', rfl, hv⟩ := h5
       exact hQ v rfl ρ2 v' w'' (Ren.le_trans h1 h4) hv (ht.mono (Ren.le_trans h1 h4)) h6
      | outgrown => cases h5
end
end Go.Proofs.YtgepfmamfdmclaaGreatDoor.Vm
namespace Go.Proofs.YtgepfmamfdmclaaGreatDoor.Vm
open Go.RowKit
section
variable {P : Program} {B : Nat → Prop} {w₀ : World}
theorem map_congr_e {e e' : Operand → Value} {l : List Operand} (h : ∀ x ∈ l, e x = e' x) : l.map e = l.map e' := List.map_congr_left h
theorem pairs_congr {e e' : Operand → Value} {l : List (Nat × Operand)} (h : ∀ x ∈ l, e x.2 = e' x.2) : (l.map fun (i, x) => (i, e x)) = l.map fun (i, x) => (i, e' x) :=
 List.map_congr_left fun x hx => by obtain ⟨i, y⟩ := x; exact congrArg (Prod.mk i) (h _ hx)
theorem opt_congr {e e' : Operand → Value} {o : Option Operand} (h : ∀ x, o = some x → e x = e' x) : o.map e = o.map e' := by
 cases o with
 | none => rfl
 | some x => simp [h x rfl]
theorem ev_congr {e e' : Operand → Value} {n : Nat} {o : Oper} (h : ∀ x ∈ o.op.operands, e x = e' x) : ev P e n o = ev P e' n o := by
 obtain ⟨dst, op, type, pos, after, guard⟩ := o
 cases op <;> simp only [Op.operands] at h <;> simp only [ev, evK]
 case move x => rw [h x (by simp)]
 case assign x => rw [h x (by simp)]
 case pick c a b => rw [h c (by simp), h a (by simp), h b (by simp)]
 case box t x => rw [h x (by simp)]
 case build t parts => rw [pairs_congr fun x hx => h x.2 (by simp only [List.mem_toArray, List.mem_map]; exact ⟨x, hx, rfl⟩)]
 case buildSlice t len parts => rw [pairs_congr fun x hx => h x.2 (by simp only [List.mem_toArray, List.mem_map]; exact ⟨x, hx, rfl⟩)]
 case insert t m k x => rw [h m (by simp), h k (by simp), h x (by simp)]
 case load t a => rw [h a (by simp)]
 case store t a x => rw [h a (by simp), h x (by simp)]
 case nilCheck x => rw [h x (by simp)]
 case binOp op t x y yt => rw [h x (by simp), h y (by simp)]
 case unOp op t x => rw [h x (by simp)]
 case convert src dst x => rw [h x (by simp)]
 case makeInterface t x => rw [h x (by simp)]
 case makeFunc fn first captured =>
  rw [map_congr_e (l := first.toList) fun x hx => h x (Array.mem_append.2 (.inl (Array.mem_toList_iff.1 hx))), map_congr_e (l := captured.toList) fun x hx => h x (Array.mem_append.2 (.inr (Array.mem_toList_iff.1 hx)))]
 case makeMap t r => rw [opt_congr fun y hy => h y (by subst hy; simp)]
 case makeSlice t a b => rw [h a (by simp), h b (by simp)]
 case slice t x lo hi mx => rw [h x (by simp), opt_congr (o := lo) fun y hy => h y (by subst hy; simp), opt_congr (o := hi) fun y hy => h y (by subst hy; simp), opt_congr (o := mx) fun y hy => h y (by subst hy; simp)]
 case fieldAddr s x i => rw [h x (by simp)]
 case field s x i => rw [h x (by simp)]
 case indexAddr t x i => rw [h x (by simp), h i (by simp)]
 case index t x i => rw [h x (by simp), h i (by simp)]
 case lookup t x k ok => rw [h x (by simp), h k (by simp)]
 case mapUpdate t m k x => rw [h m (by simp), h k (by simp), h x (by simp)]
 case typeAssert x xt at_ ok => rw [h x (by simp)]
 case extract t i => rw [h t (by simp)]
 case panic x => rw [h x (by simp)]
 case call c =>
  have ha : c.args.toList.map e = c.args.toList.map e' := map_congr_e fun x hx => h x (by unfold Call.operands; exact Array.mem_append.2 (.inr (Array.mem_toList_iff.1 hx)))
  unfold callV
  rw [ha]
  split
  ·rfl
  ·rename_i recv name hb; rw [h recv (by unfold Call.operands; rw [hb]; simp)]
  ·rename_i f hb; rw [h f (by unfold Call.operands; rw [hb]; simp)]
theorem looks_op {ops : Array Oper} {o : Oper} {t : Nat} (h : Operand.tmp t ∈ o.op.operands) : t ∈ o.looksAt ops := by
 unfold Oper.looksAt
 refine List.mem_append_left _ (List.mem_filterMap.2 ⟨.tmp t, Array.mem_toList_iff.2 h, rfl⟩)
theorem stepOp_congr {t t' : Fr} {S : VS} {o : Oper} {ops : Array Oper} (h : ∀ s ∈ o.looksAt ops, t'.at s = t.at s) : stepOp P t' S o = stepOp P t S o := by
 have hev : ∀ x ∈ o.op.operands, evalL t' x = evalL t x := fun x hx => by
  cases x with
  | tmp s => exact h s (looks_op hx)
  | _ => rfl
 have hv : viewOf P t' S o = viewOf P t S o := by
  unfold viewOf
  cases hop : o.op with
  | indexAddr ty x i =>
   dsimp only
   rw [hev x (by rw [hop]; simp [Op.operands]), hev i (by rw [hop]; simp [Op.operands])]
  | _ => rfl
 unfold stepOp
 rw [hv]
 split
 ·rfl
 unfold stepOp0
 rw [ev_congr (e := evalL t') (e' := evalL t) fun x hx => by
  cases x with
  | tmp s => exact h s (looks_op hx)
  | _ => rfl]
theorem wanted_congr {t t' : Fr} {o : Oper} {ops : Array Oper} (h : ∀ s ∈ o.looksAt ops, t'.at s = t.at s) : Region.wanted o (yieldedL ops.toList t') = Region.wanted o (yieldedL ops.toList t) := by
 unfold Region.wanted
 cases hg : o.guard with
 | none => rfl
 | some p =>
  obtain ⟨j, b⟩ := p
  have : yieldedL ops.toList t' j = yieldedL ops.toList t j := by
   unfold yieldedL
   rw [Array.getElem?_toList]
   cases hd : (ops[j]?).bind (·.dst) with
   | none => rfl
   | some d =>
    have : d ∈ o.looksAt ops := by
     unfold Oper.looksAt
     refine List.mem_append_right _ ?_
     rw [hg]
     show d ∈ ((ops[j]?).bind (·.dst)).toList
     rw [hd]; simp
    dsimp only
    rw [h d this]
  simp only [this]
theorem put_congr {t t' t1 : Fr} {d : Option Tmp} {v : Value} (hn : t'.n = t.n) (h : Vm.put t d v = some t1) : ∃ t1', Vm.put t' d v = some t1' := by
 cases d with
 | none => exact ⟨t', rfl⟩
 | some d =>
  simp only [Vm.put, Fr.set_eq] at h ⊢
  rw [hn]
  split at h
  ·rename_i hlt; first | exact ⟨_, rfl⟩ | (rw [hlt]; exact ⟨_, rfl⟩)
  ·cases h
theorem opV_congr {call : CallF} {ops : Array Oper} {o : Oper} {t t' t1 : Fr} {S S1 : VS} (h : opV P call ops.toList o t S = some (none, t1, S1)) (hl : ∀ s ∈ o.looksAt ops, t'.at s = t.at s) (hn : t'.n = t.n) :
  ∃ v t1', Vm.put t o.dst v = some t1 ∧ Vm.put t' o.dst v = some t1' ∧ opV P call ops.toList o t' S = some (none, t1', S1) := by
 unfold opV at h ⊢
 rw [wanted_congr hl, stepOp_congr hl]
 split at h
 ·rename_i hw
  simp only [Option.map_eq_some_iff, Prod.mk.injEq] at h
  obtain ⟨t2, hp, _, rfl, rfl⟩ := h
  obtain ⟨t1', hp'⟩ := put_congr hn hp
  exact ⟨_, t1', hp, hp', by simp only [hp', Option.map_some]⟩
 ·rename_i hw
  cases hs : stepOp P t S o with
  | none => rw [hs] at h; cases h
  | some q =>
   obtain ⟨r, S2⟩ := q
   rw [hs] at h
   simp only [] at h ⊢
   cases r with
   | val v =>
    simp only [Option.map_eq_some_iff, Prod.mk.injEq] at h
    obtain ⟨t2, hp, _, rfl, rfl⟩ := h
    obtain ⟨t1', hp'⟩ := put_congr hn hp
    exact ⟨_, t1', hp, hp', by simp only [hp', Option.map_some]⟩
   | skip =>
    simp only [Option.map_eq_some_iff, Prod.mk.injEq] at h
    obtain ⟨t2, hp, _, rfl, rfl⟩ := h
    obtain ⟨t1', hp'⟩ := put_congr hn hp
    exact ⟨_, t1', hp, hp', by simp only [hp', Option.map_some]⟩
   | panic v => simp at h
   | defer d => cases h
   | enter f args =>
    simp only [] at h ⊢
    cases hc : call f args S2 with
    | none => rw [hc] at h; cases h
    | some q2 =>
     obtain ⟨cr, S3⟩ := q2
     rw [hc] at h
     cases cr with
     | ret v =>
      simp only [Option.map_eq_some_iff, Prod.mk.injEq] at h
      obtain ⟨t2, hp, _, rfl, rfl⟩ := h
      obtain ⟨t1', hp'⟩ := put_congr hn hp
      exact ⟨_, t1', hp, hp', by simp only [hp', Option.map_some]⟩
     | panic v => simp at h
theorem put_at {t t1 : Fr} {d : Option Tmp} {v : Value} (hs : t.n ≤ 1024) (h : Vm.put t d v = some t1) : t1.n = t.n ∧ ∀ s, t1.at s = if d = some s then v else t.at s := by
 cases d with
 | none => cases h; exact ⟨rfl, fun s => by simp⟩
 | some d =>
  simp only [Vm.put, Fr.set_eq] at h
  split at h
  ·rename_i hlt
   cases h
   have hlt := blt_iff.1 hlt
   refine ⟨rfl, fun s => ?_⟩
   unfold Fr.at
   dsimp only
   by_cases hsn : s < t.n
   ·rw [blt_iff.2 hsn]
    dsimp only
    have h10 : (2 : Nat) ^ 10 = 1024 := rfl
    rw [Tr.get_set 10 _ _ _ _ (by omega) (by omega)]
    by_cases hsd : s = d
    ·subst hsd; simp
    ·have : ¬ (some d = some s) := fun e => hsd (by cases e; rfl)
     rw [if_neg hsd, if_neg this]
   ·have hb : Nat.blt s t.n = false := by cases hb : Nat.blt s t.n with
     | false => rfl
     | true => exact absurd (blt_iff.1 hb) hsn
    rw [hb]
    dsimp only
    have : ¬ (some d = some s) := fun e => hsn (by cases e; exact hlt)
    rw [if_neg this]
  ·cases h
end
section
variable {X V : Type}
def st (W : Nat → X → Option V) (init : X → V) (D : Nat → Bool) : Nat → X → V
 | 0, x => init x
 | k + 1, x => if D k then (W k x).getD (st W init D k x) else st W init D k x
theorem st_succ (W : Nat → X → Option V) (init : X → V) (D : Nat → Bool) (k : Nat) (x : X) : st W init D (k + 1) x = if D k then (W k x).getD (st W init D k x) else st W init D k x := rfl
theorem st_before {W : Nat → X → Option V} {init : X → V} {D : Nat → Bool} {i n : Nat} {x : X} (hin : i ≤ n) (hi : D i = false)
    (h1 : ∀ k, k < i → D k = false → W k x = none) (h2 : ∀ k, i < k → k < n → D k = true → W k x = none) : st W init D n x = st W init (fun _ => true) i x := by
  have a : ∀ k, k ≤ i → st W init D k x = st W init (fun _ => true) k x := by
    intro k
    induction k with
    | zero => intro _; rfl
    | succ k ih =>
      intro hk
      rw [st_succ, st_succ, ih (by omega)]
      cases hd : D k with
      | true => rfl
      | false => rw [h1 k (by omega) hd]; simp
  have b : ∀ k, i ≤ k → k ≤ n → st W init D k x = st W init D i x := by
    intro k
    induction k with
    | zero => intro h _; have : i = 0 := by omega
              subst this; rfl
    | succ k ih =>
      intro hk hn
      by_cases e : i = k + 1
      · subst e; rfl
      · rw [st_succ, ih (by omega) (by omega)]
        cases hd : D k with
        | false => simp
        | true =>
          by_cases ek : k = i
          · subst ek; rw [hi] at hd; cases hd
          · rw [h2 k (by omega) (by omega) hd]; simp
  rw [b n hin (Nat.le_refl n), a i (Nat.le_refl i)]
theorem st_after {W : Nat → X → Option V} {init : X → V} {D : Nat → Bool} {i n : Nat} {x : X} (hin : i < n) (hi : D i = false)
  (h2 : ∀ k, i < k → k < n → D k = true → W i x ≠ none → W k x = none) : st W init (fun k => D k || decide (k = i)) n x = (W i x).getD (st W init D n x) := by
 have a : ∀ k, k ≤ i → st W init (fun k => D k || decide (k = i)) k x = st W init D k x := by
  intro k
  induction k with
  | zero => intro _; rfl
  | succ k ih =>
   intro hk
   have : decide (k = i) = false := by simp; omega
   rw [st_succ, st_succ, ih (by omega), this, Bool.or_false]
 cases hw : W i x with
 | none =>
  have b : ∀ k, i ≤ k → st W init (fun k => D k || decide (k = i)) k x = st W init D k x := by
   intro k
   induction k with
   | zero => intro h; exact a 0 (by omega)
   | succ k ih =>
    intro hk
    by_cases e : i = k + 1
    ·exact a (k + 1) (by omega)
    ·have e1 := st_succ W init (fun k => D k || decide (k = i)) k x
     have e2 := st_succ W init D k x
     rw [e1, e2, ih (by omega)]
     by_cases ek : k = i
     ·subst ek; rw [hw, hi]; simp
     ·have : decide (k = i) = false := by simp [ek]
      rw [this, Bool.or_false]
  rw [b n (by omega)]; rfl
 | some v =>
  have b : ∀ k, i < k → k ≤ n → st W init (fun k => D k || decide (k = i)) k x = v := by
   intro k
   induction k with
   | zero => intro h; omega
   | succ k ih =>
    intro hk hn
    rw [st_succ]
    by_cases ek : k = i
    ·subst ek; rw [hw]; simp
    ·have hd : decide (k = i) = false := by simp [ek]
     rw [ih (by omega) (by omega), hd, Bool.or_false]
     cases hdk : D k with
     | false => simp
     | true => rw [h2 k (by omega) (by omega) hdk (by rw [hw]; simp)]; simp
  rw [b n hin (Nat.le_refl n)]; rfl
end
theorem bit_iff (m k : Nat) : Nat.beq (Nat.land (Nat.shiftRight m k) 1) 1 = m.testBit k := by
 have h1 : Nat.land (Nat.shiftRight m k) 1 = (m >>> k) % 2 := Nat.and_one_is_mod (m >>> k)
 rw [h1]
 have h2 : m.testBit k = ((m >>> k) % 2 == 1) := by
  rw [Nat.testBit, Nat.one_and_eq_mod_two]
  have : (m >>> k) % 2 = 0 ∨ (m >>> k) % 2 = 1 := by omega
  rcases this with h | h <;> rw [h] <;> rfl
 rw [h2]
 have : (m >>> k) % 2 = 0 ∨ (m >>> k) % 2 = 1 := by omega
 rcases this with h | h <;> rw [h] <;> rfl
theorem edgeBits_spec : ∀ {l : List Edge} {i : Nat}, (edgeBits l).testBit i = true → ∃ e ∈ l, Region.binds .any e = true ∧ e.on = i
 | [], i, h => by simp [edgeBits] at h
 | e :: l, i, h => by
  unfold edgeBits at h
  split at h
  ·rename_i hb
   have : Nat.lor (Nat.shiftLeft 1 e.on) (edgeBits l) = (1 <<< e.on) ||| edgeBits l := rfl
   rw [this, Nat.testBit_or, Bool.or_eq_true] at h
   rcases h with h | h
   ·refine ⟨e, by simp, hb, ?_⟩
    rw [Nat.one_shiftLeft, Nat.testBit_two_pow] at h
    simpa using h
   ·obtain ⟨e', h1, h2, h3⟩ := edgeBits_spec h
    exact ⟨e', by simp [h1], h2, h3⟩
  ·obtain ⟨e', h1, h2, h3⟩ := edgeBits_spec h
   exact ⟨e', by simp [h1], h2, h3⟩
theorem closeBits_spec (m : Nat) : ∀ {k : Nat} {bs : List Nat} {i : Nat}, bs.length = k → (closeBits m k bs).testBit i = true → ∃ q b, q < k ∧ m.testBit q = true ∧ bs[k - 1 - q]? = some b ∧ b.testBit i = true
 | 0, bs, i, hl, h => by simp [closeBits] at h
 | k + 1, [], i, hl, h => by simp at hl
 | k + 1, b :: bs, i, hl, h => by
  have hl' : bs.length = k := by simpa using hl
  unfold closeBits at h
  have rest : (closeBits m k bs).testBit i = true → ∃ q b', q < k + 1 ∧ m.testBit q = true ∧ (b :: bs)[k + 1 - 1 - q]? = some b' ∧ b'.testBit i = true := by
   intro h
   obtain ⟨q, b', h1, h2, h3, h4⟩ := closeBits_spec m hl' h
   exact ⟨q, b', by omega, h2, by rw [show k + 1 - 1 - q = (k - 1 - q) + 1 by omega]; simpa using h3, h4⟩
  split at h
  ·rename_i hb
   rw [bit_iff] at hb
   have : Nat.lor b (closeBits m k bs) = b ||| closeBits m k bs := rfl
   rw [this, Nat.testBit_or, Bool.or_eq_true] at h
   rcases h with h | h
   ·exact ⟨k, b, by omega, hb, by simp, h⟩
   ·exact rest h
  ·exact rest h
def Cl (ops : List Oper) (D : Nat → Bool) : Prop := ∀ (j : Nat) (o : Oper), ops[j]? = some o → D j = true → ∀ e ∈ o.after, Region.binds .any e = true → D e.on = true
theorem masksFrom_spec {all : List Oper} {D : Nat → Bool} (hD : Cl all D) : ∀ {l : List Oper} {k : Nat} {bs : List Nat}, bs.length = k → all.drop k = l →
  (∀ (q b : Nat) (o : Oper), q < k → bs[k - 1 - q]? = some b → all[q]? = some o → (∀ e ∈ o.after, Region.binds .any e = true → D e.on = true) → ∀ i, b.testBit i = true → D i = true) →
  ∀ (j m : Nat) (o : Oper), (masksFrom k bs l)[j]? = some m → all[k + j]? = some o → (∀ e ∈ o.after, Region.binds .any e = true → D e.on = true) → ∀ i, m.testBit i = true → D i = true
 | [], k, bs, hk, hl, hb, j, m, o, h, _, _, _, _ => by simp [masksFrom] at h
 | o1 :: l, k, bs, hk, hl, hb, j, m, o, h, ho, he, i, hi => by
  have ho1 : all[k]? = some o1 := by
   have := congrArg (fun l => l[0]?) hl
   simpa using this
  have key : ∀ (o : Oper), all[k]? = some o → (∀ e ∈ o.after, Region.binds .any e = true → D e.on = true) → ∀ i, (Nat.lor (edgeBits o1.after.toList) (closeBits (edgeBits o1.after.toList) k bs)).testBit i = true → D i = true := by
   intro o ho he i hi
   rw [ho1] at ho
   cases ho
   have : Nat.lor (edgeBits o1.after.toList) (closeBits (edgeBits o1.after.toList) k bs) = edgeBits o1.after.toList ||| closeBits (edgeBits o1.after.toList) k bs := rfl
   rw [this, Nat.testBit_or, Bool.or_eq_true] at hi
   have direct : ∀ q, (edgeBits o1.after.toList).testBit q = true → D q = true := by
    intro q hq
    obtain ⟨e, h1, h2, h3⟩ := edgeBits_spec hq
    have := he e (Array.mem_toList_iff.1 h1) h2
    rwa [h3] at this
   rcases hi with hi | hi
   ·exact direct i hi
   ·obtain ⟨q, b, h1, h2, h3, h4⟩ := closeBits_spec _ hk hi
    have hql : q < all.length := by
     have : k < all.length := (List.getElem?_eq_some_iff.1 ho1).1
     omega
    exact hb q b _ h1 h3 (List.getElem?_eq_getElem hql) (hD q _ (List.getElem?_eq_getElem hql) (direct q h2)) i h4
  have e0 : masksFrom k bs (o1 :: l) = Nat.lor (edgeBits o1.after.toList) (closeBits (edgeBits o1.after.toList) k bs) :: masksFrom (k + 1) (Nat.lor (edgeBits o1.after.toList) (closeBits (edgeBits o1.after.toList) k bs) :: bs) l := rfl
  rw [e0] at h
  cases j with
  | zero =>
   simp only [List.getElem?_cons_zero, Option.some.injEq] at h
   subst h
   exact key o (by simpa using ho) he i hi
  | succ j =>
   simp only [List.getElem?_cons_succ] at h
   refine masksFrom_spec hD (l := l) (k := k + 1) (by simp [hk]) ?_ ?_ j m o h (by rw [show k + 1 + j = k + (j + 1) by omega]; exact ho) he i hi
   ·have := congrArg List.tail hl
    simpa [List.tail_drop] using this
   ·intro q b o hq hbq hoq heq i hi
    by_cases e : q = k
    ·subst e
     simp at hbq
     subst hbq
     exact key o hoq heq i hi
    ·rw [show k + 1 - 1 - q = (k - 1 - q) + 1 by omega] at hbq
     simp only [List.getElem?_cons_succ] at hbq
     exact hb q b o (by omega) hbq hoq heq i hi
theorem masks_spec {ops : Array Oper} {D : Nat → Bool} (hD : Cl ops.toList D) {j m : Nat} {o : Oper} (h : (masks ops)[j]? = some m) (ho : ops.toList[j]? = some o)
  (he : ∀ e ∈ o.after, Region.binds .any e = true → D e.on = true) {i : Nat} (hi : m.testBit i = true) : D i = true :=
 masksFrom_spec hD (l := ops.toList) (k := 0) (bs := []) rfl rfl (fun q b o hq => by omega) j m o h (by simpa using ho) he i hi
end Go.Proofs.YtgepfmamfdmclaaGreatDoor.Vm
namespace Go.Proofs.YtgepfmamfdmclaaGreatDoor.Vm
open Go.RowKit
theorem masks_length {ops : Array Oper} : (masks ops).length = ops.size := by
 have : ∀ (l : List Oper) (k : Nat) (bs : List Nat), (masksFrom k bs l).length = l.length := by
  intro l
  induction l with
  | nil => intro k bs; rfl
  | cons o l ih => intro k bs; simp only [masksFrom, List.length_cons, ih]
 unfold masks
 rw [this]
 simp
theorem statFrom_spec {ops : Array Oper} : ∀ {ps : List Oper} {ms : List Nat} {j : Nat} {prev : List (Nat × Oper)}, statFrom ops j prev ms ps = true →
  ∀ (q m : Nat) (p : Oper), ms[q]? = some m → ps[q]? = some p →
   (∀ e ∈ p.after, Region.binds .any e = true → e.on < j + q) ∧ (∀ x ∈ prev, m.testBit x.1 = true ∨ x.2.apart ops p = true) ∧
   (∀ (r : Nat) (o : Oper), r < q → ps[r]? = some o → m.testBit (j + r) = true ∨ o.apart ops p = true)
 | [], ms, j, prev, h, q, m, p, hm, hp => by simp at hp
 | p0 :: ps, [], j, prev, h, q, m, p, hm, hp => by simp at hm
 | p0 :: ps, m0 :: ms, j, prev, h, q, m, p, hm, hp => by
  simp only [statFrom, Bool.and_eq_true] at h
  obtain ⟨⟨h1, h2⟩, h3⟩ := h
  cases q with
  | zero =>
   simp only [List.getElem?_cons_zero, Option.some.injEq] at hm hp
   subst hm hp
   refine ⟨fun e he hb => ?_, fun x hx => ?_, fun r o hr => by omega⟩
   ·have := List.all_eq_true.1 h1 e (Array.mem_toList_iff.2 he)
    rw [hb] at this
    simpa using blt_iff.1 (by simpa using this)
   ·have := List.all_eq_true.1 h2 x hx
    rw [bit_iff, Bool.or_eq_true] at this
    exact this
  | succ q =>
   simp only [List.getElem?_cons_succ] at hm hp
   obtain ⟨h4, h5, h6⟩ := statFrom_spec h3 q m p hm hp
   refine ⟨fun e he hb => by have := h4 e he hb; omega, fun x hx => h5 x (by simp [hx]), fun r o hr ho => ?_⟩
   cases r with
   | zero =>
    simp only [List.getElem?_cons_zero, Option.some.injEq] at ho
    subst ho
    simpa using h5 (j, p0) (by simp)
   | succ r =>
    simp only [List.getElem?_cons_succ] at ho
    have := h6 r o (by omega) ho
    rwa [show j + 1 + r = j + (r + 1) by omega] at this
theorem feet_mem : ∀ {ms : List Nat} {fs : List Fp} {k j m : Nat} {f : Fp}, ms[j]? = some m → fs[j]? = some f → (f.rd ≠ [] ∨ f.wr ≠ []) → (⟨k + j, m, f⟩ : Foot) ∈ feet k ms fs
 | [], fs, k, j, m, f, hm, _, _ => by simp at hm
 | m0 :: ms, [], k, j, m, f, _, hf, _ => by simp at hf
 | m0 :: ms, f0 :: fs, k, j, m, f, hm, hf, hne => by
  cases j with
  | zero =>
   simp only [List.getElem?_cons_zero, Option.some.injEq] at hm hf
   subst hm hf
   unfold feet
   split
   ·rename_i h1 h2; rcases hne with h | h
    ·exact absurd h1 h
    ·exact absurd h2 h
   ·simp
  | succ j =>
   simp only [List.getElem?_cons_succ] at hm hf
   have := feet_mem (k := k + 1) hm hf hne
   rw [show k + 1 + j = k + (j + 1) by omega] at this
   unfold feet
   split
   ·exact this
   ·exact List.mem_cons_of_mem _ this
theorem disj_spec {a b : List Nat} (h : disj a b = true) {x : Nat} (ha : x ∈ a) (hb : x ∈ b) : False := by
 have := List.all_eq_true.1 h x ha
 simp at this
 exact this hb
theorem apart_spec : ∀ {ms : List Nat} {fs : List Fp} {k : Nat}, apartAll (feet k ms fs) = true → ∀ (i j m : Nat) (f g : Fp), i < j → ms[j]? = some m → fs[i]? = some f → fs[j]? = some g →
  (ms[i]?).isSome = true → m.testBit (k + i) = true ∨ ((∀ x, x ∈ f.wr → x ∉ g.rd ∧ x ∉ g.wr) ∧ ∀ x, x ∈ g.wr → x ∉ f.rd)
 | [], fs, k, h, i, j, m, f, g, hij, hm, hf, hg, hi => by simp at hm
 | m0 :: ms, [], k, h, i, j, m, f, g, hij, hm, hf, hg, hi => by simp at hf
 | m0 :: ms, f0 :: fs, k, h, i, j, m, f, g, hij, hm, hf, hg, hi => by
  have rest : apartAll (feet (k + 1) ms fs) = true := by
   unfold feet at h
   split at h
   ·exact h
   ·simp only [apartAll, Bool.and_eq_true] at h; exact h.2
  cases j with
  | zero => omega
  | succ j =>
   simp only [List.getElem?_cons_succ] at hm hg
   cases i with
   | succ i =>
    simp only [List.getElem?_cons_succ] at hf hi
    have := apart_spec rest i j m f g (by omega) hm hf hg hi
    rwa [show k + 1 + i = k + (i + 1) by omega] at this
   | zero =>
    simp only [List.getElem?_cons_zero, Option.some.injEq] at hf
    subst hf
    by_cases hfe : f0.rd = [] ∧ f0.wr = []
    ·right
     refine ⟨fun x hx => ?_, fun x _ => ?_⟩
     ·rw [hfe.2] at hx; cases hx
     ·rw [hfe.1]; simp
    ·by_cases hge : g.rd = [] ∧ g.wr = []
     ·right
      refine ⟨fun x _ => ?_, fun x hx => ?_⟩
      ·rw [hge.1, hge.2]; simp
      ·rw [hge.2] at hx; cases hx
     ·have hgne : g.rd ≠ [] ∨ g.wr ≠ [] := by
       by_cases h1 : g.rd = []
       ·exact .inr fun h2 => hge ⟨h1, h2⟩
       ·exact .inl h1
      have hmem := feet_mem (k := k + 1) hm hg hgne
      unfold feet at h
      split at h
      ·rename_i h1 h2; exact absurd ⟨h1, h2⟩ hfe
      ·simp only [apartAll, Bool.and_eq_true] at h
       have := List.all_eq_true.1 h.1 _ hmem
       simp only [Bool.or_eq_true] at this
       rcases this with this | this
       ·left; rw [bit_iff] at this; exact this
       ·right
        simp only [pairOk, Bool.and_eq_true] at this
        obtain ⟨⟨h1, h2⟩, h3⟩ := this
        exact ⟨fun x hx => ⟨fun hh => disj_spec h1 hx hh, fun hh => disj_spec h2 hx hh⟩, fun x hx hh => disj_spec h3 hx hh⟩
abbrev reset (S : VS) : VS := { S with rd := [], wr := [] }
structure Trace (P : Program) (call : CallF) (ops rest : List Oper) (t : Fr) (S : VS) (t1 : Fr) (S1 : VS) (fps : List Fp) (T : Nat → Fr) (G Bf : Nat → VS) : Prop where
 t0 : T 0 = t
 s0 : G 0 = S
 tn : T rest.length = t1
 sn : G rest.length = S1
 len : fps.length = rest.length
 step : ∀ (j : Nat) (o : Oper), rest[j]? = some o → opV P call ops o (T j) (reset (G j)) = some (none, T (j + 1), Bf j) ∧ G (j + 1) = { Bf j with rd := (Bf j).rd ++ (G j).rd, wr := (Bf j).wr ++ (G j).wr } ∧
  fps[j]? = some ⟨(Bf j).rd, (Bf j).wr⟩
theorem drawV_trace {P : Program} {call : CallF} {ops : List Oper} : ∀ {rest : List Oper} {t t1 : Fr} {S S1 : VS} {fps : List Fp}, drawV P call ops rest t S = some (t1, S1, fps) →
  ∃ T G Bf, Trace P call ops rest t S t1 S1 fps T G Bf
 | [], t, t1, S, S1, fps, h => by
  simp only [drawV, Option.some.injEq, Prod.mk.injEq] at h
  obtain ⟨rfl, rfl, rfl⟩ := h
  exact ⟨fun _ => t, fun _ => S, fun _ => S, rfl, rfl, rfl, rfl, rfl, fun j o h => by simp at h⟩
 | o :: rest, t, t1, S, S1, fps, h => by
  unfold drawV at h
  split at h
  ·rename_i t2 S2 hop
   split at h
   ·rename_i t3 S3 fps2 hd
    simp only [Option.some.injEq, Prod.mk.injEq] at h
    obtain ⟨rfl, rfl, rfl⟩ := h
    obtain ⟨T, G, Bf, h0, h1, h2, h3, h4, h5⟩ := drawV_trace hd
    refine ⟨fun j => match j with | 0 => t | j + 1 => T j, fun j => match j with | 0 => S | j + 1 => G j, fun j => match j with | 0 => S2 | j + 1 => Bf j, rfl, rfl, h2, h3, by simp [h4], fun j p hp => ?_⟩
    cases j with
    | zero =>
     simp only [List.getElem?_cons_zero, Option.some.injEq] at hp
     subst hp
     exact ⟨by simp only [h0]; exact hop, h1, rfl⟩
    | succ j => exact h5 j p (by simpa using hp)
   ·cases h
  ·cases h
def cntF (D : Nat → Bool) : Nat → Nat
 | 0 => 0
 | k + 1 => cntF D k + if D k then 0 else 1
theorem cntF_zero {D : Nat → Bool} : ∀ {n : Nat}, cntF D n = 0 → ∀ i, i < n → D i = true
 | 0, _, i, hi => by omega
 | n + 1, h, i, hi => by
  unfold cntF at h
  have h1 : cntF D n = 0 := by omega
  by_cases e : i = n
  ·subst e
   cases hd : D i with
   | true => rfl
   | false => rw [hd] at h; simp at h
  ·exact cntF_zero h1 i (by omega)
theorem cntF_succ (D : Nat → Bool) (k : Nat) : cntF D (k + 1) = cntF D k + if D k then 0 else 1 := rfl
theorem cntF_set {D : Nat → Bool} {i : Nat} (hd : D i = false) : ∀ {n : Nat}, cntF (fun k => D k || decide (k = i)) n + (if i < n then 1 else 0) = cntF D n
 | 0 => by simp [cntF]
 | n + 1 => by
  have ih := cntF_set hd (n := n)
  rw [cntF_succ, cntF_succ]
  by_cases e : n = i
  ·subst e
   have ih' : cntF (fun k => D k || decide (k = n)) n = cntF D n := by simpa using ih
   rw [ih', hd]
   simp
  ·have hdec : decide (n = i) = false := by simp [e]
   rw [hdec, Bool.or_false]
   by_cases hin : i < n
   ·have ih' : cntF (fun k => D k || decide (k = i)) n + 1 = cntF D n := by simpa [hin] using ih
    have h2 : i < n + 1 := by omega
    simp only [h2, if_true]
    omega
   ·have ih' : cntF (fun k => D k || decide (k = i)) n = cntF D n := by simpa [hin] using ih
    have h2 : ¬ i < n + 1 := by omega
    simp only [h2, if_false]
    omega
theorem cntF_none (n : Nat) : cntF (fun _ => false) n = n := by
 induction n with
 | zero => rfl
 | succ n ih => unfold cntF; rw [ih]; simp
theorem st_all {X V : Type} {W : Nat → X → Option V} {init : X → V} {D : Nat → Bool} {x : X} : ∀ {n : Nat}, (∀ i, i < n → D i = true) → st W init D n x = st W init (fun _ => true) n x
 | 0, _ => rfl
 | n + 1, h => by
  rw [st_succ, st_succ, st_all fun i hi => h i (by omega), h n (by omega)]
section
variable {P : Program} {B : Nat → Prop} {w₀ : World}
theorem getD_set {l : Array Bool} {i k : Nat} (hi : i < l.size) : (l.setIfInBounds i true).getD k false = (l.getD k false || decide (k = i)) := by
 rw [Array.getD_eq_getD_getElem?, Array.getD_eq_getD_getElem?]
 by_cases h : k = i
 ·subst h
  rw [Array.getElem?_setIfInBounds_self, if_pos hi]
  simp
 ·rw [Array.getElem?_setIfInBounds_ne (Ne.symm h)]
  simp [h]
theorem mem_ready {ops : Array Oper} {listed : Array Bool} {i : Nat} (hs : listed.size = ops.size) : i ∈ Region.ready .any ops listed ↔
  ∃ o, ops[i]? = some o ∧ listed.getD i false = false ∧ ∀ e ∈ o.after, Region.binds .any e = true → listed.getD e.on false = true := by
 unfold Region.ready
 rw [List.mem_filter, List.mem_range, Bool.and_eq_true]
 have hdef : i < ops.size → listed.getD i true = listed.getD i false := by
  intro hi
  rw [Array.getD_eq_getD_getElem?, Array.getD_eq_getD_getElem?, Array.getElem?_eq_getElem (by omega)]
  rfl
 constructor
 ·rintro ⟨hi, h1, h2⟩
  have ho : ops[i]? = some ops[i] := Array.getElem?_eq_getElem hi
  refine ⟨ops[i], ho, by rw [← hdef hi]; simpa using h1, fun e he hb => ?_⟩
  rw [ho] at h2
  simp only [Option.map_some, Option.getD_some] at h2
  have := Array.all_eq_true_iff_forall_mem.1 h2 e he
  rw [hb] at this
  simpa using this
 ·rintro ⟨o, ho, h1, h2⟩
  have hi : i < ops.size := (Array.getElem?_eq_some_iff.1 ho).1
  refine ⟨hi, by rw [hdef hi, h1]; rfl, ?_⟩
  rw [ho]
  simp only [Option.map_some, Option.getD_some]
  refine Array.all_eq_true_iff_forall_mem.2 fun e he => ?_
  cases hb : Region.binds .any e with
  | false => rfl
  | true => rw [h2 e he hb]; rfl
theorem put_ds {t t1 : Fr} {d : Option Tmp} {v : Value} (h : Vm.put t d v = some t1) : t1.ds = t.ds ∧ t1.base = t.base := by
 cases d with
 | none => cases h; exact ⟨rfl, rfl⟩
 | some d =>
  simp only [Vm.put, Fr.set_eq] at h
  split at h
  ·cases h; exact ⟨rfl, rfl⟩
  ·cases h
theorem draw_ok (hP : plainNames P = true) (hmix : P.follows .mixedOrders = true) {call : CallF} (hc : CallOk P call) {ops : Array Oper} {id : Nat} {t t1 : Fr} {S S1 : VS} {fps : List Fp}
    (hd : drawV P call ops.toList ops.toList t S = some (t1, S1, fps)) (hok : drawOk ops fps = true) {ρ : Ren} {m : Nat → Option VObj} {w : World} {a : Act} (ht : FR ρ t a) (hw : WR P B w₀ ρ m w)
    (hm : Agree S S1 m) {r : Option Nat} {Q : Exit → Act → World → Prop} (hQ : ∀ (ρ' : Ren) (a' : Act) (w' : World), ρ.le ρ' → FR ρ' t1 a' → WR P B w₀ ρ' (post m S1) w' → Q .normal a' w') :
    (Code.region id ops true).wpIn (FF r) 0 P Q a w := by
  obtain ⟨T, G, Bf, tr⟩ := drawV_trace hd
  simp only [drawOk, Bool.and_eq_true] at hok
  obtain ⟨hstat, hapart⟩ := hok
  have hlen : ops.toList.length = ops.size := by simp
  have hopT : ∀ i, i < ops.size → ∃ o, ops[i]? = some o ∧ ops.toList[i]? = some o := fun i hi => ⟨ops[i], Array.getElem?_eq_getElem hi, by simp [hi]⟩
  have hmk : ∀ i, i < ops.size → ∃ mk, (masks ops)[i]? = some mk := fun i hi => ⟨_, List.getElem?_eq_getElem (by rw [masks_length]; exact hi)⟩
  -- frames of the trace
  have hTn : ∀ i, i ≤ ops.size → (T i).n = t.n := by
    intro i
    induction i with
    | zero => intro _; rw [tr.t0]
    | succ i ih =>
      intro hi
      obtain ⟨o, ho, hol⟩ := hopT i (by omega)
      obtain ⟨h1, _, _⟩ := tr.step i o hol
      obtain ⟨v, _, hp, _, _⟩ := opV_congr h1 (fun s _ => rfl) rfl
      rw [(put_at (by rw [ih (by omega)]; exact ht.small) hp).1, ih (by omega)]
  have hTd : ∀ i, i ≤ ops.size → (T i).ds = t.ds ∧ (T i).base = t.base := by
    intro i
    induction i with
    | zero => intro _; rw [tr.t0]; exact ⟨rfl, rfl⟩
    | succ i ih =>
      intro hi
      obtain ⟨o, ho, hol⟩ := hopT i (by omega)
      obtain ⟨h1, _, _⟩ := tr.step i o hol
      obtain ⟨v, _, hp, _, _⟩ := opV_congr h1 (fun s _ => rfl) rfl
      rw [(put_ds hp).1, (put_ds hp).2]
      exact ih (by omega)
  let Ws : Nat → Nat → Option Value := fun i s => match ops.toList[i]? with
    | some o => if o.dst = some s then some ((T (i + 1)).at s) else none
    | none => none
  let Wm : Nat → Nat → Option (Option VObj) := fun i x => if i < ops.size ∧ x ∈ (Bf i).wr then some (gt (Bf i).mem x) else none
  have hWs : ∀ i s, i ≤ ops.size → st Ws (T 0).at (fun _ => true) i s = (T i).at s := by
    intro i s
    induction i with
    | zero => intro _; rfl
    | succ i ih =>
      intro hi
      obtain ⟨o, ho, hol⟩ := hopT i (by omega)
      obtain ⟨h1, _, _⟩ := tr.step i o hol
      obtain ⟨v, _, hp, _, _⟩ := opV_congr h1 (fun s _ => rfl) rfl
      have hat := (put_at (by rw [hTn i (by omega)]; exact ht.small) hp).2 s
      rw [st_succ, ih (by omega)]
      simp only [if_true]
      have hws : Ws i s = if o.dst = some s then some ((T (i + 1)).at s) else none := by simp only [Ws, hol]
      rw [hws]
      by_cases hds : o.dst = some s
      · rw [if_pos hds]; rfl
      · rw [if_neg hds, hat, if_neg hds]; rfl
  -- logs
  have hlogs : ∀ i, i ≤ ops.size → ∀ x, (x ∈ (G i).rd → x ∈ S1.rd) ∧ (x ∈ (G i).wr → x ∈ S1.wr) := by
    have : ∀ k i, i + k = ops.size → ∀ x, (x ∈ (G i).rd → x ∈ S1.rd) ∧ (x ∈ (G i).wr → x ∈ S1.wr) := by
      intro k
      induction k with
      | zero => intro i hi x; have : G i = S1 := by rw [← tr.sn, hlen]; congr 1; 
                rw [this]; exact ⟨fun h => h, fun h => h⟩
      | succ k ih =>
        intro i hi x
        obtain ⟨o, ho, hol⟩ := hopT i (by omega)
        obtain ⟨_, h2, _⟩ := tr.step i o hol
        have := ih (i + 1) (by omega) x
        rw [h2] at this
        exact ⟨fun hx => this.1 (List.mem_append.2 (.inr hx)), fun hx => this.2 (List.mem_append.2 (.inr hx))⟩
    exact fun i hi => this (ops.size - i) i (by omega)
  have hlogB : ∀ i, i < ops.size → ∀ x, (x ∈ (Bf i).rd → x ∈ S1.rd) ∧ (x ∈ (Bf i).wr → x ∈ S1.wr) := by
    intro i hi x
    obtain ⟨o, ho, hol⟩ := hopT i hi
    obtain ⟨_, h2, _⟩ := tr.step i o hol
    have := hlogs (i + 1) (by omega) x
    rw [h2] at this
    exact ⟨fun hx => this.1 (List.mem_append.2 (.inl hx)), fun hx => this.2 (List.mem_append.2 (.inl hx))⟩
  have hWm : ∀ i, i ≤ ops.size → ∀ x, (x ∈ S1.rd ∨ x ∈ S1.wr) → st Wm m (fun _ => true) i x = gt (G i).mem x := by
    intro i
    induction i with
    | zero => intro _ x hx; rw [tr.s0]; exact hm x hx
    | succ i ih =>
      intro hi x hx
      obtain ⟨o, ho, hol⟩ := hopT i (by omega)
      obtain ⟨h1, h2, _⟩ := tr.step i o hol
      rw [st_succ, ih (by omega) x hx, h2]
      simp only [if_true]
      by_cases hxw : x ∈ (Bf i).wr
      · have : Wm i x = some (gt (Bf i).mem x) := by simp only [Wm]; rw [if_pos ⟨by omega, hxw⟩]
        rw [this]; rfl
      · have : Wm i x = none := by simp only [Wm]; rw [if_neg fun hh => hxw hh.2]
        rw [this]
        exact ((opV_ext hc h1).frame x hxw).symm
  have hWm0 : ∀ i, i ≤ ops.size → ∀ x, x ∉ S1.wr → st Wm m (fun _ => true) i x = m x := by
    intro i
    induction i with
    | zero => intro _ x _; rfl
    | succ i ih =>
      intro hi x hx
      rw [st_succ, ih (by omega) x hx]
      have : Wm i x = none := by simp only [Wm]; rw [if_neg fun hh => hx ((hlogB i hh.1 x).2 hh.2)]
      rw [this]; simp
  -- pairs
  have hpairS : ∀ (i k : Nat) (oi ok : Oper) (mk : Nat), i < k → ops.toList[i]? = some oi → ops.toList[k]? = some ok → (masks ops)[k]? = some mk → mk.testBit i = true ∨ oi.apart ops ok = true := by
    intro i k oi ok mk hik hoi hok hmkk
    have := (statFrom_spec hstat k mk ok hmkk hok).2.2 i oi hik hoi
    simpa using this
  have hpairM : ∀ (i k mk : Nat), i < k → k < ops.size → (masks ops)[k]? = some mk → mk.testBit i = true ∨ ((∀ x, x ∈ (Bf i).wr → x ∉ (Bf k).rd ∧ x ∉ (Bf k).wr) ∧ ∀ x, x ∈ (Bf k).wr → x ∉ (Bf i).rd) := by
    intro i k mk hik hk hmkk
    obtain ⟨oi, _, hoi⟩ := hopT i (by omega)
    obtain ⟨ok, _, hok⟩ := hopT k hk
    obtain ⟨_, _, h1⟩ := tr.step i oi hoi
    obtain ⟨_, _, h2⟩ := tr.step k ok hok
    obtain ⟨mi, hmi⟩ := hmk i (by omega)
    have := apart_spec hapart i k mk _ _ hik hmkk h1 h2 (by rw [hmi]; rfl)
    simpa using this
  refine wpIn_region_any hmix ?_
  -- the invariant
  have main : ∀ (fuel : Nat) (listed : Array Bool) (a : Act) (w : World), listed.size = ops.size → cntF (fun i => listed.getD i false) ops.size = fuel → Cl ops.toList (fun i => listed.getD i false) →
      (∃ ρ' t', ρ.le ρ' ∧ (t'.n = t.n ∧ t'.ds = t.ds ∧ t'.base = t.base) ∧ (∀ s, t'.at s = st Ws (T 0).at (fun i => listed.getD i false) ops.size s) ∧ FR ρ' t' a ∧ WR P B w₀ ρ' (st Wm m (fun i => listed.getD i false) ops.size) w) →
      wpAnyIn (FF r) 0 P .any ops Q fuel listed a w := by
    intro fuel
    have fin : ∀ (listed : Array Bool) (a : Act) (w : World), (∀ i, i < ops.size → listed.getD i false = true) →
        (∃ ρ' t', ρ.le ρ' ∧ (t'.n = t.n ∧ t'.ds = t.ds ∧ t'.base = t.base) ∧ (∀ s, t'.at s = st Ws (T 0).at (fun i => listed.getD i false) ops.size s) ∧ FR ρ' t' a ∧ WR P B w₀ ρ' (st Wm m (fun i => listed.getD i false) ops.size) w) → Q .normal a w := by
      rintro listed a w hall ⟨ρ', t', hle, ⟨hn, hnd, hnb⟩, hat, hfr, hwr⟩
      have ht1 : T ops.size = t1 := by rw [← tr.tn, hlen]
      refine hQ ρ' a w hle ⟨?_, ?_, fun i => ?_, by have := hfr.defers; rw [hnd, hnb, ← (hTd ops.size (Nat.le_refl _)).1, ← (hTd ops.size (Nat.le_refl _)).2, ht1] at this; exact this⟩ ?_
      · rw [hfr.size, hn, ← hTn ops.size (Nat.le_refl _), ht1]
      · rw [← ht1, hTn ops.size (Nat.le_refl _)]; exact ht.small
      · have := hfr.at_ i
        rwa [hat i, st_all hall, hWs ops.size i (Nat.le_refl _), ht1] at this
      · have : st Wm m (fun i => listed.getD i false) ops.size = post m S1 := by
          funext x
          rw [st_all hall]
          unfold post
          by_cases hx : x ∈ S1.wr
          · rw [if_pos hx, hWm ops.size (Nat.le_refl _) x (.inr hx)]
            have : G ops.size = S1 := by rw [← tr.sn, hlen]
            rw [this]
          · rw [if_neg hx, hWm0 ops.size (Nat.le_refl _) x hx]
        rwa [this] at hwr
    have full : ∀ (listed : Array Bool), listed.size = ops.size → Region.ready .any ops listed = [] → ∀ i, i < ops.size → listed.getD i false = true := by
      intro listed hs hr i
      induction i using Nat.strongRecOn with
      | _ i ih =>
        intro hi
        cases hdi : listed.getD i false with
        | true => rfl
        | false =>
          exfalso
          obtain ⟨o, ho, hol⟩ := hopT i hi
          obtain ⟨mk, hmki⟩ := hmk i hi
          have hedge := (statFrom_spec hstat i mk o hmki hol).1
          have : i ∈ Region.ready .any ops listed := (mem_ready hs).2 ⟨o, ho, hdi, fun e he hb => by
            have := hedge e he hb
            exact ih e.on (by omega) (by omega)⟩
          rw [hr] at this
          cases this
    induction fuel with
    | zero =>
      intro listed a w hs hcnt hcl hinv
      have hall := cntF_zero hcnt
      refine ⟨?_, fin listed a w hall hinv⟩
      cases hr : Region.ready .any ops listed with
      | nil => rfl
      | cons i l =>
        have : i ∈ Region.ready .any ops listed := by rw [hr]; simp
        obtain ⟨o, ho, h1, _⟩ := (mem_ready hs).1 this
        rw [hall i (Array.getElem?_eq_some_iff.1 ho).1] at h1
        cases h1
    | succ fuel ih =>
      intro listed a w hs hcnt hcl hinv
      refine ⟨fun hr => fin listed a w (full listed hs hr) hinv, fun i hir => ?_⟩
      obtain ⟨o, ho, hdi, hedges⟩ := (mem_ready hs).1 hir
      have hi : i < ops.size := (Array.getElem?_eq_some_iff.1 ho).1
      have hol : ops.toList[i]? = some o := by rw [Array.getElem?_toList]; exact ho
      obtain ⟨mk, hmki⟩ := hmk i hi
      obtain ⟨hstep, hG, hfp⟩ := tr.step i o hol
      obtain ⟨ρ', t', hle, ⟨hn, hnd, hnb⟩, hat, hfr, hwr⟩ := hinv
      -- what is not ordered is apart
      have hbefore : ∀ k, k < i → listed.getD k false = false → mk.testBit k = false := by
        intro k hk hdk
        cases hb : mk.testBit k with
        | false => rfl
        | true => rw [masks_spec hcl hmki hol hedges hb] at hdk; cases hdk
      have hafter : ∀ k mk', i < k → (masks ops)[k]? = some mk' → listed.getD k false = true → k < ops.size → mk'.testBit i = false := by
        intro k mk' hik hmkk hdk hk
        cases hb : mk'.testBit i with
        | false => rfl
        | true =>
          obtain ⟨ok, _, hok⟩ := hopT k hk
          rw [masks_spec hcl hmkk hok (fun e he hbe => hcl k ok hok hdk e he hbe) hb] at hdi
          cases hdi
      have hlook : ∀ s ∈ o.looksAt ops, t'.at s = (T i).at s := by
        intro s hsl
        rw [hat s, st_before (W := Ws) (i := i) (Nat.le_of_lt hi) hdi ?_ ?_, hWs i s (Nat.le_of_lt hi)]
        · intro k hk hdk
          obtain ⟨ok, hok, hokl⟩ := hopT k (by omega)
          simp only [Ws, hokl]
          rw [if_neg]
          intro hds
          rcases hpairS k i ok o mk hk hokl hol hmki with h | h
          · rw [hbefore k hk hdk] at h; cases h
          · exact (Oper.apart_spec h).1 s hds hsl
        · intro k hik hkn hdk
          obtain ⟨ok, hok, hokl⟩ := hopT k hkn
          obtain ⟨mk', hmkk⟩ := hmk k hkn
          simp only [Ws, hokl]
          rw [if_neg]
          intro hds
          rcases hpairS i k o ok mk' hik hol hokl hmkk with h | h
          · rw [hafter k mk' hik hmkk hdk hkn] at h; cases h
          · exact (Oper.apart_spec h).2.2 s hds hsl
      obtain ⟨v, t1', hp, hp', hop'⟩ := opV_congr hstep hlook (by rw [hn, hTn i (Nat.le_of_lt hi)])
      have hagree : Agree (reset (G i)) (Bf i) (st Wm m (fun i => listed.getD i false) ops.size) := by
        intro x hx
        have hxl : x ∈ S1.rd ∨ x ∈ S1.wr := hx.imp (hlogB i hi x).1 (hlogB i hi x).2
        rw [st_before (W := Wm) (i := i) (Nat.le_of_lt hi) hdi ?_ ?_, hWm i (Nat.le_of_lt hi) x hxl]
        · intro k hk hdk
          simp only [Wm]
          rw [if_neg]
          rintro ⟨hkn, hxk⟩
          rcases hpairM k i mk hk hi hmki with h | ⟨h, _⟩
          · rw [hbefore k hk hdk] at h; cases h
          · rcases hx with hx | hx
            · exact (h x hxk).1 hx
            · exact (h x hxk).2 hx
        · intro k hik hkn hdk
          simp only [Wm]
          rw [if_neg]
          rintro ⟨_, hxk⟩
          obtain ⟨mk', hmkk⟩ := hmk k hkn
          rcases hpairM i k mk' hik hkn hmkk with h | ⟨h1, h2⟩
          · rw [hafter k mk' hik hmkk hdk hkn] at h; cases h
          · rcases hx with hx | hx
            · exact h2 x hxk hx
            · exact (h1 x hx).2 hxk
      have hset : ∀ k, (listed.setIfInBounds i true).getD k false = (listed.getD k false || decide (k = i)) := fun k => getD_set (by omega)
      have hfun : (fun k => (listed.setIfInBounds i true).getD k false) = fun k => listed.getD k false || decide (k = i) := funext hset
      refine opV_ok hP hc ho hop' hfr hwr hagree (fun _ ρ2 a' w' hle2 hfr2 _ hwr2 => ?_) (fun v hv => by cases hv)
      refine ih (listed.setIfInBounds i true) a' w' (by simpa using hs) ?_ ?_ ⟨ρ2, t1', Ren.le_trans hle hle2, ?_, ?_, hfr2, ?_⟩
      · rw [hfun]
        have := cntF_set (D := fun k => listed.getD k false) hdi (n := ops.size)
        rw [if_pos hi] at this
        omega
      · rw [hfun]
        intro j oj hoj hdj e he hb
        simp only [Bool.or_eq_true, decide_eq_true_eq] at hdj ⊢
        left
        rcases hdj with hdj | rfl
        · exact hcl j oj hoj hdj e he hb
        · rw [hol] at hoj; cases hoj; exact hedges e he hb
      · rw [(put_at (by rw [hn]; exact ht.small) hp').1, hn, (put_ds hp').1, (put_ds hp').2]; exact ⟨rfl, hnd, hnb⟩
      · intro s
        rw [(put_at (by rw [hn]; exact ht.small) hp').2 s, hfun, st_after (W := Ws) hi hdi ?_, hat s]
        · simp only [Ws, hol]
          have := (put_at (by rw [hTn i (Nat.le_of_lt hi)]; exact ht.small) hp).2 s
          by_cases hds : o.dst = some s
          · rw [if_pos hds, if_pos hds, this, if_pos hds]; rfl
          · rw [if_neg hds, if_neg hds]; rfl
        · intro k hik hkn hdk hwi
          obtain ⟨ok, hok, hokl⟩ := hopT k hkn
          obtain ⟨mk', hmkk⟩ := hmk k hkn
          have hdst : o.dst = some s := by
            simp only [Ws, hol] at hwi
            by_cases h : o.dst = some s
            · exact h
            · rw [if_neg h] at hwi; exact absurd rfl hwi
          simp only [Ws, hokl]
          rw [if_neg]
          intro hds
          rcases hpairS i k o ok mk' hik hol hokl hmkk with h | h
          · rw [hafter k mk' hik hmkk hdk hkn] at h; cases h
          · exact (Oper.apart_spec h).2.1 s hdst hds
      · have : st Wm m (fun k => (listed.setIfInBounds i true).getD k false) ops.size = post (st Wm m (fun i => listed.getD i false) ops.size) (Bf i) := by
          funext x
          rw [hfun, st_after (W := Wm) hi hdi ?_]
          · unfold post
            by_cases hx : x ∈ (Bf i).wr
            · have : Wm i x = some (gt (Bf i).mem x) := by simp only [Wm]; rw [if_pos ⟨hi, hx⟩]
              rw [this, if_pos hx]; rfl
            · have : Wm i x = none := by simp only [Wm]; rw [if_neg fun hh => hx hh.2]
              rw [this, if_neg hx]; rfl
          · intro k hik hkn hdk hwi
            obtain ⟨mk', hmkk⟩ := hmk k hkn
            have hx : x ∈ (Bf i).wr := by
              by_cases h : x ∈ (Bf i).wr
              · exact h
              · simp only [Wm] at hwi; rw [if_neg fun hh => h hh.2] at hwi; exact absurd rfl hwi
            simp only [Wm]
            rw [if_neg]
            rintro ⟨_, hxk⟩
            rcases hpairM i k mk' hik hkn hmkk with h | ⟨h1, _⟩
            · rw [hafter k mk' hik hmkk hdk hkn] at h; cases h
            · exact (h1 x hx).2 hxk
        rw [this]
        exact hwr2
  have hrep : ∀ k, (Array.replicate ops.size false).getD k false = false := by
    intro k
    rw [Array.getD_eq_getD_getElem?]
    by_cases h : k < ops.size <;> simp [h]
  have hfun0 : (fun k => (Array.replicate ops.size false).getD k false) = fun _ => false := funext hrep
  have st_none : ∀ {X V : Type} (W : Nat → X → Option V) (init : X → V) (n : Nat) (x : X), st W init (fun _ => false) n x = init x := by
    intro X V W init n x
    induction n with
    | zero => rfl
    | succ n ih => rw [st_succ, ih]; simp
  refine main ops.size _ a _ (by simp) (by rw [hfun0, cntF_none]) (by rw [hfun0]; intro j o _ h; cases h) ⟨ρ, t, Ren.le_refl ρ, ⟨rfl, rfl, rfl⟩, fun s => ?_, ht, ?_⟩
  · rw [hfun0, st_none, tr.t0]
  · have : st Wm m (fun k => (Array.replicate ops.size false).getD k false) ops.size = m := by funext x; rw [hfun0, st_none]
    rw [this]
    exact hw.drew
end
end Go.Proofs.YtgepfmamfdmclaaGreatDoor.Vm
namespace Go.Proofs.YtgepfmamfdmclaaGreatDoor.Vm
open Go.RowKit
section
variable {P : Program}
theorem opsV_ext {call : CallF} (hc : CallOk P call) {df : Bool} {ops : List Oper} : ∀ {rest : List Oper} {t t1 : Fr} {S S1 : VS} {x : VEx}, opsV P call df ops rest t S = some (x, t1, S1) → Ext S S1
 | [], t, t1, S, S1, x, h => by
  simp only [opsV, Option.some.injEq, Prod.mk.injEq] at h
  obtain ⟨_, _, rfl⟩ := h
  exact Ext.refl S
 | o :: rest, t, t1, S, S1, x, h => by
  unfold opsV at h
  split at h
  ·split at h
   ·split at h
    ·exact opsV_ext hc h
    ·cases h
   ·cases h
  ·split at h
   ·cases h
   ·rename_i v t2 S2 hop
    simp only [Option.some.injEq, Prod.mk.injEq] at h
    obtain ⟨_, _, rfl⟩ := h
    exact opV_ext hc hop
   ·rename_i t2 S2 hop
    exact (opV_ext hc hop).trans (opsV_ext hc h)
theorem drawV_ext {call : CallF} (hc : CallOk P call) {ops : List Oper} : ∀ {rest : List Oper} {t t1 : Fr} {S S1 : VS} {fps : List Fp}, drawV P call ops rest t S = some (t1, S1, fps) → Ext S S1
 | [], t, t1, S, S1, fps, h => by
  simp only [drawV, Option.some.injEq, Prod.mk.injEq] at h
  obtain ⟨_, rfl, _⟩ := h
  exact Ext.refl S
 | o :: rest, t, t1, S, S1, fps, h => by
  unfold drawV at h
  split at h
  ·rename_i t2 S2 hop
   split at h
   ·rename_i t3 S3 fps2 hd
    simp only [Option.some.injEq, Prod.mk.injEq] at h
    obtain ⟨rfl, rfl, rfl⟩ := h
    have e1 := opV_ext hc hop
    have e2 := drawV_ext hc hd
    refine Ext.trans ⟨fun y hy => ?_, fun y hy => ?_, fun y hy => ?_, fun hS y hy => ?_⟩ e2
    ·exact List.mem_append.2 (.inr hy)
    ·exact List.mem_append.2 (.inr hy)
    ·exact e1.frame y fun hh => hy (List.mem_append.2 (.inl hh))
    ·have he := e1.sm (fun z hz => by rcases hz with hz | hz <;> cases hz)
     rcases hy with hy | hy
     ·rcases List.mem_append.1 hy with hy | hy
      ·exact he y (.inl hy)
      ·exact hS y (.inl hy)
     ·rcases List.mem_append.1 hy with hy | hy
      ·exact he y (.inr hy)
      ·exact hS y (.inr hy)
   ·cases h
  ·cases h
theorem iter_ext {f : Fr → VS → Option (VEx × Fr × VS)} (hf : ∀ {t t1 : Fr} {S S1 : VS} {x : VEx}, f t S = some (x, t1, S1) → Ext S S1) :
  ∀ {k : Nat} {t t1 : Fr} {S S1 : VS} {x : VEx}, iter f k t S = some (x, t1, S1) → Ext S S1
 | 0, t, t1, S, S1, x, h => by cases h
 | k + 1, t, t1, S, S1, x, h => by
  unfold iter at h
  split at h
  ·rename_i t2 S2 hfx
   exact (hf hfx).trans (iter_ext hf h)
  ·exact hf h
theorem codeV_ext {call : CallF} (hc : CallOk P call) (lf : Nat) {df : Bool} : ∀ {c : Code} {t t1 : Fr} {S S1 : VS} {x : VEx}, codeV P call lf df c t S = some (x, t1, S1) → Ext S S1 := by
 intro c
 induction c with
 | skip =>
  intro t t1 S S1 x h
  simp only [codeV, Option.some.injEq, Prod.mk.injEq] at h
  obtain ⟨_, _, rfl⟩ := h
  exact Ext.refl S
 | region id ops draw =>
  intro t t1 S S1 x h
  cases draw with
  | false => exact opsV_ext hc h
  | true =>
   simp only [codeV] at h
   split at h
   ·rename_i t2 S2 fps hd
    split at h
    ·simp only [Option.some.injEq, Prod.mk.injEq] at h
     obtain ⟨_, _, rfl⟩ := h
     exact drawV_ext hc hd
    ·cases h
   ·cases h
 | seq a b iha ihb =>
  intro t t1 S S1 x h
  simp only [codeV] at h
  split at h
  ·rename_i t2 S2 hx
   exact (iha hx).trans (ihb h)
  ·exact iha h
 | cond c a b iha ihb =>
  intro t t1 S S1 x h
  simp only [codeV] at h
  split at h
  ·exact iha h
  ·exact ihb h
  ·cases h
 | block id c ih =>
  intro t t1 S S1 x h
  simp only [codeV] at h
  split at h
  ·rename_i j t2 S2 hx
   split at h
   ·simp only [Option.some.injEq, Prod.mk.injEq] at h
    obtain ⟨_, _, rfl⟩ := h
    exact ih hx
   ·simp only [Option.some.injEq, Prod.mk.injEq] at h
    obtain ⟨_, _, rfl⟩ := h
    exact ih hx
  ·exact ih h
 | loop c ih =>
  intro t t1 S S1 x h
  simp only [codeV] at h
  exact iter_ext (fun h => ih h) h
 | exit id =>
  intro t t1 S S1 x h
  simp only [codeV, Option.some.injEq, Prod.mk.injEq] at h
  obtain ⟨_, _, rfl⟩ := h
  exact Ext.refl S
 | ret =>
  intro t t1 S S1 x h
  simp only [codeV, Option.some.injEq, Prod.mk.injEq] at h
  obtain ⟨_, _, rfl⟩ := h
  exact Ext.refl S
 | scope c ih =>
  intro t t1 S S1 x h
  simp only [codeV] at h
  exact ih h
 | label l =>
  intro t t1 S S1 x h
  simp only [codeV, Option.some.injEq, Prod.mk.injEq] at h
  obtain ⟨_, _, rfl⟩ := h
  exact Ext.refl S
 | _ => intro t t1 S S1 x h; simp [codeV] at h
theorem FR.evalBool {ρ : Ren} {t : Fr} {a : Act} (h : FR ρ t a) {c : Operand} {b : Bool} (hc : evalL t c = .bool b) : a.eval c = .bool b := by
 cases c with
 | tmp i =>
  have h1 := h.at_ i
  have h2 : t.at i = .bool b := hc
  rw [h2] at h1
  exact h1.bool_inv
 | const v => exact hc
 | global g => cases hc
 | func f => cases hc
inductive XR (ρ : Ren) : VEx → Exit → Prop where
 | normal : XR ρ .normal .normal
 | exit (id : Nat) : XR ρ (.exit id) (.exit id)
 | ret : XR ρ .ret .ret
 | panic (v v' : Value) (h : VR ρ v v') : XR ρ (.panic v) (.panic [{ v := v', recovered := false }])
variable {B : Nat → Prop} {w₀ : World}
theorem deferV_some {t t1 : Fr} {o : Oper} {c : Call} (hd : isDef o = some c) (h : deferV P t o c = some t1) : ∃ (f : Operand) (k : FuncId) (first captured : Array Value), o.guard = none ∧ c.callee = .value f ∧ o.op = .defer c ∧
  evalL t f = .func (.func k) first captured ∧ (okOperand f = true ∧ c.args.toList.all okOperand = true) ∧ (∃ cb, (P.funcs[k]?).bind (·.body) = some cb) ∧
  Vm.put { t with ds := (k, (first.toList ++ c.args.toList.map (evalL t)) ++ captured.toList) :: t.ds } o.dst undef = some t1 := by
 unfold deferV at h
 split at h
 ·rename_i f hg hcc
  split at h
  ·rename_i k first captured hok hev
   split at h
   ·rename_i cb hcb
    rw [Bool.and_eq_true] at hok
    refine ⟨f, k, first, captured, hg, hcc, ?_, hev, hok, ⟨cb, hcb⟩, h⟩
    unfold isDef at hd
    split at hd
    ·rename_i c' hc'; cases hd; exact hc'
    ·cases hd
   ·cases h
  ·cases h
 ·cases h
theorem lr_map {α : Type} {ρ : Ren} {f g : α → Value} : ∀ {l : List α}, (∀ x ∈ l, VR ρ (f x) (g x)) → LR ρ (l.map f) (l.map g)
 | [], _ => LR.nil _
 | x :: l, h => LR.cons (h x List.mem_cons_self) (lr_map fun y hy => h y (List.mem_cons_of_mem _ hy))
theorem wpIn_scope_straight {F : Fence} {n : Nat} {c : Code} {Q : Exit → Act → World → Prop} {a : Act} {w : World} (h : c.wpIn F n P (Exit.noGoto Q) a w) : (Code.scope c).wpIn F n P Q a w := by
 intro b k cs hro hb hr
 have h0 : (lone (b.atR a (.code (.scope c) :: k)) cs w).fenced P F := fenced_calm hb hr rfl
 have s1 : step P (lone (b.atR a (.code (.scope c) :: k)) cs w) = .next (lone (b.atR a (.code c :: .inScope c :: k)) cs w) := step_lone_go (by simp [stepG, stepG.exec, Frame.atR])
 have s2 : ∀ (a : Act) (w : World), step P (lone (b.atR a (.inScope c :: k)) cs w) = .next (lone (b.atR a k) cs w) := fun a w => step_lone_go (by simp [stepG, stepG.exec, Frame.atR])
 obtain ⟨e, a₁, w₁, hq, harr⟩ := h b (.inScope c :: k) cs hro hb hr
 cases e with
 | normal => exact ⟨.normal, a₁, w₁, hq, .head h0 s1 (StepsIn.trans harr (.one (fenced_calm hb hr rfl) (s2 a₁ w₁)))⟩
 | exit id => exact ⟨_, a₁, w₁, hq, .of_steps (.one h0 s1) ⟨fun k' hk => harr.1 k' (by simpa [exitTo] using hk), fun hr hk => harr.2 hr (by simpa [exitTo] using hk)⟩⟩
 | goto l => exact hq.elim
 | ret => exact ⟨.ret, a₁, w₁, hq, ArrivesIn.of_steps (e := .ret) (k := k) (.one h0 s1) harr⟩
 | panic ch => exact ⟨.panic ch, a₁, w₁, hq, ArrivesIn.of_steps (e := .panic ch) (k := k) (.one h0 s1) harr⟩
 | outgrown => exact ⟨.outgrown, a₁, w₁, hq, ArrivesIn.of_steps (e := .outgrown) (k := k) (.one h0 s1) harr⟩
theorem opsV_ok (hP : plainNames P = true) {call : CallF} (hc : CallOk P call) {df : Bool} {r : Option Nat} (hdf : df = true → r = none) {ops : Array Oper} : ∀ {rest : List Oper} {k : Nat}, (∀ j, rest[j]? = ops[k + j]?) → ∀ {t t1 : Fr} {S S1 : VS} {x : VEx},
  opsV P call df ops.toList rest t S = some (x, t1, S1) → ∀ {ρ : Ren} {m : Nat → Option VObj} {w : World} {a : Act}, FR ρ t a → WR P B w₀ ρ m w → Agree S S1 m → ∀ {Q : Exit → Act → World → Prop},
  (∀ (ρ' : Ren) (e : Exit) (a' : Act) (w' : World), ρ.le ρ' → XR ρ' x e → FR ρ' t1 a' → WR P B w₀ ρ' (post m S1) w' → Q e a' w') → wpOpsIn (FF r) 0 P ops Q (List.range' k rest.length) a w
 | [], k, hk, t, t1, S, S1, x, h, ρ, m, w, a, ht, hw, hm, Q, hQ => by
  simp only [opsV, Option.some.injEq, Prod.mk.injEq] at h
  obtain ⟨rfl, rfl, rfl⟩ := h
  have hp : post m S = m := post_self hm
  exact hQ ρ _ a w (Ren.le_refl ρ) .normal ht (by rw [hp]; exact hw)
 | o :: rest, k, hk, t, t1, S, S1, x, h, ρ, m, w, a, ht, hw, hm, Q, hQ => by
  have ho : ops[k]? = some o := by simpa using (hk 0).symm
  have hk' : ∀ j, rest[j]? = ops[k + 1 + j]? := fun j => by have := hk (j + 1); simpa [Nat.add_assoc, Nat.add_comm 1 j] using this
  rw [List.length_cons, List.range'_succ, wpOpsIn_cons]
  unfold opsV at h
  split at h
  ·rename_i c hd
   split at h
   ·split at h
    ·rename_i t2 hdv
     cases hdf rfl
     obtain ⟨f, k', first, captured, hg, hcc, hop, hev, hok, hbd, hp⟩ := deferV_some hd hdv
     unfold wpOpIn
     simp only [ho]
     have hw1 : Region.wanted o (yielded ops a.tmps) = true := by unfold Region.wanted; rw [hg]
     rw [if_pos hw1]
     unfold Oper.wpIn
     refine ⟨fun _ _ => trivial, ?_⟩
     obtain ⟨hokf, hoka⟩ := hok
     have hvf := ht.eval hokf
     rw [hev] at hvf
     obtain ⟨f', c', hvf', hlf, hlc⟩ := hvf.func_inv
     have hsem : (o.semAt (FF none).round a.eval).run P w = .ok (.defer { target := .fn (.func k') c', args := f' ++ c.args.map a.eval }) w := by
      show (execOp a.eval o).run P w = _
      unfold execOp
      rw [hop]
      unfold resolve
      simp only [hcc, hvf', Deferred.ofValue]
      rfl
     rw [hsem]
     show wpOpsIn (FF none) 0 P ops Q _ (({ a with defers := _ :: a.defers } : Act).put o.dst undef) w
     have hargs : LR ρ (c.args.toList.map (evalL t)) (c.args.map a.eval).toList := by
      rw [Array.toList_map]
      exact lr_map fun x hx => ht.eval (List.all_eq_true.1 hoka x hx)
     have ht2 : FR ρ { t with ds := (k', (first.toList ++ c.args.toList.map (evalL t)) ++ captured.toList) :: t.ds } { a with defers := { target := .fn (.func k') c', args := f' ++ c.args.map a.eval } :: a.defers } :=
      ⟨ht.size, ht.small, ht.at_, .cons (by rw [Array.toList_append, Array.toList_append]; exact (hlf.append hargs).append hlc) ht.defers⟩
     exact opsV_ok hP hc hdf hk' h (ht2.put (VR.undef ρ) hp) hw hm hQ
    ·cases h
   ·cases h
  rename_i hnd
  split at h
  ·cases h
  ·rename_i v t2 S2 hop
   simp only [Option.some.injEq, Prod.mk.injEq] at h
   obtain ⟨rfl, rfl, rfl⟩ := h
   refine opV_ok hP hc ho hop ht hw hm (fun hh => by cases hh) fun v2 hv ρ' v' w' hle hv' hfr hwr => ?_
   cases hv
   exact hQ ρ' _ a w' hle (.panic v v' hv') hfr hwr
  ·rename_i t2 S2 hop
   have e2 := opsV_ext hc h
   refine opV_ok hP hc ho hop ht hw (hm.first e2) (fun _ ρ' a' w' hle hfr _ hwr => ?_) fun v2 hv => by cases hv
   refine opsV_ok hP hc hdf hk' h hfr hwr (hm.next (opV_ext hc hop)) fun ρ2 e a2 w2 hle2 hx hfr2 hwr2 => ?_
   rw [post_post e2] at hwr2
   exact hQ ρ2 e a2 w2 (Ren.le_trans hle hle2) hx hfr2 hwr2
def Sound (P : Program) (r : Option Nat) (c : Code) (f : Fr → VS → Option (VEx × Fr × VS)) : Prop :=
 ∀ {t t1 : Fr} {S S1 : VS} {x : VEx}, f t S = some (x, t1, S1) → ∀ {B : Nat → Prop} {w₀ : World} {ρ : Ren} {m : Nat → Option VObj} {w : World} {a : Act}, FR ρ t a → WR P B w₀ ρ m w → Agree S S1 m →
  ∀ {Q : Exit → Act → World → Prop}, (∀ (ρ' : Ren) (e : Exit) (a' : Act) (w' : World), ρ.le ρ' → XR ρ' x e → FR ρ' t1 a' → WR P B w₀ ρ' (post m S1) w' → Q e a' w') → c.wpIn (FF r) 0 P Q a w
theorem iter_ok {r : Option Nat} {c : Code} {f : Fr → VS → Option (VEx × Fr × VS)} (hx : ∀ {t t1 : Fr} {S S1 : VS} {x : VEx}, f t S = some (x, t1, S1) → Ext S S1) (hs : Sound P r c f) :
  ∀ {k : Nat} {t t1 : Fr} {S S1 : VS} {x : VEx}, iter f k t S = some (x, t1, S1) → ∀ {ρ : Ren} {m : Nat → Option VObj} {w : World} {a : Act}, FR ρ t a → WR P B w₀ ρ m w → Agree S S1 m →
  ∀ {Q : Exit → Act → World → Prop}, (∀ (ρ' : Ren) (e : Exit) (a' : Act) (w' : World), ρ.le ρ' → XR ρ' x e → FR ρ' t1 a' → WR P B w₀ ρ' (post m S1) w' → Q e a' w') → Code.roundsIn (FF r) 0 P c Q k a w
 | 0, t, t1, S, S1, x, h, ρ, m, w, a, ht, hw, hm, Q, hQ => by cases h
 | k + 1, t, t1, S, S1, x, h, ρ, m, w, a, ht, hw, hm, Q, hQ => by
  rw [roundsIn_succ]
  unfold iter at h
  split at h
  ·rename_i t2 S2 hf
   have e2 := iter_ext hx h
   refine hs hf ht hw (hm.first e2) fun ρ' e a' w' hle hxr hfr hwr => ?_
   cases hxr
   refine iter_ok hx hs h hfr hwr (hm.next (hx hf)) fun ρ2 e2' a2 w2 hle2 hx2 hfr2 hwr2 => ?_
   rw [post_post e2] at hwr2
   exact hQ ρ2 e2' a2 w2 (Ren.le_trans hle hle2) hx2 hfr2 hwr2
  ·rename_i hne
   refine hs h ht hw hm fun ρ' e a' w' hle hxr hfr hwr => ?_
   cases hxr with
   | normal => exact absurd h (hne _ _)
   | _ => exact hQ ρ' _ a' w' hle (by constructor <;> assumption) hfr hwr
theorem codeV_ok (hP : plainNames P = true) (hmix : P.follows .mixedOrders = true) {call : CallF} (hc : CallOk P call) (lf : Nat) {df : Bool} {r : Option Nat} (hdf : df = true → r = none) : ∀ (c : Code), Sound P r c (codeV P call lf df c) := by
 intro c
 induction c with
 | skip =>
  intro t t1 S S1 x h B w₀ ρ m w a ht hw hm Q hQ
  simp only [codeV, Option.some.injEq, Prod.mk.injEq] at h
  obtain ⟨rfl, rfl, rfl⟩ := h
  exact wpIn_skip (hQ ρ _ a w (Ren.le_refl ρ) .normal ht (by rw [post_self hm]; exact hw))
 | region id ops draw =>
  intro t t1 S S1 x h B w₀ ρ m w a ht hw hm Q hQ
  cases draw with
  | false =>
   refine wpIn_region ?_
   have := opsV_ok hP hc hdf (ops := ops) (rest := ops.toList) (k := 0) (fun j => by simp) h ht hw hm hQ
   rw [List.range_eq_range']
   simpa using this
  | true =>
   simp only [codeV] at h
   split at h
   ·rename_i t2 S2 fps hd
    split at h
    ·rename_i hok
     simp only [Option.some.injEq, Prod.mk.injEq] at h
     obtain ⟨rfl, rfl, rfl⟩ := h
     exact draw_ok hP hmix hc hd hok ht hw hm fun ρ' a' w' hle hfr hwr => hQ ρ' _ a' w' hle .normal hfr hwr
    ·cases h
   ·cases h
 | seq a b iha ihb =>
  intro t t1 S S1 x h B w₀ ρ m w a ht hw hm Q hQ
  simp only [codeV] at h
  refine wpIn_seq ?_
  split at h
  ·rename_i t2 S2 hx
   have e2 := codeV_ext hc lf h
   refine iha hx ht hw (hm.first e2) fun ρ' e a' w' hle hxr hfr hwr => ?_
   cases hxr
   refine ihb h hfr hwr (hm.next (codeV_ext hc lf hx)) fun ρ2 e2' a2 w2 hle2 hx2 hfr2 hwr2 => ?_
   rw [post_post e2] at hwr2
   exact hQ ρ2 e2' a2 w2 (Ren.le_trans hle hle2) hx2 hfr2 hwr2
  ·rename_i hne
   refine iha h ht hw hm fun ρ' e a' w' hle hxr hfr hwr => ?_
   cases hxr with
   | normal => exact absurd h (hne _ _)
   | _ => exact hQ ρ' _ a' w' hle (by constructor <;> assumption) hfr hwr
 | cond c x y ihx ihy =>
  intro t t1 S S1 x' h B w₀ ρ m w a ht hw hm Q hQ
  simp only [codeV] at h
  split at h
  ·rename_i he; exact wpIn_cond_true (ht.evalBool he) (ihx h ht hw hm hQ)
  ·rename_i he; exact wpIn_cond_false (ht.evalBool he) (ihy h ht hw hm hQ)
  ·cases h
 | block id c ih =>
  intro t t1 S S1 x h B w₀ ρ m w a ht hw hm Q hQ
  simp only [codeV] at h
  refine wpIn_block ?_
  split at h
  ·rename_i j t2 S2 hx
   split at h
   ·rename_i hj
    have hj' : j = id := Nat.eq_of_beq_eq_true hj
    simp only [Option.some.injEq, Prod.mk.injEq] at h
    obtain ⟨rfl, rfl, rfl⟩ := h
    refine ih hx ht hw hm fun ρ' e a' w' hle hxr hfr hwr => ?_
    cases hxr
    simp only [Exit.inBlock, hj', if_true]
    exact hQ ρ' _ a' w' hle .normal hfr hwr
   ·rename_i hj
    have hj' : ¬ j = id := fun e => by rw [e, Nat.beq_refl] at hj; cases hj
    simp only [Option.some.injEq, Prod.mk.injEq] at h
    obtain ⟨rfl, rfl, rfl⟩ := h
    refine ih hx ht hw hm fun ρ' e a' w' hle hxr hfr hwr => ?_
    cases hxr
    simp only [Exit.inBlock, hj', if_false]
    exact hQ ρ' _ a' w' hle (.exit j) hfr hwr
  ·rename_i hne
   refine ih h ht hw hm fun ρ' e a' w' hle hxr hfr hwr => ?_
   cases hxr with
   | exit j => exact absurd h (hne _ _ _)
   | _ => exact hQ ρ' _ a' w' hle (by constructor <;> assumption) hfr hwr
 | loop c ih =>
  intro t t1 S S1 x h B w₀ ρ m w a ht hw hm Q hQ
  simp only [codeV] at h
  exact wpIn_loop_rounds lf (iter_ok (fun h => codeV_ext hc lf h) ih h ht hw hm hQ)
 | exit id =>
  intro t t1 S S1 x h B w₀ ρ m w a ht hw hm Q hQ
  simp only [codeV, Option.some.injEq, Prod.mk.injEq] at h
  obtain ⟨rfl, rfl, rfl⟩ := h
  exact wpIn_exit (hQ ρ _ a w (Ren.le_refl ρ) (.exit id) ht (by rw [post_self hm]; exact hw))
 | ret =>
  intro t t1 S S1 x h B w₀ ρ m w a ht hw hm Q hQ
  simp only [codeV, Option.some.injEq, Prod.mk.injEq] at h
  obtain ⟨rfl, rfl, rfl⟩ := h
  exact wpIn_ret (hQ ρ _ a w (Ren.le_refl ρ) .ret ht (by rw [post_self hm]; exact hw))
 | scope c ih =>
  intro t t1 S S1 x h B w₀ ρ m w a ht hw hm Q hQ
  simp only [codeV] at h
  refine wpIn_scope_straight (ih h ht hw hm fun ρ' e a' w' hle hxr hfr hwr => ?_)
  cases hxr <;> exact hQ ρ' _ a' w' hle (by constructor <;> assumption) hfr hwr
 | label l =>
  intro t t1 S S1 x h B w₀ ρ m w a ht hw hm Q hQ
  simp only [codeV, Option.some.injEq, Prod.mk.injEq] at h
  obtain ⟨rfl, rfl, rfl⟩ := h
  exact wpIn_label (hQ ρ _ a w (Ren.le_refl ρ) .normal ht (by rw [post_self hm]; exact hw))
 | _ => intro t t1 S S1 x h; simp [codeV] at h
theorem resV_ok {ρ : Ren} {g : Nat → Option VObj} {w : World} (hw : WR P B w₀ ρ g w) {t : Fr} {a : Act} (ht : FR ρ t a) : ∀ {rs : List ResultVar} {vs : List Value} {l : List Nat}, (resV P t rs).run g = some (vs, l) →
  ∃ vs' : List Value, (rs.mapM (m := Sem) fun | .tmp t => pure (a.tmps.getD t undef) | .cell b t => do loadVar t (← asAddr (a.tmps.getD b undef))).run P w = .ok vs' w ∧ LR ρ vs vs'
 | [], vs, l, h => by
  simp only [resV, Rd.run, Option.some.injEq, Prod.mk.injEq] at h
  obtain ⟨rfl, rfl⟩ := h
  exact ⟨[], rfl, LR.nil ρ⟩
 | .tmp i :: rs, vs, l, h => by
  simp only [resV] at h
  obtain ⟨r, l1, l2, h1, h2, rfl⟩ := (Rd.run_bind _ _ _ _ _).1 h
  simp only [Rd.run, Option.some.injEq, Prod.mk.injEq] at h2
  obtain ⟨rfl, rfl⟩ := h2
  obtain ⟨vs', h3, h4⟩ := resV_ok hw ht h1
  refine ⟨a.tmps.getD i undef :: vs', ?_, LR.cons (ht.at_ i) h4⟩
  rw [List.mapM_cons]
  simp only [Sem.run_bind, Sem.run_pure, Result.andThen_ok, h3]
 | .cell i ty :: rs, vs, l, h => by
  simp only [resV] at h
  split at h
  ·rename_i b off hp
   obtain ⟨v, l1, l2, h1, h2, rfl⟩ := (Rd.run_bind _ _ _ _ _).1 h
   obtain ⟨r, l3, l4, h3, h4, rfl⟩ := (Rd.run_bind _ _ _ _ _).1 h2
   simp only [Rd.run, Option.some.injEq, Prod.mk.injEq] at h4
   obtain ⟨rfl, rfl⟩ := h4
   have hi := ht.at_ i
   rw [hp] at hi
   obtain ⟨rw', hr, hi⟩ := hi.ptr_inv
   obtain ⟨v', h5, h6⟩ := ldV_ok hw h1 hr
   obtain ⟨vs', h7, h8⟩ := resV_ok hw ht h3
   refine ⟨v' :: vs', ?_, LR.cons h6 h8⟩
   rw [List.mapM_cons]
   have h9 : (asAddr (a.tmps.getD i undef)).run P w = .ok ⟨rw'.blk, rw'.sh + off, none⟩ w := by rw [hi]; rfl
   simp only [Sem.run_bind, Sem.run_pure, Result.andThen_ok, h9, h5, h7]
  ·cases h
theorem results_ok {ρ : Ren} {g : Nat → Option VObj} {w : World} (hw : WR P B w₀ ρ g w) {t : Fr} {a : Act} (ht : FR ρ t a) {fn : Func} {vs : List Value} {l : List Nat} (h : (resV P t fn.results.toList).run g = some (vs, l)) :
  ∃ v', (results fn a.tmps).run P w = .ok v' w ∧ VR ρ (resOf vs) v' := by
 obtain ⟨vs', h1, h2⟩ := resV_ok hw ht h
 have h3 : ∀ F : ResultVar → Sem Value, (fn.results.toList.mapM F).run P w = .ok vs' w → (fn.results.mapM F).run P w = .ok vs'.toArray w := by
  intro F hF
  rw [Array.mapM_eq_mapM_toList]
  show (fn.results.toList.mapM F >>= fun l => pure l.toArray).run P w = _
  rw [Sem.run_bind, hF]
  rfl
 unfold results
 rw [Sem.run_bind]
 refine ⟨(if h : vs'.toArray.size = 1 then vs'.toArray[0] else .tuple vs'.toArray), ?_, ?_⟩
 ·exact Eq.trans (congrArg (fun r => Result.andThen r _) (h3 _ h1)) rfl
 ·cases vs with
  | nil =>
   rw [h2.inv_nil]
   exact VR.tuple_of (LR.nil ρ)
  | cons v vs =>
   obtain ⟨v', r, rfl, h4, h5⟩ := h2.inv_cons
   cases vs with
   | nil => rw [h5.inv_nil]; exact h4
   | cons u vs =>
    obtain ⟨u', r', rfl, h6, h7⟩ := h5.inv_cons
    have : ¬ ((v' :: u' :: r').toArray.size = 1) := by simp
    rw [dif_neg this]
    exact VR.tuple_of h2
theorem Fr.sets_get : ∀ {args : List Value} {i : Nat} {t : Tr Value} {j : Nat}, i + args.length ≤ 1024 → j < 1024 →
  (Fr.sets args i t).get 10 j = if i ≤ j ∧ j < i + args.length then args[j - i]? else t.get 10 j
 | [], i, t, j, h, hj => by
  have : ¬ (i ≤ j ∧ j < i + ([] : List Value).length) := by simp
  rw [if_neg this]; rfl
 | v :: args, i, t, j, h, hj => by
  simp only [List.length_cons] at h ⊢
  unfold Fr.sets
  rw [Fr.sets_get (by omega) hj]
  have h10 : (2 : Nat) ^ 10 = 1024 := rfl
  by_cases h1 : i + 1 ≤ j ∧ j < i + 1 + args.length
  ·rw [if_pos h1, if_pos (by omega), show j - i = (j - (i + 1)) + 1 by omega, List.getElem?_cons_succ]
  ·rw [if_neg h1, Tr.get_set 10 _ _ _ _ (by omega) (by omega)]
   by_cases h2 : j = i
   ·subst h2
    rw [if_pos rfl, if_pos (by omega)]
    simp
   ·rw [if_neg h2, if_neg (by omega)]
theorem Fr.of_ok {ρ : Ren} {args : List Value} {args' : Array Value} (ha : LR ρ args args'.toList) {n : Nat} {t0 : Fr} (h : Fr.of args n = some t0) :
  FR ρ t0 { tmps := args' ++ Array.replicate (n - args'.size) undef, defers := [] } := by
 unfold Fr.of at h
 split at h
 ·rename_i hb
  cases h
  simp only [Bool.and_eq_true] at hb
  have h1 : args.length ≤ n := by simpa [Nat.ble_eq] using hb.1
  have h2 : n ≤ 1024 := by simpa [Nat.ble_eq] using hb.2
  have hlen : args.length = args'.size := by have := ha.len; simpa using this
  refine ⟨by simp; omega, h2, fun i => ?_, .nil⟩
  unfold Fr.at
  dsimp only
  by_cases hi : i < n
  ·rw [blt_iff.2 hi]
   dsimp only
   rw [Fr.sets_get (by omega) (by omega), Tr.get_nil]
   rw [Array.getD_eq_getD_getElem?]
   by_cases hia : i < args.length
   ·rw [if_pos (by omega), Array.getElem?_append_left (by omega)]
    obtain ⟨v', h3, h4⟩ := ha.get (List.getElem?_eq_getElem hia)
    have h5 : args'[i]? = some v' := by simpa using h3
    rw [h5]
    simp only [Nat.sub_zero, List.getElem?_eq_getElem hia]
    exact h4
   ·rw [if_neg (by omega), Array.getElem?_append_right (by omega)]
    have : (Array.replicate (n - args'.size) undef)[i - args'.size]? = some undef := by
     rw [Array.getElem?_replicate, if_pos (by omega)]
    rw [this]
    exact VR.undef ρ
  ·have hb : Nat.blt i n = false := by cases hb : Nat.blt i n with
    | false => rfl
    | true => exact absurd (blt_iff.1 hb) hi
   rw [hb]
   dsimp only
   rw [Array.getD_eq_getD_getElem?, Array.getElem?_eq_none (by simp; omega)]
   exact VR.undef ρ
 ·cases h
theorem leave_some {t : Fr} {fn : Func} {S S1 : VS} {r : CRes} (h : leave P t fn S = some (r, S1)) :
  ∃ vs l, (resV P t fn.results.toList).run (gt S.mem) = some (vs, l) ∧ r = .ret (resOf vs) ∧ S1 = { S with rd := l ++ S.rd } := by
 unfold leave at h
 split at h
 ·rename_i vs l hr
  simp only [Option.some.injEq, Prod.mk.injEq] at h
  exact ⟨vs, l, hr, h.1.symm, h.2.symm⟩
 ·cases h
theorem leave_ext {t : Fr} {fn : Func} {S S1 : VS} {r : CRes} (h : leave P t fn S = some (r, S1)) : Ext S S1 := by
 obtain ⟨vs, l, hr, _, rfl⟩ := leave_some h
 refine ⟨fun x hx => List.mem_append.2 (.inr hx), fun x hx => hx, fun x _ => rfl, fun hS x hx => ?_⟩
 rcases hx with hx | hx
 ·rcases List.mem_append.1 hx with hx | hx
  ·obtain ⟨o, ho⟩ := Rd.read_mem hr x hx; exact small_of_gt ho
  ·exact hS x (.inl hx)
 ·exact hS x (.inr hx)
def MdR (ρ : Ren) : Md → FrameMode → Prop
 | .ret, u => u = .returning
 | .pan v, u => ∃ v', u = .panicking [{ v := v', recovered := false }] ∧ VR ρ v v'
theorem MdR.mono {ρ ρ' : Ren} (hl : ρ.le ρ') : ∀ {md : Md} {u : FrameMode}, MdR ρ md u → MdR ρ' md u
 | .ret, _, h => h
 | .pan v, _, ⟨v', h, hv⟩ => ⟨v', h, hv.mono hl⟩
theorem MdR.settled {ρ : Ren} : ∀ {md : Md} {u : FrameMode}, MdR ρ md u → MdR ρ md (settle u)
 | .ret, _, h => by cases h; rfl
 | .pan v, _, ⟨v', h, hv⟩ => ⟨v', by rw [h]; rfl, hv⟩
theorem MdR.not_run {ρ : Ren} : ∀ {md : Md} {u : FrameMode}, MdR ρ md u → u ≠ .run
 | .ret, _, h => by cases h; simp
 | .pan v, _, ⟨v', h, hv⟩ => by rw [h]; simp
theorem opsQ_ext : ∀ {rest : List Oper} {t t1 : Fr} {S S1 : VS}, opsQ P rest t S = some (t1, S1) → Ext S S1
 | [], t, t1, S, S1, h => by
  simp only [opsQ, Option.some.injEq, Prod.mk.injEq] at h
  obtain ⟨_, rfl⟩ := h
  exact Ext.refl S
 | o :: rest, t, t1, S, S1, h => by
  unfold opsQ at h
  split at h
  ·cases h
  ·split at h
   ·rename_i v S2 hs
    split at h
    ·exact (stepOp_ext hs).trans (opsQ_ext h)
    ·cases h
   ·cases h
theorem opsQ_ok (hP : plainNames P = true) {ops : Array Oper} : ∀ {rest : List Oper} {k : Nat}, (∀ j, rest[j]? = ops[k + j]?) → ∀ {t t1 : Fr} {S S1 : VS},
  opsQ P rest t S = some (t1, S1) → ∀ {ρ : Ren} {m : Nat → Option VObj} {w : World} {a : Act} {cs : List Frame}, FR ρ t a → WR P B w₀ ρ m w → Agree S S1 m → ∀ {Q : Exit → Act → List Frame → World → Prop},
  (∀ (ρ' : Ren) (a' : Act) (w' : World), ρ.le ρ' → FR ρ' t1 a' → WR P B w₀ ρ' (post m S1) w' → Q .normal a' cs w') → wpOpsS P ops Q (List.range' k rest.length) a cs w
 | [], k, hk, t, t1, S, S1, h, ρ, m, w, a, cs, ht, hw, hm, Q, hQ => by
  simp only [opsQ, Option.some.injEq, Prod.mk.injEq] at h
  obtain ⟨rfl, rfl⟩ := h
  exact hQ ρ a w (Ren.le_refl ρ) ht (by rw [post_self hm]; exact hw)
 | o :: rest, k, hk, t, t1, S, S1, h, ρ, m, w, a, cs, ht, hw, hm, Q, hQ => by
  have ho : ops[k]? = some o := by simpa using (hk 0).symm
  have hk' : ∀ j, rest[j]? = ops[k + 1 + j]? := fun j => by have := hk (j + 1); simpa [Nat.add_assoc, Nat.add_comm 1 j] using this
  rw [List.length_cons, List.range'_succ]
  unfold wpOpsS
  simp only [ho]
  unfold opsQ at h
  split at h
  ·cases h
  ·rename_i hg
   have hw1 : Region.wanted o (yielded ops a.tmps) = true := by unfold Region.wanted; rw [hg]
   rw [if_pos hw1]
   split at h
   ·rename_i v S2 hs
    split at h
    ·rename_i t2 hp
     have e2 := opsQ_ext h
     obtain ⟨ρ', w', h1, h2, h3⟩ := stepOp_ok hP hs ht hw (hm.first e2)
     generalize (execOp a.eval o).run P w = q at h2
     cases h2 with
     | val _ v' _ hv =>
      refine opsQ_ok hP hk' h ((ht.mono h1).put hv hp) h3 (hm.next (stepOp_ext hs)) fun ρ2 a2 w2 hle2 hfr2 hwr2 => ?_
      rw [post_post e2] at hwr2
      exact hQ ρ2 a2 w2 (Ren.le_trans h1 hle2) hfr2 hwr2
    ·cases h
   ·cases h
theorem codeD_ext {call : CallF} (hc : CallOk P call) {lf : Nat} {md : Md} : ∀ {c : Code} {t t1 : Fr} {S S1 : VS} {md1 : Md} {x : VEx}, codeD P call lf md c t S = some (md1, x, t1, S1) → Ext S S1 := by
 intro c
 have dflt : ∀ {c : Code} {t t1 : Fr} {S S1 : VS} {md1 : Md} {x : VEx}, (codeV P call lf false c t S).map (fun r => (md, r)) = some (md1, x, t1, S1) → Ext S S1 := by
  intro c t t1 S S1 md1 x h
  simp only [Option.map_eq_some_iff, Prod.mk.injEq] at h
  obtain ⟨_, hcv, rfl, rfl⟩ := h
  exact codeV_ext hc lf hcv
 induction c with
 | seq a b iha ihb =>
  intro t t1 S S1 md1 x h
  unfold codeD at h
  split at h
  ·rename_i md2 t2 S2 h1
   simp only [Option.map_eq_some_iff, Prod.mk.injEq] at h
   obtain ⟨_, hcv, rfl, rfl⟩ := h
   exact (iha h1).trans (codeV_ext hc lf hcv)
  ·exact iha h
 | region id ops draw =>
  intro t t1 S S1 md1 x h
  cases draw with
  | true => unfold codeD at h; exact dflt h
  | false =>
   unfold codeD at h
   split at h
   ·split at h
    ·split at h
     ·split at h
      ·rename_i hq
       simp only [Option.some.injEq, Prod.mk.injEq] at h
       obtain ⟨_, _, _, rfl⟩ := h
       exact opsQ_ext hq
      ·cases h
     ·cases h
    ·exact dflt h
   ·cases h
 | _ => intro t t1 S S1 md1 x h; unfold codeD at h; exact dflt h
abbrev EndD (P : Program) (B : Nat → Prop) (w₀ : World) (ρ : Ren) (m : Nat → Option VObj) (md1 : Md) (x : VEx) (t1 : Fr) (S1 : VS) (c₀ : Frame) (cs : List Frame) (Q : Exit → Act → List Frame → World → Prop) : Prop :=
 ∀ (ρ' : Ren) (e : Exit) (a' : Act) (u' : FrameMode) (w' : World), ρ.le ρ' → XR ρ' x e → FR ρ' t1 a' → MdR ρ' md1 (settle u') → WR P B w₀ ρ' (post m S1) w' → Q e a' ({ c₀ with mode := u' } :: cs) w'
theorem codeD_ok (hP : plainNames P = true) (hmix : P.follows .mixedOrders = true) {call : CallF} (hc : CallOk P call) {lf : Nat} {md : Md} : ∀ {c : Code} {t t1 : Fr} {S S1 : VS} {md1 : Md} {x : VEx},
  codeD P call lf md c t S = some (md1, x, t1, S1) → ∀ {ρ : Ren} {m : Nat → Option VObj} {w : World} {a : Act} {c₀ : Frame} {cs : List Frame}, FR ρ t a → WR P B w₀ ρ m w → Agree S S1 m → MdR ρ md c₀.mode →
  ∀ {Q : Exit → Act → List Frame → World → Prop}, EndD P B w₀ ρ m md1 x t1 S1 c₀ cs Q → c.wpS P Q a (c₀ :: cs) w := by
 intro c
 have dflt : ∀ {c : Code} {t t1 : Fr} {S S1 : VS} {md1 : Md} {x : VEx}, (codeV P call lf false c t S).map (fun r => (md, r)) = some (md1, x, t1, S1) → ∀ {ρ : Ren} {m : Nat → Option VObj} {w : World} {a : Act} {c₀ : Frame} {cs : List Frame}, FR ρ t a → WR P B w₀ ρ m w → Agree S S1 m → MdR ρ md c₀.mode →
   ∀ {Q : Exit → Act → List Frame → World → Prop}, EndD P B w₀ ρ m md1 x t1 S1 c₀ cs Q → c.wpS P Q a (c₀ :: cs) w := by
  intro c t t1 S S1 md1 x h ρ m w a c₀ cs ht hw hm hmd Q hQ
  ·simp only [Option.map_eq_some_iff, Prod.mk.injEq] at h
   obtain ⟨_, hcv, rfl, rfl⟩ := h
   refine wpS_of_wp (wpIn_wide.1 (codeV_ok hP hmix hc lf (r := none) (fun h => by cases h) c hcv ht hw hm fun ρ' e a' w' hle hxr hfr hwr => ?_))
   exact hQ ρ' e a' c₀.mode w' hle hxr hfr (hmd.mono hle).settled hwr
 induction c with
 | seq a b iha ihb =>
  intro t t1 S S1 md1 x h ρ m w ac c₀ cs ht hw hm hmd Q hQ
  unfold codeD at h
  refine wpS_seq ?_
  split at h
  ·rename_i md2 t2 S2 h1
   ·simp only [Option.map_eq_some_iff, Prod.mk.injEq] at h
    obtain ⟨_, hcv, rfl, rfl⟩ := h
    have e2 := codeV_ext hc lf hcv
    refine iha h1 ht hw (hm.first e2) hmd fun ρ' e a' u' w' hle hxr hfr hmd' hwr => ?_
    cases hxr
    refine wpS_of_wp (wpIn_wide.1 (codeV_ok hP hmix hc lf (r := none) (fun h => by cases h) b hcv hfr hwr (hm.next (codeD_ext hc h1)) fun ρ2 e2' a2 w2 hle2 hx2 hfr2 hwr2 => ?_))
    rw [post_post e2] at hwr2
    exact hQ ρ2 e2' a2 u' w2 (Ren.le_trans hle hle2) hx2 hfr2 (hmd'.mono hle2) hwr2
  ·rename_i hne
   refine iha h ht hw hm hmd fun ρ' e a' u' w' hle hxr hfr hmd' hwr => ?_
   cases hxr with
   | normal => exact absurd h (hne _ _ _)
   | _ => exact hQ ρ' _ a' u' w' hle (by constructor <;> assumption) hfr hmd' hwr
 | region id ops draw =>
  intro t t1 S S1 md1 x h ρ m w a c₀ cs ht hw hm hmd Q hQ
  cases draw with
  | true => unfold codeD at h; exact dflt h ht hw hm hmd hQ
  | false =>
   unfold codeD at h
   split at h
   ·rename_i o rest hops
    split at h
    ·rename_i hrec
     split at h
     ·rename_i t2 hp
      split at h
      ·rename_i t3 S2 hq
       simp only [Option.some.injEq, Prod.mk.injEq] at h
       obtain ⟨rfl, rfl, rfl, rfl⟩ := h
       refine wpS_region ?_
       have hsz : ops.size = rest.length + 1 := by rw [← Array.length_toList, hops]; rfl
       have ho : ops[0]? = some o := by rw [← Array.getElem?_toList, hops]; rfl
       rw [List.range_eq_range', hsz, List.range'_succ]
       obtain ⟨at_, ty, hop, hg⟩ : ∃ ar at_, o.op = .call ⟨.builtin .recover, ar, at_⟩ ∧ o.guard = none := by
        unfold recOf at hrec
        split at hrec
        ·rename_i ar at_ h1 h2; exact ⟨ar, at_, h1, h2⟩
        ·cases hrec
       unfold wpOpsS
       simp only [ho]
       have hw1 : Region.wanted o (yielded ops a.tmps) = true := by unfold Region.wanted; rw [hg]
       rw [if_pos hw1]
       have hsem : (execOp a.eval o).run P w = .ok .recover w := by
        unfold execOp
        rw [hop]
        rfl
       rw [hsem]
       have hk : ∀ j, rest[j]? = ops[0 + 1 + j]? := fun j => by
        rw [← Array.getElem?_toList, hops, show 0 + 1 + j = j + 1 by omega]; rfl
       cases md with
       | ret =>
        have hmd0 : c₀.mode = .returning := hmd
        have hrd : recoverD (c₀ :: cs) = none := by simp [recoverD, hmd0]
        simp only [hrd]
        exact opsQ_ok hP hk hq (ht.put (.scal _ rfl) hp) hw hm fun ρ' a' w' hle hfr hwr => hQ ρ' .normal a' c₀.mode w' hle .normal hfr (by rw [hmd0]; rfl) hwr
       | pan v =>
        obtain ⟨v', hmd0, hv⟩ := hmd
        have hrd : recoverD (c₀ :: cs) = some (v', { c₀ with mode := .panicking [{ v := v', recovered := true }] } :: cs) := by simp [recoverD, hmd0]
        simp only [hrd]
        exact opsQ_ok hP hk hq (ht.put hv hp) hw hm fun ρ' a' w' hle hfr hwr => hQ ρ' .normal a' _ w' hle .normal hfr rfl hwr
      ·cases h
     ·cases h
    ·exact dflt h ht hw hm hmd hQ
   ·cases h
 | _ => intro t t1 S S1 md1 x h ρ m w a c₀ cs ht hw hm hmd Q hQ; unfold codeD at h; exact dflt h ht hw hm hmd hQ
theorem callD_some {call : CallF} {lf : Nat} {md : Md} {k : FuncId} {args : List Value} {S S' : VS} {md' : Md} (h : callD P call lf md k args S = some (md', S')) :
  ∃ fn c t0 x t S1 r, P.funcs[k]? = some fn ∧ fn.body = some c ∧ Fr.of args fn.ntmps = some t0 ∧ codeD P call lf md c t0 S = some (md', x, t, S1) ∧ (x = .normal ∨ x = .ret) ∧ t.ds = [] ∧ t.base = [] ∧ leave P t fn S1 = some (r, S') := by
 unfold callD at h
 split at h
 ·cases h
 ·rename_i fn hfn
  split at h
  ·cases h
  ·rename_i c hb
   split at h
   ·cases h
   ·rename_i t0 ht0
    split at h
    ·rename_i md1 x t S1 hcd
     split at h
     ·rename_i hds hbs
      split at h
      ·rename_i r S2 hl
       simp only [Option.some.injEq, Prod.mk.injEq] at h
       obtain ⟨rfl, rfl⟩ := h
       exact ⟨fn, c, t0, _, t, S1, r, hfn, hb, ht0, hcd, .inl rfl, hds, hbs, hl⟩
      ·cases h
     ·rename_i hds hbs
      split at h
      ·rename_i r S2 hl
       simp only [Option.some.injEq, Prod.mk.injEq] at h
       obtain ⟨rfl, rfl⟩ := h
       exact ⟨fn, c, t0, _, t, S1, r, hfn, hb, ht0, hcd, .inr rfl, hds, hbs, hl⟩
      ·cases h
     ·cases h
    ·cases h
theorem callD_ext {call : CallF} (hc : CallOk P call) {lf : Nat} {md : Md} {k : FuncId} {args : List Value} {S S' : VS} {md' : Md} (h : callD P call lf md k args S = some (md', S')) : Ext S S' := by
 obtain ⟨fn, c, t0, x, t, S1, r, _, _, _, hcd, _, _, _, hl⟩ := callD_some h
 exact (codeD_ext hc hcd).trans (leave_ext hl)
theorem callD_ok (hP : plainNames P = true) (hmix : P.follows .mixedOrders = true) {call : CallF} (hc : CallOk P call) {lf : Nat} {md : Md} {k : FuncId} {args : List Value} {S S' : VS} {md' : Md}
  (h : callD P call lf md k args S = some (md', S')) {ρ : Ren} {m : Nat → Option VObj} {w : World} {args' : Array Value} {u : FrameMode} (hmd : MdR ρ md u) (ha : LR ρ args args'.toList) (hw : WR P B w₀ ρ m w) (hm : Agree S S' m)
  {R : Ending → FrameMode → World → Prop} (hR : ∀ (ρ' : Ren) (v : Value) (u' : FrameMode) (w' : World), ρ.le ρ' → MdR ρ' md' (settle u') → WR P B w₀ ρ' (post m S') w' → R (.returned v) u' w') : CallsD P k args' u w R := by
 obtain ⟨fn, c, t0, x, t, S1, r, hfn, hb, ht0, hcd, hx, hds, hbs, hl⟩ := callD_some h
 refine callsD_of_wpS hfn hb fun c₀ cs hu => ?_
 subst hu
 have e2 := leave_ext hl
 have e1 := codeD_ext hc hcd
 obtain ⟨vs, l, hres, rfl, rfl⟩ := leave_some hl
 refine codeD_ok hP hmix hc hcd (Fr.of_ok ha ht0) hw (hm.first e2) hmd fun ρ' e a' u' w' hle hxr hfr hmd' hwr => ?_
 have hag := hm.next e1
 have hres' : (resV P t fn.results.toList).run (post m S1) = some (vs, l) := Rd.run_congr hres fun y hy => hag y (.inl (List.mem_append.2 (.inl hy)))
 obtain ⟨v', h1, h2⟩ := results_ok hwr hfr hres'
 have hd : a'.defers = [] := by rw [hfr.none_left hds, hbs]
 have fin : a'.defers = [] ∧ ∃ u1, ({ c₀ with mode := u' } :: cs : List Frame) = { c₀ with mode := u1 } :: cs ∧ ∃ v, (results fn a'.tmps).run P w' = .ok v w' ∧ R (.returned v) u1 w' :=
  ⟨hd, u', rfl, v', h1, hR ρ' v' u' w' hle hmd' hwr⟩
 rcases hx with rfl | rfl <;> cases hxr <;> exact fin
theorem runD_ext {call : CallF} (hc : CallOk P call) {lf : Nat} : ∀ {ds : List (FuncId × List Value)} {md md' : Md} {S S' : VS}, runD P call lf ds md S = some (md', S') → Ext S S'
 | [], md, md', S, S', h => by
  simp only [runD, Option.some.injEq, Prod.mk.injEq] at h
  obtain ⟨_, rfl⟩ := h
  exact Ext.refl S
 | (k, args) :: l, md, md', S, S', h => by
  unfold runD at h
  split at h
  ·rename_i md1 S1 h1
   exact (callD_ext hc h1).trans (runD_ext hc h)
  ·cases h
theorem enters (hP : plainNames P = true) {k : FuncId} {fn : Func} {c : Code} (hf : P.funcs[k]? = some fn) (hb : fn.body = some c) (args : Array Value) (w : World) : (callFunc k args).run P w = .ok (.enter k args) w := by
 have hname : (fn.name == "runtime.NumGoroutine") = false := by
  have := List.all_eq_true.1 hP fn (by rw [Array.mem_toList_iff]; exact Array.mem_of_getElem? hf)
  simpa using this
 unfold callFunc
 rw [Sem.run_bind, run_program, Result.andThen_ok]
 simp only [hf, hname, hb, Option.isNone_some, Bool.false_eq_true, if_false, Sem.run_pure]
theorem runD_ok (hP : plainNames P = true) (hmix : P.follows .mixedOrders = true) {call : CallF} (hc : CallOk P call) {lf : Nat} {fn : Func} {tmps : Array Value} {R : Ending → World → Prop} :
  ∀ {ds : List (FuncId × List Value)} {l : List Deferred} {md md' : Md} {S S' : VS}, runD P call lf ds md S = some (md', S') → ∀ {ρ : Ren} {m : Nat → Option VObj} {w : World} {u : FrameMode}, DsR ρ [] ds l → MdR ρ md u → WR P B w₀ ρ m w → Agree S S' m →
  (∀ (ρ' : Ren) (u' : FrameMode) (w' : World), ρ.le ρ' → MdR ρ' md' u' → WR P B w₀ ρ' (post m S') w' → Leaves P fn tmps R [] u' w') → Leaves P fn tmps R l u w
 | [], l, md, md', S, S', h, ρ, m, w, u, hd, hmd, hw, hm, hK => by
  simp only [runD, Option.some.injEq, Prod.mk.injEq] at h
  obtain ⟨rfl, rfl⟩ := h
  cases hd
  exact hK ρ u w (Ren.le_refl ρ) hmd (by rw [post_self hm]; exact hw)
 | (k, args) :: ds, l, md, md', S, S', h, ρ, m, w, u, hd, hmd, hw, hm, hK => by
  unfold runD at h
  split at h
  ·rename_i md1 S1 h1
   have e2 := runD_ext hc h
   cases hd with
   | cons hargs hrest =>
    obtain ⟨fn', c, _, _, _, _, _, hfn, hb, _⟩ := callD_some h1
    refine leaves_cons hmd.not_run (f := k) (enters hP hfn hb _ _) ?_
    refine callD_ok hP hmix hc h1 hmd hargs hw (hm.first e2) fun ρ' v u' w' hle hmd' hwr => ?_
    refine runD_ok hP hmix hc h (hrest.mono hle) hmd' hwr (hm.next (callD_ext hc h1)) fun ρ2 u2 w2 hle2 hmd2 hwr2 => ?_
    rw [post_post e2] at hwr2
    exact hK ρ2 u2 w2 (Ren.le_trans hle hle2) hmd2 hwr2
  ·cases h
theorem endV_some {call : CallF} {lf : Nat} {fn : Func} {md : Md} {t : Fr} {S S' : VS} {r : CRes} (h : endV P call lf fn md t S = some (r, S')) :
  t.base = [] ∧ ∃ md' S1, runD P call lf t.ds md S = some (md', S1) ∧ ((md' = .ret ∧ leave P t fn S1 = some (r, S')) ∨ ∃ v, md' = .pan v ∧ r = .panic v ∧ S' = S1) := by
 unfold endV at h
 split at h
 ·rename_i hb
  refine ⟨hb, ?_⟩
  split at h
  ·rename_i S1 h1; exact ⟨_, S1, h1, .inl ⟨rfl, h⟩⟩
  ·rename_i v S1 h1
   simp only [Option.some.injEq, Prod.mk.injEq] at h
   exact ⟨_, S1, h1, .inr ⟨v, rfl, h.1.symm, h.2.symm⟩⟩
  ·cases h
 ·cases h
theorem endV_ext {call : CallF} (hc : CallOk P call) {lf : Nat} {fn : Func} {md : Md} {t : Fr} {S S' : VS} {r : CRes} (h : endV P call lf fn md t S = some (r, S')) : Ext S S' := by
 obtain ⟨_, md', S1, h1, h2⟩ := endV_some h
 rcases h2 with ⟨_, hl⟩ | ⟨v, _, _, rfl⟩
 ·exact (runD_ext hc h1).trans (leave_ext hl)
 ·exact runD_ext hc h1
theorem endV_ok (hP : plainNames P = true) (hmix : P.follows .mixedOrders = true) {call : CallF} (hc : CallOk P call) {lf : Nat} {fn : Func} {md : Md} {t : Fr} {S S' : VS} {r : CRes} (h : endV P call lf fn md t S = some (r, S'))
  {ρ : Ren} {m : Nat → Option VObj} {w : World} {a : Act} {u : FrameMode} (ht : FR ρ t a) (hmd : MdR ρ md u) (hw : WR P B w₀ ρ m w) (hm : Agree S S' m)
  {R : Ending → World → Prop} (hR : ∀ (ρ' : Ren) (e : Ending) (w' : World), ρ.le ρ' → CR ρ' r e → WR P B w₀ ρ' (post m S') w' → R e w') : Leaves P fn a.tmps R a.defers u w := by
 obtain ⟨hb, md', S1, h1, h2⟩ := endV_some h
 have hds := ht.defers
 rw [hb] at hds
 rcases h2 with ⟨rfl, hl⟩ | ⟨v, rfl, rfl, rfl⟩
 ·have e2 := leave_ext hl
  obtain ⟨vs, l, hres, rfl, rfl⟩ := leave_some hl
  refine runD_ok hP hmix hc h1 hds hmd hw (hm.first e2) fun ρ' u' w' hle hmd' hwr => ?_
  cases hmd'
  have hag := hm.next (runD_ext hc h1)
  have hres' : (resV P t fn.results.toList).run (post m S1) = some (vs, l) := Rd.run_congr hres fun y hy => hag y (.inl (List.mem_append.2 (.inl hy)))
  obtain ⟨v', h3, h4⟩ := results_ok hwr (ht.mono hle) hres'
  exact ⟨v', h3, hR ρ' _ w' hle h4 hwr⟩
 ·refine runD_ok hP hmix hc h1 hds hmd hw hm fun ρ' u' w' hle hmd' hwr => ?_
  obtain ⟨v', rfl, hv⟩ := hmd'
  exact hR ρ' _ w' hle ⟨v', rfl, hv⟩ hwr
theorem funV_call (hP : plainNames P = true) (hmix : P.follows .mixedOrders = true) {sp : CallF → CallF} (hsp : ∀ call, CallOk P call → CallOk P (sp call)) (lf : Nat) : ∀ (d : Nat), CallOk P (funV P sp lf d)
 | 0 => { ext := (by intro f args S r S' h; cases h), ok := (by intro f args S r S' h; cases h) }
 | d + 1 => by
  have hc := hsp _ (funV_call hP hmix hsp lf d)
  have body : ∀ {f : FuncId} {args : List Value} {S : VS} {r : CRes} {S' : VS}, funV P sp lf (d + 1) f args S = some (r, S') →
    ∃ fn c t0 x t S1 md, P.funcs[f]? = some fn ∧ fn.body = some c ∧ Fr.of args fn.ntmps = some t0 ∧ codeV P (sp (funV P sp lf d)) lf true c t0 S = some (x, t, S1) ∧
     (((x = .normal ∨ x = .ret) ∧ md = .ret) ∨ ∃ v, x = .panic v ∧ md = .pan v) ∧ endV P (sp (funV P sp lf d)) lf fn md t S1 = some (r, S') := by
   intro f args S r S' h
   unfold funV at h
   split at h
   ·cases h
   ·rename_i fn hfn
    split at h
    ·cases h
    ·rename_i c hb
     split at h
     ·cases h
     ·rename_i t0 ht0
      split at h
      ·rename_i t S1 hcv; exact ⟨fn, c, t0, _, t, S1, _, hfn, hb, ht0, hcv, .inl ⟨.inl rfl, rfl⟩, h⟩
      ·rename_i t S1 hcv; exact ⟨fn, c, t0, _, t, S1, _, hfn, hb, ht0, hcv, .inl ⟨.inr rfl, rfl⟩, h⟩
      ·rename_i v t S1 hcv; exact ⟨fn, c, t0, _, t, S1, _, hfn, hb, ht0, hcv, .inr ⟨v, rfl, rfl⟩, h⟩
      ·cases h
  refine ⟨fun h => ?_, fun h => ?_⟩
  ·obtain ⟨fn, c, t0, x, t, S1, md, hfn, hb, ht0, hcv, hr, he⟩ := body h
   exact (codeV_ext hc lf hcv).trans (endV_ext hc he)
  ·intro B w₀ ρ m w args' ha hw hm
   obtain ⟨fn, c, t0, x, t, S1, md, hfn, hb, ht0, hcv, hr, he⟩ := body h
   refine calls_of_wp_defers hfn hb ?_
   refine (wpIn_wide (n := 0)).1 ?_
   have e2 := endV_ext hc he
   have e1 := codeV_ext hc lf hcv
   refine codeV_ok hP hmix hc lf (r := none) (fun _ => rfl) c hcv (Fr.of_ok ha ht0) hw (hm.first e2) fun ρ' e a' w' hle hxr hfr hwr => ?_
   have fin : ∀ u, MdR ρ' md u → Leaves P fn a'.tmps (fun e w' => ∃ ρ', ρ.le ρ' ∧ CR ρ' _ e ∧ WR P B w₀ ρ' (post m _) w') a'.defers u w' := fun u hmd =>
    endV_ok hP hmix hc he hfr hmd hwr (hm.next e1) fun ρ2 e w2 h1 h2 h3 => ⟨ρ2, Ren.le_trans hle h1, h2, by rwa [post_post e2] at h3⟩
   rcases hr with ⟨hx, rfl⟩ | ⟨v, rfl, rfl⟩
   ·rcases hx with rfl | rfl <;> cases hxr <;> exact fin _ rfl
   ·cases hxr with
    | panic _ v' hv => exact fin _ ⟨v', rfl, hv⟩
theorem WR.start (w : World) (he : Env (fun k => k < w.heap.size) w) : WR P (fun k => k < w.heap.size) w (fun _ => none) (fun _ => none) w :=
 { below := BelowK.refl _ _, env := he, size := fun _ h => h, live := (by intro x o r h; cases h), inj := (by intro x y ox oy rx ry h; cases h), fresh := fun _ _ => rfl, rows := (by intro x n s q h; cases h), nil := (by intro x el ro r h; cases h), named := (by intro x o h; cases h), abs := .none (by intro x d h; cases h) }
end
end Go.Proofs.YtgepfmamfdmclaaGreatDoor.Vm
namespace Go.Proofs.YtgepfmamfdmclaaGreatDoor.Vm
open Go.RowKit
def Fr.rebase (b : List Deferred) (f : Fr) : Fr := { f with base := b }
theorem Fr.at_rebase (b : List Deferred) (f : Fr) (i : Nat) : (f.rebase b).at i = f.at i := rfl
theorem evalL_rebase (b : List Deferred) (f : Fr) : evalL (f.rebase b) = evalL f := by
 funext x; cases x <;> rfl
theorem stepOp_rebase {P : Program} (b : List Deferred) (t : Fr) (S : VS) (o : Oper) : stepOp P (t.rebase b) S o = stepOp P t S o := by
 have h0 : stepOp0 P (t.rebase b) S o = stepOp0 P t S o := by unfold stepOp0; rw [evalL_rebase]
 have h1 : viewOf P (t.rebase b) S o = viewOf P t S o := by unfold viewOf; rw [evalL_rebase]
 unfold stepOp
 rw [h1, h0]
theorem set_rebase (b : List Deferred) (t : Fr) (i : Nat) (v : Value) : (t.rebase b).set i v = (t.set i v).map (Fr.rebase b) := by
 rw [Fr.set_eq, Fr.set_eq]
 show (match Nat.blt i t.n with | true => _ | false => _) = _
 cases Nat.blt i t.n <;> rfl
theorem put_rebase (b : List Deferred) (t : Fr) (d : Option Tmp) (v : Value) : put (t.rebase b) d v = (put t d v).map (Fr.rebase b) := by
 cases d with
 | none => rfl
 | some d => exact set_rebase b t d v
theorem yieldedL_rebase (b : List Deferred) (ops : List Oper) (t : Fr) : yieldedL ops (t.rebase b) = yieldedL ops t := by
 funext j; unfold yieldedL; rfl
def rb3 {α β : Type} (b : List Deferred) : α × Fr × β → α × Fr × β := fun p => (p.1, p.2.1.rebase b, p.2.2)
def rb2 {β : Type} (b : List Deferred) : Fr × β → Fr × β := fun p => (p.1.rebase b, p.2)
theorem opV_rebase {P : Program} {call : CallF} (b : List Deferred) (ops : List Oper) (o : Oper) (t : Fr) (S : VS) : opV P call ops o (t.rebase b) S = (opV P call ops o t S).map (rb3 b) := by
 unfold opV
 rw [yieldedL_rebase, stepOp_rebase]
 cases Region.wanted o (yieldedL ops t) with
 | false => simp only [put_rebase, Option.map_map]; cases put t o.dst undef <;> rfl
 | true =>
  dsimp only
  cases hs : stepOp P t S o with
  | none => rfl
  | some p =>
   obtain ⟨r, S1⟩ := p
   dsimp only
   cases r with
   | val v => dsimp only; simp only [put_rebase, Option.map_map]; cases put t o.dst v <;> rfl
   | skip => dsimp only; simp only [put_rebase, Option.map_map]; cases put t o.dst undef <;> rfl
   | panic v => rfl
   | defer d => rfl
   | enter f args =>
    dsimp only
    cases hc : call f args S1 with
    | none => rfl
    | some q =>
     obtain ⟨cr, S2⟩ := q
     cases cr with
     | ret v => dsimp only; simp only [put_rebase, Option.map_map]; cases put t o.dst v <;> rfl
     | panic v => rfl
theorem opsV_rebase {P : Program} {call : CallF} (b : List Deferred) (ops : List Oper) : ∀ (l : List Oper) (t : Fr) (S : VS), opsV P call false ops l (t.rebase b) S = (opsV P call false ops l t S).map (rb3 b)
 | [], t, S => rfl
 | o :: rest, t, S => by
  unfold opsV
  cases isDef o with
  | some c => rfl
  | none =>
   dsimp only
   rw [opV_rebase]
   cases opV P call ops o t S with
   | none => rfl
   | some p =>
    obtain ⟨v, t1, S1⟩ := p
    cases v with
    | some v => rfl
    | none => exact opsV_rebase b ops rest t1 S1
theorem drawV_rebase {P : Program} {call : CallF} (b : List Deferred) (ops : List Oper) : ∀ (l : List Oper) (t : Fr) (S : VS), drawV P call ops l (t.rebase b) S = (drawV P call ops l t S).map (rb2 b)
 | [], t, S => rfl
 | o :: rest, t, S => by
  unfold drawV
  rw [opV_rebase]
  cases opV P call ops o t { S with rd := [], wr := [] } with
  | none => rfl
  | some p =>
   obtain ⟨v, t1, S1⟩ := p
   cases v with
   | some v => rfl
   | none =>
    show (match drawV P call ops rest (t1.rebase b) _ with | some (t2, S2, fps) => _ | none => _) = _
    rw [drawV_rebase b ops rest]
    dsimp only
    cases drawV P call ops rest t1 { S1 with rd := S1.rd ++ S.rd, wr := S1.wr ++ S.wr } with
    | none => rfl
    | some q => rfl
theorem iter_rebase (b : List Deferred) {f : Fr → VS → Option (VEx × Fr × VS)} (hf : ∀ t S, f (t.rebase b) S = (f t S).map (rb3 b)) : ∀ (k : Nat) (t : Fr) (S : VS), iter f k (t.rebase b) S = (iter f k t S).map (rb3 b)
 | 0, t, S => rfl
 | k + 1, t, S => by
  unfold iter
  rw [hf]
  cases f t S with
  | none => rfl
  | some p =>
   obtain ⟨x, t1, S1⟩ := p
   cases x with
   | normal => exact iter_rebase b hf k t1 S1
   | exit id => rfl
   | ret => rfl
   | panic v => rfl
theorem codeV_rebase {P : Program} {call : CallF} (lf : Nat) (b : List Deferred) : ∀ (c : Code) (t : Fr) (S : VS), codeV P call lf false c (t.rebase b) S = (codeV P call lf false c t S).map (rb3 b) := by
 intro c
 induction c with
 | skip => intro t S; rfl
 | region id ops dr =>
  intro t S
  cases dr with
  | false => exact opsV_rebase b _ _ t S
  | true =>
   unfold codeV
   rw [drawV_rebase]
   cases drawV P call ops.toList ops.toList t S with
   | none => rfl
   | some p =>
    obtain ⟨t1, S1, fps⟩ := p
    show (match drawOk ops fps with | true => _ | false => _) = Option.map _ (match drawOk ops fps with | true => _ | false => _)
    cases drawOk ops fps <;> rfl
 | seq x y ihx ihy =>
  intro t S
  unfold codeV
  rw [ihx]
  cases codeV P call lf false x t S with
  | none => rfl
  | some p =>
   obtain ⟨e, t1, S1⟩ := p
   cases e with
   | normal => exact ihy t1 S1
   | exit id => rfl
   | ret => rfl
   | panic v => rfl
 | cond c x y ihx ihy =>
  intro t S
  unfold codeV
  rw [evalL_rebase]
  split
  ·exact ihx t S
  ·exact ihy t S
  ·rfl
 | block id c ih =>
  intro t S
  unfold codeV
  rw [ih]
  cases codeV P call lf false c t S with
  | none => rfl
  | some p =>
   obtain ⟨e, t1, S1⟩ := p
   cases e with
   | exit j =>
    show (match Nat.beq j id with | true => _ | false => _) = Option.map _ (match Nat.beq j id with | true => _ | false => _)
    cases Nat.beq j id <;> rfl
   | normal => rfl
   | ret => rfl
   | panic v => rfl
 | loop c ih => intro t S; exact iter_rebase b ih lf t S
 | exit id => intro t S; rfl
 | ret => intro t S; rfl
 | scope c ih => intro t S; exact ih t S
 | label l => intro t S; rfl
 | _ => intros; rfl
def noRow : Obj → Bool
 | .deferred _ | .loop _ => true
 | _ => false
theorem OR.row {P : Program} {ρ : Ren} {r : Where} {o : VObj} {o' : Obj} (h : OR P ρ r o o') : noRow o' = false := by cases h <;> rfl
section
variable {P : Program} {B : Nat → Prop} {w₀ w w' : World} {ρ : Ren} {g : Nat → Option VObj} {M : List Nat}
theorem SR.fwd (hb : BelowK B w₀ w) {s : SV} {v : Value} (h : SR P w₀ B s v) : SR P w (fun k => B k ∨ k ∈ M) s v := by
 induction h with
 | val v h => exact .val v h
 | nil el a => exact .nil el a
 | cells n c el b off cap c' el' fr hB hbb hc hl hn hcap => exact .cells n c el b off cap c' el' fr (.inl hB) ((hb.block b hB).trans hbb) hc hl hn hcap
 | rnil size row a => exact .rnil size row a
 | rows n size row b off cap c' el' fr hB hbb hl hn hcap hlen u hu hr ih => exact .rows n size row b off cap c' el' fr (.inl hB) ((hb.block b hB).trans hbb) hl hn hcap hlen u hu ih
theorem SR.bwd (hb : BelowK B w₀ w) (hq : ∀ D ∈ M, ∃ o, w.heap[D]? = some o ∧ noRow o = true) {s : SV} {v : Value} (h : SR P w (fun k => B k ∨ k ∈ M) s v) : SR P w₀ B s v := by
 have key : ∀ {b : Nat} {c' : Array Value} {el' : TypeId} {fr : Nat × Nat}, (B b ∨ b ∈ M) → w.heap[b]? = some (.cells c' el' fr) → B b := fun hB hbb => by
  rcases hB with hB | hB
  ·exact hB
  ·obtain ⟨o, h1, h2⟩ := hq _ hB
   rw [hbb] at h1
   cases h1
   cases h2
 induction h with
 | val v h => exact .val v h
 | nil el a => exact .nil el a
 | cells n c el b off cap c' el' fr hB hbb hc hl hn hcap => exact .cells n c el b off cap c' el' fr (key hB hbb) ((hb.block b (key hB hbb)).symm.trans hbb) hc hl hn hcap
 | rnil size row a => exact .rnil size row a
 | rows n size row b off cap c' el' fr hB hbb hl hn hcap hlen u hu hr ih => exact .rows n size row b off cap c' el' fr (key hB hbb) ((hb.block b (key hB hbb)).symm.trans hbb) hl hn hcap hlen u hu ih
theorem RowsAt.fwd (hb : BelowK B w₀ w) {r : Where} {n size : Nat} {row : Nat → List SV} (h : RowsAt P w₀ B r n size row) : RowsAt P w (fun k => B k ∨ k ∈ M) r n size row := by
 obtain ⟨h1, h2, c', el', fr, h3, h4, h5, h6⟩ := h
 exact ⟨.inl h1, h2, c', el', fr, (hb.block _ h1).trans h3, h4, h5, fun i hi => ⟨(h6 i hi).1, fun k sv hk => let ⟨v', a, b⟩ := (h6 i hi).2 k sv hk; ⟨v', a, b.fwd hb⟩⟩⟩
theorem RowsAt.bwd (hb : BelowK B w₀ w) (hq : ∀ D ∈ M, ∃ o, w.heap[D]? = some o ∧ noRow o = true) {r : Where} {n size : Nat} {row : Nat → List SV} (h : RowsAt P w (fun k => B k ∨ k ∈ M) r n size row) : RowsAt P w₀ B r n size row := by
 obtain ⟨h1, h2, c', el', fr, h3, h4, h5, h6⟩ := h
 have hB : B r.blk := by
  rcases h1 with h1 | h1
  ·exact h1
  ·obtain ⟨o, a, b⟩ := hq _ h1
   rw [h3] at a
   cases a
   cases b
 exact ⟨hB, h2, c', el', fr, (hb.block _ hB).symm.trans h3, h4, h5, fun i hi => ⟨(h6 i hi).1, fun k sv hk => let ⟨v', a, b⟩ := (h6 i hi).2 k sv hk; ⟨v', a, b.bwd hb hq⟩⟩⟩
theorem WR.reroot (h : WR P B w₀ ρ g w) (hq : ∀ D ∈ M, ∃ o, w.heap[D]? = some o ∧ noRow o = true) : WR P (fun k => B k ∨ k ∈ M) w ρ g w where
 env := h.env.next h.below fun _ hk => .inl hk
 below := BelowK.refl _ _
 size := by
  rintro k (hk | hk)
  ·exact h.size k hk
  ·obtain ⟨o, a, _⟩ := hq k hk
   exact (Array.getElem?_eq_some_iff.1 a).1
 live := fun x o r hx hr hl => by
  obtain ⟨o', h1, h2, h3⟩ := h.live x o r hx hr hl
  refine ⟨o', h1, h2, fun e => ?_⟩
  rintro (hk | hk)
  ·exact h3 e hk
  ·obtain ⟨o2, a, b⟩ := hq _ hk
   rw [h1] at a
   cases a
   rw [h2.row] at b
   cases b
 inj := h.inj
 fresh := h.fresh
 rows := fun x n size row hx => let ⟨r, a, b⟩ := h.rows x n size row hx; ⟨r, a, fun hn => (b hn).fwd h.below⟩
 nil := h.nil
 named := h.named
 abs := by
  obtain ⟨F, a1, a2, a3⟩ := h.abs
  refine ⟨fun x k => F x k ∧ ∃ o, w.heap[k]? = some o ∧ isRowO o = true, fun x d hx => ?_, fun x k hk => ?_, fun x y k p q => a3 x y k p.1 q.1⟩
  ·obtain ⟨r, S, c, e, f⟩ := a1 x d hx
   exact ⟨r, S, c, e, fun k hk => ⟨f k hk, e.row k hk⟩⟩
  ·obtain ⟨b1, b2, b3, b4⟩ := a2 x k hk.1
   refine ⟨b1, b2, ?_, b4⟩
   rintro (hB | hM)
   ·exact b3 hB
   ·obtain ⟨o, ho, hr⟩ := hk.2
    obtain ⟨o2, ho2, hn⟩ := hq k hM
    rw [ho] at ho2
    cases ho2
    cases o <;> first | (cases hr; done) | (cases hn; done)
theorem WR.unroot (h : WR P (fun k => B k ∨ k ∈ M) w ρ g w') (he : Env B w₀) (hb : BelowK B w₀ w) (hs : ∀ k, B k → k < w.heap.size) (hq : ∀ D ∈ M, ∃ o, w.heap[D]? = some o ∧ noRow o = true) : WR P B w₀ ρ g w' where
 env := he
 below := hb.trans ⟨h.below.os, h.below.tape, h.below.output, h.below.size, fun k hk => h.below.block k (.inl hk)⟩
 size := fun k hk => h.size k (.inl hk)
 live := fun x o r hx hr hl => by
  obtain ⟨o', h1, h2, h3⟩ := h.live x o r hx hr hl
  exact ⟨o', h1, h2, fun e hk => h3 e (.inl hk)⟩
 inj := h.inj
 fresh := h.fresh
 rows := fun x n size row hx => let ⟨r, a, b⟩ := h.rows x n size row hx; ⟨r, a, fun hn => (b hn).bwd hb hq⟩
 nil := h.nil
 named := h.named
 abs := h.abs.next (fun x d hx => ⟨hx, rfl⟩) (fun k _ a b => ⟨rfl, fun hB => a (.inl hB), b⟩) (Nat.le_refl _)
theorem WR.kept_block (h : WR P (fun k => B k ∨ k ∈ M) w ρ g w') {D : Nat} (hD : D ∈ M) : w'.heap[D]? = w.heap[D]? := h.below.block D (.inr hD)
end
end Go.Proofs.YtgepfmamfdmclaaGreatDoor.Vm
