/- The small machine, its ninth text: append and copy. -/
import Derived.Test.YtdbjloigfkckfaaGreatDoorVmV
namespace Go.Proofs.YtdbjloigfkckfaaGreatDoor.Vm
open Go.RowKit
set_option linter.unusedVariables false
set_option linter.unusedSimpArgs false

section
variable {P : Program} {B : Nat → Prop} {w₀ : World} {ρ : Ren} {g : Nat → Option VObj} {n : Nat} {w : World}

theorem isScal_slice {a : Option Addr} {l c : Nat} (h : isScal (.slice a l c) = true) : a = none ∧ l = 0 ∧ c = 0 := by
  cases a with
  | some a => simp [isScal] at h
  | none =>
    cases l with
    | succ l => simp [isScal] at h
    | zero => cases c with
      | succ c => simp [isScal] at h
      | zero => exact ⟨rfl, rfl, rfl⟩

theorem lenV_ok {x x' : Value} (hx : VR ρ x x') {k : Nat} (h : lenV x = some k) : (Builtin.lenOf x').run P w = .ok k w := by
  unfold lenV at h
  split at h
  · cases h; cases hx <;> first | rfl | (rename_i h; unfold isScal at h; split at h <;> first | (rename_i e; cases e; rfl) | cases h)
  · cases h; rw [hx.string_inv]; rfl
  · cases h

theorem run_loadCells_zero (a : Addr) : (loadCells a 0).run P w = .ok #[] w := rfl

theorem cellsV_ok (hw : WR P B w₀ ρ g w) {x x' : Value} (hx : VR ρ x x') {size k m : Nat} (hm : lenV x = some m) (hk : k ≤ m) {xs : List Value} {l : List Nat}
    (h : (cellsV size x k).run g = some (xs, l)) : ∃ xs' : Array Value, (∀ w' : World, w'.heap = w.heap → (Builtin.firstCells size k x').run P w' = .ok xs' w') ∧ LR ρ xs xs'.toList := by
  unfold cellsV at h
  split at h
  · rename_i b off len cap
    obtain ⟨o, l', hb, hkk, rfl⟩ := Rd.run_read h
    split at hkk
    · rename_i c el ro
      have hcut := Rd.run_ofO hkk
      obtain ⟨hle, rfl⟩ := cut_some hcut
      simp only [lenV, Option.some.injEq] at hm
      cases hx with
      | scal _ h => cases h
      | slE _ a' =>
        have : k = 0 := by omega
        subst this
        refine ⟨#[], fun w' _ => ?_, by simpa using LR.nil ρ⟩
        unfold Builtin.firstCells
        simp only [Nat.zero_mul]
        cases a' <;> rfl
      | sl _ _ _ _ cap' r hr hc =>
        by_cases hlen : k * size = 0
        · refine ⟨#[], fun w' _ => ?_, by rw [hlen]; simpa using LR.nil ρ⟩
          unfold Builtin.firstCells
          simp only [hlen]
          rfl
        obtain ⟨c', fr, ⟨el', h1, he⟩, hp, hsh, hz, hf, hl, hB⟩ := cells_of hw hb hr (live_ne (by intro e; rw [e] at hle; simp at hle; omega))
        refine ⟨_, fun w' hh => run_loadCells_block (by rw [hh]; exact h1) _ _ (by omega), ?_⟩
        simpa using cut_LR hl hle
    · cases hkk
  · cases hx with
    | scal =>
      simp only [Rd.run, Option.some.injEq, Prod.mk.injEq] at h
      obtain ⟨rfl, rfl⟩ := h
      exact ⟨#[], fun w' _ => rfl, by simpa using LR.nil ρ⟩
  · rename_i s
    rw [hx.string_inv]
    simp only [Rd.run, Option.some.injEq, Prod.mk.injEq] at h
    obtain ⟨rfl, rfl⟩ := h
    refine ⟨_, fun w' _ => rfl, ?_⟩
    have : (Array.map (fun b : UInt8 => Value.int .u8 b.toNat) (s.extract 0 k).data).toList = (s.data.toList.take k).map fun b => Value.int .u8 b.toNat := by
      simp [ByteArray.data_extract, Array.toList_extract, List.extract_eq_take_drop]
    rw [this]
    exact LR.map _ _ _ fun b _ => .scal _ rfl
  · cases h

theorem cellsV_zero {x : Value} {size : Nat} {xs : List Value} {l : List Nat} (h : (cellsV size x 0).run g = some (xs, l)) : xs = [] := by
  unfold cellsV at h
  split at h
  · obtain ⟨o, l', hb, hkk, rfl⟩ := Rd.run_read h
    split at hkk
    · obtain ⟨hle, rfl⟩ := cut_some (Rd.run_ofO hkk)
      simp
    · cases hkk
  · simp only [Rd.run, Option.some.injEq, Prod.mk.injEq] at h; exact h.1.symm
  · simp only [Rd.run, Option.some.injEq, Prod.mk.injEq] at h; rw [← h.1]; rfl
  · cases h

theorem growBy_le (newLen : Nat) : ∀ (r c : Nat), c ≤ newLen + (newLen + 768) / 4 → Builtin.growBy newLen r c ≤ newLen + (newLen + 768) / 4
  | 0, c, h => h
  | r + 1, c, h => by
    unfold Builtin.growBy
    split
    · exact h
    · exact growBy_le newLen r _ (by omega)

theorem nextslicecap_le {need cap : Nat} (h : cap < need) : Builtin.nextslicecap need cap ≤ 2 * need + 768 := by
  unfold Builtin.nextslicecap
  split
  · omega
  · split
    · omega
    · have := growBy_le need 4 cap (by omega)
      omega

/-- What the model's append is asked of. -/
structure AppArgs (P : Program) (w : World) (argTypes : Array TypeId) (args : Array Value) (elem : TypeId) (size len cap k : Nat) (base : Option Addr) (x : Value) (z : Value) (bytes : Nat) (xs : Array Value) : Prop where
  e1 : ∃ sT xT rest xd, argTypes.toList = sT :: xT :: rest ∧ P.underlying sT = some (.slice elem) ∧ P.underlying xT = some xd ∧ isInt xd = false
  e2 : ∃ rest, args.toList = .slice base len cap :: x :: rest
  sz : szOf P elem = some size
  zero : zeroOf P elem = some z
  by_ : ∃ inf, P.info? elem = some inf ∧ inf.bytes = bytes
  len_ : ∀ w : World, (Builtin.lenOf x).run P w = .ok k w
  cells : ∀ w' : World, w'.heap = w.heap → (Builtin.firstCells size k x).run P w' = .ok xs w'

theorem arr_get {α : Type} {a : Array α} {l : List α} (h : a.toList = l) (i : Nat) : a[i]? = l[i]? := by rw [← h]; simp

theorem run_append_in {argTypes : Array TypeId} {ty : TypeId} {args : Array Value} {elem : TypeId} {size len cap k : Nat} {base : Option Addr} {x z : Value} {bytes : Nat} {xs : Array Value}
    (h : AppArgs P w argTypes args elem size len cap k base x z bytes xs) (hle : len + k ≤ cap) :
    (Builtin.append_ argTypes ty args).run P w = match base with
      | some a => ((storeCells (a.add (len * size)) xs.toList).run P w).andThen fun _ w' => .ok (.slice (some a) (len + k) cap) w'
      | none => .ok (.slice none (len + k) cap) w := by
  obtain ⟨⟨sT, xT, rest, xd, h1, h2, h3, h4⟩, ⟨rest', h5⟩, h6, h7, h8, h9, h10⟩ := h
  unfold Builtin.append_
  have a0 : argTypes[0]? = some sT := by rw [arr_get h1]; rfl
  have a1 : argTypes[1]? = some xT := by rw [arr_get h1]; rfl
  have b0 : args[0]? = some (.slice base len cap) := by rw [arr_get h5]; rfl
  have b1 : args[1]? = some x := by rw [arr_get h5]; rfl
  simp only [a0, a1, b0, b1]
  rw [Sem.run_bind, run_underlying h2, Result.andThen_ok]
  dsimp only
  rw [Sem.run_bind, run_sizeOf h6, Result.andThen_ok]
  rw [Sem.run_bind, run_underlying h3, Result.andThen_ok, Sem.run_bind, Sem.run_pure, Result.andThen_ok]
  cases xd
  case int => cases h4
  all_goals
   dsimp only
   simp only [Bool.false_eq_true, if_false]
   rw [Sem.run_bind, h9, Result.andThen_ok, if_pos hle]
   simp only [Bool.not_false, if_true]
   rw [Sem.run_bind, h10 w rfl, Result.andThen_ok]
   cases base with
   | none => rfl
   | some a => rw [Sem.run_bind]; rfl

theorem run_append_grow {argTypes : Array TypeId} {ty : TypeId} {args : Array Value} {elem : TypeId} {size len cap k : Nat} {base : Option Addr} {x z : Value} {bytes : Nat} {xs old : Array Value}
    (h : AppArgs P w argTypes args elem size len cap k base x z bytes xs) (hlt : cap < len + k) (hb : bytes ≤ 1000000) (hn : len + k ≤ 1000000)
    (hold : (Builtin.firstCells size len (.slice base len cap)).run P w.drew = .ok old w.drew) :
    ∃ cap', len + k ≤ cap' ∧ (Builtin.append_ argTypes ty args).run P w =
      .ok (.slice (some ⟨w.heap.size, 0, none⟩) (len + k) cap') (w.drew.alloc (.cells (old ++ xs ++ Builtin.zeroCells z.cells (cap' - (len + k))) elem)) := by
  obtain ⟨⟨sT, xT, rest, xd, h1, h2, h3, h4⟩, ⟨rest', h5⟩, h6, h7, ⟨inf, h8, h8'⟩, h9, h10⟩ := h
  refine ⟨(Question.appendCap (len + k) cap elem).cut (w.tape w.drawn (.appendCap (len + k) cap elem)), by simp [Question.cut], ?_⟩
  generalize hq : (Question.appendCap (len + k) cap elem).cut (w.tape w.drawn (.appendCap (len + k) cap elem)) = cap'
  unfold Builtin.append_
  have a0 : argTypes[0]? = some sT := by rw [arr_get h1]; rfl
  have a1 : argTypes[1]? = some xT := by rw [arr_get h1]; rfl
  have b0 : args[0]? = some (.slice base len cap) := by rw [arr_get h5]; rfl
  have b1 : args[1]? = some x := by rw [arr_get h5]; rfl
  simp only [a0, a1, b0, b1]
  rw [Sem.run_bind, run_underlying h2, Result.andThen_ok]
  dsimp only
  rw [Sem.run_bind, run_sizeOf h6, Result.andThen_ok]
  rw [Sem.run_bind, run_underlying h3, Result.andThen_ok, Sem.run_bind, Sem.run_pure, Result.andThen_ok]
  cases xd
  case int => cases h4
  all_goals
   dsimp only
   simp only [Bool.false_eq_true, if_false]
   rw [Sem.run_bind, h9, Result.andThen_ok, if_neg (by omega)]
   have hti : ∀ w : World, (typeInfo elem).run P w = .ok inf w := fun w => by unfold typeInfo; rw [Sem.run_bind, run_program, Result.andThen_ok, h8]; rfl
   have hnext := nextslicecap_le hlt
   have hprod : Builtin.nextslicecap (len + k) cap * inf.bytes ≤ 2000768 * 1000000 := Nat.mul_le_mul (by omega) (by omega)
   have hmax : ¬ ((len + k : Nat) : Int) > IntKind.i64.max := by
     have : IntKind.i64.max = 9223372036854775807 := rfl
     rw [this]; omega
   rw [Sem.run_bind, hti, Result.andThen_ok]
   rw [if_neg (by rintro ⟨h, _⟩; exact hmax h)]
   rw [Sem.run_bind, hti, Result.andThen_ok]
   rw [if_neg (by omega)]
   rw [Sem.run_bind, run_choose, if_neg (by simp [Question.forced]), hq, Result.andThen_ok, Sem.run_bind, hti, Result.andThen_ok, Sem.run_bind, run_askRoom, Result.andThen_ok]
   have hold' := hold
   simp only [World.drew_eq]
   rw [Sem.run_bind, hold', Result.andThen_ok, Sem.run_bind]
   simp only [Bool.not_false, if_true]
   rw [h10 w.drew rfl, Result.andThen_ok, Sem.run_bind, run_zeroValue h7, Result.andThen_ok, Sem.run_bind, run_newRow, Result.andThen_ok]
   rfl

theorem zeroCells_size (z : Array Value) (m : Nat) : (Builtin.zeroCells z m).size = m * z.size := by simp [Builtin.zeroCells]

theorem appendNew_run {elem : TypeId} {size len k : Nat} {b off : Nat} {xs : List Value} {out : OOut} {l : List Nat} (h : (appendNew elem size len k (some ⟨b, off, none⟩) xs n).run g = some (out, l)) :
    ∃ c, g b = some (.cells c elem false) ∧ off + len * size = c.length ∧ out = ⟨.val (.slice (some ⟨n, 0, none⟩) (len + k) (len + k)), [(b, .dead)], some (.cells (c.drop off ++ xs) elem false)⟩ := by
  unfold appendNew at h
  obtain ⟨o, l', hb, hk, rfl⟩ := Rd.run_read h
  split at hk
  · rename_i c el
    split at hk
    · rename_i hc
      simp only [Bool.and_eq_true] at hc
      have h1 := Nat.eq_of_beq_eq_true hc.1
      have h2 := Nat.eq_of_beq_eq_true hc.2
      subst h2
      simp only [Rd.run, Option.some.injEq, Prod.mk.injEq] at hk
      exact ⟨c, hb, h1, hk.1.symm⟩
    · cases hk
  · cases hk

theorem appendIn_run {size len cap k : Nat} {b off : Nat} {xs : List Value} {out : OOut} {l : List Nat} (h : (appendIn size len cap k (some ⟨b, off, none⟩) xs).run g = some (out, l)) :
    ∃ c el, g b = some (.cells c el false) ∧ off + len * size + xs.length ≤ c.length ∧ len + k ≤ cap ∧
      out = ⟨.val (.slice (some ⟨b, off, none⟩) (len + k) cap), [(b, .cells (splice c (off + len * size) xs) el false)], none⟩ := by
  unfold appendIn at h
  obtain ⟨o, l', hb, hk, rfl⟩ := Rd.run_read h
  split at hk
  · rename_i c el
    split at hk
    · rename_i hc
      simp only [Bool.and_eq_true] at hc
      have h0 := Nat.le_of_ble_eq_true hc.1
      have h1 := Nat.le_of_ble_eq_true hc.2
      simp only [Rd.run, Option.some.injEq, Prod.mk.injEq] at hk
      exact ⟨c, el, hb, h1, h0, hk.1.symm⟩
    · cases hk
  · cases hk

/-- The grown row, on both sides. -/
theorem Fits.grown (hw : WR P B w₀ ρ g w) (hn : g n = none) {cs : List Value} {old xs : Array Value} {elem : TypeId} {size need cap' : Nat} {z : Value} (hsz : szOf P elem = some size) (hz : z.cells.size = size)
    (hle : need ≤ cap') (hl : LR ρ cs (old ++ xs).toList) (hlen : cs.length = need * size) :
    Fits P B w₀ ρ g n ⟨.val (.slice (some ⟨n, 0, none⟩) need need), [], some (.cells cs elem false)⟩
      (.ok (.value (.slice (some ⟨w.heap.size, 0, none⟩) need cap')) (w.drew.alloc (.cells (old ++ xs ++ Builtin.zeroCells z.cells (cap' - need)) elem))) := by
  have hs : (old ++ xs).size = need * size := by have := hl.len; simp at this ⊢; omega
  have hmul : need * size + (cap' - need) * size = cap' * size := by rw [← Nat.add_mul]; congr 1; omega
  have hphys : (old ++ xs ++ Builtin.zeroCells z.cells (cap' - need)).size = cap' * size := by
    rw [Array.size_append, hs, zeroCells_size, hz, hmul]
  refine ⟨ρ.put n ⟨w.drew.heap.size, 0, (szOf P elem).getD 0, (old ++ xs ++ Builtin.zeroCells z.cells (cap' - need)).size⟩, _, Ren.put_le (hw.fresh n hn) _, .val _ _ _ ?_, hw.drew.newRow hn ?_ (.inl rfl) ?_⟩
  · have := VR.sl (ρ := ρ.put n ⟨w.drew.heap.size, 0, (szOf P elem).getD 0, (old ++ xs ++ Builtin.zeroCells z.cells (cap' - need)).size⟩) n 0 need need cap' _ (Ren.put_same _ _ _) (.inr ⟨hle, by rw [hphys, hsz]; simp⟩)
    simpa using this
  · rw [hphys, hlen]; exact Nat.mul_le_mul_right _ hle
  · rw [Array.toList_append, hlen, List.take_append_of_le_length (by simp at hs ⊢; omega), List.take_of_length_le (by simp at hs ⊢; omega)]
    exact hl

theorem Fits.kill {b : Nat} {ob : VObj} (hb : g b = some ob) {v : Value} {o : VObj} {res : Result Next} (h : Fits P B w₀ ρ (upd g b .dead) n ⟨.val v, [], some o⟩ res) :
    Fits P B w₀ ρ g n ⟨.val v, [(b, .dead)], some o⟩ res := by
  obtain ⟨ρ', w', h1, h2, h3⟩ := h
  exact ⟨ρ', w', h1, h2, h3⟩

theorem appendV_ok (hw : WR P B w₀ ρ g w) {argTypes : Array TypeId} {ty : TypeId} {args : List Value} {args' : Array Value} (hargs : LR ρ args args'.toList) {out : OOut} {l : List Nat}
    (hn : out.nw ≠ none → g n = none) (h : (appendV P argTypes.toList args n).run g = some (out, l)) : Fits P B w₀ ρ g n out ((do let v ← Builtin.append_ argTypes ty args'; pure (Next.value v) : Sem Next).run P w) := by
  unfold appendV at h
  split at h
  · rename_i sT xT rest base len cap x rest2 hat
    obtain ⟨s', t', ht, hs', hl2⟩ := hargs.inv_cons
    obtain ⟨x', t2, rfl, hx', hl3⟩ := hl2.inv_cons
    split at h
    · rename_i elem xd hu1 hu2
      split at h
      · rename_i size k z bytes hsz hlen hz hby
        obtain ⟨inf, hinf, hbi⟩ : ∃ inf, P.info? elem = some inf ∧ inf.bytes = bytes := by
          cases hinf : P.info? elem with
          | none => rw [hinf] at hby; cases hby
          | some inf => rw [hinf] at hby; cases hby; exact ⟨inf, rfl, rfl⟩
        split at h
        · cases h
        · rename_i hcond
          simp only [Bool.and_eq_true, Bool.not_eq_true'] at hcond
          obtain ⟨⟨⟨hint, hbb⟩, hzs⟩, hs0⟩ := hcond
          have hs0 : 0 < size := by simp [Nat.blt] at hs0; omega
          have hbb := Nat.le_of_ble_eq_true hbb
          have hzs := Nat.eq_of_beq_eq_true hzs
          have app : ∀ {len' cap' : Nat} {base' : Option Addr} {xs' : Array Value} {k : Nat}, s' = .slice base' len' cap' → lenV x = some k →
              (∀ w' : World, w'.heap = w.heap → (Builtin.firstCells size k x').run P w' = .ok xs' w') → AppArgs P w argTypes args' elem size len' cap' k base' x' z bytes xs' := by
            intro len' cap' base' xs' k hs hl hc
            subst hs
            exact ⟨⟨sT, xT, rest, xd, hat, hu1, hu2, hint⟩, ⟨t2, ht⟩, hsz, hz, ⟨inf, hinf, hbi⟩, fun w => lenV_ok hx' hl, hc⟩
          obtain ⟨xs, l1, l2, h1, h2, rfl⟩ := (Rd.run_bind _ _ _ _ _).1 h
          obtain ⟨xs', hfc, hxs⟩ := cellsV_ok hw hx' hlen (Nat.le_refl _) h1
          split at h2
          · cases h2
          · rename_i hcond
            simp only [Bool.and_eq_true] at hcond
            obtain ⟨⟨hnd, hone⟩, hxl⟩ := hcond
            have hnd := Nat.le_of_ble_eq_true hnd
            have hxl := Nat.eq_of_beq_eq_true hxl
            have hxl' : xs'.size = k * size := by have := hxs.len; simp at this; omega
            have hszz : ∀ q, szOf P elem = some q → (szOf P elem).getD 0 = q := fun q hq => by rw [hq]; rfl
            split at h2
            · rename_i hful
              have hful : cap ≤ len := by
                unfold full at hful
                split at hful
                · omega
                · exact Nat.le_of_ble_eq_true hful
              cases base with
              | none =>
                cases hs' with
                | scal _ hsc =>
                  obtain ⟨_, rfl, rfl⟩ := isScal_slice hsc
                  have h2' : out = ⟨.val (.slice (some ⟨n, 0, none⟩) k k), [], some (.cells xs elem false)⟩ := by
                    unfold appendNew at h2
                    simp only [Rd.run, Option.some.injEq, Prod.mk.injEq] at h2
                    exact h2.1.symm
                  subst h2'
                  replace hn := hn (by intro hh; cases hh)
                  by_cases hk0 : k = 0
                  · subst hk0
                    have hx0 : xs = [] := List.eq_nil_of_length_eq_zero (by rw [hxl]; omega)
                    subst hx0
                    have hx1 : xs'.toList = [] := hxs.inv_nil
                    rw [Sem.run_bind, run_append_in (app rfl hlen hfc) (Nat.le_refl 0)]
                    exact ⟨_, w, Ren.put_le (hw.fresh n hn) ⟨0, 0, (szOf P elem).getD 0, 0⟩, .val _ _ _ (.slE _ _), hw.addDead hn rfl (fun m s q e => by cases e) (fun el ro e => by cases e; exact hszz)⟩
                  · obtain ⟨cap', h3, h4⟩ := run_append_grow (ty := ty) (old := #[]) (app rfl hlen hfc) (by omega) hbb hnd rfl
                    rw [Sem.run_bind, h4, Result.andThen_ok]
                    rw [Nat.zero_add] at h3 ⊢
                    exact Fits.grown hw hn hsz hzs h3 (by simpa using hxs) hxl
              | some a =>
                obtain ⟨b, off, spot⟩ := a
                cases spot with
                | some sp => cases h2
                | none =>
                  obtain ⟨c, hb, hend, rfl⟩ := appendNew_run h2
                  replace hn := hn (by intro hh; cases hh)
                  have hne : n ≠ b := by rintro rfl; rw [hn] at hb; cases hb
                  have hnk : upd g b .dead n = none := by rw [upd_other _ hne, hn]
                  have hdl : (c.drop off).length = len * size := by simp; omega
                  have hcl : (c.drop off ++ xs).length = (len + k) * size := by rw [List.length_append, hdl, hxl, Nat.add_mul len k size]
                  have fin0 : ∀ a', s' = .slice a' 0 0 → len = 0 → c.drop off = [] → Fits P B w₀ ρ g n ⟨.val (.slice (some ⟨n, 0, none⟩) (len + k) (len + k)), [(b, .dead)], some (.cells (c.drop off ++ xs) elem false)⟩ ((do let v ← Builtin.append_ argTypes ty args'; pure (Next.value v) : Sem Next).run P w) := by
                    intro a' hs hl0 hd0
                    subst hl0
                    by_cases hk0 : k = 0
                    · subst hk0
                      have hx0 : xs = [] := List.eq_nil_of_length_eq_zero (by rw [hxl]; omega)
                      subst hx0
                      have hx1 : xs'.toList = [] := hxs.inv_nil
                      rw [Sem.run_bind, run_append_in (app hs hlen hfc) (Nat.le_refl 0), hd0]
                      refine Fits.kill hb ?_
                      suffices hfin : WR P B w₀ (ρ.put n ⟨0, 0, (szOf P elem).getD 0, 0⟩) (upd (upd g b .dead) n (.cells ([] ++ []) elem false)) w by
                        cases a' with
                        | none => exact ⟨_, w, Ren.put_le (hw.fresh n hn) _, .val _ _ _ (.slE _ _), hfin⟩
                        | some a' => rw [hx1]; exact ⟨_, w, Ren.put_le (hw.fresh n hn) _, .val _ _ _ (.slE _ _), hfin⟩
                      exact (hw.kill b hb).addDead hnk rfl (fun m s q e => by cases e) (fun el ro e => by cases e; exact hszz)
                    · obtain ⟨cap', h3, h4⟩ := run_append_grow (ty := ty) (old := #[]) (app hs hlen hfc) (by omega) hbb hnd (by unfold Builtin.firstCells; simp only [Nat.zero_mul]; cases a' <;> rfl)
                      rw [Sem.run_bind, h4, Result.andThen_ok]
                      refine Fits.kill hb (Fits.grown (hw.kill b hb) hnk hsz hzs h3 ?_ hcl)
                      rw [hd0]; simpa using hxs
                  generalize hgs : s' = sv at hs'
                  cases hs' with
                  | scal _ hsc => cases hsc
                  | slE _ a' => exact fin0 a' hgs rfl (by rw [List.drop_eq_nil_iff]; omega)
                  | sl _ _ _ _ cap' r hr hc =>
                    cases hlv : Live (.cells c elem false) r with
                    | false =>
                      obtain ⟨hce, hph⟩ := live_not hlv
                      have hrz := sz_of hw hb hr size hsz
                      have hl0 : len = 0 := by
                        rw [hce] at hend
                        have : len * size = 0 := by simp at hend; omega
                        rcases Nat.mul_eq_zero.1 this with h | h <;> omega
                      have hc0 : cap' = 0 := by
                        rcases hc with hc | ⟨_, hc⟩
                        · omega
                        · rw [hph, hrz] at hc
                          have : cap' * size = 0 := by omega
                          rcases Nat.mul_eq_zero.1 this with h | h <;> omega
                      refine fin0 _ (by rw [hgs, hl0, hc0]) hl0 (by rw [hce]; simp)
                    | true =>
                      obtain ⟨c', fr, ⟨el', hh1, he⟩, hp, hsh, hzz, hf, hl, hB⟩ := cells_of hw hb hr hlv
                      obtain rfl := he rfl
                      replace hf := hf rfl
                      have hrs : r.sz = size := hzz size hsz
                      by_cases hin : len + k ≤ cap'
                      · have hroom2 : r.sh + off + (len + k) * size ≤ r.phys := by
                          rcases hc with hc | ⟨hc1, hc2⟩
                          · have hk0 : k = 0 := by omega
                            subst hk0
                            rw [Nat.add_zero]; omega
                          · rw [hrs] at hc2
                            have hroom : (len + k) * size ≤ cap' * size := Nat.mul_le_mul_right _ hin
                            omega
                        have hroom3 := hroom2
                        rw [Nat.add_mul len k size] at hroom3
                        obtain ⟨w', h3, h4⟩ := run_storeCells (P := P) xs'.toList w c' (r.sh + off + len * size) 0 (Chg.refl hh1) (by simp; omega) (by rwa [hp]) (hxs.oneCell hone)
                        rw [Sem.run_bind, run_append_in (app hgs hlen hfc) hin]
                        simp only [addr_add0]
                        rw [h3]
                        refine ⟨ρ.put n ⟨r.blk, r.sh + off, r.sz, r.phys⟩, w', Ren.put_le (hw.fresh n hn) _, .val _ _ _ ?_, hw.rename hn hb hlv hr (hB rfl) h4 rfl ?_⟩
                        · have hcap2 : CapOk ⟨r.blk, r.sh + off, r.sz, r.phys⟩ 0 (len + k) cap' := by
                            rcases hc with hc | ⟨hc1, hc2⟩
                            · left; omega
                            · right; exact ⟨hin, by simpa using hc2⟩
                          have := VR.sl (ρ := ρ.put n ⟨r.blk, r.sh + off, r.sz, r.phys⟩) n 0 (len + k) (len + k) cap' _ (Ren.put_same _ _ _) hcap2
                          simpa using this
                        · refine .cells _ _ _ _ _ fr (by rw [setMany_size]; exact hp) (by show r.sh + off + (c.drop off ++ xs).length ≤ r.phys; rw [hcl]; exact hroom2) (fun _ => rfl) (fun m hm => hzz m hm) (fun _ => hf) fun i v hi => ?_
                          simp only at *
                          rw [setMany_get _ _ _ _ (by simp; omega)]
                          have hxs2 := hxs.len
                          simp at hxs2
                          by_cases hil : i < len * size
                          · rw [List.getElem?_append_left (by omega), List.getElem?_drop] at hi
                            rw [if_neg (by omega)]
                            obtain ⟨v', h5, h6⟩ := hl.get hi
                            rw [List.getElem?_take] at h5
                            split at h5
                            · exact ⟨v', by simpa [Nat.add_assoc] using h5, h6.mono (Ren.put_le (hw.fresh n hn) _)⟩
                            · cases h5
                          · rw [List.getElem?_append_right (by omega), hdl] at hi
                            have hilt : i - len * size < xs.length := (List.getElem?_eq_some_iff.1 hi).1
                            obtain ⟨v', h5, h6⟩ := hxs.get hi
                            rw [if_pos (by simp; omega)]
                            refine ⟨v', ?_, h6.mono (Ren.put_le (hw.fresh n hn) _)⟩
                            rw [← h5]
                            congr 1
                            omega
                      · have hold : ∀ w' : World, w'.heap = w.heap → (Builtin.firstCells size len (.slice (some ⟨r.blk, r.sh + off, none⟩) len cap')).run P w' = .ok ((c'.toList.drop (r.sh + off)).take (len * size)).toArray w' :=
                          fun w' hh => run_loadCells_block (by rw [hh]; exact hh1) _ _ (by omega)
                        obtain ⟨cap2, h3, h4⟩ := run_append_grow (ty := ty) (app hgs hlen hfc) (by omega) hbb hnd (hold w.drew rfl)
                        rw [Sem.run_bind, h4, Result.andThen_ok]
                        refine Fits.kill hb (Fits.grown (hw.kill b hb) hnk hsz hzs h3 ?_ hcl)
                        have h5 := cut_LR hl (off := off) (n := len * size) (by omega)
                        rw [List.take_of_length_le (by omega : (c.drop off).length ≤ len * size)] at h5
                        simpa using h5.append hxs
            · cases base with
              | none => cases h2
              | some a =>
                obtain ⟨b, off, spot⟩ := a
                cases spot with
                | some sp => cases h2
                | none =>
                  obtain ⟨c, el, hb, hbound, hle, rfl⟩ := appendIn_run h2
                  generalize hgs : s' = sv at hs'
                  cases hs' with
                  | scal _ hsc => cases hsc
                  | slE _ a' =>
                    have hx0 : xs = [] := List.eq_nil_of_length_eq_zero (by rw [hxl]; have : k = 0 := by omega
                                                                            rw [this]; omega)
                    subst hx0
                    have hx1 : xs'.toList = [] := hxs.inv_nil
                    have hk0 : k = 0 := by omega
                    subst hk0
                    have : upd g b (.cells (splice c (off + 0 * size) []) el false) = g := by
                      funext x
                      by_cases e : x = b
                      · subst e; rw [upd_same, hb]; simp [splice]
                      · rw [upd_other _ e]
                    rw [Sem.run_bind, run_append_in (app hgs hlen hfc) (by omega)]
                    suffices hfin : WR P B w₀ ρ (upd g b (.cells (splice c (off + 0 * size) []) el false)) w by
                      cases a' with
                      | none => exact ⟨ρ, w, Ren.le_refl ρ, .val _ _ _ (.slE _ _), hfin⟩
                      | some a' => rw [hx1]; exact ⟨ρ, w, Ren.le_refl ρ, .val _ _ _ (.slE _ _), hfin⟩
                    rw [this]
                    exact hw
                  | sl _ _ _ _ cap' r hr hc =>
                    have hcc : cap ≤ cap' := by rcases hc with hc | hc <;> omega
                    obtain ⟨w', h3, h4⟩ := hw.store hb hr hxs hbound hone
                    rw [Sem.run_bind, run_append_in (app hgs hlen hfc) (by omega)]
                    simp only [addr_add0, Nat.add_assoc]
                    rw [h3]
                    exact ⟨ρ, w', Ren.le_refl ρ, .val _ _ _ (.sl _ _ _ _ _ _ hr hc), h4⟩
      · cases h
    · cases h
  · cases h

theorem copyV_ok (hw : WR P B w₀ ρ g w) {argTypes : Array TypeId} {ty : TypeId} {args : List Value} {args' : Array Value} (hargs : LR ρ args args'.toList) {out : OOut} {l : List Nat}
    (h : (copyV P argTypes.toList args).run g = some (out, l)) : Fits P B w₀ ρ g n out ((do let v ← Builtin.copy_ argTypes ty args'; pure (Next.value v) : Sem Next).run P w) := by
  unfold copyV at h
  split at h
  · rename_i dT rest base len cap x rest2 hat
    obtain ⟨s', t', ht, hs', hl2⟩ := hargs.inv_cons
    obtain ⟨x', t2, rfl, hx', hl3⟩ := hl2.inv_cons
    split at h
    · rename_i elem hu
      split at h
      · rename_i size k hsz hlen
        obtain ⟨xs, l1, l2, h1, h2, rfl⟩ := (Rd.run_bind _ _ _ _ _).1 h
        obtain ⟨xs', hfc, hxs⟩ := cellsV_ok hw hx' hlen (Nat.min_le_left _ _) h1
        have a0 : argTypes[0]? = some dT := by rw [arr_get hat]; rfl
        have b0 : args'[0]? = some s' := by rw [arr_get ht]; rfl
        have b1 : args'[1]? = some x' := by rw [arr_get ht]; rfl
        have key : ∀ (base' : Option Addr) (cap' : Nat), s' = .slice base' len cap' → (Builtin.copy_ argTypes ty args').run P w = match base' with
            | some a => ((storeCells a xs'.toList).run P w).andThen fun _ w' => .ok (.int .i64 (Nat.min k len)) w'
            | none => .ok (.int .i64 (Nat.min k len)) w := by
          intro base' cap' hs
          subst hs
          unfold Builtin.copy_
          simp only [a0, b0, b1]
          rw [Sem.run_bind, run_underlying hu, Result.andThen_ok]
          dsimp only
          rw [Sem.run_bind, lenV_ok hx' hlen, Result.andThen_ok]
          rw [Sem.run_bind, run_sizeOf hsz, Result.andThen_ok, Sem.run_bind, hfc w rfl, Result.andThen_ok]
          cases base' with
          | none => rfl
          | some a => rw [Sem.run_bind]; rfl
        split at h2
        · cases hs' with
          | scal _ hsc =>
            rw [Sem.run_bind, key _ _ rfl]
            exact Fits.of_val hw h2 (.scal _ rfl)
        · rename_i b off
          obtain ⟨o, l', hb, hk, rfl⟩ := Rd.run_read h2
          split at hk
          · rename_i c el
            split at hk
            · rename_i hcond
              simp only [Bool.and_eq_true] at hcond
              have hle := Nat.le_of_ble_eq_true hcond.1
              simp only [Rd.run, Option.some.injEq, Prod.mk.injEq] at hk
              obtain ⟨rfl, rfl⟩ := hk
              cases hs' with
              | scal _ hsc => cases hsc
              | slE _ a' =>
                have hx0 : xs = [] := cellsV_zero (by have hm : Nat.min k 0 = 0 := Nat.min_zero k; rw [hm] at h1; exact h1)
                subst hx0
                have hx1 : xs'.toList = [] := hxs.inv_nil
                rw [Sem.run_bind, key _ _ rfl]
                simp only [hx1]
                suffices hfin : WR P B w₀ ρ (applyO g n { r := ORes.val (Value.int .i64 (Nat.min k 0)), ws := [(b, VObj.cells (splice c off []) el false)], nw := none }) w by
                  cases a' <;> exact ⟨ρ, w, Ren.le_refl ρ, .val _ _ _ (.scal _ rfl), hfin⟩
                have hsp : splice c off [] = c := by
                  unfold splice
                  simp
                have : applyO g n { r := ORes.val (Value.int .i64 (Nat.min k 0)), ws := [(b, VObj.cells (splice c off []) el false)], nw := none } = g := by
                  show upd g b _ = g
                  rw [hsp]
                  exact upd_self hb
                rw [this]
                exact hw
              | sl _ _ _ _ cap' r hr hc =>
                obtain ⟨w', h3, h4⟩ := hw.store hb hr hxs hle hcond.2
                rw [Sem.run_bind, key _ _ rfl]
                simp only [h3, Result.andThen_ok]
                exact ⟨ρ, w', Ren.le_refl ρ, .val _ _ _ (.scal _ rfl), h4⟩
            · cases hk
          · cases hk
        · cases h2
      · cases h
    · cases h
  · cases h
end
end Go.Proofs.YtdbjloigfkckfaaGreatDoor.Vm
