/- The small machine, its tenth text: maps, the other builtins. -/
import Derived.Test.YtdbjloigfkckfaaGreatDoorVm9
namespace Go.Proofs.YtdbjloigfkckfaaGreatDoor.Vm
open Go.RowKit
set_option linter.unusedVariables false
set_option linter.unusedSimpArgs false

theorem ba_eq {x y : ByteArray} (h : (x == y) = true) : x = y := by
  have h2 : (x.data == y.data) = true := h
  cases x; cases y
  simp at h2
  rw [h2]
theorem ba_self (x : ByteArray) : (x == x) = true := by
  show (x.data == x.data) = true
  simp

section
variable {P : Program} {B : Nat → Prop} {w₀ : World} {ρ : Ren} {g : Nat → Option VObj} {n : Nat} {w : World}

theorem map_of (hw : WR P B w₀ ρ g w) {b : Nat} {es : List MapEntry} {clock : Nat} (hb : g b = some (.map es clock)) {r : Where} (hr : ρ b = some r) :
    ∃ es', w.heap[r.blk]? = some (.map es' clock) ∧ es.length = es'.toList.length ∧ (∀ (i : Nat) (e e' : MapEntry), es[i]? = some e → es'.toList[i]? = some e' → EntryR ρ e e') ∧ ¬ B r.blk := by
  obtain ⟨o', h1, h2, h3⟩ := hw.mem hb rfl hr
  cases h2 with
  | map _ es' _ h4 h5 => exact ⟨es', h1, h4, h5, h3 rfl⟩

theorem keyFits_some {t : TypeId} {k : Value} (h : keyFits P t k = true) : ∃ d, P.underlying t = some d ∧ ((∃ ik, d = .int ik ∧ ∃ j m, k = .int j m) ∨ (d = .string ∧ ∃ s, k = .string s)) := by
  unfold keyFits at h
  split at h
  · rename_i ik j m hu; exact ⟨_, hu, .inl ⟨ik, rfl, j, m, rfl⟩⟩
  · rename_i s hu; exact ⟨_, hu, .inr ⟨rfl, s, rfl⟩⟩
  · cases h

theorem checkKey_unfold (b : Bool) (t : TypeId) (v : Value) : Instr.checkKey b 10000 t v = Instr.checkKey b (9999 + 1) t v := rfl

theorem run_checkKey {t : TypeId} {k : Value} (h : keyFits P t k = true) (b : Bool) : (Instr.checkKey b 10000 t k).run P w = .ok () w := by
  obtain ⟨d, hu, hd⟩ := keyFits_some h
  rw [checkKey_unfold]
  unfold Instr.checkKey
  rw [Sem.run_bind, run_underlying hu, Result.andThen_ok]
  rcases hd with ⟨ik, rfl, j, m, rfl⟩ | ⟨rfl, s, rfl⟩ <;> rfl

/-- A search in a map, on both sides. -/
theorem find_ok {t : TypeId} {d : TypeDesc} {k : Value} (hu : P.underlying t = some d) (hd : (∃ ik, d = .int ik ∧ ∃ j m, k = .int j m) ∨ (d = .string ∧ ∃ s, k = .string s)) :
    ∀ {es : List MapEntry} {es' : List MapEntry} {i : Nat} {r : Option (Nat × Value)}, es.length = es'.length → (∀ (i : Nat) (e e' : MapEntry), es[i]? = some e → es'[i]? = some e' → EntryR ρ e e') →
      findV k es i = some r → ∃ r', Instr.findNow d k es' i = some r' ∧ ((r = none ∧ r' = none) ∨ ∃ j v v' e', r = some (i + j, v) ∧ r' = some (i + j, v') ∧ VR ρ v v' ∧ es'[j]? = some e' ∧ e'.key = k ∧ ∃ e, es[j]? = some e ∧ e.val = v) := by
  intro es
  induction es with
  | nil =>
    intro es' i r hl he h
    simp only [findV, Option.some.injEq] at h
    subst h
    cases es' with
    | nil => exact ⟨none, rfl, .inl ⟨rfl, rfl⟩⟩
    | cons => simp at hl
  | cons e es ih =>
    intro es' i r hl he h
    cases es' with
    | nil => simp at hl
    | cons e' es' =>
      have hee := he 0 e e' rfl rfl
      have hl' : es.length = es'.length := by simpa using hl
      have he' : ∀ (i : Nat) (a a' : MapEntry), es[i]? = some a → es'[i]? = some a' → EntryR ρ a a' := fun i a a' h1 h2 => he (i + 1) a a' (by simpa using h1) (by simpa using h2)
      have rest : ∀ {r}, findV k es (i + 1) = some r → Instr.sameNow d k e'.key = some false → ∃ r', Instr.findNow d k (e' :: es') i = some r' ∧ ((r = none ∧ r' = none) ∨ ∃ j v v' e2, r = some (i + j, v) ∧ r' = some (i + j, v') ∧ VR ρ v v' ∧ (e' :: es')[j]? = some e2 ∧ e2.key = k ∧ ∃ e0, (e :: es)[j]? = some e0 ∧ e0.val = v) := by
        intro r h hs
        obtain ⟨r', h1, h2⟩ := ih hl' he' h
        refine ⟨r', by unfold Instr.findNow; simp only [hs, h1], ?_⟩
        rcases h2 with h2 | ⟨j, v, v', e2, ha, hb, hc, hd, hk, e0, hf, hv⟩
        · exact .inl h2
        · exact .inr ⟨j + 1, v, v', e2, by rw [ha]; congr 2; omega, by rw [hb]; congr 2; omega, hc, by simpa using hd, hk, e0, by simpa using hf, hv⟩
      unfold findV at h
      split at h
      · rename_i a x b y hkey
        have hkey' : e'.key = .int b y := by have := hee.key; rw [hkey] at this; exact this.int_inv
        rcases hd with ⟨ik, rfl, j, m, hkk⟩ | ⟨rfl, s, hkk⟩
        · split at h
          · rename_i hab
            have hab : a = b := by simpa using hab
            subst hab
            by_cases hxy : (x == y) = true
            · rw [if_pos hxy] at h
              cases h
              have : x = y := by simpa using hxy
              subst this
              exact ⟨some (i, e'.val), by unfold Instr.findNow Instr.sameNow; rw [hkey']; simp, .inr ⟨0, e.val, e'.val, e', rfl, rfl, hee.val, rfl, hkey', e, rfl, rfl⟩⟩
            · rw [if_neg hxy] at h
              refine rest h ?_
              unfold Instr.sameNow
              rw [hkey']
              simp at hxy ⊢
              exact hxy
          · cases h
        · cases hkk
      · rename_i x y hkey
        have hkey' : e'.key = .string y := by have := hee.key; rw [hkey] at this; exact this.string_inv
        rcases hd with ⟨ik, rfl, j, m, hkk⟩ | ⟨rfl, s, hkk⟩
        · cases hkk
        · by_cases hxy : (x == y) = true
          · rw [if_pos hxy] at h
            cases h
            have : x = y := ba_eq hxy
            subst this
            exact ⟨some (i, e'.val), by unfold Instr.findNow Instr.sameNow; rw [hkey']; simp only [ba_self], .inr ⟨0, e.val, e'.val, e', rfl, rfl, hee.val, rfl, hkey', e, rfl, rfl⟩⟩
          · rw [if_neg hxy] at h
            refine rest h ?_
            unfold Instr.sameNow
            rw [hkey']
            have : (x == y) = false := by cases hh : (x == y) with
              | true => exact absurd hh hxy
              | false => rfl
            simp only [this]
      · cases h

theorem run_findKey {t : TypeId} {d : TypeDesc} {k : Value} (hu : P.underlying t = some d) {es : List MapEntry} {r : Option (Nat × Value)} (h : Instr.findNow d k es 0 = some r) :
    (Instr.findKey t k es).run P w = .ok r w := by
  unfold Instr.findKey
  rw [Sem.run_bind, run_underlying hu, Result.andThen_ok]
  simp only [h, Sem.run_pure]

theorem run_getObj_map {b : Nat} {es : Array MapEntry} {clock : Nat} (h : w.heap[b]? = some (.map es clock)) : (getObj b).run P w = .ok (.map es clock) w := by
  simp only [getObj, Sem.run, h]

theorem run_setObj_map {b : Nat} {es : Array MapEntry} {clock : Nat} (h : w.heap[b]? = some (.map es clock)) (o : Obj) :
    (setObj b o).run P w = .ok () { w with heap := w.heap.setIfInBounds b o } := by
  simp only [setObj, Sem.run, h]

theorem chg_setObj {b : Nat} {o1 : Obj} (h : w.heap[b]? = some o1) (o : Obj) : Chg w { w with heap := w.heap.setIfInBounds b o } b o := by
  have hb : b < w.heap.size := (Array.getElem?_eq_some_iff.1 h).1
  refine ⟨rfl, rfl, rfl, by simp, by simp [hb], fun k hk => ?_⟩
  show (w.heap.setIfInBounds b o)[k]? = _
  rw [Array.getElem?_setIfInBounds_ne (Ne.symm hk)]

theorem fits_tell (hw : WR P B w₀ ρ g w) {v v' : Value} (hv : VR ρ v v') (ok b : Bool) {out : OOut} {l : List Nat} (h : (val (if ok then .tuple #[v, .bool b] else v)).run g = some (out, l)) :
    Fits P B w₀ ρ g n out (.ok (.value (if ok then .tuple #[v', .bool b] else v')) w) := by
  cases ok with
  | true => exact Fits.of_val hw h (.tuple_of (LR.cons hv (LR.cons (.scal _ rfl) (LR.nil ρ))))
  | false => exact Fits.of_val hw h hv

theorem lookupV_ok (hw : WR P B w₀ ρ g w) {t : TypeId} {x x' k k' : Value} (hx : VR ρ x x') (hk : VR ρ k k') (ok : Bool) {out : OOut} {l : List Nat} (h : (lookupV P t x k ok).run g = some (out, l)) :
    Fits P B w₀ ρ g n out ((do let v ← Instr.lookup t x' k' ok; pure (Next.value v) : Sem Next).run P w) := by
  unfold lookupV at h
  split at h
  · rename_i kt et hu
    split at h
    · rename_i z hkf hz
      obtain ⟨d, hkd, hd⟩ := keyFits_some hkf
      have hkk : k' = k := by
        rcases hd with ⟨ik, rfl, j, m, rfl⟩ | ⟨rfl, s, rfl⟩
        · exact hk.int_inv
        · exact hk.string_inv
      subst hkk
      dsimp only at h
      split at h
      · split at h
        · rename_i hfz
          cases hx with
          | scal =>
            have : (Instr.lookup t (.map none) k' ok).run P w = .ok (if ok then .tuple #[z, .bool false] else z) w := by
              unfold Instr.lookup
              rw [Sem.run_bind, run_underlying hu, Result.andThen_ok]
              dsimp only
              rw [Sem.run_bind, Sem.run_pure, Result.andThen_ok, Sem.run_bind, run_checkKey hkf, Result.andThen_ok, Sem.run_bind, run_findKey hkd (by rfl : Instr.findNow d k' [] 0 = some none), Result.andThen_ok]
              dsimp only
              first | rw [Sem.run_bind, Sem.run_bind, run_zeroValue hz] | rw [Sem.run_bind, run_zeroValue hz]
              rfl
            rw [Sem.run_bind, this]
            exact fits_tell hw (fl_refl hfz) ok false h
        · cases h
      · rename_i b
        obtain ⟨r, hr, rfl⟩ := hx.map_inv
        obtain ⟨o, l', hb, hkk, rfl⟩ := Rd.run_read h
        split at hkk
        · rename_i es clock
          split at hkk
          · rename_i f hfnd hfz
            obtain ⟨es', h1, h2, h3, hB⟩ := map_of hw hb hr
            obtain ⟨r', h4, h5⟩ := find_ok hkd hd h2 h3 hfnd
            have pre : ∀ (rest : Option (Nat × Value) → Sem Value), True := fun _ => trivial
            rcases h5 with ⟨rfl, rfl⟩ | ⟨j, v, v', e', rfl, rfl, hv, _, _, _⟩
            · have : (Instr.lookup t (.map (some r.blk)) k' ok).run P w = .ok (if ok then .tuple #[z, .bool false] else z) w := by
                unfold Instr.lookup
                rw [Sem.run_bind, run_underlying hu, Result.andThen_ok]
                dsimp only
                rw [Sem.run_bind, run_getObj_map h1, Result.andThen_ok]
                dsimp only
                rw [Sem.run_bind, Sem.run_pure, Result.andThen_ok, Sem.run_bind, run_checkKey hkf, Result.andThen_ok, Sem.run_bind, run_findKey hkd h4, Result.andThen_ok]
                dsimp only
                first | rw [Sem.run_bind, Sem.run_bind, run_zeroValue hz] | rw [Sem.run_bind, run_zeroValue hz]
                rfl
              rw [Sem.run_bind, this]
              exact fits_tell hw (fl_refl hfz) ok false hkk
            · have : (Instr.lookup t (.map (some r.blk)) k' ok).run P w = .ok (if ok then .tuple #[v', .bool true] else v') w := by
                unfold Instr.lookup
                rw [Sem.run_bind, run_underlying hu, Result.andThen_ok]
                dsimp only
                rw [Sem.run_bind, run_getObj_map h1, Result.andThen_ok]
                dsimp only
                rw [Sem.run_bind, Sem.run_pure, Result.andThen_ok, Sem.run_bind, run_checkKey hkf, Result.andThen_ok, Sem.run_bind, run_findKey hkd h4, Result.andThen_ok]
                rfl
              rw [Sem.run_bind, this]
              exact fits_tell hw hv ok true hkk
          · cases hkk
        · cases hkk
      · cases h
    · cases h
  · cases h

theorem sameBits_self {k : Value} {d : TypeDesc} (hd : (∃ ik, d = .int ik ∧ ∃ j m, k = .int j m) ∨ (d = .string ∧ ∃ s, k = .string s)) : Instr.sameBits 10000 k k = true := by
  rcases hd with ⟨ik, _, j, m, rfl⟩ | ⟨_, s, rfl⟩
  · show (j == j && m == m) = true; simp
  · exact ba_self s

theorem mapUpdateV_ok (hw : WR P B w₀ ρ g w) {t : TypeId} {x x' k k' v v' : Value} (hx : VR ρ x x') (hk : VR ρ k k') (hv : VR ρ v v') {out : OOut} {l : List Nat}
    (h : (mapUpdateV P t x k v).run g = some (out, l)) : Fits P B w₀ ρ g n out ((do Instr.mapUpdate t x' k' v'; pure Next.skip : Sem Next).run P w) := by
  unfold mapUpdateV at h
  split at h
  · rename_i kt et hu
    split at h
    · rename_i b hkf
      obtain ⟨r, hr, rfl⟩ := hx.map_inv
      obtain ⟨d, hkd, hd⟩ := keyFits_some hkf
      have hkk : k' = k := by
        rcases hd with ⟨ik, rfl, j, m, rfl⟩ | ⟨rfl, s, rfl⟩
        · exact hk.int_inv
        · exact hk.string_inv
      subst hkk
      obtain ⟨o, l', hb, hkk, rfl⟩ := Rd.run_read h
      split at hkk
      · rename_i es clock
        obtain ⟨es', h1, h2, h3, hB⟩ := map_of hw hb hr
        split at hkk
        · rename_i i vv hfnd
          obtain ⟨r', h4, h5⟩ := find_ok hkd hd h2 h3 hfnd
          rcases h5 with ⟨h5, _⟩ | ⟨j, u, u', e', h5, rfl, hu', he', hkey, _⟩
          · cases h5
          · simp only [Nat.zero_add, Option.some.injEq, Prod.mk.injEq] at h5
            obtain ⟨rfl, rfl⟩ := h5
            simp only [Rd.run, Option.some.injEq, Prod.mk.injEq] at hkk
            obtain ⟨rfl, rfl⟩ := hkk
            have hes : es'[i]? = some e' := by simpa using he'
            have hrun : (Instr.mapUpdate t (.map (some r.blk)) k' v').run P w = .ok () { w with heap := w.heap.setIfInBounds r.blk (.map (es'.modify i fun e => { e with key := k', val := v' }) clock) } := by
              unfold Instr.mapUpdate
              rw [Sem.run_bind, run_underlying hu, Result.andThen_ok]
              dsimp only
              rw [Sem.run_bind, run_getObj_map h1, Result.andThen_ok]
              dsimp only
              rw [Sem.run_bind, run_checkKey hkf, Result.andThen_ok, Sem.run_bind, run_findKey hkd h4, Result.andThen_ok]
              simp only [Nat.zero_add, hes, Option.map_some, Option.getD_some, hkey]
              rw [Sem.run_bind]
              unfold Instr.keyThatStays
              rw [if_pos (sameBits_self hd), Sem.run_pure, Result.andThen_ok, run_setObj_map h1]
            rw [Sem.run_bind, hrun, Result.andThen_ok]
            refine ⟨ρ, _, Ren.le_refl ρ, .skip _, hw.change hb (by first | rfl | exact live_cells _ _) hr hB (chg_setObj h1 _) ?_⟩
            refine .map _ _ _ (by simp [h2]) fun m a a' ha ha' => ?_
            rw [List.getElem?_modify] at ha
            rw [Array.getElem?_toList, Array.getElem?_modify] at ha'
            by_cases him : i = m
            · subst him
              rw [if_pos rfl, hes] at ha'
              cases ha'
              cases hg : es[i]? with
              | none => rw [hg] at ha; cases ha
              | some e0 =>
                rw [hg] at ha
                simp at ha
                subst ha
                exact ⟨hk, hv, (h3 i e0 e' hg he').born⟩
            · rw [if_neg him] at ha'
              cases hg : es[m]? with
              | none => rw [hg] at ha; cases ha
              | some e0 =>
                rw [hg] at ha
                simp [him] at ha
                subst ha
                exact h3 m e0 a' hg (by simpa using ha')
        · rename_i hfnd
          obtain ⟨r', h4, h5⟩ := find_ok hkd hd h2 h3 hfnd
          rcases h5 with ⟨_, rfl⟩ | ⟨j, u, u', e', h5, _⟩
          · simp only [Rd.run, Option.some.injEq, Prod.mk.injEq] at hkk
            obtain ⟨rfl, rfl⟩ := hkk
            have hrun : (Instr.mapUpdate t (.map (some r.blk)) k' v').run P w = .ok () { w with heap := w.heap.setIfInBounds r.blk (.map (es'.push { key := k', val := v', born := clock }) (clock + 1)) } := by
              unfold Instr.mapUpdate
              rw [Sem.run_bind, run_underlying hu, Result.andThen_ok]
              dsimp only
              rw [Sem.run_bind, run_getObj_map h1, Result.andThen_ok]
              dsimp only
              rw [Sem.run_bind, run_checkKey hkf, Result.andThen_ok, Sem.run_bind, run_findKey hkd h4, Result.andThen_ok]
              dsimp only
              rw [run_setObj_map h1]
            rw [Sem.run_bind, hrun, Result.andThen_ok]
            refine ⟨ρ, _, Ren.le_refl ρ, .skip _, hw.change hb (by first | rfl | exact live_cells _ _) hr hB (chg_setObj h1 _) ?_⟩
            refine .map _ _ _ (by simp [h2]) fun m a a' ha ha' => ?_
            rw [Array.toList_push] at ha'
            by_cases hm : m < es.length
            · rw [List.getElem?_append_left hm] at ha
              rw [List.getElem?_append_left (by omega)] at ha'
              exact h3 m a a' ha ha'
            · rw [List.getElem?_append_right (by omega)] at ha
              rw [List.getElem?_append_right (by omega)] at ha'
              rw [← h2] at ha'
              cases hs : m - es.length with
              | zero => rw [hs] at ha ha'; cases ha; cases ha'; exact ⟨hk, hv, rfl⟩
              | succ q => rw [hs] at ha; cases ha
          · cases h5
        · cases hkk
      · cases hkk
    · cases h
  · cases h

theorem toList_erase (a : Array MapEntry) (i : Nat) : (a.eraseIdxIfInBounds i).toList = a.toList.eraseIdx i := by simp

theorem deleteV_ok (hw : WR P B w₀ ρ g w) {argTypes : Array TypeId} {ty : TypeId} {args : List Value} {args' : Array Value} (hargs : LR ρ args args'.toList) {out : OOut} {l : List Nat}
    (h : (deleteV P argTypes.toList args).run g = some (out, l)) : Fits P B w₀ ρ g n out ((do let v ← Builtin.delete_ argTypes ty args'; pure (Next.value v) : Sem Next).run P w) := by
  unfold deleteV at h
  split at h
  · rename_i t rest b k rest2 hat
    obtain ⟨s', t', ht, hs', hl2⟩ := hargs.inv_cons
    obtain ⟨k', t2, rfl, hk, hl3⟩ := hl2.inv_cons
    obtain ⟨r, hr, rfl⟩ := hs'.map_inv
    have a0 : argTypes[0]? = some t := by rw [arr_get hat]; rfl
    have b0 : args'[0]? = some (.map (some r.blk)) := by rw [arr_get ht]; rfl
    have b1 : args'[1]? = some k' := by rw [arr_get ht]; rfl
    split at h
    · rename_i kt et hu
      split at h
      · rename_i hkf
        obtain ⟨d, hkd, hd⟩ := keyFits_some hkf
        have hkk : k' = k := by
          rcases hd with ⟨ik, rfl, j, m, rfl⟩ | ⟨rfl, s, rfl⟩
          · exact hk.int_inv
          · exact hk.string_inv
        subst hkk
        obtain ⟨o, l', hb, hkk, rfl⟩ := Rd.run_read h
        split at hkk
        · rename_i es clock
          obtain ⟨es', h1, h2, h3, hB⟩ := map_of hw hb hr
          split at hkk
          · rename_i i vv hfnd
            obtain ⟨r', h4, h5⟩ := find_ok hkd hd h2 h3 hfnd
            rcases h5 with ⟨h5, _⟩ | ⟨j, u, u', e', h5, rfl, hu', he', hkey, _⟩
            · cases h5
            · simp only [Nat.zero_add, Option.some.injEq, Prod.mk.injEq] at h5
              obtain ⟨rfl, rfl⟩ := h5
              simp only [Rd.run, Option.some.injEq, Prod.mk.injEq] at hkk
              obtain ⟨rfl, rfl⟩ := hkk
              have hrun : (Builtin.delete_ argTypes ty args').run P w = .ok (.tuple #[]) { w with heap := w.heap.setIfInBounds r.blk (.map (es'.eraseIdxIfInBounds i) clock) } := by
                unfold Builtin.delete_
                simp only [a0, b0, b1]
                rw [Sem.run_bind, run_underlying hu, Result.andThen_ok]
                dsimp only
                rw [Sem.run_bind, run_getObj_map h1, Result.andThen_ok]
                dsimp only
                rw [Sem.run_bind, run_checkKey hkf, Result.andThen_ok, Sem.run_bind, run_findKey hkd h4, Result.andThen_ok]
                simp only [Nat.zero_add]
                rw [Sem.run_bind, run_setObj_map h1]
                rfl
              rw [Sem.run_bind, hrun, Result.andThen_ok]
              refine ⟨ρ, _, Ren.le_refl ρ, .val _ _ _ (VR.undef ρ), hw.change hb (by first | rfl | exact live_cells _ _) hr hB (chg_setObj h1 _) ?_⟩
              refine .map _ _ _ (by rw [toList_erase, List.length_eraseIdx, List.length_eraseIdx, h2]) fun m a a' ha ha' => ?_
              rw [toList_erase] at ha'
              rw [List.getElem?_eraseIdx] at ha ha'
              split at ha
              · rename_i hm; rw [if_pos hm] at ha'; exact h3 m a a' ha ha'
              · rename_i hm; rw [if_neg hm] at ha'; exact h3 _ a a' ha ha'
          · rename_i hfnd
            obtain ⟨r', h4, h5⟩ := find_ok hkd hd h2 h3 hfnd
            rcases h5 with ⟨_, rfl⟩ | ⟨j, u, u', e', h5, _⟩
            · simp only [Rd.run, Option.some.injEq, Prod.mk.injEq] at hkk
              obtain ⟨rfl, rfl⟩ := hkk
              have hrun : (Builtin.delete_ argTypes ty args').run P w = .ok (.tuple #[]) { w with heap := w.heap.setIfInBounds r.blk (.map es' clock) } := by
                unfold Builtin.delete_
                simp only [a0, b0, b1]
                rw [Sem.run_bind, run_underlying hu, Result.andThen_ok]
                dsimp only
                rw [Sem.run_bind, run_getObj_map h1, Result.andThen_ok]
                dsimp only
                rw [Sem.run_bind, run_checkKey hkf, Result.andThen_ok, Sem.run_bind, run_findKey hkd h4, Result.andThen_ok]
                dsimp only
                rw [Sem.run_bind, run_setObj_map h1]
                rfl
              rw [Sem.run_bind, hrun, Result.andThen_ok]
              exact ⟨ρ, _, Ren.le_refl ρ, .val _ _ _ (VR.undef ρ), hw.change hb (by first | rfl | exact live_cells _ _) hr hB (chg_setObj h1 _) (.map _ _ _ h2 h3)⟩
            · cases h5
          · cases hkk
        · cases hkk
      · cases h
    · cases h
  · cases h

theorem lenBuiltin_ok (hw : WR P B w₀ ρ g w) {argTypes : Array TypeId} {ty : TypeId} {args : List Value} {args' : Array Value} (hargs : LR ρ args args'.toList) {out : OOut} {l : List Nat}
    (h : (lenBuiltin P argTypes.toList args).run g = some (out, l)) : Fits P B w₀ ρ g n out ((do let v ← Builtin.len_ argTypes ty args'; pure (Next.value v) : Sem Next).run P w) := by
  unfold lenBuiltin at h
  split at h
  · rename_i t rest x rest2 hat
    obtain ⟨x', t', ht, hx, hl2⟩ := hargs.inv_cons
    have a0 : argTypes[0]? = some t := by rw [arr_get hat]; rfl
    have b0 : args'[0]? = some x' := by rw [arr_get ht]; rfl
    split at h
    · rename_i sa m sc hu
      cases hx with
      | scal _ hsc =>
        obtain ⟨rfl, rfl, rfl⟩ := isScal_slice hsc
        have hr : (Builtin.len_ argTypes ty args').run P w = .ok (goInt (0 : Nat)) w := by unfold Builtin.len_; simp only [a0, b0]; rw [Sem.run_bind, run_underlying hu, Result.andThen_ok]; rfl
        rw [Sem.run_bind, hr]; exact Fits.of_val hw h (.scal _ rfl)
      | sl =>
        have hr : (Builtin.len_ argTypes ty args').run P w = .ok (goInt m) w := by unfold Builtin.len_; simp only [a0, b0]; rw [Sem.run_bind, run_underlying hu, Result.andThen_ok]; rfl
        rw [Sem.run_bind, hr]; exact Fits.of_val hw h (.scal _ rfl)
      | slE =>
        have hr : (Builtin.len_ argTypes ty args').run P w = .ok (goInt (0 : Nat)) w := by unfold Builtin.len_; simp only [a0, b0]; rw [Sem.run_bind, run_underlying hu, Result.andThen_ok]; rfl
        rw [Sem.run_bind, hr]; exact Fits.of_val hw h (.scal _ rfl)
    · rename_i hu
      cases hx with
      | scal =>
        have hr : (Builtin.len_ argTypes ty args').run P w = .ok (goInt 0) w := by unfold Builtin.len_; simp only [a0, b0]; rw [Sem.run_bind, run_underlying hu, Result.andThen_ok]; rfl
        rw [Sem.run_bind, hr]; exact Fits.of_val hw h (.scal _ rfl)
    · rename_i b hu
      obtain ⟨r, hr, rfl⟩ := hx.map_inv
      obtain ⟨o, l', hb, hk, rfl⟩ := Rd.run_read h
      split at hk
      · rename_i es clock
        obtain ⟨es', h1, h2, h3, hB⟩ := map_of hw hb hr
        have hr : (Builtin.len_ argTypes ty args').run P w = .ok (goInt es'.size) w := by
          unfold Builtin.len_; simp only [a0, b0]; rw [Sem.run_bind, run_underlying hu, Result.andThen_ok]
          dsimp only
          rw [Sem.run_bind, run_getObj_map h1]; rfl
        rw [Sem.run_bind, hr]
        refine Fits.of_val hw hk ?_
        have : es.length = es'.size := by simpa using h2
        rw [this]
        exact .scal _ rfl
      · cases hk
    · rename_i k el hu
      have hr : (Builtin.len_ argTypes ty args').run P w = .ok (goInt k) w := by unfold Builtin.len_; simp only [a0, b0]; rw [Sem.run_bind, run_underlying hu, Result.andThen_ok]; rfl
      rw [Sem.run_bind, hr]
      exact Fits.of_val hw h (.scal _ rfl)
    · rename_i a hu
      split at h
      · rename_i k el hu2
        have hr : (Builtin.len_ argTypes ty args').run P w = .ok (goInt k) w := by
          unfold Builtin.len_; simp only [a0, b0]; rw [Sem.run_bind, run_underlying hu, Result.andThen_ok]
          dsimp only
          rw [Sem.run_bind, run_underlying hu2]; rfl
        rw [Sem.run_bind, hr]
        exact Fits.of_val hw h (.scal _ rfl)
      · cases h
    · cases h
  · cases h

theorem zeroCells_repl {z : Value} (k : Nat) : (Builtin.zeroCells z.cells k).toList = repl z.cells.toList k := by
  have := zeros_eq z k
  unfold Builtin.zeroCells
  rw [this]

theorem clearV_ok (hw : WR P B w₀ ρ g w) {argTypes : Array TypeId} {ty : TypeId} {args : List Value} {args' : Array Value} (hargs : LR ρ args args'.toList) {out : OOut} {l : List Nat}
    (h : (clearV P argTypes.toList args).run g = some (out, l)) : Fits P B w₀ ρ g n out ((do let v ← Builtin.clear_ argTypes ty args'; pure (Next.value v) : Sem Next).run P w) := by
  unfold clearV at h
  split at h
  · rename_i t rest x rest2 hat
    obtain ⟨x', t', ht, hx, hl2⟩ := hargs.inv_cons
    have a0 : argTypes[0]? = some t := by rw [arr_get hat]; rfl
    have b0 : args'[0]? = some x' := by rw [arr_get ht]; rfl
    have none_ : ∀ {d}, P.underlying t = some d → (∃ a c, x' = .slice a 0 c) ∨ (∃ l c, x' = .slice none l c) → (Builtin.clear_ argTypes ty args').run P w = .ok (.tuple #[]) w := by
      intro d hu hc
      unfold Builtin.clear_
      simp only [a0, b0]
      rw [Sem.run_bind, run_underlying hu, Result.andThen_ok]
      rcases hc with ⟨a, c, rfl⟩ | ⟨l, c, rfl⟩
      · cases a <;> cases d <;> rfl
      · cases d <;> rfl
    split at h
    · rename_i hu
      cases hx with
      | scal _ hsc =>
        obtain ⟨_, rfl, rfl⟩ := isScal_slice hsc
        rw [Sem.run_bind, none_ hu (.inr ⟨_, _, rfl⟩)]
        exact Fits.of_val hw h (VR.undef ρ)
    · rename_i hu
      rw [Sem.run_bind]
      cases hx with
      | scal _ hsc =>
        obtain ⟨rfl, _, rfl⟩ := isScal_slice hsc
        rw [none_ hu (.inl ⟨_, _, rfl⟩)]
        exact Fits.of_val hw h (VR.undef ρ)
      | sl => rw [none_ hu (.inl ⟨_, _, rfl⟩)]; exact Fits.of_val hw h (VR.undef ρ)
      | slE => rw [none_ hu (.inl ⟨_, _, rfl⟩)]; exact Fits.of_val hw h (VR.undef ρ)
    · rename_i el b off k cap hk0 hu
      split at h
      · rename_i size z hs hz
        obtain ⟨o, l', hb, hk, rfl⟩ := Rd.run_read h
        split at hk
        · rename_i c ce
          split at hk
          · rename_i hcond
            simp only [Bool.and_eq_true] at hcond
            obtain ⟨⟨⟨hf, h1⟩, h2⟩, h3⟩ := hcond
            have h1 := Nat.eq_of_beq_eq_true h1
            have h2 := Nat.le_of_ble_eq_true h2
            simp only [Rd.run, Option.some.injEq, Prod.mk.injEq] at hk
            obtain ⟨rfl, rfl⟩ := hk
            have hrl : (repl z.cells.toList k).length = k * size := by rw [repl_length, ← h1]; simp
            have hone : ((repl z.cells.toList k).all Value.oneCell') = true := by
              rw [List.all_eq_true] at h3 ⊢
              intro v hv
              obtain ⟨i, hi⟩ := List.getElem?_of_mem hv
              have hlt : i < (repl z.cells.toList k).length := (List.getElem?_eq_some_iff.1 hi).1
              rw [repl_get _ _ _ (by rw [repl_length] at hlt; exact hlt)] at hi
              exact h3 _ (List.mem_of_getElem? hi)
            cases hx with
            | scal _ hsc => cases hsc
            | slE => first | exact (hk0 rfl).elim | exact (hk0 _ _ rfl).elim | exact (hk0 _ rfl).elim
            | sl _ _ _ _ cap' r hr hc =>
              obtain ⟨w', h4, h5⟩ := hw.store hb hr ((flat_cells hf).repl k) (off := off) (by rw [hrl]; exact h2) hone
              have hrun : (Builtin.clear_ argTypes ty args').run P w = .ok (.tuple #[]) w' := by
                unfold Builtin.clear_
                simp only [a0, b0]
                rw [Sem.run_bind, run_underlying hu, Result.andThen_ok]
                cases k with
                | zero => first | exact (hk0 rfl).elim | exact (hk0 _ _ rfl).elim | exact (hk0 _ rfl).elim
                | succ k =>
                  show ((do let z ← zeroValue el; storeCells ⟨r.blk, r.sh + off, none⟩ (Builtin.zeroCells z.cells (k + 1)).toList; pure (Value.tuple #[])) : Sem Value).run P w = _
                  rw [Sem.run_bind, run_zeroValue hz, Result.andThen_ok, zeroCells_repl, Sem.run_bind, h4]
                  rfl
              rw [Sem.run_bind, hrun]
              exact ⟨ρ, w', Ren.le_refl ρ, .val _ _ _ (VR.undef ρ), h5⟩
          · cases hk
        · cases hk
      · cases h
    · cases h
  · cases h
end
end Go.Proofs.YtdbjloigfkckfaaGreatDoor.Vm
