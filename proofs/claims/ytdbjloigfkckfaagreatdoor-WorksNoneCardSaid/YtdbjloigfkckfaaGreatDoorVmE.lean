/- The small machine: structs and arrays compared; divisions, sums of strings, letters and pieces of strings, by questions. -/
import Derived.Test.YtdbjloigfkckfaaGreatDoorVm4
namespace Go.Proofs.YtdbjloigfkckfaaGreatDoor.Vm
open Go.RowKit
set_option linter.unusedVariables false
set_option linter.unusedSimpArgs false

section
variable {P : Program}
theorem run_part {t : TypeId} {cs : Array Value} {d k : Nat} {v : Value} (hk : szOf P t = some k)
    (h : (agg? P t = some true ∧ d + k ≤ cs.size ∧ v = .agg (cs.extract d (d + k))) ∨ (agg? P t = some false ∧ cs[d]? = some v)) {w : World} : (part t cs d).run P w = .ok v w := by
  unfold part
  rcases h with ⟨h1, h2, rfl⟩ | ⟨h1, h2⟩
  · rw [Sem.run_bind, run_isAgg h1, Result.andThen_ok]
    simp only [if_true, Sem.run_bind, run_sizeOf hk, Result.andThen_ok, Sem.run_pure]
  · rw [Sem.run_bind, run_isAgg h1, Result.andThen_ok]
    simp only [Bool.false_eq_true, if_false, h2, Sem.run_pure]

theorem run_partB {ft : TypeId} {cs : Array Value} {d : Nat} {v : Value} (h : partB P ft cs.toList d = some v) (w : World) : (part ft cs d).run P w = .ok v w := by
  unfold partB at h
  split at h
  · rename_i k hag hk
    split at h
    · rename_i l hcut
      cases h
      obtain ⟨hle, rfl⟩ := cut_some hcut
      rw [run_part hk (.inl ⟨hag, by simp at hle; omega, rfl⟩)]
      have : (cs.extract d (d + k)) = ((cs.toList.drop d).take k).toArray := by
        apply Array.ext'
        simp [Array.toList_extract, List.extract_eq_take_drop]
      rw [this]
    · cases h
  · rename_i k hag hk
    exact run_part hk (.inr ⟨hag, by simpa using h⟩)
  · cases h

theorem run_allB {d : Nat} {xs ys : Array Value} {F : Field → Option Bool} : ∀ (l : List Field) (r : Bool), allB F l = some r → (∀ f b, F f = some b → f.name ≠ "_" ∧ ∃ u v, (∀ w : World, (part f.type xs f.offset).run P w = .ok u w) ∧ (∀ w : World, (part f.type ys f.offset).run P w = .ok v w) ∧ ∀ w : World, (Op.equalIn d f.type u v).run P w = .ok b w) →
    ∀ w : World, (forIn l ((none : Option Bool), ()) fun (f : Field) (__s : Option Bool × Unit) =>
              if f.name ≠ "_" then do
                let __do_lift ← part f.type xs f.offset
                let __do_lift_1 ← part f.type ys f.offset
                let __do_lift ← Op.equalIn d f.type __do_lift __do_lift_1
                if (!__do_lift) = true then (pure (ForInStep.done (some false, ())) : Sem (ForInStep (Option Bool × Unit)))
                  else pure (ForInStep.yield (none, ()))
              else pure (ForInStep.yield (none, ()))).run P w = .ok (if r then (none, ()) else (some false, ())) w
  | [], r, h, hF, w => by
    simp only [allB, Option.some.injEq] at h
    subst h
    rfl
  | f :: l, r, h, hF, w => by
    unfold allB at h
    split at h
    · rename_i a b ha hb
      simp only [Option.some.injEq] at h
      subst h
      obtain ⟨h1, u, v, h2, h3, h4⟩ := hF f a ha
      rw [List.forIn_cons]
      rw [if_pos h1]
      simp only [Sem.run_bind, h2, h3, h4, Result.andThen_ok]
      cases a with
      | false => rfl
      | true =>
        simp only [Bool.not_true, Bool.false_eq_true, if_false, Sem.run_pure, Result.andThen_ok, Bool.true_and]
        exact run_allB l b hb hF w
    · cases h

theorem run_eqB : ∀ (d : Nat) (t : TypeId) (x y : Value) (r : Bool), eqB P d t x y = some r → ∀ w : World, (Op.equalIn d t x y).run P w = .ok r w
  | 0, t, x, y, r, h, w => by cases h
  | d + 1, t, x, y, r, h, w => by
    unfold eqB at h
    unfold Op.equalIn
    split at h
    · rename_i ht
      split at h
      · cases h
        rw [Sem.run_bind, run_underlying ht, Result.andThen_ok]
        rfl
      · cases h
    · rename_i ht
      split at h
      · split at h
        · rename_i hk
          cases h
          have hk := of_decide_eq_true hk
          rw [Sem.run_bind, run_underlying ht, Result.andThen_ok]
          dsimp only
          rw [if_pos hk]
          rfl
        · cases h
      · cases h
    · rename_i ht
      split at h
      · cases h
        rw [Sem.run_bind, run_underlying ht, Result.andThen_ok]
        rfl
      · cases h
    · rename_i fs ht
      split at h
      · rename_i xs ys
        split at h
        · cases h
        · rename_i hst
          rw [Sem.run_bind, run_underlying ht, Result.andThen_ok]
          dsimp only
          rw [Sem.run_bind, run_program, Result.andThen_ok]
          rw [hst]
          simp only [Bool.false_eq_true, if_false]
          rw [← Array.forIn_toList]
          rw [Sem.run_bind, run_allB (d := d) fs.toList r h (fun f b hf => ?_) w, Result.andThen_ok]
          · cases r <;> rfl
          · split at hf
            · cases hf
            · rename_i hname
              refine ⟨by simpa using hname, ?_⟩
              split at hf
              · rename_i u v hu hv
                exact ⟨u, v, run_partB hu, run_partB hv, run_eqB d f.type u v b hf⟩
              · cases hf
      · cases h
    · cases h

theorem aggEq_ok {op : BinOp} {t : TypeId} {x y : Operand} {a b : Value} {r : Bool} (h : aggEq P op t a b = some r) (w : World) : ((do eqGuard op t x y a b; binOp op t a b) : Sem Value).run P w = .ok (.bool r) w := by
  unfold aggEq at h
  split at h
  · rename_i xs ys
    split at h
    · cases h
    · rename_i hg
      have hgd : ∀ w : World, (eqGuard .eql t x y (.agg xs) (.agg ys)).run P w = .ok () w := fun w => by
        unfold eqGuard
        simp only [Bool.not_true, Bool.false_eq_true, if_false]
        rw [Sem.run_bind, run_program, Result.andThen_ok, Sem.run_bind, run_program, Result.andThen_ok, hg]
        rfl
      have he : (Op.equal t (.agg xs) (.agg ys)).run P w = .ok r w := run_eqB 10000 t _ _ r h w
      rw [Sem.run_bind, hgd, Result.andThen_ok]
      show (Sem.run P (do pure (.bool (← Op.equal t (.agg xs) (.agg ys))) : Sem Value) w) = _
      rw [Sem.run_bind, he]
      rfl
  · rename_i xs ys
    split at h
    · cases h
    · rename_i hg
      have hgd : ∀ w : World, (eqGuard .neq t x y (.agg xs) (.agg ys)).run P w = .ok () w := fun w => by
        unfold eqGuard
        simp only [Bool.not_true, Bool.false_eq_true, if_false]
        rw [Sem.run_bind, run_program, Result.andThen_ok, Sem.run_bind, run_program, Result.andThen_ok, hg]
        rfl
      obtain ⟨q, hq, rfl⟩ := Option.map_eq_some_iff.1 h
      have he : (Op.equal t (.agg xs) (.agg ys)).run P w = .ok q w := run_eqB 10000 t _ _ q hq w
      rw [Sem.run_bind, hgd, Result.andThen_ok]
      show (Sem.run P (do pure (.bool (!(← Op.equal t (.agg xs) (.agg ys)))) : Sem Value) w) = _
      rw [Sem.run_bind, he]
      rfl
  · cases h
end
end Go.Proofs.YtdbjloigfkckfaaGreatDoor.Vm
