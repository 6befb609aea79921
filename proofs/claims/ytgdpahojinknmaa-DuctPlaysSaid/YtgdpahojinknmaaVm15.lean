/- The small machine, its last text: code, functions, whole calls. -/
import Derived.Test.YtgdpahojinknmaaVm14
import Derived.Scope
namespace Go.Proofs.Ytgdpahojinknmaa.Vm
open Go.RowKit
set_option linter.unusedVariables false
set_option linter.unusedSimpArgs false

section
variable {P : Program}

theorem opsV_ext {call : CallF} (hc : CallOk P call) {ops : List Oper} : ∀ {rest : List Oper} {t t1 : Fr} {S S1 : VS} {x : VEx}, opsV P call ops rest t S = some (x, t1, S1) → Ext S S1
  | [], t, t1, S, S1, x, h => by
    simp only [opsV, Option.some.injEq, Prod.mk.injEq] at h
    obtain ⟨_, _, rfl⟩ := h
    exact Ext.refl S
  | o :: rest, t, t1, S, S1, x, h => by
    unfold opsV at h
    split at h
    · cases h
    · rename_i v t2 S2 hop
      simp only [Option.some.injEq, Prod.mk.injEq] at h
      obtain ⟨_, _, rfl⟩ := h
      exact opV_ext hc hop
    · rename_i t2 S2 hop
      exact (opV_ext hc hop).trans (opsV_ext hc h)

theorem drawV_ext {call : CallF} (hc : CallOk P call) {ops : List Oper} : ∀ {rest : List Oper} {t t1 : Fr} {S S1 : VS} {fps : List Fp}, drawV P call ops rest t S = some (t1, S1, fps) → Ext S S1
  | [], t, t1, S, S1, fps, h => by
    simp only [drawV, Option.some.injEq, Prod.mk.injEq] at h
    obtain ⟨_, rfl, _⟩ := h
    exact Ext.refl S
  | o :: rest, t, t1, S, S1, fps, h => by
    unfold drawV at h
    split at h
    · rename_i t2 S2 hop
      split at h
      · rename_i t3 S3 fps2 hd
        simp only [Option.some.injEq, Prod.mk.injEq] at h
        obtain ⟨rfl, rfl, rfl⟩ := h
        have e1 := opV_ext hc hop
        have e2 := drawV_ext hc hd
        refine Ext.trans ⟨fun y hy => ?_, fun y hy => ?_, fun y hy => ?_, fun hS y hy => ?_⟩ e2
        · exact List.mem_append.2 (.inr hy)
        · exact List.mem_append.2 (.inr hy)
        · exact e1.frame y fun hh => hy (List.mem_append.2 (.inl hh))
        · have he := e1.sm (fun z hz => by rcases hz with hz | hz <;> cases hz)
          rcases hy with hy | hy
          · rcases List.mem_append.1 hy with hy | hy
            · exact he y (.inl hy)
            · exact hS y (.inl hy)
          · rcases List.mem_append.1 hy with hy | hy
            · exact he y (.inr hy)
            · exact hS y (.inr hy)
      · cases h
    · cases h

theorem iter_ext {f : Fr → VS → Option (VEx × Fr × VS)} (hf : ∀ {t t1 : Fr} {S S1 : VS} {x : VEx}, f t S = some (x, t1, S1) → Ext S S1) :
    ∀ {k : Nat} {t t1 : Fr} {S S1 : VS} {x : VEx}, iter f k t S = some (x, t1, S1) → Ext S S1
  | 0, t, t1, S, S1, x, h => by cases h
  | k + 1, t, t1, S, S1, x, h => by
    unfold iter at h
    split at h
    · rename_i t2 S2 hfx
      exact (hf hfx).trans (iter_ext hf h)
    · exact hf h

theorem codeV_ext {call : CallF} (hc : CallOk P call) (lf : Nat) : ∀ {c : Code} {t t1 : Fr} {S S1 : VS} {x : VEx}, codeV P call lf c t S = some (x, t1, S1) → Ext S S1 := by
  intro c
  induction c with
  | skip =>
    intro t t1 S S1 x h
    simp only [codeV, Option.some.injEq, Prod.mk.injEq] at h
    obtain ⟨_, _, rfl⟩ := h
    exact Ext.refl S
  | region id ops draw =>
    intro t t1 S S1 x h
    cases draw with
    | false => exact opsV_ext hc h
    | true =>
      simp only [codeV] at h
      split at h
      · rename_i t2 S2 fps hd
        split at h
        · simp only [Option.some.injEq, Prod.mk.injEq] at h
          obtain ⟨_, _, rfl⟩ := h
          exact drawV_ext hc hd
        · cases h
      · cases h
  | seq a b iha ihb =>
    intro t t1 S S1 x h
    simp only [codeV] at h
    split at h
    · rename_i t2 S2 hx
      exact (iha hx).trans (ihb h)
    · exact iha h
  | cond c a b iha ihb =>
    intro t t1 S S1 x h
    simp only [codeV] at h
    split at h
    · exact iha h
    · exact ihb h
    · cases h
  | block id c ih =>
    intro t t1 S S1 x h
    simp only [codeV] at h
    split at h
    · rename_i j t2 S2 hx
      split at h
      · simp only [Option.some.injEq, Prod.mk.injEq] at h
        obtain ⟨_, _, rfl⟩ := h
        exact ih hx
      · simp only [Option.some.injEq, Prod.mk.injEq] at h
        obtain ⟨_, _, rfl⟩ := h
        exact ih hx
    · exact ih h
  | loop c ih =>
    intro t t1 S S1 x h
    simp only [codeV] at h
    exact iter_ext (fun h => ih h) h
  | exit id =>
    intro t t1 S S1 x h
    simp only [codeV, Option.some.injEq, Prod.mk.injEq] at h
    obtain ⟨_, _, rfl⟩ := h
    exact Ext.refl S
  | ret =>
    intro t t1 S S1 x h
    simp only [codeV, Option.some.injEq, Prod.mk.injEq] at h
    obtain ⟨_, _, rfl⟩ := h
    exact Ext.refl S
  | scope c ih =>
    intro t t1 S S1 x h
    simp only [codeV] at h
    exact ih h
  | label l =>
    intro t t1 S S1 x h
    simp only [codeV, Option.some.injEq, Prod.mk.injEq] at h
    obtain ⟨_, _, rfl⟩ := h
    exact Ext.refl S
  | _ => intro t t1 S S1 x h; simp [codeV] at h

theorem FR.evalBool {ρ : Ren} {t : Fr} {a : Act} (h : FR ρ t a) {c : Operand} {b : Bool} (hc : evalL t c = .bool b) : a.eval c = .bool b := by
  cases c with
  | tmp i =>
    have h1 := h.at_ i
    have h2 : t.at i = .bool b := hc
    rw [h2] at h1
    exact h1.bool_inv
  | const v => exact hc
  | global g => cases hc
  | func f => cases hc

inductive XR (ρ : Ren) : VEx → Exit → Prop where
  | normal : XR ρ .normal .normal
  | exit (id : Nat) : XR ρ (.exit id) (.exit id)
  | ret : XR ρ .ret .ret
  | panic (v v' : Value) (h : VR ρ v v') : XR ρ (.panic v) (.panic [{ v := v', recovered := false }])

variable {B : Nat → Prop} {w₀ : World}

theorem opsV_ok (hP : plainNames P = true) {call : CallF} (hc : CallOk P call) {ops : Array Oper} : ∀ {rest : List Oper} {k : Nat}, (∀ j, rest[j]? = ops[k + j]?) → ∀ {t t1 : Fr} {S S1 : VS} {x : VEx},
    opsV P call ops.toList rest t S = some (x, t1, S1) → ∀ {ρ : Ren} {m : Nat → Option VObj} {w : World} {a : Act}, FR ρ t a → WR P B w₀ ρ m w → Agree S S1 m → ∀ {Q : Exit → Act → World → Prop},
    (∀ (ρ' : Ren) (e : Exit) (a' : Act) (w' : World), ρ.le ρ' → XR ρ' x e → FR ρ' t1 a' → WR P B w₀ ρ' (post m S1) w' → Q e a' w') → wpOps P ops Q (List.range' k rest.length) a w
  | [], k, hk, t, t1, S, S1, x, h, ρ, m, w, a, ht, hw, hm, Q, hQ => by
    simp only [opsV, Option.some.injEq, Prod.mk.injEq] at h
    obtain ⟨rfl, rfl, rfl⟩ := h
    have hp : post m S = m := post_self hm
    exact hQ ρ _ a w (Ren.le_refl ρ) .normal ht (by rw [hp]; exact hw)
  | o :: rest, k, hk, t, t1, S, S1, x, h, ρ, m, w, a, ht, hw, hm, Q, hQ => by
    have ho : ops[k]? = some o := by simpa using (hk 0).symm
    have hk' : ∀ j, rest[j]? = ops[k + 1 + j]? := fun j => by have := hk (j + 1); simpa [Nat.add_assoc, Nat.add_comm 1 j] using this
    rw [List.length_cons, List.range'_succ, wpOps_cons]
    unfold opsV at h
    split at h
    · cases h
    · rename_i v t2 S2 hop
      simp only [Option.some.injEq, Prod.mk.injEq] at h
      obtain ⟨rfl, rfl, rfl⟩ := h
      refine opV_ok hP hc ho hop ht hw hm (fun hh => by cases hh) fun v2 hv ρ' v' w' hle hv' hfr hwr => ?_
      cases hv
      exact hQ ρ' _ a w' hle (.panic v v' hv') hfr hwr
    · rename_i t2 S2 hop
      have e2 := opsV_ext hc h
      refine opV_ok hP hc ho hop ht hw (hm.first e2) (fun _ ρ' a' w' hle hfr _ hwr => ?_) fun v2 hv => by cases hv
      refine opsV_ok hP hc hk' h hfr hwr (hm.next (opV_ext hc hop)) fun ρ2 e a2 w2 hle2 hx hfr2 hwr2 => ?_
      rw [post_post e2] at hwr2
      exact hQ ρ2 e a2 w2 (Ren.le_trans hle hle2) hx hfr2 hwr2

/-- What a piece of code comes to. -/
def Sound (P : Program) (c : Code) (f : Fr → VS → Option (VEx × Fr × VS)) : Prop :=
  ∀ {t t1 : Fr} {S S1 : VS} {x : VEx}, f t S = some (x, t1, S1) → ∀ {B : Nat → Prop} {w₀ : World} {ρ : Ren} {m : Nat → Option VObj} {w : World} {a : Act}, FR ρ t a → WR P B w₀ ρ m w → Agree S S1 m →
    ∀ {Q : Exit → Act → World → Prop}, (∀ (ρ' : Ren) (e : Exit) (a' : Act) (w' : World), ρ.le ρ' → XR ρ' x e → FR ρ' t1 a' → WR P B w₀ ρ' (post m S1) w' → Q e a' w') → c.wp P Q a w

theorem iter_ok {c : Code} {f : Fr → VS → Option (VEx × Fr × VS)} (hx : ∀ {t t1 : Fr} {S S1 : VS} {x : VEx}, f t S = some (x, t1, S1) → Ext S S1) (hs : Sound P c f) :
    ∀ {k : Nat} {t t1 : Fr} {S S1 : VS} {x : VEx}, iter f k t S = some (x, t1, S1) → ∀ {ρ : Ren} {m : Nat → Option VObj} {w : World} {a : Act}, FR ρ t a → WR P B w₀ ρ m w → Agree S S1 m →
    ∀ {Q : Exit → Act → World → Prop}, (∀ (ρ' : Ren) (e : Exit) (a' : Act) (w' : World), ρ.le ρ' → XR ρ' x e → FR ρ' t1 a' → WR P B w₀ ρ' (post m S1) w' → Q e a' w') → Code.rounds P c Q k a w
  | 0, t, t1, S, S1, x, h, ρ, m, w, a, ht, hw, hm, Q, hQ => by cases h
  | k + 1, t, t1, S, S1, x, h, ρ, m, w, a, ht, hw, hm, Q, hQ => by
    rw [rounds_succ]
    unfold iter at h
    split at h
    · rename_i t2 S2 hf
      have e2 := iter_ext hx h
      refine hs hf ht hw (hm.first e2) fun ρ' e a' w' hle hxr hfr hwr => ?_
      cases hxr
      refine iter_ok hx hs h hfr hwr (hm.next (hx hf)) fun ρ2 e2' a2 w2 hle2 hx2 hfr2 hwr2 => ?_
      rw [post_post e2] at hwr2
      exact hQ ρ2 e2' a2 w2 (Ren.le_trans hle hle2) hx2 hfr2 hwr2
    · rename_i hne
      refine hs h ht hw hm fun ρ' e a' w' hle hxr hfr hwr => ?_
      cases hxr with
      | normal => exact absurd h (hne _ _)
      | _ => exact hQ ρ' _ a' w' hle (by constructor <;> assumption) hfr hwr

theorem codeV_ok (hP : plainNames P = true) (hmix : P.follows .mixedOrders = true) {call : CallF} (hc : CallOk P call) (lf : Nat) : ∀ (c : Code), Sound P c (codeV P call lf c) := by
  intro c
  induction c with
  | skip =>
    intro t t1 S S1 x h B w₀ ρ m w a ht hw hm Q hQ
    simp only [codeV, Option.some.injEq, Prod.mk.injEq] at h
    obtain ⟨rfl, rfl, rfl⟩ := h
    exact wp_skip (hQ ρ _ a w (Ren.le_refl ρ) .normal ht (by rw [post_self hm]; exact hw))
  | region id ops draw =>
    intro t t1 S S1 x h B w₀ ρ m w a ht hw hm Q hQ
    cases draw with
    | false =>
      refine wp_region ?_
      have := opsV_ok hP hc (ops := ops) (rest := ops.toList) (k := 0) (fun j => by simp) h ht hw hm hQ
      rw [List.range_eq_range']
      simpa using this
    | true =>
      simp only [codeV] at h
      split at h
      · rename_i t2 S2 fps hd
        split at h
        · rename_i hok
          simp only [Option.some.injEq, Prod.mk.injEq] at h
          obtain ⟨rfl, rfl, rfl⟩ := h
          exact draw_ok hP hmix hc hd hok ht hw hm fun ρ' a' w' hle hfr hwr => hQ ρ' _ a' w' hle .normal hfr hwr
        · cases h
      · cases h
  | seq a b iha ihb =>
    intro t t1 S S1 x h B w₀ ρ m w a ht hw hm Q hQ
    simp only [codeV] at h
    refine wp_seq ?_
    split at h
    · rename_i t2 S2 hx
      have e2 := codeV_ext hc lf h
      refine iha hx ht hw (hm.first e2) fun ρ' e a' w' hle hxr hfr hwr => ?_
      cases hxr
      refine ihb h hfr hwr (hm.next (codeV_ext hc lf hx)) fun ρ2 e2' a2 w2 hle2 hx2 hfr2 hwr2 => ?_
      rw [post_post e2] at hwr2
      exact hQ ρ2 e2' a2 w2 (Ren.le_trans hle hle2) hx2 hfr2 hwr2
    · rename_i hne
      refine iha h ht hw hm fun ρ' e a' w' hle hxr hfr hwr => ?_
      cases hxr with
      | normal => exact absurd h (hne _ _)
      | _ => exact hQ ρ' _ a' w' hle (by constructor <;> assumption) hfr hwr
  | cond c x y ihx ihy =>
    intro t t1 S S1 x' h B w₀ ρ m w a ht hw hm Q hQ
    simp only [codeV] at h
    split at h
    · rename_i he; exact wp_cond_true (ht.evalBool he) (ihx h ht hw hm hQ)
    · rename_i he; exact wp_cond_false (ht.evalBool he) (ihy h ht hw hm hQ)
    · cases h
  | block id c ih =>
    intro t t1 S S1 x h B w₀ ρ m w a ht hw hm Q hQ
    simp only [codeV] at h
    refine wp_block ?_
    split at h
    · rename_i j t2 S2 hx
      split at h
      · rename_i hj
        have hj' : j = id := Nat.eq_of_beq_eq_true hj
        simp only [Option.some.injEq, Prod.mk.injEq] at h
        obtain ⟨rfl, rfl, rfl⟩ := h
        refine ih hx ht hw hm fun ρ' e a' w' hle hxr hfr hwr => ?_
        cases hxr
        simp only [Exit.inBlock, hj', if_true]
        exact hQ ρ' _ a' w' hle .normal hfr hwr
      · rename_i hj
        have hj' : ¬ j = id := fun e => by rw [e, Nat.beq_refl] at hj; cases hj
        simp only [Option.some.injEq, Prod.mk.injEq] at h
        obtain ⟨rfl, rfl, rfl⟩ := h
        refine ih hx ht hw hm fun ρ' e a' w' hle hxr hfr hwr => ?_
        cases hxr
        simp only [Exit.inBlock, hj', if_false]
        exact hQ ρ' _ a' w' hle (.exit j) hfr hwr
    · rename_i hne
      refine ih h ht hw hm fun ρ' e a' w' hle hxr hfr hwr => ?_
      cases hxr with
      | exit j => exact absurd h (hne _ _ _)
      | _ => exact hQ ρ' _ a' w' hle (by constructor <;> assumption) hfr hwr
  | loop c ih =>
    intro t t1 S S1 x h B w₀ ρ m w a ht hw hm Q hQ
    simp only [codeV] at h
    exact wp_loop_rounds lf (iter_ok (fun h => codeV_ext hc lf h) ih h ht hw hm hQ)
  | exit id =>
    intro t t1 S S1 x h B w₀ ρ m w a ht hw hm Q hQ
    simp only [codeV, Option.some.injEq, Prod.mk.injEq] at h
    obtain ⟨rfl, rfl, rfl⟩ := h
    exact wp_exit (hQ ρ _ a w (Ren.le_refl ρ) (.exit id) ht (by rw [post_self hm]; exact hw))
  | ret =>
    intro t t1 S S1 x h B w₀ ρ m w a ht hw hm Q hQ
    simp only [codeV, Option.some.injEq, Prod.mk.injEq] at h
    obtain ⟨rfl, rfl, rfl⟩ := h
    exact wp_ret (hQ ρ _ a w (Ren.le_refl ρ) .ret ht (by rw [post_self hm]; exact hw))
  | scope c ih =>
    intro t t1 S S1 x h B w₀ ρ m w a ht hw hm Q hQ
    simp only [codeV] at h
    refine wp_scope_straight (ih h ht hw hm fun ρ' e a' w' hle hxr hfr hwr => ?_)
    cases hxr <;> exact hQ ρ' _ a' w' hle (by constructor <;> assumption) hfr hwr
  | label l =>
    intro t t1 S S1 x h B w₀ ρ m w a ht hw hm Q hQ
    simp only [codeV, Option.some.injEq, Prod.mk.injEq] at h
    obtain ⟨rfl, rfl, rfl⟩ := h
    exact wp_label (hQ ρ _ a w (Ren.le_refl ρ) .normal ht (by rw [post_self hm]; exact hw))
  | _ => intro t t1 S S1 x h; simp [codeV] at h

theorem resV_ok {ρ : Ren} {g : Nat → Option VObj} {w : World} (hw : WR P B w₀ ρ g w) {t : Fr} {a : Act} (ht : FR ρ t a) : ∀ {rs : List ResultVar} {vs : List Value} {l : List Nat}, (resV P t rs).run g = some (vs, l) →
    ∃ vs' : List Value, (rs.mapM (m := Sem) fun | .tmp t => pure (a.tmps.getD t undef) | .cell b t => do loadVar t (← asAddr (a.tmps.getD b undef))).run P w = .ok vs' w ∧ LR ρ vs vs'
  | [], vs, l, h => by
    simp only [resV, Rd.run, Option.some.injEq, Prod.mk.injEq] at h
    obtain ⟨rfl, rfl⟩ := h
    exact ⟨[], rfl, LR.nil ρ⟩
  | .tmp i :: rs, vs, l, h => by
    simp only [resV] at h
    obtain ⟨r, l1, l2, h1, h2, rfl⟩ := (Rd.run_bind _ _ _ _ _).1 h
    simp only [Rd.run, Option.some.injEq, Prod.mk.injEq] at h2
    obtain ⟨rfl, rfl⟩ := h2
    obtain ⟨vs', h3, h4⟩ := resV_ok hw ht h1
    refine ⟨a.tmps.getD i undef :: vs', ?_, LR.cons (ht.at_ i) h4⟩
    rw [List.mapM_cons]
    simp only [Sem.run_bind, Sem.run_pure, Result.andThen_ok, h3]
  | .cell i ty :: rs, vs, l, h => by
    simp only [resV] at h
    split at h
    · rename_i b off hp
      obtain ⟨v, l1, l2, h1, h2, rfl⟩ := (Rd.run_bind _ _ _ _ _).1 h
      obtain ⟨r, l3, l4, h3, h4, rfl⟩ := (Rd.run_bind _ _ _ _ _).1 h2
      simp only [Rd.run, Option.some.injEq, Prod.mk.injEq] at h4
      obtain ⟨rfl, rfl⟩ := h4
      have hi := ht.at_ i
      rw [hp] at hi
      obtain ⟨rw', hr, hi⟩ := hi.ptr_inv
      obtain ⟨v', h5, h6⟩ := ldV_ok hw h1 hr
      obtain ⟨vs', h7, h8⟩ := resV_ok hw ht h3
      refine ⟨v' :: vs', ?_, LR.cons h6 h8⟩
      rw [List.mapM_cons]
      have h9 : (asAddr (a.tmps.getD i undef)).run P w = .ok ⟨rw'.blk, rw'.sh + off, none⟩ w := by rw [hi]; rfl
      simp only [Sem.run_bind, Sem.run_pure, Result.andThen_ok, h9, h5, h7]
    · cases h

theorem results_ok {ρ : Ren} {g : Nat → Option VObj} {w : World} (hw : WR P B w₀ ρ g w) {t : Fr} {a : Act} (ht : FR ρ t a) {fn : Func} {vs : List Value} {l : List Nat} (h : (resV P t fn.results.toList).run g = some (vs, l)) :
    ∃ v', (results fn a.tmps).run P w = .ok v' w ∧ VR ρ (resOf vs) v' := by
  obtain ⟨vs', h1, h2⟩ := resV_ok hw ht h
  have h3 : ∀ F : ResultVar → Sem Value, (fn.results.toList.mapM F).run P w = .ok vs' w → (fn.results.mapM F).run P w = .ok vs'.toArray w := by
    intro F hF
    rw [Array.mapM_eq_mapM_toList]
    show (fn.results.toList.mapM F >>= fun l => pure l.toArray).run P w = _
    rw [Sem.run_bind, hF]
    rfl
  unfold results
  rw [Sem.run_bind]
  refine ⟨(if h : vs'.toArray.size = 1 then vs'.toArray[0] else .tuple vs'.toArray), ?_, ?_⟩
  · exact Eq.trans (congrArg (fun r => Result.andThen r _) (h3 _ h1)) rfl
  · cases vs with
    | nil =>
      rw [h2.inv_nil]
      exact VR.tuple_of (LR.nil ρ)
    | cons v vs =>
      obtain ⟨v', r, rfl, h4, h5⟩ := h2.inv_cons
      cases vs with
      | nil => rw [h5.inv_nil]; exact h4
      | cons u vs =>
        obtain ⟨u', r', rfl, h6, h7⟩ := h5.inv_cons
        have : ¬ ((v' :: u' :: r').toArray.size = 1) := by simp
        rw [dif_neg this]
        exact VR.tuple_of h2

theorem Fr.sets_get : ∀ {args : List Value} {i : Nat} {t : Tr Value} {j : Nat}, i + args.length ≤ 1024 → j < 1024 →
    (Fr.sets args i t).get 10 j = if i ≤ j ∧ j < i + args.length then args[j - i]? else t.get 10 j
  | [], i, t, j, h, hj => by
    have : ¬ (i ≤ j ∧ j < i + ([] : List Value).length) := by simp
    rw [if_neg this]; rfl
  | v :: args, i, t, j, h, hj => by
    simp only [List.length_cons] at h ⊢
    unfold Fr.sets
    rw [Fr.sets_get (by omega) hj]
    have h10 : (2 : Nat) ^ 10 = 1024 := rfl
    by_cases h1 : i + 1 ≤ j ∧ j < i + 1 + args.length
    · rw [if_pos h1, if_pos (by omega), show j - i = (j - (i + 1)) + 1 by omega, List.getElem?_cons_succ]
    · rw [if_neg h1, Tr.get_set 10 _ _ _ _ (by omega) (by omega)]
      by_cases h2 : j = i
      · subst h2
        rw [if_pos rfl, if_pos (by omega)]
        simp
      · rw [if_neg h2, if_neg (by omega)]

theorem Fr.of_ok {ρ : Ren} {args : List Value} {args' : Array Value} (ha : LR ρ args args'.toList) {n : Nat} {t0 : Fr} (h : Fr.of args n = some t0) :
    FR ρ t0 { tmps := args' ++ Array.replicate (n - args'.size) undef, defers := [] } := by
  unfold Fr.of at h
  split at h
  · rename_i hb
    cases h
    simp only [Bool.and_eq_true] at hb
    have h1 : args.length ≤ n := by simpa [Nat.ble_eq] using hb.1
    have h2 : n ≤ 1024 := by simpa [Nat.ble_eq] using hb.2
    have hlen : args.length = args'.size := by have := ha.len; simpa using this
    refine ⟨by simp; omega, h2, fun i => ?_, rfl⟩
    unfold Fr.at
    dsimp only
    by_cases hi : i < n
    · rw [blt_iff.2 hi]
      dsimp only
      rw [Fr.sets_get (by omega) (by omega), Tr.get_nil]
      rw [Array.getD_eq_getD_getElem?]
      by_cases hia : i < args.length
      · rw [if_pos (by omega), Array.getElem?_append_left (by omega)]
        obtain ⟨v', h3, h4⟩ := ha.get (List.getElem?_eq_getElem hia)
        have h5 : args'[i]? = some v' := by simpa using h3
        rw [h5]
        simp only [Nat.sub_zero, List.getElem?_eq_getElem hia]
        exact h4
      · rw [if_neg (by omega), Array.getElem?_append_right (by omega)]
        have : (Array.replicate (n - args'.size) undef)[i - args'.size]? = some undef := by
          rw [Array.getElem?_replicate, if_pos (by omega)]
        rw [this]
        exact VR.undef ρ
    · have hb : Nat.blt i n = false := by cases hb : Nat.blt i n with
        | false => rfl
        | true => exact absurd (blt_iff.1 hb) hi
      rw [hb]
      dsimp only
      rw [Array.getD_eq_getD_getElem?, Array.getElem?_eq_none (by simp; omega)]
      exact VR.undef ρ
  · cases h

theorem leave_some {t : Fr} {fn : Func} {S S1 : VS} {r : CRes} (h : leave P t fn S = some (r, S1)) :
    ∃ vs l, (resV P t fn.results.toList).run (gt S.mem) = some (vs, l) ∧ r = .ret (resOf vs) ∧ S1 = { S with rd := l ++ S.rd } := by
  unfold leave at h
  split at h
  · rename_i vs l hr
    simp only [Option.some.injEq, Prod.mk.injEq] at h
    exact ⟨vs, l, hr, h.1.symm, h.2.symm⟩
  · cases h

theorem leave_ext {t : Fr} {fn : Func} {S S1 : VS} {r : CRes} (h : leave P t fn S = some (r, S1)) : Ext S S1 := by
  obtain ⟨vs, l, hr, _, rfl⟩ := leave_some h
  refine ⟨fun x hx => List.mem_append.2 (.inr hx), fun x hx => hx, fun x _ => rfl, fun hS x hx => ?_⟩
  rcases hx with hx | hx
  · rcases List.mem_append.1 hx with hx | hx
    · obtain ⟨o, ho⟩ := Rd.read_mem hr x hx; exact small_of_gt ho
    · exact hS x (.inl hx)
  · exact hS x (.inr hx)

theorem funV_call (hP : plainNames P = true) (hmix : P.follows .mixedOrders = true) {sp : CallF → CallF} (hsp : ∀ call, CallOk P call → CallOk P (sp call)) (lf : Nat) : ∀ (d : Nat), CallOk P (funV P sp lf d)
  | 0 => { ext := (by intro f args S r S' h; cases h), ok := (by intro f args S r S' h; cases h) }
  | d + 1 => by
    have hc := hsp _ (funV_call hP hmix hsp lf d)
    have body : ∀ {f : FuncId} {args : List Value} {S : VS} {r : CRes} {S' : VS}, funV P sp lf (d + 1) f args S = some (r, S') →
        ∃ fn c t0 x t S1, P.funcs[f]? = some fn ∧ fn.body = some c ∧ Fr.of args fn.ntmps = some t0 ∧ codeV P (sp (funV P sp lf d)) lf c t0 S = some (x, t, S1) ∧
          (((x = .normal ∨ x = .ret) ∧ leave P t fn S1 = some (r, S')) ∨ ∃ v, x = .panic v ∧ r = .panic v ∧ S' = S1) := by
      intro f args S r S' h
      unfold funV at h
      split at h
      · cases h
      · rename_i fn hfn
        split at h
        · cases h
        · rename_i c hb
          split at h
          · cases h
          · rename_i t0 ht0
            split at h
            · rename_i t S1 hcv; exact ⟨fn, c, t0, _, t, S1, hfn, hb, ht0, hcv, .inl ⟨.inl rfl, h⟩⟩
            · rename_i t S1 hcv; exact ⟨fn, c, t0, _, t, S1, hfn, hb, ht0, hcv, .inl ⟨.inr rfl, h⟩⟩
            · rename_i v t S1 hcv
              simp only [Option.some.injEq, Prod.mk.injEq] at h
              exact ⟨fn, c, t0, _, t, S1, hfn, hb, ht0, hcv, .inr ⟨v, rfl, h.1.symm, h.2.symm⟩⟩
            · cases h
    refine ⟨fun h => ?_, fun h => ?_⟩
    · obtain ⟨fn, c, t0, x, t, S1, hfn, hb, ht0, hcv, hr⟩ := body h
      have e1 := codeV_ext hc lf hcv
      rcases hr with ⟨_, hl⟩ | ⟨v, _, _, rfl⟩
      · exact e1.trans (leave_ext hl)
      · exact e1
    · intro B w₀ ρ m w args' ha hw hm
      obtain ⟨fn, c, t0, x, t, S1, hfn, hb, ht0, hcv, hr⟩ := body h
      refine calls_of_wp hfn hb ?_
      rcases hr with ⟨hx, hl⟩ | ⟨v, rfl, rfl, rfl⟩
      · have e2 := leave_ext hl
        have e1 := codeV_ext hc lf hcv
        obtain ⟨vs, l, hres, rfl, rfl⟩ := leave_some hl
        refine codeV_ok hP hmix hc lf c hcv (Fr.of_ok ha ht0) hw (hm.first e2) fun ρ' e a' w' hle hxr hfr hwr => ?_
        have hag := hm.next e1
        have hres' : (resV P t fn.results.toList).run (post m S1) = some (vs, l) := Rd.run_congr hres fun y hy => hag y (.inl (List.mem_append.2 (.inl hy)))
        obtain ⟨v', h1, h2⟩ := results_ok hwr hfr hres'
        have fin : a'.defers = [] ∧ ∃ v, (results fn a'.tmps).run P w' = .ok v w' ∧ ∃ ρ', ρ.le ρ' ∧ CR ρ' (.ret (resOf vs)) (.returned v) ∧ WR P B w₀ ρ' (post m { S1 with rd := l ++ S1.rd }) w' :=
          ⟨hfr.defers, v', h1, ρ', hle, h2, hwr⟩
        rcases hx with rfl | rfl <;> cases hxr <;> exact fin
      · refine codeV_ok hP hmix hc lf c hcv (Fr.of_ok ha ht0) hw hm fun ρ' e a' w' hle hxr hfr hwr => ?_
        cases hxr with
        | panic _ v' hv => exact ⟨hfr.defers, ρ', hle, ⟨v', rfl, hv⟩, hwr⟩

theorem WR.start (w : World) : WR P (fun k => k < w.heap.size) w (fun _ => none) (fun _ => none) w :=
  { below := BelowK.refl _ _, size := fun _ h => h, live := (by intro x o r h; cases h), inj := (by intro x y ox oy rx ry h; cases h), fresh := fun _ _ => rfl, rows := (by intro x n s q h; cases h), nil := (by intro x el ro r h; cases h), named := (by intro x o h; cases h) }

/-- A call that the machine says comes to true answers true, whatever is drawn; what was there is as it was. -/
theorem calls_of_saysW (hP : plainNames P = true) (hmix : P.follows .mixedOrders = true) {sp : CallF → CallF} (hsp : ∀ call, CallOk P call → CallOk P (sp call)) {lf d : Nat} {f : FuncId} (h : saysW P sp lf d f = true) (w : World) :
    Calls P f #[] w fun e w' => e = .returned (.bool true) ∧ Below w.heap.size w w' := by
  unfold saysW at h
  split at h
  · rename_i S1 hf
    have hw : WR P (fun k => k < w.heap.size) w (fun _ => none) (fun _ => none) w := WR.start w
    have hm : Agree S0 S1 (fun _ => none) := fun x _ => by
      show none = gt Tr.nil x
      unfold gt
      split
      · rw [Tr.get_nil]
      · rfl
    refine ((funV_call hP hmix hsp lf d).ok hf (args' := #[]) (LR.nil _) hw hm).mono fun e w' he => ?_
    obtain ⟨ρ', _, h1, h2⟩ := he
    cases e with
    | returned v' =>
      have : v' = .bool true := VR.bool_inv h1
      exact ⟨by rw [this], h2.below.below⟩
    | panicked chain => cases h1
    | outgrown => cases h1
  · cases h
theorem calls_of_says (hP : plainNames P = true) (hmix : P.follows .mixedOrders = true) {lf d : Nat} {f : FuncId} (h : says P lf d f = true) (w : World) :
    Calls P f #[] w fun e w' => e = .returned (.bool true) ∧ Below w.heap.size w w' := calls_of_saysW hP hmix (sp := id) (fun _ h => h) h w

/-- A block that nothing names. -/
theorem WR.garbage {B : Nat → Prop} {w₀ : World} {ρ : Ren} {g : Nat → Option VObj} {w : World} (h : WR P B w₀ ρ g w) (o : Obj) : WR P B w₀ ρ g (w.alloc o) where
  below := h.below.alloc h.size o
  size := fun k hk => Nat.lt_of_lt_of_le (h.size k hk) (by simp)
  live := fun x ob r hx hr hl => by
    obtain ⟨o', h2, h3⟩ := h.live x ob r hx hr hl
    refine ⟨o', ?_, h3⟩
    have hlt : r.blk < w.heap.size := (Array.getElem?_eq_some_iff.1 h2).1
    rw [Below.heap_alloc _ _ _ hlt]
    exact h2
  inj := h.inj
  fresh := h.fresh
  rows := h.rows
  nil := h.nil
  named := h.named
end
#print axioms calls_of_says
end Go.Proofs.Ytgdpahojinknmaa.Vm
