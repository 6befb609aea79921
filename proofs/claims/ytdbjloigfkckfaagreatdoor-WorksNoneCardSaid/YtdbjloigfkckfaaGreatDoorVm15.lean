/- The small machine, its last text: code, functions, whole calls. -/
import Derived.Test.YtdbjloigfkckfaaGreatDoorVm14
import Derived.Scope
import Derived.Recover
namespace Go.Proofs.YtdbjloigfkckfaaGreatDoor.Vm
open Go.RowKit
set_option linter.unusedVariables false
set_option linter.unusedSimpArgs false

section
variable {P : Program}

theorem opsV_ext {call : CallF} (hc : CallOk P call) {df : Bool} {ops : List Oper} : ∀ {rest : List Oper} {t t1 : Fr} {S S1 : VS} {x : VEx}, opsV P call df ops rest t S = some (x, t1, S1) → Ext S S1
  | [], t, t1, S, S1, x, h => by
    simp only [opsV, Option.some.injEq, Prod.mk.injEq] at h
    obtain ⟨_, _, rfl⟩ := h
    exact Ext.refl S
  | o :: rest, t, t1, S, S1, x, h => by
    unfold opsV at h
    split at h
    · split at h
      · split at h
        · exact opsV_ext hc h
        · cases h
      · cases h
    · split at h
      · cases h
      · rename_i v t2 S2 hop
        simp only [Option.some.injEq, Prod.mk.injEq] at h
        obtain ⟨_, _, rfl⟩ := h
        exact opV_ext hc hop
      · rename_i t2 S2 hop
        exact (opV_ext hc hop).trans (opsV_ext hc h)

theorem drawV_ext {call : CallF} (hc : CallOk P call) {ops : List Oper} : ∀ {rest : List Oper} {t t1 : Fr} {S S1 : VS} {fps : List Fp}, drawV P call ops rest t S = some (t1, S1, fps) → Ext S S1
  | [], t, t1, S, S1, fps, h => by
    simp only [drawV, Option.some.injEq, Prod.mk.injEq] at h
    obtain ⟨_, rfl, _⟩ := h
    exact Ext.refl S
  | o :: rest, t, t1, S, S1, fps, h => by
    unfold drawV at h
    split at h
    · rename_i t2 S2 hop
      split at h
      · rename_i t3 S3 fps2 hd
        simp only [Option.some.injEq, Prod.mk.injEq] at h
        obtain ⟨rfl, rfl, rfl⟩ := h
        have e1 := opV_ext hc hop
        have e2 := drawV_ext hc hd
        refine Ext.trans ⟨fun y hy => ?_, fun y hy => ?_, fun y hy => ?_, fun hS y hy => ?_⟩ e2
        · exact List.mem_append.2 (.inr hy)
        · exact List.mem_append.2 (.inr hy)
        · exact e1.frame y fun hh => hy (List.mem_append.2 (.inl hh))
        · have he := e1.sm (fun z hz => by rcases hz with hz | hz <;> cases hz)
          rcases hy with hy | hy
          · rcases List.mem_append.1 hy with hy | hy
            · exact he y (.inl hy)
            · exact hS y (.inl hy)
          · rcases List.mem_append.1 hy with hy | hy
            · exact he y (.inr hy)
            · exact hS y (.inr hy)
      · cases h
    · cases h

theorem iter_ext {f : Fr → VS → Option (VEx × Fr × VS)} (hf : ∀ {t t1 : Fr} {S S1 : VS} {x : VEx}, f t S = some (x, t1, S1) → Ext S S1) :
    ∀ {k : Nat} {t t1 : Fr} {S S1 : VS} {x : VEx}, iter f k t S = some (x, t1, S1) → Ext S S1
  | 0, t, t1, S, S1, x, h => by cases h
  | k + 1, t, t1, S, S1, x, h => by
    unfold iter at h
    split at h
    · rename_i t2 S2 hfx
      exact (hf hfx).trans (iter_ext hf h)
    · exact hf h

theorem codeV_ext {call : CallF} (hc : CallOk P call) (lf : Nat) {df : Bool} : ∀ {c : Code} {t t1 : Fr} {S S1 : VS} {x : VEx}, codeV P call lf df c t S = some (x, t1, S1) → Ext S S1 := by
  intro c
  induction c with
  | skip =>
    intro t t1 S S1 x h
    simp only [codeV, Option.some.injEq, Prod.mk.injEq] at h
    obtain ⟨_, _, rfl⟩ := h
    exact Ext.refl S
  | region id ops draw =>
    intro t t1 S S1 x h
    cases draw with
    | false => exact opsV_ext hc h
    | true =>
      simp only [codeV] at h
      split at h
      · rename_i t2 S2 fps hd
        split at h
        · simp only [Option.some.injEq, Prod.mk.injEq] at h
          obtain ⟨_, _, rfl⟩ := h
          exact drawV_ext hc hd
        · cases h
      · cases h
  | seq a b iha ihb =>
    intro t t1 S S1 x h
    simp only [codeV] at h
    split at h
    · rename_i t2 S2 hx
      exact (iha hx).trans (ihb h)
    · exact iha h
  | cond c a b iha ihb =>
    intro t t1 S S1 x h
    simp only [codeV] at h
    split at h
    · exact iha h
    · exact ihb h
    · cases h
  | block id c ih =>
    intro t t1 S S1 x h
    simp only [codeV] at h
    split at h
    · rename_i j t2 S2 hx
      split at h
      · simp only [Option.some.injEq, Prod.mk.injEq] at h
        obtain ⟨_, _, rfl⟩ := h
        exact ih hx
      · simp only [Option.some.injEq, Prod.mk.injEq] at h
        obtain ⟨_, _, rfl⟩ := h
        exact ih hx
    · exact ih h
  | loop c ih =>
    intro t t1 S S1 x h
    simp only [codeV] at h
    exact iter_ext (fun h => ih h) h
  | exit id =>
    intro t t1 S S1 x h
    simp only [codeV, Option.some.injEq, Prod.mk.injEq] at h
    obtain ⟨_, _, rfl⟩ := h
    exact Ext.refl S
  | ret =>
    intro t t1 S S1 x h
    simp only [codeV, Option.some.injEq, Prod.mk.injEq] at h
    obtain ⟨_, _, rfl⟩ := h
    exact Ext.refl S
  | scope c ih =>
    intro t t1 S S1 x h
    simp only [codeV] at h
    exact ih h
  | label l =>
    intro t t1 S S1 x h
    simp only [codeV, Option.some.injEq, Prod.mk.injEq] at h
    obtain ⟨_, _, rfl⟩ := h
    exact Ext.refl S
  | _ => intro t t1 S S1 x h; simp [codeV] at h

theorem FR.evalBool {ρ : Ren} {t : Fr} {a : Act} (h : FR ρ t a) {c : Operand} {b : Bool} (hc : evalL t c = .bool b) : a.eval c = .bool b := by
  cases c with
  | tmp i =>
    have h1 := h.at_ i
    have h2 : t.at i = .bool b := hc
    rw [h2] at h1
    exact h1.bool_inv
  | const v => exact hc
  | global g => cases hc
  | func f => cases hc

inductive XR (ρ : Ren) : VEx → Exit → Prop where
  | normal : XR ρ .normal .normal
  | exit (id : Nat) : XR ρ (.exit id) (.exit id)
  | ret : XR ρ .ret .ret
  | panic (v v' : Value) (h : VR ρ v v') : XR ρ (.panic v) (.panic [{ v := v', recovered := false }])

variable {B : Nat → Prop} {w₀ : World}

theorem deferV_some {t t1 : Fr} {o : Oper} {c : Call} (hd : isDef o = some c) (h : deferV P t o c = some t1) : ∃ (f : Operand) (k : FuncId) (first captured : Array Value), o.guard = none ∧ c.callee = .value f ∧ o.op = .defer c ∧
    evalL t f = .func (.func k) first captured ∧ (okOperand f = true ∧ c.args.toList.all okOperand = true) ∧ (∃ cb, (P.funcs[k]?).bind (·.body) = some cb) ∧
    Vm.put { t with ds := (k, (first.toList ++ c.args.toList.map (evalL t)) ++ captured.toList) :: t.ds } o.dst undef = some t1 := by
  unfold deferV at h
  split at h
  · rename_i f hg hcc
    split at h
    · rename_i k first captured hok hev
      split at h
      · rename_i cb hcb
        rw [Bool.and_eq_true] at hok
        refine ⟨f, k, first, captured, hg, hcc, ?_, hev, hok, ⟨cb, hcb⟩, h⟩
        unfold isDef at hd
        split at hd
        · rename_i c' hc'; cases hd; exact hc'
        · cases hd
      · cases h
    · cases h
  · cases h
theorem lr_map {α : Type} {ρ : Ren} {f g : α → Value} : ∀ {l : List α}, (∀ x ∈ l, VR ρ (f x) (g x)) → LR ρ (l.map f) (l.map g)
  | [], _ => LR.nil _
  | x :: l, h => LR.cons (h x List.mem_cons_self) (lr_map fun y hy => h y (List.mem_cons_of_mem _ hy))
theorem wpIn_scope_straight {F : Fence} {n : Nat} {c : Code} {Q : Exit → Act → World → Prop} {a : Act} {w : World} (h : c.wpIn F n P (Exit.noGoto Q) a w) : (Code.scope c).wpIn F n P Q a w := by
  intro b k cs hro hb hr
  have h0 : (lone (b.atR a (.code (.scope c) :: k)) cs w).fenced P F := fenced_calm hb hr rfl
  have s1 : step P (lone (b.atR a (.code (.scope c) :: k)) cs w) = .next (lone (b.atR a (.code c :: .inScope c :: k)) cs w) := step_lone_go (by simp [stepG, stepG.exec, Frame.atR])
  have s2 : ∀ (a : Act) (w : World), step P (lone (b.atR a (.inScope c :: k)) cs w) = .next (lone (b.atR a k) cs w) := fun a w => step_lone_go (by simp [stepG, stepG.exec, Frame.atR])
  obtain ⟨e, a₁, w₁, hq, harr⟩ := h b (.inScope c :: k) cs hro hb hr
  cases e with
  | normal => exact ⟨.normal, a₁, w₁, hq, .head h0 s1 (StepsIn.trans harr (.one (fenced_calm hb hr rfl) (s2 a₁ w₁)))⟩
  | exit id => exact ⟨_, a₁, w₁, hq, .of_steps (.one h0 s1) ⟨fun k' hk => harr.1 k' (by simpa [exitTo] using hk), fun hr hk => harr.2 hr (by simpa [exitTo] using hk)⟩⟩
  | goto l => exact hq.elim
  | ret => exact ⟨.ret, a₁, w₁, hq, ArrivesIn.of_steps (e := .ret) (k := k) (.one h0 s1) harr⟩
  | panic ch => exact ⟨.panic ch, a₁, w₁, hq, ArrivesIn.of_steps (e := .panic ch) (k := k) (.one h0 s1) harr⟩
  | outgrown => exact ⟨.outgrown, a₁, w₁, hq, ArrivesIn.of_steps (e := .outgrown) (k := k) (.one h0 s1) harr⟩

theorem opsV_ok (hP : plainNames P = true) {call : CallF} (hc : CallOk P call) {df : Bool} {r : Option Nat} (hdf : df = true → r = none) {ops : Array Oper} : ∀ {rest : List Oper} {k : Nat}, (∀ j, rest[j]? = ops[k + j]?) → ∀ {t t1 : Fr} {S S1 : VS} {x : VEx},
    opsV P call df ops.toList rest t S = some (x, t1, S1) → ∀ {ρ : Ren} {m : Nat → Option VObj} {w : World} {a : Act}, FR ρ t a → WR P B w₀ ρ m w → Agree S S1 m → ∀ {Q : Exit → Act → World → Prop},
    (∀ (ρ' : Ren) (e : Exit) (a' : Act) (w' : World), ρ.le ρ' → XR ρ' x e → FR ρ' t1 a' → WR P B w₀ ρ' (post m S1) w' → Q e a' w') → wpOpsIn (FF r) 0 P ops Q (List.range' k rest.length) a w
  | [], k, hk, t, t1, S, S1, x, h, ρ, m, w, a, ht, hw, hm, Q, hQ => by
    simp only [opsV, Option.some.injEq, Prod.mk.injEq] at h
    obtain ⟨rfl, rfl, rfl⟩ := h
    have hp : post m S = m := post_self hm
    exact hQ ρ _ a w (Ren.le_refl ρ) .normal ht (by rw [hp]; exact hw)
  | o :: rest, k, hk, t, t1, S, S1, x, h, ρ, m, w, a, ht, hw, hm, Q, hQ => by
    have ho : ops[k]? = some o := by simpa using (hk 0).symm
    have hk' : ∀ j, rest[j]? = ops[k + 1 + j]? := fun j => by have := hk (j + 1); simpa [Nat.add_assoc, Nat.add_comm 1 j] using this
    rw [List.length_cons, List.range'_succ, wpOpsIn_cons]
    unfold opsV at h
    split at h
    · rename_i c hd
      split at h
      · split at h
        · rename_i t2 hdv
          cases hdf rfl
          obtain ⟨f, k', first, captured, hg, hcc, hop, hev, hok, hbd, hp⟩ := deferV_some hd hdv
          unfold wpOpIn
          simp only [ho]
          have hw1 : Region.wanted o (yielded ops a.tmps) = true := by unfold Region.wanted; rw [hg]
          rw [if_pos hw1]
          unfold Oper.wpIn
          refine ⟨fun _ _ => trivial, ?_⟩
          obtain ⟨hokf, hoka⟩ := hok
          have hvf := ht.eval hokf
          rw [hev] at hvf
          obtain ⟨f', c', hvf', hlf, hlc⟩ := hvf.func_inv
          have hsem : (o.semAt (FF none).round a.eval).run P w = .ok (.defer { target := .fn (.func k') c', args := f' ++ c.args.map a.eval }) w := by
            show (execOp a.eval o).run P w = _
            unfold execOp
            rw [hop]
            unfold resolve
            simp only [hcc, hvf', Deferred.ofValue]
            rfl
          rw [hsem]
          show wpOpsIn (FF none) 0 P ops Q _ (({ a with defers := _ :: a.defers } : Act).put o.dst undef) w
          have hargs : LR ρ (c.args.toList.map (evalL t)) (c.args.map a.eval).toList := by
            rw [Array.toList_map]
            exact lr_map fun x hx => ht.eval (List.all_eq_true.1 hoka x hx)
          have ht2 : FR ρ { t with ds := (k', (first.toList ++ c.args.toList.map (evalL t)) ++ captured.toList) :: t.ds } { a with defers := { target := .fn (.func k') c', args := f' ++ c.args.map a.eval } :: a.defers } :=
            ⟨ht.size, ht.small, ht.at_, .cons (by rw [Array.toList_append, Array.toList_append]; exact (hlf.append hargs).append hlc) ht.defers⟩
          exact opsV_ok hP hc hdf hk' h (ht2.put (VR.undef ρ) hp) hw hm hQ
        · cases h
      · cases h
    rename_i hnd
    split at h
    · cases h
    · rename_i v t2 S2 hop
      simp only [Option.some.injEq, Prod.mk.injEq] at h
      obtain ⟨rfl, rfl, rfl⟩ := h
      refine opV_ok hP hc ho hop ht hw hm (fun hh => by cases hh) fun v2 hv ρ' v' w' hle hv' hfr hwr => ?_
      cases hv
      exact hQ ρ' _ a w' hle (.panic v v' hv') hfr hwr
    · rename_i t2 S2 hop
      have e2 := opsV_ext hc h
      refine opV_ok hP hc ho hop ht hw (hm.first e2) (fun _ ρ' a' w' hle hfr _ hwr => ?_) fun v2 hv => by cases hv
      refine opsV_ok hP hc hdf hk' h hfr hwr (hm.next (opV_ext hc hop)) fun ρ2 e a2 w2 hle2 hx hfr2 hwr2 => ?_
      rw [post_post e2] at hwr2
      exact hQ ρ2 e a2 w2 (Ren.le_trans hle hle2) hx hfr2 hwr2

/-- What a piece of code comes to. -/
def Sound (P : Program) (r : Option Nat) (c : Code) (f : Fr → VS → Option (VEx × Fr × VS)) : Prop :=
  ∀ {t t1 : Fr} {S S1 : VS} {x : VEx}, f t S = some (x, t1, S1) → ∀ {B : Nat → Prop} {w₀ : World} {ρ : Ren} {m : Nat → Option VObj} {w : World} {a : Act}, FR ρ t a → WR P B w₀ ρ m w → Agree S S1 m →
    ∀ {Q : Exit → Act → World → Prop}, (∀ (ρ' : Ren) (e : Exit) (a' : Act) (w' : World), ρ.le ρ' → XR ρ' x e → FR ρ' t1 a' → WR P B w₀ ρ' (post m S1) w' → Q e a' w') → c.wpIn (FF r) 0 P Q a w

theorem iter_ok {r : Option Nat} {c : Code} {f : Fr → VS → Option (VEx × Fr × VS)} (hx : ∀ {t t1 : Fr} {S S1 : VS} {x : VEx}, f t S = some (x, t1, S1) → Ext S S1) (hs : Sound P r c f) :
    ∀ {k : Nat} {t t1 : Fr} {S S1 : VS} {x : VEx}, iter f k t S = some (x, t1, S1) → ∀ {ρ : Ren} {m : Nat → Option VObj} {w : World} {a : Act}, FR ρ t a → WR P B w₀ ρ m w → Agree S S1 m →
    ∀ {Q : Exit → Act → World → Prop}, (∀ (ρ' : Ren) (e : Exit) (a' : Act) (w' : World), ρ.le ρ' → XR ρ' x e → FR ρ' t1 a' → WR P B w₀ ρ' (post m S1) w' → Q e a' w') → Code.roundsIn (FF r) 0 P c Q k a w
  | 0, t, t1, S, S1, x, h, ρ, m, w, a, ht, hw, hm, Q, hQ => by cases h
  | k + 1, t, t1, S, S1, x, h, ρ, m, w, a, ht, hw, hm, Q, hQ => by
    rw [roundsIn_succ]
    unfold iter at h
    split at h
    · rename_i t2 S2 hf
      have e2 := iter_ext hx h
      refine hs hf ht hw (hm.first e2) fun ρ' e a' w' hle hxr hfr hwr => ?_
      cases hxr
      refine iter_ok hx hs h hfr hwr (hm.next (hx hf)) fun ρ2 e2' a2 w2 hle2 hx2 hfr2 hwr2 => ?_
      rw [post_post e2] at hwr2
      exact hQ ρ2 e2' a2 w2 (Ren.le_trans hle hle2) hx2 hfr2 hwr2
    · rename_i hne
      refine hs h ht hw hm fun ρ' e a' w' hle hxr hfr hwr => ?_
      cases hxr with
      | normal => exact absurd h (hne _ _)
      | _ => exact hQ ρ' _ a' w' hle (by constructor <;> assumption) hfr hwr

theorem codeV_ok (hP : plainNames P = true) (hmix : P.follows .mixedOrders = true) {call : CallF} (hc : CallOk P call) (lf : Nat) {df : Bool} {r : Option Nat} (hdf : df = true → r = none) : ∀ (c : Code), Sound P r c (codeV P call lf df c) := by
  intro c
  induction c with
  | skip =>
    intro t t1 S S1 x h B w₀ ρ m w a ht hw hm Q hQ
    simp only [codeV, Option.some.injEq, Prod.mk.injEq] at h
    obtain ⟨rfl, rfl, rfl⟩ := h
    exact wpIn_skip (hQ ρ _ a w (Ren.le_refl ρ) .normal ht (by rw [post_self hm]; exact hw))
  | region id ops draw =>
    intro t t1 S S1 x h B w₀ ρ m w a ht hw hm Q hQ
    cases draw with
    | false =>
      refine wpIn_region ?_
      have := opsV_ok hP hc hdf (ops := ops) (rest := ops.toList) (k := 0) (fun j => by simp) h ht hw hm hQ
      rw [List.range_eq_range']
      simpa using this
    | true =>
      simp only [codeV] at h
      split at h
      · rename_i t2 S2 fps hd
        split at h
        · rename_i hok
          simp only [Option.some.injEq, Prod.mk.injEq] at h
          obtain ⟨rfl, rfl, rfl⟩ := h
          exact draw_ok hP hmix hc hd hok ht hw hm fun ρ' a' w' hle hfr hwr => hQ ρ' _ a' w' hle .normal hfr hwr
        · cases h
      · cases h
  | seq a b iha ihb =>
    intro t t1 S S1 x h B w₀ ρ m w a ht hw hm Q hQ
    simp only [codeV] at h
    refine wpIn_seq ?_
    split at h
    · rename_i t2 S2 hx
      have e2 := codeV_ext hc lf h
      refine iha hx ht hw (hm.first e2) fun ρ' e a' w' hle hxr hfr hwr => ?_
      cases hxr
      refine ihb h hfr hwr (hm.next (codeV_ext hc lf hx)) fun ρ2 e2' a2 w2 hle2 hx2 hfr2 hwr2 => ?_
      rw [post_post e2] at hwr2
      exact hQ ρ2 e2' a2 w2 (Ren.le_trans hle hle2) hx2 hfr2 hwr2
    · rename_i hne
      refine iha h ht hw hm fun ρ' e a' w' hle hxr hfr hwr => ?_
      cases hxr with
      | normal => exact absurd h (hne _ _)
      | _ => exact hQ ρ' _ a' w' hle (by constructor <;> assumption) hfr hwr
  | cond c x y ihx ihy =>
    intro t t1 S S1 x' h B w₀ ρ m w a ht hw hm Q hQ
    simp only [codeV] at h
    split at h
    · rename_i he; exact wpIn_cond_true (ht.evalBool he) (ihx h ht hw hm hQ)
    · rename_i he; exact wpIn_cond_false (ht.evalBool he) (ihy h ht hw hm hQ)
    · cases h
  | block id c ih =>
    intro t t1 S S1 x h B w₀ ρ m w a ht hw hm Q hQ
    simp only [codeV] at h
    refine wpIn_block ?_
    split at h
    · rename_i j t2 S2 hx
      split at h
      · rename_i hj
        have hj' : j = id := Nat.eq_of_beq_eq_true hj
        simp only [Option.some.injEq, Prod.mk.injEq] at h
        obtain ⟨rfl, rfl, rfl⟩ := h
        refine ih hx ht hw hm fun ρ' e a' w' hle hxr hfr hwr => ?_
        cases hxr
        simp only [Exit.inBlock, hj', if_true]
        exact hQ ρ' _ a' w' hle .normal hfr hwr
      · rename_i hj
        have hj' : ¬ j = id := fun e => by rw [e, Nat.beq_refl] at hj; cases hj
        simp only [Option.some.injEq, Prod.mk.injEq] at h
        obtain ⟨rfl, rfl, rfl⟩ := h
        refine ih hx ht hw hm fun ρ' e a' w' hle hxr hfr hwr => ?_
        cases hxr
        simp only [Exit.inBlock, hj', if_false]
        exact hQ ρ' _ a' w' hle (.exit j) hfr hwr
    · rename_i hne
      refine ih h ht hw hm fun ρ' e a' w' hle hxr hfr hwr => ?_
      cases hxr with
      | exit j => exact absurd h (hne _ _ _)
      | _ => exact hQ ρ' _ a' w' hle (by constructor <;> assumption) hfr hwr
  | loop c ih =>
    intro t t1 S S1 x h B w₀ ρ m w a ht hw hm Q hQ
    simp only [codeV] at h
    exact wpIn_loop_rounds lf (iter_ok (fun h => codeV_ext hc lf h) ih h ht hw hm hQ)
  | exit id =>
    intro t t1 S S1 x h B w₀ ρ m w a ht hw hm Q hQ
    simp only [codeV, Option.some.injEq, Prod.mk.injEq] at h
    obtain ⟨rfl, rfl, rfl⟩ := h
    exact wpIn_exit (hQ ρ _ a w (Ren.le_refl ρ) (.exit id) ht (by rw [post_self hm]; exact hw))
  | ret =>
    intro t t1 S S1 x h B w₀ ρ m w a ht hw hm Q hQ
    simp only [codeV, Option.some.injEq, Prod.mk.injEq] at h
    obtain ⟨rfl, rfl, rfl⟩ := h
    exact wpIn_ret (hQ ρ _ a w (Ren.le_refl ρ) .ret ht (by rw [post_self hm]; exact hw))
  | scope c ih =>
    intro t t1 S S1 x h B w₀ ρ m w a ht hw hm Q hQ
    simp only [codeV] at h
    refine wpIn_scope_straight (ih h ht hw hm fun ρ' e a' w' hle hxr hfr hwr => ?_)
    cases hxr <;> exact hQ ρ' _ a' w' hle (by constructor <;> assumption) hfr hwr
  | label l =>
    intro t t1 S S1 x h B w₀ ρ m w a ht hw hm Q hQ
    simp only [codeV, Option.some.injEq, Prod.mk.injEq] at h
    obtain ⟨rfl, rfl, rfl⟩ := h
    exact wpIn_label (hQ ρ _ a w (Ren.le_refl ρ) .normal ht (by rw [post_self hm]; exact hw))
  | _ => intro t t1 S S1 x h; simp [codeV] at h

theorem resV_ok {ρ : Ren} {g : Nat → Option VObj} {w : World} (hw : WR P B w₀ ρ g w) {t : Fr} {a : Act} (ht : FR ρ t a) : ∀ {rs : List ResultVar} {vs : List Value} {l : List Nat}, (resV P t rs).run g = some (vs, l) →
    ∃ vs' : List Value, (rs.mapM (m := Sem) fun | .tmp t => pure (a.tmps.getD t undef) | .cell b t => do loadVar t (← asAddr (a.tmps.getD b undef))).run P w = .ok vs' w ∧ LR ρ vs vs'
  | [], vs, l, h => by
    simp only [resV, Rd.run, Option.some.injEq, Prod.mk.injEq] at h
    obtain ⟨rfl, rfl⟩ := h
    exact ⟨[], rfl, LR.nil ρ⟩
  | .tmp i :: rs, vs, l, h => by
    simp only [resV] at h
    obtain ⟨r, l1, l2, h1, h2, rfl⟩ := (Rd.run_bind _ _ _ _ _).1 h
    simp only [Rd.run, Option.some.injEq, Prod.mk.injEq] at h2
    obtain ⟨rfl, rfl⟩ := h2
    obtain ⟨vs', h3, h4⟩ := resV_ok hw ht h1
    refine ⟨a.tmps.getD i undef :: vs', ?_, LR.cons (ht.at_ i) h4⟩
    rw [List.mapM_cons]
    simp only [Sem.run_bind, Sem.run_pure, Result.andThen_ok, h3]
  | .cell i ty :: rs, vs, l, h => by
    simp only [resV] at h
    split at h
    · rename_i b off hp
      obtain ⟨v, l1, l2, h1, h2, rfl⟩ := (Rd.run_bind _ _ _ _ _).1 h
      obtain ⟨r, l3, l4, h3, h4, rfl⟩ := (Rd.run_bind _ _ _ _ _).1 h2
      simp only [Rd.run, Option.some.injEq, Prod.mk.injEq] at h4
      obtain ⟨rfl, rfl⟩ := h4
      have hi := ht.at_ i
      rw [hp] at hi
      obtain ⟨rw', hr, hi⟩ := hi.ptr_inv
      obtain ⟨v', h5, h6⟩ := ldV_ok hw h1 hr
      obtain ⟨vs', h7, h8⟩ := resV_ok hw ht h3
      refine ⟨v' :: vs', ?_, LR.cons h6 h8⟩
      rw [List.mapM_cons]
      have h9 : (asAddr (a.tmps.getD i undef)).run P w = .ok ⟨rw'.blk, rw'.sh + off, none⟩ w := by rw [hi]; rfl
      simp only [Sem.run_bind, Sem.run_pure, Result.andThen_ok, h9, h5, h7]
    · cases h

theorem results_ok {ρ : Ren} {g : Nat → Option VObj} {w : World} (hw : WR P B w₀ ρ g w) {t : Fr} {a : Act} (ht : FR ρ t a) {fn : Func} {vs : List Value} {l : List Nat} (h : (resV P t fn.results.toList).run g = some (vs, l)) :
    ∃ v', (results fn a.tmps).run P w = .ok v' w ∧ VR ρ (resOf vs) v' := by
  obtain ⟨vs', h1, h2⟩ := resV_ok hw ht h
  have h3 : ∀ F : ResultVar → Sem Value, (fn.results.toList.mapM F).run P w = .ok vs' w → (fn.results.mapM F).run P w = .ok vs'.toArray w := by
    intro F hF
    rw [Array.mapM_eq_mapM_toList]
    show (fn.results.toList.mapM F >>= fun l => pure l.toArray).run P w = _
    rw [Sem.run_bind, hF]
    rfl
  unfold results
  rw [Sem.run_bind]
  refine ⟨(if h : vs'.toArray.size = 1 then vs'.toArray[0] else .tuple vs'.toArray), ?_, ?_⟩
  · exact Eq.trans (congrArg (fun r => Result.andThen r _) (h3 _ h1)) rfl
  · cases vs with
    | nil =>
      rw [h2.inv_nil]
      exact VR.tuple_of (LR.nil ρ)
    | cons v vs =>
      obtain ⟨v', r, rfl, h4, h5⟩ := h2.inv_cons
      cases vs with
      | nil => rw [h5.inv_nil]; exact h4
      | cons u vs =>
        obtain ⟨u', r', rfl, h6, h7⟩ := h5.inv_cons
        have : ¬ ((v' :: u' :: r').toArray.size = 1) := by simp
        rw [dif_neg this]
        exact VR.tuple_of h2

theorem Fr.sets_get : ∀ {args : List Value} {i : Nat} {t : Tr Value} {j : Nat}, i + args.length ≤ 1024 → j < 1024 →
    (Fr.sets args i t).get 10 j = if i ≤ j ∧ j < i + args.length then args[j - i]? else t.get 10 j
  | [], i, t, j, h, hj => by
    have : ¬ (i ≤ j ∧ j < i + ([] : List Value).length) := by simp
    rw [if_neg this]; rfl
  | v :: args, i, t, j, h, hj => by
    simp only [List.length_cons] at h ⊢
    unfold Fr.sets
    rw [Fr.sets_get (by omega) hj]
    have h10 : (2 : Nat) ^ 10 = 1024 := rfl
    by_cases h1 : i + 1 ≤ j ∧ j < i + 1 + args.length
    · rw [if_pos h1, if_pos (by omega), show j - i = (j - (i + 1)) + 1 by omega, List.getElem?_cons_succ]
    · rw [if_neg h1, Tr.get_set 10 _ _ _ _ (by omega) (by omega)]
      by_cases h2 : j = i
      · subst h2
        rw [if_pos rfl, if_pos (by omega)]
        simp
      · rw [if_neg h2, if_neg (by omega)]

theorem Fr.of_ok {ρ : Ren} {args : List Value} {args' : Array Value} (ha : LR ρ args args'.toList) {n : Nat} {t0 : Fr} (h : Fr.of args n = some t0) :
    FR ρ t0 { tmps := args' ++ Array.replicate (n - args'.size) undef, defers := [] } := by
  unfold Fr.of at h
  split at h
  · rename_i hb
    cases h
    simp only [Bool.and_eq_true] at hb
    have h1 : args.length ≤ n := by simpa [Nat.ble_eq] using hb.1
    have h2 : n ≤ 1024 := by simpa [Nat.ble_eq] using hb.2
    have hlen : args.length = args'.size := by have := ha.len; simpa using this
    refine ⟨by simp; omega, h2, fun i => ?_, .nil⟩
    unfold Fr.at
    dsimp only
    by_cases hi : i < n
    · rw [blt_iff.2 hi]
      dsimp only
      rw [Fr.sets_get (by omega) (by omega), Tr.get_nil]
      rw [Array.getD_eq_getD_getElem?]
      by_cases hia : i < args.length
      · rw [if_pos (by omega), Array.getElem?_append_left (by omega)]
        obtain ⟨v', h3, h4⟩ := ha.get (List.getElem?_eq_getElem hia)
        have h5 : args'[i]? = some v' := by simpa using h3
        rw [h5]
        simp only [Nat.sub_zero, List.getElem?_eq_getElem hia]
        exact h4
      · rw [if_neg (by omega), Array.getElem?_append_right (by omega)]
        have : (Array.replicate (n - args'.size) undef)[i - args'.size]? = some undef := by
          rw [Array.getElem?_replicate, if_pos (by omega)]
        rw [this]
        exact VR.undef ρ
    · have hb : Nat.blt i n = false := by cases hb : Nat.blt i n with
        | false => rfl
        | true => exact absurd (blt_iff.1 hb) hi
      rw [hb]
      dsimp only
      rw [Array.getD_eq_getD_getElem?, Array.getElem?_eq_none (by simp; omega)]
      exact VR.undef ρ
  · cases h

theorem leave_some {t : Fr} {fn : Func} {S S1 : VS} {r : CRes} (h : leave P t fn S = some (r, S1)) :
    ∃ vs l, (resV P t fn.results.toList).run (gt S.mem) = some (vs, l) ∧ r = .ret (resOf vs) ∧ S1 = { S with rd := l ++ S.rd } := by
  unfold leave at h
  split at h
  · rename_i vs l hr
    simp only [Option.some.injEq, Prod.mk.injEq] at h
    exact ⟨vs, l, hr, h.1.symm, h.2.symm⟩
  · cases h

theorem leave_ext {t : Fr} {fn : Func} {S S1 : VS} {r : CRes} (h : leave P t fn S = some (r, S1)) : Ext S S1 := by
  obtain ⟨vs, l, hr, _, rfl⟩ := leave_some h
  refine ⟨fun x hx => List.mem_append.2 (.inr hx), fun x hx => hx, fun x _ => rfl, fun hS x hx => ?_⟩
  rcases hx with hx | hx
  · rcases List.mem_append.1 hx with hx | hx
    · obtain ⟨o, ho⟩ := Rd.read_mem hr x hx; exact small_of_gt ho
    · exact hS x (.inl hx)
  · exact hS x (.inr hx)

/- Deferred calls. -/
def MdR (ρ : Ren) : Md → FrameMode → Prop
  | .ret, u => u = .returning
  | .pan v, u => ∃ v', u = .panicking [{ v := v', recovered := false }] ∧ VR ρ v v'
theorem MdR.mono {ρ ρ' : Ren} (hl : ρ.le ρ') : ∀ {md : Md} {u : FrameMode}, MdR ρ md u → MdR ρ' md u
  | .ret, _, h => h
  | .pan v, _, ⟨v', h, hv⟩ => ⟨v', h, hv.mono hl⟩
theorem MdR.settled {ρ : Ren} : ∀ {md : Md} {u : FrameMode}, MdR ρ md u → MdR ρ md (settle u)
  | .ret, _, h => by cases h; rfl
  | .pan v, _, ⟨v', h, hv⟩ => ⟨v', by rw [h]; rfl, hv⟩
theorem MdR.not_run {ρ : Ren} : ∀ {md : Md} {u : FrameMode}, MdR ρ md u → u ≠ .run
  | .ret, _, h => by cases h; simp
  | .pan v, _, ⟨v', h, hv⟩ => by rw [h]; simp

theorem opsQ_ext : ∀ {rest : List Oper} {t t1 : Fr} {S S1 : VS}, opsQ P rest t S = some (t1, S1) → Ext S S1
  | [], t, t1, S, S1, h => by
    simp only [opsQ, Option.some.injEq, Prod.mk.injEq] at h
    obtain ⟨_, rfl⟩ := h
    exact Ext.refl S
  | o :: rest, t, t1, S, S1, h => by
    unfold opsQ at h
    split at h
    · cases h
    · split at h
      · rename_i v S2 hs
        split at h
        · exact (stepOp_ext hs).trans (opsQ_ext h)
        · cases h
      · cases h

theorem opsQ_ok (hP : plainNames P = true) {ops : Array Oper} : ∀ {rest : List Oper} {k : Nat}, (∀ j, rest[j]? = ops[k + j]?) → ∀ {t t1 : Fr} {S S1 : VS},
    opsQ P rest t S = some (t1, S1) → ∀ {ρ : Ren} {m : Nat → Option VObj} {w : World} {a : Act} {cs : List Frame}, FR ρ t a → WR P B w₀ ρ m w → Agree S S1 m → ∀ {Q : Exit → Act → List Frame → World → Prop},
    (∀ (ρ' : Ren) (a' : Act) (w' : World), ρ.le ρ' → FR ρ' t1 a' → WR P B w₀ ρ' (post m S1) w' → Q .normal a' cs w') → wpOpsS P ops Q (List.range' k rest.length) a cs w
  | [], k, hk, t, t1, S, S1, h, ρ, m, w, a, cs, ht, hw, hm, Q, hQ => by
    simp only [opsQ, Option.some.injEq, Prod.mk.injEq] at h
    obtain ⟨rfl, rfl⟩ := h
    exact hQ ρ a w (Ren.le_refl ρ) ht (by rw [post_self hm]; exact hw)
  | o :: rest, k, hk, t, t1, S, S1, h, ρ, m, w, a, cs, ht, hw, hm, Q, hQ => by
    have ho : ops[k]? = some o := by simpa using (hk 0).symm
    have hk' : ∀ j, rest[j]? = ops[k + 1 + j]? := fun j => by have := hk (j + 1); simpa [Nat.add_assoc, Nat.add_comm 1 j] using this
    rw [List.length_cons, List.range'_succ]
    unfold wpOpsS
    simp only [ho]
    unfold opsQ at h
    split at h
    · cases h
    · rename_i hg
      have hw1 : Region.wanted o (yielded ops a.tmps) = true := by unfold Region.wanted; rw [hg]
      rw [if_pos hw1]
      split at h
      · rename_i v S2 hs
        split at h
        · rename_i t2 hp
          have e2 := opsQ_ext h
          obtain ⟨ρ', w', h1, h2, h3⟩ := stepOp_ok hP hs ht hw (hm.first e2)
          generalize (execOp a.eval o).run P w = q at h2
          cases h2 with
          | val _ v' _ hv =>
            refine opsQ_ok hP hk' h ((ht.mono h1).put hv hp) h3 (hm.next (stepOp_ext hs)) fun ρ2 a2 w2 hle2 hfr2 hwr2 => ?_
            rw [post_post e2] at hwr2
            exact hQ ρ2 a2 w2 (Ren.le_trans h1 hle2) hfr2 hwr2
        · cases h
      · cases h

theorem codeD_ext {call : CallF} (hc : CallOk P call) {lf : Nat} {md : Md} : ∀ {c : Code} {t t1 : Fr} {S S1 : VS} {md1 : Md} {x : VEx}, codeD P call lf md c t S = some (md1, x, t1, S1) → Ext S S1 := by
  intro c
  have dflt : ∀ {c : Code} {t t1 : Fr} {S S1 : VS} {md1 : Md} {x : VEx}, (codeV P call lf false c t S).map (fun r => (md, r)) = some (md1, x, t1, S1) → Ext S S1 := by
    intro c t t1 S S1 md1 x h
    simp only [Option.map_eq_some_iff, Prod.mk.injEq] at h
    obtain ⟨_, hcv, rfl, rfl⟩ := h
    exact codeV_ext hc lf hcv
  induction c with
  | seq a b iha ihb =>
    intro t t1 S S1 md1 x h
    unfold codeD at h
    split at h
    · rename_i md2 t2 S2 h1
      simp only [Option.map_eq_some_iff, Prod.mk.injEq] at h
      obtain ⟨_, hcv, rfl, rfl⟩ := h
      exact (iha h1).trans (codeV_ext hc lf hcv)
    · exact iha h
  | region id ops draw =>
    intro t t1 S S1 md1 x h
    cases draw with
    | true => unfold codeD at h; exact dflt h
    | false =>
      unfold codeD at h
      split at h
      · split at h
        · split at h
          · split at h
            · rename_i hq
              simp only [Option.some.injEq, Prod.mk.injEq] at h
              obtain ⟨_, _, _, rfl⟩ := h
              exact opsQ_ext hq
            · cases h
          · cases h
        · exact dflt h
      · cases h
  | _ => intro t t1 S S1 md1 x h; unfold codeD at h; exact dflt h

/-- What is known when a deferred function's code ends. -/
abbrev EndD (P : Program) (B : Nat → Prop) (w₀ : World) (ρ : Ren) (m : Nat → Option VObj) (md1 : Md) (x : VEx) (t1 : Fr) (S1 : VS) (c₀ : Frame) (cs : List Frame) (Q : Exit → Act → List Frame → World → Prop) : Prop :=
  ∀ (ρ' : Ren) (e : Exit) (a' : Act) (u' : FrameMode) (w' : World), ρ.le ρ' → XR ρ' x e → FR ρ' t1 a' → MdR ρ' md1 (settle u') → WR P B w₀ ρ' (post m S1) w' → Q e a' ({ c₀ with mode := u' } :: cs) w'

theorem codeD_ok (hP : plainNames P = true) (hmix : P.follows .mixedOrders = true) {call : CallF} (hc : CallOk P call) {lf : Nat} {md : Md} : ∀ {c : Code} {t t1 : Fr} {S S1 : VS} {md1 : Md} {x : VEx},
    codeD P call lf md c t S = some (md1, x, t1, S1) → ∀ {ρ : Ren} {m : Nat → Option VObj} {w : World} {a : Act} {c₀ : Frame} {cs : List Frame}, FR ρ t a → WR P B w₀ ρ m w → Agree S S1 m → MdR ρ md c₀.mode →
    ∀ {Q : Exit → Act → List Frame → World → Prop}, EndD P B w₀ ρ m md1 x t1 S1 c₀ cs Q → c.wpS P Q a (c₀ :: cs) w := by
  intro c
  have dflt : ∀ {c : Code} {t t1 : Fr} {S S1 : VS} {md1 : Md} {x : VEx}, (codeV P call lf false c t S).map (fun r => (md, r)) = some (md1, x, t1, S1) → ∀ {ρ : Ren} {m : Nat → Option VObj} {w : World} {a : Act} {c₀ : Frame} {cs : List Frame}, FR ρ t a → WR P B w₀ ρ m w → Agree S S1 m → MdR ρ md c₀.mode →
      ∀ {Q : Exit → Act → List Frame → World → Prop}, EndD P B w₀ ρ m md1 x t1 S1 c₀ cs Q → c.wpS P Q a (c₀ :: cs) w := by
    intro c t t1 S S1 md1 x h ρ m w a c₀ cs ht hw hm hmd Q hQ
    · simp only [Option.map_eq_some_iff, Prod.mk.injEq] at h
      obtain ⟨_, hcv, rfl, rfl⟩ := h
      refine wpS_of_wp (wpIn_wide.1 (codeV_ok hP hmix hc lf (r := none) (fun h => by cases h) c hcv ht hw hm fun ρ' e a' w' hle hxr hfr hwr => ?_))
      exact hQ ρ' e a' c₀.mode w' hle hxr hfr (hmd.mono hle).settled hwr
  induction c with
  | seq a b iha ihb =>
    intro t t1 S S1 md1 x h ρ m w ac c₀ cs ht hw hm hmd Q hQ
    unfold codeD at h
    refine wpS_seq ?_
    split at h
    · rename_i md2 t2 S2 h1
      · simp only [Option.map_eq_some_iff, Prod.mk.injEq] at h
        obtain ⟨_, hcv, rfl, rfl⟩ := h
        have e2 := codeV_ext hc lf hcv
        refine iha h1 ht hw (hm.first e2) hmd fun ρ' e a' u' w' hle hxr hfr hmd' hwr => ?_
        cases hxr
        refine wpS_of_wp (wpIn_wide.1 (codeV_ok hP hmix hc lf (r := none) (fun h => by cases h) b hcv hfr hwr (hm.next (codeD_ext hc h1)) fun ρ2 e2' a2 w2 hle2 hx2 hfr2 hwr2 => ?_))
        rw [post_post e2] at hwr2
        exact hQ ρ2 e2' a2 u' w2 (Ren.le_trans hle hle2) hx2 hfr2 (hmd'.mono hle2) hwr2
    · rename_i hne
      refine iha h ht hw hm hmd fun ρ' e a' u' w' hle hxr hfr hmd' hwr => ?_
      cases hxr with
      | normal => exact absurd h (hne _ _ _)
      | _ => exact hQ ρ' _ a' u' w' hle (by constructor <;> assumption) hfr hmd' hwr
  | region id ops draw =>
    intro t t1 S S1 md1 x h ρ m w a c₀ cs ht hw hm hmd Q hQ
    cases draw with
    | true => unfold codeD at h; exact dflt h ht hw hm hmd hQ
    | false =>
      unfold codeD at h
      split at h
      · rename_i o rest hops
        split at h
        · rename_i hrec
          split at h
          · rename_i t2 hp
            split at h
            · rename_i t3 S2 hq
              simp only [Option.some.injEq, Prod.mk.injEq] at h
              obtain ⟨rfl, rfl, rfl, rfl⟩ := h
              refine wpS_region ?_
              have hsz : ops.size = rest.length + 1 := by rw [← Array.length_toList, hops]; rfl
              have ho : ops[0]? = some o := by rw [← Array.getElem?_toList, hops]; rfl
              rw [List.range_eq_range', hsz, List.range'_succ]
              obtain ⟨at_, ty, hop, hg⟩ : ∃ ar at_, o.op = .call ⟨.builtin .recover, ar, at_⟩ ∧ o.guard = none := by
                unfold recOf at hrec
                split at hrec
                · rename_i ar at_ h1 h2; exact ⟨ar, at_, h1, h2⟩
                · cases hrec
              unfold wpOpsS
              simp only [ho]
              have hw1 : Region.wanted o (yielded ops a.tmps) = true := by unfold Region.wanted; rw [hg]
              rw [if_pos hw1]
              have hsem : (execOp a.eval o).run P w = .ok .recover w := by
                unfold execOp
                rw [hop]
                rfl
              rw [hsem]
              have hk : ∀ j, rest[j]? = ops[0 + 1 + j]? := fun j => by
                rw [← Array.getElem?_toList, hops, show 0 + 1 + j = j + 1 by omega]; rfl
              cases md with
              | ret =>
                have hmd0 : c₀.mode = .returning := hmd
                have hrd : recoverD (c₀ :: cs) = none := by simp [recoverD, hmd0]
                simp only [hrd]
                exact opsQ_ok hP hk hq (ht.put (.scal _ rfl) hp) hw hm fun ρ' a' w' hle hfr hwr => hQ ρ' .normal a' c₀.mode w' hle .normal hfr (by rw [hmd0]; rfl) hwr
              | pan v =>
                obtain ⟨v', hmd0, hv⟩ := hmd
                have hrd : recoverD (c₀ :: cs) = some (v', { c₀ with mode := .panicking [{ v := v', recovered := true }] } :: cs) := by simp [recoverD, hmd0]
                simp only [hrd]
                exact opsQ_ok hP hk hq (ht.put hv hp) hw hm fun ρ' a' w' hle hfr hwr => hQ ρ' .normal a' _ w' hle .normal hfr rfl hwr
            · cases h
          · cases h
        · exact dflt h ht hw hm hmd hQ
      · cases h
  | _ => intro t t1 S S1 md1 x h ρ m w a c₀ cs ht hw hm hmd Q hQ; unfold codeD at h; exact dflt h ht hw hm hmd hQ

theorem callD_some {call : CallF} {lf : Nat} {md : Md} {k : FuncId} {args : List Value} {S S' : VS} {md' : Md} (h : callD P call lf md k args S = some (md', S')) :
    ∃ fn c t0 x t S1 r, P.funcs[k]? = some fn ∧ fn.body = some c ∧ Fr.of args fn.ntmps = some t0 ∧ codeD P call lf md c t0 S = some (md', x, t, S1) ∧ (x = .normal ∨ x = .ret) ∧ t.ds = [] ∧ t.base = [] ∧ leave P t fn S1 = some (r, S') := by
  unfold callD at h
  split at h
  · cases h
  · rename_i fn hfn
    split at h
    · cases h
    · rename_i c hb
      split at h
      · cases h
      · rename_i t0 ht0
        split at h
        · rename_i md1 x t S1 hcd
          split at h
          · rename_i hds hbs
            split at h
            · rename_i r S2 hl
              simp only [Option.some.injEq, Prod.mk.injEq] at h
              obtain ⟨rfl, rfl⟩ := h
              exact ⟨fn, c, t0, _, t, S1, r, hfn, hb, ht0, hcd, .inl rfl, hds, hbs, hl⟩
            · cases h
          · rename_i hds hbs
            split at h
            · rename_i r S2 hl
              simp only [Option.some.injEq, Prod.mk.injEq] at h
              obtain ⟨rfl, rfl⟩ := h
              exact ⟨fn, c, t0, _, t, S1, r, hfn, hb, ht0, hcd, .inr rfl, hds, hbs, hl⟩
            · cases h
          · cases h
        · cases h

theorem callD_ext {call : CallF} (hc : CallOk P call) {lf : Nat} {md : Md} {k : FuncId} {args : List Value} {S S' : VS} {md' : Md} (h : callD P call lf md k args S = some (md', S')) : Ext S S' := by
  obtain ⟨fn, c, t0, x, t, S1, r, _, _, _, hcd, _, _, _, hl⟩ := callD_some h
  exact (codeD_ext hc hcd).trans (leave_ext hl)

theorem Fr.of_base {args : List Value} {n : Nat} {t0 : Fr} (h : Fr.of args n = some t0) : t0.ds = [] ∧ t0.base = [] := by
  unfold Fr.of at h
  split at h
  · cases h; exact ⟨rfl, rfl⟩
  · cases h

theorem callD_ok (hP : plainNames P = true) (hmix : P.follows .mixedOrders = true) {call : CallF} (hc : CallOk P call) {lf : Nat} {md : Md} {k : FuncId} {args : List Value} {S S' : VS} {md' : Md}
    (h : callD P call lf md k args S = some (md', S')) {ρ : Ren} {m : Nat → Option VObj} {w : World} {args' : Array Value} {u : FrameMode} (hmd : MdR ρ md u) (ha : LR ρ args args'.toList) (hw : WR P B w₀ ρ m w) (hm : Agree S S' m)
    {R : Ending → FrameMode → World → Prop} (hR : ∀ (ρ' : Ren) (v : Value) (u' : FrameMode) (w' : World), ρ.le ρ' → MdR ρ' md' (settle u') → WR P B w₀ ρ' (post m S') w' → R (.returned v) u' w') : CallsD P k args' u w R := by
  obtain ⟨fn, c, t0, x, t, S1, r, hfn, hb, ht0, hcd, hx, hds, hbs, hl⟩ := callD_some h
  refine callsD_of_wpS hfn hb fun c₀ cs hu => ?_
  subst hu
  have e2 := leave_ext hl
  have e1 := codeD_ext hc hcd
  obtain ⟨vs, l, hres, rfl, rfl⟩ := leave_some hl
  refine codeD_ok hP hmix hc hcd (Fr.of_ok ha ht0) hw (hm.first e2) hmd fun ρ' e a' u' w' hle hxr hfr hmd' hwr => ?_
  have hag := hm.next e1
  have hres' : (resV P t fn.results.toList).run (post m S1) = some (vs, l) := Rd.run_congr hres fun y hy => hag y (.inl (List.mem_append.2 (.inl hy)))
  obtain ⟨v', h1, h2⟩ := results_ok hwr hfr hres'
  have hd : a'.defers = [] := by rw [hfr.none_left hds, hbs]
  have fin : a'.defers = [] ∧ ∃ u1, ({ c₀ with mode := u' } :: cs : List Frame) = { c₀ with mode := u1 } :: cs ∧ ∃ v, (results fn a'.tmps).run P w' = .ok v w' ∧ R (.returned v) u1 w' :=
    ⟨hd, u', rfl, v', h1, hR ρ' v' u' w' hle hmd' hwr⟩
  rcases hx with rfl | rfl <;> cases hxr <;> exact fin

theorem runD_ext {call : CallF} (hc : CallOk P call) {lf : Nat} : ∀ {ds : List (FuncId × List Value)} {md md' : Md} {S S' : VS}, runD P call lf ds md S = some (md', S') → Ext S S'
  | [], md, md', S, S', h => by
    simp only [runD, Option.some.injEq, Prod.mk.injEq] at h
    obtain ⟨_, rfl⟩ := h
    exact Ext.refl S
  | (k, args) :: l, md, md', S, S', h => by
    unfold runD at h
    split at h
    · rename_i md1 S1 h1
      exact (callD_ext hc h1).trans (runD_ext hc h)
    · cases h

theorem enters (hP : plainNames P = true) {k : FuncId} {fn : Func} {c : Code} (hf : P.funcs[k]? = some fn) (hb : fn.body = some c) (args : Array Value) (w : World) : (callFunc k args).run P w = .ok (.enter k args) w := by
  have hname : (fn.name == "runtime.NumGoroutine") = false := by
    have := List.all_eq_true.1 hP fn (by rw [Array.mem_toList_iff]; exact Array.mem_of_getElem? hf)
    simpa using this
  unfold callFunc
  rw [Sem.run_bind, run_program, Result.andThen_ok]
  simp only [hf, hname, hb, Option.isNone_some, Bool.false_eq_true, if_false, Sem.run_pure]

theorem runD_ok (hP : plainNames P = true) (hmix : P.follows .mixedOrders = true) {call : CallF} (hc : CallOk P call) {lf : Nat} {fn : Func} {tmps : Array Value} {R : Ending → World → Prop} :
    ∀ {ds : List (FuncId × List Value)} {l : List Deferred} {md md' : Md} {S S' : VS}, runD P call lf ds md S = some (md', S') → ∀ {ρ : Ren} {m : Nat → Option VObj} {w : World} {u : FrameMode}, DsR ρ [] ds l → MdR ρ md u → WR P B w₀ ρ m w → Agree S S' m →
    (∀ (ρ' : Ren) (u' : FrameMode) (w' : World), ρ.le ρ' → MdR ρ' md' u' → WR P B w₀ ρ' (post m S') w' → Leaves P fn tmps R [] u' w') → Leaves P fn tmps R l u w
  | [], l, md, md', S, S', h, ρ, m, w, u, hd, hmd, hw, hm, hK => by
    simp only [runD, Option.some.injEq, Prod.mk.injEq] at h
    obtain ⟨rfl, rfl⟩ := h
    cases hd
    exact hK ρ u w (Ren.le_refl ρ) hmd (by rw [post_self hm]; exact hw)
  | (k, args) :: ds, l, md, md', S, S', h, ρ, m, w, u, hd, hmd, hw, hm, hK => by
    unfold runD at h
    split at h
    · rename_i md1 S1 h1
      have e2 := runD_ext hc h
      cases hd with
      | cons hargs hrest =>
        obtain ⟨fn', c, _, _, _, _, _, hfn, hb, _⟩ := callD_some h1
        refine leaves_cons hmd.not_run (f := k) (enters hP hfn hb _ _) ?_
        refine callD_ok hP hmix hc h1 hmd hargs hw (hm.first e2) fun ρ' v u' w' hle hmd' hwr => ?_
        refine runD_ok hP hmix hc h (hrest.mono hle) hmd' hwr (hm.next (callD_ext hc h1)) fun ρ2 u2 w2 hle2 hmd2 hwr2 => ?_
        rw [post_post e2] at hwr2
        exact hK ρ2 u2 w2 (Ren.le_trans hle hle2) hmd2 hwr2
    · cases h

theorem endV_some {call : CallF} {lf : Nat} {fn : Func} {md : Md} {t : Fr} {S S' : VS} {r : CRes} (h : endV P call lf fn md t S = some (r, S')) :
    t.base = [] ∧ ∃ md' S1, runD P call lf t.ds md S = some (md', S1) ∧ ((md' = .ret ∧ leave P t fn S1 = some (r, S')) ∨ ∃ v, md' = .pan v ∧ r = .panic v ∧ S' = S1) := by
  unfold endV at h
  split at h
  · rename_i hb
    refine ⟨hb, ?_⟩
    split at h
    · rename_i S1 h1; exact ⟨_, S1, h1, .inl ⟨rfl, h⟩⟩
    · rename_i v S1 h1
      simp only [Option.some.injEq, Prod.mk.injEq] at h
      exact ⟨_, S1, h1, .inr ⟨v, rfl, h.1.symm, h.2.symm⟩⟩
    · cases h
  · cases h

theorem endV_ext {call : CallF} (hc : CallOk P call) {lf : Nat} {fn : Func} {md : Md} {t : Fr} {S S' : VS} {r : CRes} (h : endV P call lf fn md t S = some (r, S')) : Ext S S' := by
  obtain ⟨_, md', S1, h1, h2⟩ := endV_some h
  rcases h2 with ⟨_, hl⟩ | ⟨v, _, _, rfl⟩
  · exact (runD_ext hc h1).trans (leave_ext hl)
  · exact runD_ext hc h1

theorem endV_ok (hP : plainNames P = true) (hmix : P.follows .mixedOrders = true) {call : CallF} (hc : CallOk P call) {lf : Nat} {fn : Func} {md : Md} {t : Fr} {S S' : VS} {r : CRes} (h : endV P call lf fn md t S = some (r, S'))
    {ρ : Ren} {m : Nat → Option VObj} {w : World} {a : Act} {u : FrameMode} (ht : FR ρ t a) (hmd : MdR ρ md u) (hw : WR P B w₀ ρ m w) (hm : Agree S S' m)
    {R : Ending → World → Prop} (hR : ∀ (ρ' : Ren) (e : Ending) (w' : World), ρ.le ρ' → CR ρ' r e → WR P B w₀ ρ' (post m S') w' → R e w') : Leaves P fn a.tmps R a.defers u w := by
  obtain ⟨hb, md', S1, h1, h2⟩ := endV_some h
  have hds := ht.defers
  rw [hb] at hds
  rcases h2 with ⟨rfl, hl⟩ | ⟨v, rfl, rfl, rfl⟩
  · have e2 := leave_ext hl
    obtain ⟨vs, l, hres, rfl, rfl⟩ := leave_some hl
    refine runD_ok hP hmix hc h1 hds hmd hw (hm.first e2) fun ρ' u' w' hle hmd' hwr => ?_
    cases hmd'
    have hag := hm.next (runD_ext hc h1)
    have hres' : (resV P t fn.results.toList).run (post m S1) = some (vs, l) := Rd.run_congr hres fun y hy => hag y (.inl (List.mem_append.2 (.inl hy)))
    obtain ⟨v', h3, h4⟩ := results_ok hwr (ht.mono hle) hres'
    exact ⟨v', h3, hR ρ' _ w' hle h4 hwr⟩
  · refine runD_ok hP hmix hc h1 hds hmd hw hm fun ρ' u' w' hle hmd' hwr => ?_
    obtain ⟨v', rfl, hv⟩ := hmd'
    exact hR ρ' _ w' hle ⟨v', rfl, hv⟩ hwr

theorem funV_call (hP : plainNames P = true) (hmix : P.follows .mixedOrders = true) {sp : CallF → CallF} (hsp : ∀ call, CallOk P call → CallOk P (sp call)) (lf : Nat) : ∀ (d : Nat), CallOk P (funV P sp lf d)
  | 0 => { ext := (by intro f args S r S' h; cases h), ok := (by intro f args S r S' h; cases h) }
  | d + 1 => by
    have hc := hsp _ (funV_call hP hmix hsp lf d)
    have body : ∀ {f : FuncId} {args : List Value} {S : VS} {r : CRes} {S' : VS}, funV P sp lf (d + 1) f args S = some (r, S') →
        ∃ fn c t0 x t S1 md, P.funcs[f]? = some fn ∧ fn.body = some c ∧ Fr.of args fn.ntmps = some t0 ∧ codeV P (sp (funV P sp lf d)) lf true c t0 S = some (x, t, S1) ∧
          (((x = .normal ∨ x = .ret) ∧ md = .ret) ∨ ∃ v, x = .panic v ∧ md = .pan v) ∧ endV P (sp (funV P sp lf d)) lf fn md t S1 = some (r, S') := by
      intro f args S r S' h
      unfold funV at h
      split at h
      · cases h
      · rename_i fn hfn
        split at h
        · cases h
        · rename_i c hb
          split at h
          · cases h
          · rename_i t0 ht0
            split at h
            · rename_i t S1 hcv; exact ⟨fn, c, t0, _, t, S1, _, hfn, hb, ht0, hcv, .inl ⟨.inl rfl, rfl⟩, h⟩
            · rename_i t S1 hcv; exact ⟨fn, c, t0, _, t, S1, _, hfn, hb, ht0, hcv, .inl ⟨.inr rfl, rfl⟩, h⟩
            · rename_i v t S1 hcv; exact ⟨fn, c, t0, _, t, S1, _, hfn, hb, ht0, hcv, .inr ⟨v, rfl, rfl⟩, h⟩
            · cases h
    refine ⟨fun h => ?_, fun h => ?_⟩
    · obtain ⟨fn, c, t0, x, t, S1, md, hfn, hb, ht0, hcv, hr, he⟩ := body h
      exact (codeV_ext hc lf hcv).trans (endV_ext hc he)
    · intro B w₀ ρ m w args' ha hw hm
      obtain ⟨fn, c, t0, x, t, S1, md, hfn, hb, ht0, hcv, hr, he⟩ := body h
      refine calls_of_wp_defers hfn hb ?_
      refine (wpIn_wide (n := 0)).1 ?_
      have e2 := endV_ext hc he
      have e1 := codeV_ext hc lf hcv
      refine codeV_ok hP hmix hc lf (r := none) (fun _ => rfl) c hcv (Fr.of_ok ha ht0) hw (hm.first e2) fun ρ' e a' w' hle hxr hfr hwr => ?_
      have fin : ∀ u, MdR ρ' md u → Leaves P fn a'.tmps (fun e w' => ∃ ρ', ρ.le ρ' ∧ CR ρ' _ e ∧ WR P B w₀ ρ' (post m _) w') a'.defers u w' := fun u hmd =>
        endV_ok hP hmix hc he hfr hmd hwr (hm.next e1) fun ρ2 e w2 h1 h2 h3 => ⟨ρ2, Ren.le_trans hle h1, h2, by rwa [post_post e2] at h3⟩
      rcases hr with ⟨hx, rfl⟩ | ⟨v, rfl, rfl⟩
      · rcases hx with rfl | rfl <;> cases hxr <;> exact fin _ rfl
      · cases hxr with
        | panic _ v' hv => exact fin _ ⟨v', rfl, hv⟩

theorem WR.start (w : World) : WR P (fun k => k < w.heap.size) w (fun _ => none) (fun _ => none) w :=
  { below := BelowK.refl _ _, size := fun _ h => h, live := (by intro x o r h; cases h), inj := (by intro x y ox oy rx ry h; cases h), fresh := fun _ _ => rfl, rows := (by intro x n s q h; cases h), nil := (by intro x el ro r h; cases h), named := (by intro x o h; cases h) }

/-- A call that the machine says comes to true answers true, whatever is drawn; what was there is as it was. -/
theorem calls_of_saysW (hP : plainNames P = true) (hmix : P.follows .mixedOrders = true) {sp : CallF → CallF} (hsp : ∀ call, CallOk P call → CallOk P (sp call)) {lf d : Nat} {f : FuncId} (h : saysW P sp lf d f = true) (w : World) :
    Calls P f #[] w fun e w' => e = .returned (.bool true) ∧ Below w.heap.size w w' := by
  unfold saysW at h
  split at h
  · rename_i S1 hf
    have hw : WR P (fun k => k < w.heap.size) w (fun _ => none) (fun _ => none) w := WR.start w
    have hm : Agree S0 S1 (fun _ => none) := fun x _ => by
      show none = gt Tr.nil x
      unfold gt
      split
      · rw [Tr.get_nil]
      · rfl
    refine ((funV_call hP hmix hsp lf d).ok hf (args' := #[]) (LR.nil _) hw hm).mono fun e w' he => ?_
    obtain ⟨ρ', _, h1, h2⟩ := he
    cases e with
    | returned v' =>
      have : v' = .bool true := VR.bool_inv h1
      exact ⟨by rw [this], h2.below.below⟩
    | panicked chain => cases h1
    | outgrown => cases h1
  · cases h
theorem calls_of_says (hP : plainNames P = true) (hmix : P.follows .mixedOrders = true) {lf d : Nat} {f : FuncId} (h : says P lf d f = true) (w : World) :
    Calls P f #[] w fun e w' => e = .returned (.bool true) ∧ Below w.heap.size w w' := calls_of_saysW hP hmix (sp := id) (fun _ h => h) h w

/-- A block that nothing names. -/
theorem WR.garbage {B : Nat → Prop} {w₀ : World} {ρ : Ren} {g : Nat → Option VObj} {w : World} (h : WR P B w₀ ρ g w) (o : Obj) : WR P B w₀ ρ g (w.alloc o) where
  below := h.below.alloc h.size o
  size := fun k hk => Nat.lt_of_lt_of_le (h.size k hk) (by simp)
  live := fun x ob r hx hr hl => by
    obtain ⟨o', h2, h3⟩ := h.live x ob r hx hr hl
    refine ⟨o', ?_, h3⟩
    have hlt : r.blk < w.heap.size := (Array.getElem?_eq_some_iff.1 h2).1
    rw [Below.heap_alloc _ _ _ hlt]
    exact h2
  inj := h.inj
  fresh := h.fresh
  rows := h.rows
  nil := h.nil
  named := h.named
end
#print axioms calls_of_says
end Go.Proofs.YtdbjloigfkckfaaGreatDoor.Vm
