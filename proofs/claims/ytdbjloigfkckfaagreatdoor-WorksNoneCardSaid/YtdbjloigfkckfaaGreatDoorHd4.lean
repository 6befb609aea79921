/- The small machine's logic, fourth text: functions, and what is said of them. -/
import Derived.Test.YtdbjloigfkckfaaGreatDoorHd3
namespace Go.Proofs.YtdbjloigfkckfaaGreatDoor.Vm
open Go.RowKit
set_option linter.unusedVariables false
set_option linter.unusedSimpArgs false

def numb : List Value → Nat → List (Nat × Value)
  | [], _ => []
  | v :: l, i => (i, v) :: numb l (i + 1)
theorem numb_mem : ∀ {l : List Value} {i : Nat} {p : Nat × Value}, p ∈ numb l i → ∃ j, p.1 = i + j ∧ l[j]? = some p.2
  | [], i, p, h => by cases h
  | v :: l, i, p, h => by
    rcases List.mem_cons.1 h with rfl | h
    · exact ⟨0, rfl, rfl⟩
    · obtain ⟨j, h1, h2⟩ := numb_mem h
      exact ⟨j + 1, by omega, by simpa using h2⟩

/-- What a function does: called so, in a memory of such blocks. -/
def FnT (P : Program) (f : FuncId) (args : List Value) (objs : List VObj) (Q : CRes → List VObj → Prop) : Prop :=
  ∀ (B : Nat → Prop) (w₀ : World) (ρ : Ren) (w : World) (args' : Array Value), Full ρ → (∀ x, x < objs.length → ∃ r, ρ x = some r) → LR ρ args args'.toList → WR P B w₀ ρ (memOf objs) w →
    Calls P f args' w fun e w' => ∃ r objs' ρ', Q r objs' ∧ CR ρ' r e ∧ Full ρ' ∧ WR P B w₀ ρ' (memOf objs') w' ∧ objs'.length ≤ 262144 ∧ ∀ x, x < objs.length → ρ' x = ρ x

theorem FnT.mono {P : Program} {f : FuncId} {args : List Value} {objs : List VObj} {Q Q' : CRes → List VObj → Prop} (h : FnT P f args objs Q) (hq : ∀ r o, Q r o → Q' r o) : FnT P f args objs Q' :=
  fun B w₀ ρ w args' h1 h2 h3 h4 => (h B w₀ ρ w args' h1 h2 h3 h4).mono fun e w' ⟨r, o, ρ', a, b⟩ => ⟨r, o, ρ', hq r o a, b⟩

/-- The end of a function. -/
def Fin (P : Program) (fn : Func) (Q : CRes → List VObj → Prop) : VEx → Desc → Prop
  | .normal, d => ∃ vs l, (∀ u, (resV P (frU fn.ntmps u d.sl) fn.results.toList).run (gt (vsOf d.objs).mem) = some (vs, l)) ∧ Q (.ret (resOf vs)) d.objs
  | .ret, d => ∃ vs l, (∀ u, (resV P (frU fn.ntmps u d.sl) fn.results.toList).run (gt (vsOf d.objs).mem) = some (vs, l)) ∧ Q (.ret (resOf vs)) d.objs
  | .panic v, d => Q (.panic v) d.objs
  | _, _ => False

theorem FnT.of_tri {P : Program} {f : FuncId} {fn : Func} {c : Code} (hf : P.funcs[f]? = some fn) (hb : fn.body = some c) {args : List Value} {objs : List VObj} {Q : CRes → List VObj → Prop}
    (hn : (Nat.ble args.length fn.ntmps && Nat.ble fn.ntmps 1024 && Nat.ble objs.length 262144) = true) (h : TriL P fn.ntmps objs.length (flat2 c) ⟨numb args 0, objs⟩ (Fin P fn Q)) : FnT P f args objs Q := by
  intro B w₀ ρ w args' hfull hnamed hargs hw
  simp only [Bool.and_eq_true] at hn
  obtain ⟨⟨hn1, hn2⟩, hn3⟩ := hn
  have hn1 := Nat.le_of_ble_eq_true hn1
  have hn2 := Nat.le_of_ble_eq_true hn2
  refine calls_of_wp hf hb ?_
  have hof : Fr.of args fn.ntmps = some ⟨Fr.sets args 0 .nil, fn.ntmps, [], []⟩ := by
    unfold Fr.of
    rw [Nat.ble_eq_true_of_le hn1, Nat.ble_eq_true_of_le hn2]
    rfl
  have hfr := Fr.of_ok hargs hof
  have hlen : args.length = args'.size := by have := hargs.len; simpa using this
  obtain ⟨u, hu⟩ : ∃ u : Nat → Value, FR ρ (frU fn.ntmps u (numb args 0)) { tmps := args' ++ Array.replicate (fn.ntmps - args'.size) undef, defers := [] } := by
    refine FR.make (by simp; omega) hn2 rfl (fun i => (hfr.at_ i).full hfull) fun p hp => ?_
    obtain ⟨j, h1, h2⟩ := numb_mem hp
    have hj : j < args.length := (List.getElem?_eq_some_iff.1 h2).1
    rw [Nat.zero_add] at h1
    refine ⟨by omega, ?_⟩
    obtain ⟨v', h3, h4⟩ := hargs.get h2
    rw [h1, Array.getD_eq_getD_getElem?, Array.getElem?_append_left (by omega)]
    have h5 : args'[j]? = some v' := by simpa using h3
    rw [h5]
    exact h4
  refine wp_of_flat (wpL_mono (h ⟨B, w₀, objs.length, ρ, fn.ntmps, hnamed⟩ rfl rfl _ w ⟨ρ, u, hfull, fun _ _ => rfl, hu, hw, Nat.le_of_ble_eq_true hn3⟩) fun e a' w' he => ?_)
  obtain ⟨x, d', h1, h2, ρ', u', hd⟩ := he
  have fin : (∃ vs l, (∀ u, (resV P (frU fn.ntmps u d'.sl) fn.results.toList).run (gt (vsOf d'.objs).mem) = some (vs, l)) ∧ Q (.ret (resOf vs)) d'.objs) → a'.defers = [] ∧ ∃ v, (results fn a'.tmps).run P w' = .ok v w' ∧
      ∃ r objs' ρ', Q r objs' ∧ CR ρ' r (.returned v) ∧ Full ρ' ∧ WR P B w₀ ρ' (memOf objs') w' ∧ objs'.length ≤ 262144 ∧ ∀ x, x < objs.length → ρ' x = ρ x := by
    rintro ⟨vs, l, h3, h4⟩
    have h5 : (resV P (frU fn.ntmps u' d'.sl) fn.results.toList).run (memOf d'.objs) = some (vs, l) := Rd.run_congr (h3 u') fun y hy => by
      obtain ⟨o, ho⟩ := Rd.read_mem (h3 u') y hy
      rw [memOf_small (small_of_gt ho), gt_vsOf hd.few]
    obtain ⟨v', h6, h7⟩ := results_ok hd.mem hd.fr h5
    exact ⟨hd.fr.none_left rfl, v', h6, .ret (resOf vs), d'.objs, ρ', h4, h7, hd.full, hd.mem, hd.few, hd.kept⟩
  cases h2 with
  | normal => exact fin h1
  | ret => exact fin h1
  | exit id => exact h1.elim
  | panic v v' hv => exact ⟨hd.fr.none_left rfl, .panic v, d'.objs, ρ', h1, ⟨v', rfl, hv.mono (fun x r h => by cases h)⟩, hd.full, hd.mem, hd.few, hd.kept⟩

/- What is said of functions. -/
inductive QT (α : Type) where
  | done (a : α)
  | fail
  | ask (d : Bool) (k : Bool → QT α)
def QT.run {α : Type} : QT α → Option α
  | .done a => some a
  | .fail => none
  | .ask d k => (k d).run
def QT.dt {α : Type} : QT α → DT α
  | .done a => .done a
  | .fail => .fail
  | .ask d k => .ask d fun b => (k b).dt
def QT.bind {α β : Type} : QT α → (α → QT β) → QT β
  | .done a, f => f a
  | .fail, _ => .fail
  | .ask d k, f => .ask d fun b => (k b).bind f
def QT.must {α : Type} (d : Bool) (k : QT α) : QT α := .ask d fun b => match b with
  | true => k
  | false => .fail
theorem QT.dt_has {α : Type} {q : QT α} {a : α} (h : q.dt.Has a) : q.run = some a := by
  induction q with
  | done b => have := DT.has_done h; subst this; rfl
  | fail => cases h
  | ask d k ih => exact ih d (DT.has_ask h)
theorem QT.run_bind {α β : Type} {q : QT α} {f : α → QT β} {b : β} (h : (q.bind f).run = some b) : ∃ a, q.run = some a ∧ (f a).run = some b := by
  induction q with
  | done a => exact ⟨a, rfl, h⟩
  | fail => cases h
  | ask d k ih => exact ih d h
theorem QT.run_must {α : Type} {d : Bool} {k : QT α} {a : α} (h : (QT.must d k).run = some a) : d = true ∧ k.run = some a := by
  cases d with
  | true => exact ⟨rfl, h⟩
  | false => cases h

structure Sum where
  names : List Value → (Nat → Option VObj) → Option (List Nat)
  spec : List Value → List VObj → QT (CRes × List VObj)

def FnOk (P : Program) (f : FuncId) (s : Sum) : Prop :=
  ∀ (args : List Value) (objs : List VObj) (r : CRes) (objs' : List VObj), (s.spec args objs).run = some (r, objs') → FnT P f args objs fun r' o' => r' = r ∧ o' = objs'

section
variable (P : Program)
def scalT (t : TypeId) : Bool := match P.underlying t with
  | some .bool | some (.int _) | some .string | some (.float _) => true
  | _ => false

/-- Blocks by new names. -/
def rnO (τ : Nat → Option Nat) : VObj → QT VObj
  | .cells c el ro => match scalT P el with
    | true => .must (c.all isScal) (.done (.cells c el ro))
    | false => match rnL (rnV τ 6) c with
      | some c' => .done (.cells c' el ro)
      | none => .fail
  | .map es clock => match rnEs τ es with
    | some es' => .done (.map es' clock)
    | none => .fail
  | .siter s p => .done (.siter s p)
  | .rows n s r => .done (.rows n s r)
  | .dead => .fail
def rnOs (τ : Nat → Option Nat) : List VObj → QT (List VObj)
  | [] => .done []
  | o :: l => (rnO P τ o).bind fun o' => (rnOs τ l).bind fun r => .done (o' :: r)

def getAll (g : Nat → Option VObj) : List Nat → Option (List VObj)
  | [] => some []
  | x :: l => match g x, getAll g l with
    | some o, some r => some (o :: r)
    | _, _ => none

/-- Back into the caller's memory: old blocks that may be written are laid anew, new ones get the next names. -/
def backOs (τ : Nat → Option Nat) : List VObj → List VObj → QT (List VObj)
  | ob :: obs, o :: l => match ob.ro with
    | true => (backOs τ obs l).bind fun r => .done (ob :: r)
    | false => (rnO P τ o).bind fun o' => match o'.ro with
      | true => .fail
      | false => (backOs τ obs l).bind fun r => .done (o' :: r)
  | [], l => (rnOs P τ l).bind fun r => match r.all (fun o => !o.ro) with
    | true => .done r
    | false => .fail
  | _ :: _, [] => .fail

def layOld : List Nat → List VObj → List VObj → Tr VObj × List Nat → Option (Tr VObj × List Nat × List VObj)
  | x :: σ, ob :: obs, o :: l, (t, wr) => match ob.ro with
    | true => layOld σ obs l (t, wr)
    | false => layOld σ obs l (t.set 18 x o, x :: wr)
  | [], [], l, (t, wr) => some (t, wr, l)
  | _, _, _, _ => none

def seqN : Nat → Nat → List Nat
  | _, 0 => []
  | k, n + 1 => k :: seqN (k + 1) n

def backR (τ : Nat → Option Nat) : CRes → Option CRes
  | .ret v => match rnV τ 6 v with
    | some u => some (.ret u)
    | none => none
  | .panic v => match fl v with
    | true => some (.panic v)
    | false => none

def applyS (s : Sum) (args : List Value) (S : VS) : QT (CRes × VS) := match s.names args (gt S.mem) with
  | none => .fail
  | some σ => match getAll (gt S.mem) σ, rnL (rnV (idxN σ) 6) args, nodupB σ && Nat.ble σ.length 262144 with
    | some obs, some args1, true => (rnOs P (idxN σ) obs).bind fun objs1 => (s.spec args1 objs1).bind fun p =>
      (backOs P (fun i => (σ ++ seqN S.next (p.2.length - σ.length))[i]?) obs p.2).bind fun objs2 =>
        match backR (fun i => (σ ++ seqN S.next (p.2.length - σ.length))[i]?) p.1, layOld σ obs objs2 (S.mem, S.wr) with
        | some r, some (t, wr, news) => match layN news ⟨t, S.next, σ ++ S.rd, wr⟩ with
          | some S1 => .done (r, S1)
          | none => .fail
        | _, _ => .fail
    | _, _, _ => .fail
end

section
variable {P : Program}
theorem rnO_ok {τ : Nat → Option Nat} {o o' : VObj} (h : (rnO P τ o).run = some o') : ON τ o o' ∧ o'.ro = o.ro ∧ o ≠ .dead ∧ o' ≠ .dead := by
  unfold rnO at h
  split at h
  · split at h
    · obtain ⟨h1, h⟩ := QT.run_must h
      cases h
      exact ⟨.plain _ _ _ h1, rfl, (by intro e; cases e), (by intro e; cases e)⟩
    · split at h
      · rename_i hc
        cases h
        exact ⟨.cells _ _ _ _ hc, rfl, (by intro e; cases e), (by intro e; cases e)⟩
      · cases h
  · split at h
    · rename_i hes
      cases h
      exact ⟨.map _ _ _ hes, rfl, (by intro e; cases e), (by intro e; cases e)⟩
    · cases h
  · cases h; exact ⟨.siter _ _, rfl, (by intro e; cases e), (by intro e; cases e)⟩
  · cases h; exact ⟨.rows _ _ _, rfl, (by intro e; cases e), (by intro e; cases e)⟩
  · cases h

theorem rnOs_ok {τ : Nat → Option Nat} : ∀ {l l' : List VObj}, (rnOs P τ l).run = some l' → All2 (fun o o' => ON τ o o' ∧ o'.ro = o.ro ∧ o ≠ .dead ∧ o' ≠ .dead) l l'
  | [], l', h => by cases h; exact .nil
  | o :: l, l', h => by
    unfold rnOs at h
    obtain ⟨o', h1, h⟩ := QT.run_bind h
    obtain ⟨r, h2, h⟩ := QT.run_bind h
    cases h
    exact .cons (rnO_ok h1) (rnOs_ok h2)

/-- What stands in the caller's names behind a call: the old ones that may be written, then the new ones. -/
theorem backOs_ok {τ : Nat → Option Nat} : ∀ {obs l l' : List VObj}, (backOs P τ obs l).run = some l' → l'.length = l.length ∧ obs.length ≤ l.length ∧
    ∀ (i : Nat) (o o' : VObj), l[i]? = some o → l'[i]? = some o' → (∀ ob : VObj, obs[i]? = some ob → ob.ro = false) → ON τ o o' ∧ o'.ro = false ∧ o' ≠ .dead
  | [], l, l', h => by
    unfold backOs at h
    obtain ⟨r, h1, h⟩ := QT.run_bind h
    split at h
    · rename_i hall
      cases h
      have h2 := rnOs_ok h1
      refine ⟨h2.len.symm, by simp, fun i o o' ho ho' _ => ?_⟩
      obtain ⟨o2, h3, h4, h5, h6, h7⟩ := h2.get ho'
      rw [ho] at h3
      cases h3
      have := List.all_eq_true.1 hall o' (List.mem_of_getElem? ho')
      exact ⟨h4, by simpa using this, h7⟩
    · cases h
  | ob :: obs, [], l', h => by cases h
  | ob :: obs, o :: l, l', h => by
    unfold backOs at h
    split at h
    · rename_i hro
      obtain ⟨r, h1, h⟩ := QT.run_bind h
      cases h
      obtain ⟨h2, h3, h4⟩ := backOs_ok h1
      refine ⟨by simp [h2], by simpa using h3, fun i a a' ha ha' hob => ?_⟩
      cases i with
      | zero => have := hob ob rfl; rw [hro] at this; cases this
      | succ i => exact h4 i a a' (by simpa using ha) (by simpa using ha') fun q hq => hob q (by simpa using hq)
    · obtain ⟨o', h0, h⟩ := QT.run_bind h
      split at h
      · cases h
      · rename_i hro'
        obtain ⟨r, h1, h⟩ := QT.run_bind h
        cases h
        obtain ⟨h2, h3, h4⟩ := backOs_ok h1
        refine ⟨by simp [h2], by simpa using h3, fun i a a' ha ha' hob => ?_⟩
        cases i with
        | zero =>
          simp only [List.getElem?_cons_zero, Option.some.injEq] at ha ha'
          subst ha ha'
          exact ⟨(rnO_ok h0).1, hro', (rnO_ok h0).2.2.2⟩
        | succ i => exact h4 i a a' (by simpa using ha) (by simpa using ha') fun q hq => hob q (by simpa using hq)

theorem getAll_ok {g : Nat → Option VObj} : ∀ {σ : List Nat} {obs : List VObj}, getAll g σ = some obs → σ.length = obs.length ∧ ∀ (i x : Nat), σ[i]? = some x → ∃ o, obs[i]? = some o ∧ g x = some o
  | [], obs, h => by cases h; exact ⟨rfl, fun i x h => by simp at h⟩
  | y :: σ, obs, h => by
    unfold getAll at h
    split at h
    · rename_i o r h1 h2
      cases h
      obtain ⟨h3, h4⟩ := getAll_ok h2
      refine ⟨by simp [h3], fun i x hx => ?_⟩
      cases i with
      | zero => simp only [List.getElem?_cons_zero, Option.some.injEq] at hx; subst hx; exact ⟨o, rfl, h1⟩
      | succ i => simpa using h4 i x (by simpa using hx)
    · cases h

def updO (m : Nat → Option VObj) : List Nat → List VObj → List VObj → Nat → Option VObj
  | x :: σ, ob :: obs, o :: l => updO (bif ob.ro then m else upd m x o) σ obs l
  | _, _, _ => m
theorem updO_other {x : Nat} : ∀ {σ : List Nat} {obs l : List VObj} {m : Nat → Option VObj}, (∀ (i : Nat) (ob : VObj), σ[i]? = some x → obs[i]? = some ob → ob.ro = true) → updO m σ obs l x = m x
  | [], obs, l, m, h => by cases obs <;> rfl
  | y :: σ, [], l, m, h => rfl
  | y :: σ, ob :: obs, [], m, h => rfl
  | y :: σ, ob :: obs, o :: l, m, h => by
    show updO (bif ob.ro then m else upd m y o) σ obs l x = m x
    have h' : ∀ (i : Nat) (ob' : VObj), σ[i]? = some x → obs[i]? = some ob' → ob'.ro = true := fun i ob' h1 h2 => h (i + 1) ob' (by simpa using h1) (by simpa using h2)
    rw [updO_other h']
    cases hro : ob.ro with
    | true => rfl
    | false =>
      show upd m y o x = m x
      rw [upd_other]
      rintro rfl
      have := h 0 ob rfl rfl
      rw [hro] at this
      cases this
theorem updO_same {x : Nat} : ∀ {σ : List Nat} {obs l : List VObj} {m : Nat → Option VObj} {i : Nat} {ob o : VObj}, nodupB σ = true → σ[i]? = some x → obs[i]? = some ob → l[i]? = some o → ob.ro = false → updO m σ obs l x = some o
  | [], obs, l, m, i, ob, o, hn, h1, h2, h3, h4 => by simp at h1
  | y :: σ, [], l, m, i, ob, o, hn, h1, h2, h3, h4 => by simp at h2
  | y :: σ, b :: obs, [], m, i, ob, o, hn, h1, h2, h3, h4 => by simp at h3
  | y :: σ, b :: obs, a :: l, m, i, ob, o, hn, h1, h2, h3, h4 => by
    have hn0 := hn
    simp only [nodupB, Bool.and_eq_true] at hn
    show updO (bif b.ro then m else upd m y a) σ obs l x = some o
    cases i with
    | zero =>
      simp only [List.getElem?_cons_zero, Option.some.injEq] at h1 h2 h3
      subst h1 h2 h3
      rw [h4]
      show updO (upd m y a) σ obs l y = some a
      rw [updO_other, upd_same]
      intro j ob' hj _
      have := nodupB_get hn0 (x := 0) (y := j + 1) (z := y) rfl (by simpa using hj)
      omega
    | succ i => exact updO_same hn.2 (by simpa using h1) (by simpa using h2) (by simpa using h3) h4

theorem layOld_ok : ∀ {σ : List Nat} {obs l : List VObj} {t t' : Tr VObj} {wr wr' : List Nat} {news : List VObj}, layOld σ obs l (t, wr) = some (t', wr', news) → (∀ x ∈ σ, small x = true) →
    gt t' = updO (gt t) σ obs l ∧ σ.length = obs.length ∧ (∃ olds, l = olds ++ news ∧ olds.length = σ.length) ∧ (∀ x, x ∈ wr → x ∈ wr') ∧
    (∀ x, x ∈ wr' → x ∈ wr ∨ x ∈ σ) ∧ ∀ (i x : Nat) (ob : VObj), σ[i]? = some x → obs[i]? = some ob → ob.ro = false → x ∈ wr'
  | [], [], l, t, t', wr, wr', news, h, hs => by
    simp only [layOld, Option.some.injEq, Prod.mk.injEq] at h
    obtain ⟨rfl, rfl, rfl⟩ := h
    exact ⟨rfl, rfl, ⟨[], rfl, rfl⟩, fun _ h => h, fun _ h => .inl h, fun i x ob h => by simp at h⟩
  | x :: σ, ob :: obs, o :: l, t, t', wr, wr', news, h, hs => by
    unfold layOld at h
    split at h
    · rename_i hro
      obtain ⟨h1, h2, ⟨olds, h3, h4⟩, h5, h6, h7⟩ := layOld_ok h fun y hy => hs y (List.mem_cons_of_mem _ hy)
      refine ⟨?_, by simp [h2], ⟨o :: olds, by simp [h3], by simp [h4]⟩, h5, fun y hy => (h6 y hy).imp id (List.mem_cons_of_mem _), fun i y ob' a b c => ?_⟩
      · rw [h1]; show _ = updO (bif ob.ro then gt t else upd (gt t) x o) σ obs l; rw [hro]; rfl
      · cases i with
        | zero => simp only [List.getElem?_cons_zero, Option.some.injEq] at b; subst b; rw [hro] at c; cases c
        | succ i => exact h7 i y ob' (by simpa using a) (by simpa using b) c
    · rename_i hro
      obtain ⟨h1, h2, ⟨olds, h3, h4⟩, h5, h6, h7⟩ := layOld_ok h fun y hy => hs y (List.mem_cons_of_mem _ hy)
      refine ⟨?_, by simp [h2], ⟨o :: olds, by simp [h3], by simp [h4]⟩, fun y hy => h5 y (List.mem_cons_of_mem _ hy), fun y hy => ?_, fun i y ob' a b c => ?_⟩
      · rw [h1, gt_set (hs x List.mem_cons_self)]
        show _ = updO (bif ob.ro then gt t else upd (gt t) x o) σ obs l
        rw [hro]
        rfl
      · rcases h6 y hy with hy | hy
        · rcases List.mem_cons.1 hy with rfl | hy
          · exact .inr List.mem_cons_self
          · exact .inl hy
        · exact .inr (List.mem_cons_of_mem _ hy)
      · cases i with
        | zero => simp only [List.getElem?_cons_zero, Option.some.injEq] at a; subst a; exact h5 _ List.mem_cons_self
        | succ i => exact h7 i y ob' (by simpa using a) (by simpa using b) c
  | [], _ :: _, l, t, t', wr, wr', news, h, hs => by cases h
  | _ :: _, [], l, t, t', wr, wr', news, h, hs => by cases h
  | _ :: _, _ :: _, [], t, t', wr, wr', news, h, hs => by cases h

theorem seqN_get : ∀ {n k i : Nat}, (seqN k n)[i]? = if i < n then some (k + i) else none
  | 0, k, i => by simp [seqN]
  | n + 1, k, i => by
    cases i with
    | zero => simp [seqN]
    | succ i =>
      simp only [seqN, List.getElem?_cons_succ]
      rw [seqN_get]
      by_cases h : i < n
      · rw [if_pos h, if_pos (by omega)]; congr 1; omega
      · rw [if_neg h, if_neg (by omega)]

theorem SR.mono {w₀ w : World} {B B' : Nat → Prop} (hB : ∀ b, B b → B' b ∧ w.heap[b]? = w₀.heap[b]?) {s : SV} {v : Value} (h : SR P w₀ B s v) : SR P w B' s v := by
  induction h with
  | val v h => exact .val v h
  | nil el a => exact .nil el a
  | cells n c el b off cap c' el' fr h1 h2 h3 h4 h5 h6 => exact .cells n c el b off cap c' el' fr (hB b h1).1 ((hB b h1).2.trans h2) h3 h4 h5 h6
  | rnil size row a => exact .rnil size row a
  | rows n size row b off cap c' el' fr h1 h2 h3 h4 h5 h6 u h7 h8 ih => exact .rows n size row b off cap c' el' fr (hB b h1).1 ((hB b h1).2.trans h2) h3 h4 h5 h6 u h7 ih
theorem RowsAt.mono {w₀ w : World} {B B' : Nat → Prop} (hB : ∀ b, B b → B' b ∧ w.heap[b]? = w₀.heap[b]?) {r : Where} {n size : Nat} {row : Nat → List SV} (h : RowsAt P w₀ B r n size row) : RowsAt P w B' r n size row := by
  obtain ⟨c', el', fr, h1, h2, h3, h4⟩ := h.at_
  exact ⟨(hB _ h.blk).1, h.sz, c', el', fr, (hB _ h.blk).2.trans h1, h2, h3, fun i hi => ⟨(h4 i hi).1, fun k sv hk => let ⟨v', a, b⟩ := (h4 i hi).2 k sv hk; ⟨v', a, b.mono hB⟩⟩⟩
end
end Go.Proofs.YtdbjloigfkckfaaGreatDoor.Vm
