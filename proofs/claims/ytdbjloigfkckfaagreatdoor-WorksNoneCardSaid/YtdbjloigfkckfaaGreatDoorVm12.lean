/- The small machine, its twelfth text: frames, footprints, single steps. -/
import Derived.Test.YtdbjloigfkckfaaGreatDoorVm11
import Derived.LoopNIn
import Derived.OrdersIn
namespace Go.Proofs.YtdbjloigfkckfaaGreatDoor.Vm
open Go.RowKit
set_option linter.unusedVariables false
set_option linter.unusedSimpArgs false

/-- Any round, or none. -/
abbrev FF (r : Option Nat) : Fence := { Fence.wide with round := r }

/-- Deferred calls, those of earlier ones beneath. -/
inductive DsR (ρ : Ren) (base : List Deferred) : List (FuncId × List Value) → List Deferred → Prop where
  | nil : DsR ρ base [] base
  | cons {k : FuncId} {vs : List Value} {cap args : Array Value} {ds : List (FuncId × List Value)} {l : List Deferred} (h : LR ρ vs (args ++ cap).toList) (t : DsR ρ base ds l) :
      DsR ρ base ((k, vs) :: ds) ({ target := .fn (.func k) cap, args := args } :: l)
theorem DsR.mono {ρ ρ' : Ren} (hl : ρ.le ρ') {base : List Deferred} {ds : List (FuncId × List Value)} {l : List Deferred} (h : DsR ρ base ds l) : DsR ρ' base ds l := by
  induction h with
  | nil => exact .nil
  | cons h t ih => exact .cons (h.mono hl) ih

structure FR (ρ : Ren) (t : Fr) (a : Act) : Prop where
  size : a.tmps.size = t.n
  small : t.n ≤ 1024
  at_ : ∀ i, VR ρ (t.at i) (a.tmps.getD i undef)
  defers : DsR ρ t.base t.ds a.defers

theorem FR.mono {ρ ρ' : Ren} (hl : ρ.le ρ') {t : Fr} {a : Act} (h : FR ρ t a) : FR ρ' t a := ⟨h.size, h.small, fun i => (h.at_ i).mono hl, h.defers.mono hl⟩
theorem FR.none_left {ρ : Ren} {t : Fr} {a : Act} (h : FR ρ t a) (h1 : t.ds = []) : a.defers = t.base := by
  have key : ∀ {ds : List (FuncId × List Value)} {l : List Deferred}, DsR ρ t.base ds l → ds = [] → l = t.base := by
    intro ds l hd e
    cases hd with
    | nil => rfl
    | cons => cases e
  exact key h.defers h1

theorem FR.eval {ρ : Ren} {t : Fr} {a : Act} (h : FR ρ t a) {x : Operand} (hx : okOperand x = true) : VR ρ (evalL t x) (a.eval x) := by
  cases x with
  | tmp i => exact h.at_ i
  | const v => exact fl_refl hx
  | global g => cases hx
  | func f => exact .func _ _ _ _ _ rfl rfl (fun i v v' h => by simp at h) rfl (fun i v v' h => by simp at h)

theorem blt_iff {a b : Nat} : Nat.blt a b = true ↔ a < b := by
  unfold Nat.blt
  rw [Nat.ble_eq]
  omega

theorem FR.put {ρ : Ren} {t t1 : Fr} {a : Act} (h : FR ρ t a) {d : Option Tmp} {v v' : Value} (hv : VR ρ v v') (hp : Vm.put t d v = some t1) : FR ρ t1 (a.put d v') := by
  unfold Vm.put at hp
  unfold Act.put
  cases d with
  | none => cases hp; exact h
  | some d =>
    simp only [Fr.set_eq] at hp
    split at hp
    · rename_i hlt
      have hlt := blt_iff.1 hlt
      cases hp
      refine ⟨by simpa using h.size, h.small, fun j => ?_, h.defers⟩
      have hj := h.at_ j
      unfold Fr.at at hj ⊢
      dsimp only at hj ⊢
      by_cases hjn : j < t.n
      · rw [blt_iff.2 hjn] at hj ⊢
        dsimp only at hj ⊢
        have h10 : (2 : Nat) ^ 10 = 1024 := rfl
        rw [Tr.get_set 10 _ _ _ _ (by have := h.small; omega) (by have := h.small; omega)]
        by_cases hjd : j = d
        · subst hjd
          rw [if_pos rfl]
          have hjs : j < a.tmps.size := by rw [h.size]; exact hjn
          simp only [Array.getD_eq_getD_getElem?, Array.getElem?_setIfInBounds_self, hjs, if_true, Option.getD_some]
          exact hv
        · rw [if_neg hjd]
          rw [Array.getD_eq_getD_getElem?, Array.getElem?_setIfInBounds_ne (Ne.symm hjd), ← Array.getD_eq_getD_getElem?]
          exact hj
      · have hb : Nat.blt j t.n = false := by cases hb : Nat.blt j t.n with
          | false => rfl
          | true => exact absurd (blt_iff.1 hb) hjn
        rw [hb]
        dsimp only
        have hjs : ¬ j < a.tmps.size := by rw [h.size]; exact hjn
        rw [Array.getD_eq_getD_getElem?, Array.getElem?_eq_none (by simp; omega)]
        exact VR.undef ρ
    · cases hp

theorem yielded_eq {ρ : Ren} {t : Fr} {a : Act} (h : FR ρ t a) (ops : Array Oper) : yieldedL ops.toList t = yielded ops a.tmps := by
  funext j
  unfold yieldedL yielded
  rw [Array.getElem?_toList]
  cases hd : (ops[j]?).bind (·.dst) with
  | none => rfl
  | some d =>
    dsimp only [Option.bind_some]
    have hv := h.at_ d
    rw [Array.getD_eq_getD_getElem?] at hv
    cases hc : a.tmps[d]? with
    | none =>
      rw [hc] at hv
      have hu : ∀ b, t.at d ≠ .bool b := by
        intro b e
        rw [e] at hv
        have := hv.bool_inv
        cases this
      split
      · rename_i b e; exact absurd e (hu b)
      · rfl
    | some u =>
      rw [hc] at hv
      simp only [Option.getD_some] at hv
      split
      · rename_i b e
        rw [e] at hv
        rw [hv.bool_inv]
      · rename_i hne
        split
        · rename_i b e
          simp only [Option.some.injEq] at e
          subst e
          generalize hx : t.at d = x at hv hne
          cases hv
          exact absurd rfl (hne b)
        · rfl

/- Footprints. -/
structure Ext (S S' : VS) : Prop where
  rd : ∀ x, x ∈ S.rd → x ∈ S'.rd
  wr : ∀ x, x ∈ S.wr → x ∈ S'.wr
  frame : ∀ x, x ∉ S'.wr → gt S'.mem x = gt S.mem x
  sm : (∀ x, (x ∈ S.rd ∨ x ∈ S.wr) → small x = true) → ∀ x, (x ∈ S'.rd ∨ x ∈ S'.wr) → small x = true

theorem Ext.refl (S : VS) : Ext S S := ⟨fun _ h => h, fun _ h => h, fun _ _ => rfl, fun h => h⟩
theorem Ext.trans {a b c : VS} (h : Ext a b) (k : Ext b c) : Ext a c :=
  ⟨fun x hx => k.rd x (h.rd x hx), fun x hx => k.wr x (h.wr x hx), fun x hx => (k.frame x hx).trans (h.frame x fun hh => hx (k.wr x hh)), fun hs => k.sm (h.sm hs)⟩

def Agree (S S' : VS) (m : Nat → Option VObj) : Prop := ∀ x, (x ∈ S'.rd ∨ x ∈ S'.wr) → m x = gt S.mem x
def post (m : Nat → Option VObj) (S' : VS) : Nat → Option VObj := fun x => if x ∈ S'.wr then gt S'.mem x else m x

theorem Agree.first {S S1 S2 : VS} {m : Nat → Option VObj} (h : Agree S S2 m) (e : Ext S1 S2) : Agree S S1 m :=
  fun x hx => h x (hx.imp (e.rd x) (e.wr x))
theorem Agree.next {S S1 S2 : VS} {m : Nat → Option VObj} (h : Agree S S2 m) (e1 : Ext S S1) : Agree S1 S2 (post m S1) := by
  intro x hx
  unfold post
  by_cases hw : x ∈ S1.wr
  · rw [if_pos hw]
  · rw [if_neg hw, h x hx, e1.frame x hw]
theorem post_post {m : Nat → Option VObj} {S1 S2 : VS} (e : Ext S1 S2) : post (post m S1) S2 = post m S2 := by
  funext x
  unfold post
  by_cases h2 : x ∈ S2.wr
  · rw [if_pos h2, if_pos h2]
  · rw [if_neg h2, if_neg h2, if_neg fun h => h2 (e.wr x h)]
theorem post_self {m : Nat → Option VObj} {S : VS} (h : Agree S S m) : post m S = m := by
  funext x
  unfold post
  by_cases hw : x ∈ S.wr
  · rw [if_pos hw, h x (.inr hw)]
  · rw [if_neg hw]

abbrev updF (g : Nat → Option VObj) (ws : List (Nat × VObj)) : Nat → Option VObj := ws.foldl (fun g (p : Nat × VObj) => upd g p.1 p.2) g
abbrev layF (S : VS) (ws : List (Nat × VObj)) : VS := ws.foldl (fun (S : VS) (p : Nat × VObj) => { S with mem := S.mem.set 18 p.1 p.2, wr := p.1 :: S.wr }) S

theorem updF_other : ∀ {ws : List (Nat × VObj)} {g : Nat → Option VObj} {x : Nat}, (∀ p ∈ ws, p.1 ≠ x) → updF g ws x = g x
  | [], g, x, _ => rfl
  | p :: ws, g, x, h => by
    show updF (upd g p.1 p.2) ws x = g x
    rw [updF_other fun q hq => h q (by simp [hq]), upd_other _ (Ne.symm (h p (by simp)))]

theorem updF_same : ∀ {ws : List (Nat × VObj)} {g g' : Nat → Option VObj} {x : Nat}, (∃ p ∈ ws, p.1 = x) → updF g ws x = updF g' ws x
  | [], g, g', x, h => by obtain ⟨p, hp, _⟩ := h; cases hp
  | p :: ws, g, g', x, h => by
    show updF (upd g p.1 p.2) ws x = updF (upd g' p.1 p.2) ws x
    by_cases hr : ∃ q ∈ ws, q.1 = x
    · exact updF_same hr
    · have hn : ∀ q ∈ ws, q.1 ≠ x := fun q hq e => hr ⟨q, hq, e⟩
      rw [updF_other hn, updF_other hn]
      obtain ⟨q, hq, e⟩ := h
      rcases List.mem_cons.1 hq with rfl | hq
      · subst e; rw [upd_same, upd_same]
      · exact absurd e (hn q hq)

theorem layF_spec : ∀ {ws : List (Nat × VObj)} {S : VS}, (∀ p ∈ ws, small p.1 = true) →
    gt (layF S ws).mem = updF (gt S.mem) ws ∧ (layF S ws).rd = S.rd ∧ (layF S ws).next = S.next ∧ ∀ x, x ∈ (layF S ws).wr ↔ (∃ p ∈ ws, p.1 = x) ∨ x ∈ S.wr
  | [], S, _ => ⟨rfl, rfl, rfl, fun x => by simp⟩
  | p :: ws, S, h => by
    obtain ⟨h1, h2, h3, h4⟩ := layF_spec (ws := ws) (S := { S with mem := S.mem.set 18 p.1 p.2, wr := p.1 :: S.wr }) fun q hq => h q (by simp [hq])
    refine ⟨?_, h2, h3, fun x => ?_⟩
    · show gt (layF _ ws).mem = updF (upd (gt S.mem) p.1 p.2) ws
      rw [h1, ← gt_set (h p (by simp))]
    · show x ∈ (layF _ ws).wr ↔ _
      rw [h4 x]
      simp only [List.mem_cons]
      constructor
      · rintro (⟨q, hq, e⟩ | rfl | hx)
        · exact .inl ⟨q, .inr hq, e⟩
        · exact .inl ⟨p, .inl rfl, rfl⟩
        · exact .inr hx
      · rintro (⟨q, rfl | hq, e⟩ | hx)
        · exact .inr (.inl e.symm)
        · exact .inl ⟨q, hq, e⟩
        · exact .inr (.inr hx)

theorem commit_spec {S S1 : VS} {l : List Nat} {out : OOut} {r : ORes} (hl : ∀ x ∈ l, ∃ o, gt S.mem x = some o) (h : commit S l out = some (r, S1)) :
    Ext S S1 ∧ r = out.r ∧ (out.nw ≠ none → gt S.mem S.next = none ∧ S.next ∈ S1.wr) ∧ (∀ x ∈ l, x ∈ S1.rd) ∧ ∀ m, Agree S S1 m → post m S1 = applyO m S.next out := by
  unfold commit at h
  dsimp only at h
  split at h
  · cases h
  · rename_i hall
    have hsm : ∀ p ∈ out.ws, small p.1 = true := by
      intro p hp
      have := List.all_eq_true.1 hall p hp
      obtain ⟨o, ho⟩ := hl p.1 (by simpa using this)
      exact small_of_gt ho
    obtain ⟨h1, h2, h3, h4⟩ := layF_spec (ws := out.ws) (S := { S with rd := l ++ S.rd }) hsm
    split at h
    · rename_i hnw
      simp only [Option.some.injEq, Prod.mk.injEq] at h
      obtain ⟨rfl, rfl⟩ := h
      refine ⟨⟨fun x hx => ?_, fun x hx => ?_, fun x hx => ?_, fun hS x hx => ?_⟩, rfl, fun hne => absurd hnw hne, fun x hx => ?_, fun m hm => ?_⟩
      · show x ∈ (layF _ out.ws).rd; rw [h2]; simp [hx]
      · exact (h4 x).2 (.inr hx)
      · show gt (layF _ out.ws).mem x = _
        rw [h1, updF_other fun p hp e => hx ((h4 x).2 (.inl ⟨p, hp, e⟩))]
      · rcases hx with hx | hx
        · have hx : x ∈ (layF { S with rd := l ++ S.rd } out.ws).rd := hx
          rw [h2] at hx
          rcases List.mem_append.1 hx with hx | hx
          · obtain ⟨o, ho⟩ := hl x hx; exact small_of_gt ho
          · exact hS x (.inl hx)
        · rcases (h4 x).1 hx with ⟨p, hp, rfl⟩ | hx
          · exact hsm p hp
          · exact hS x (.inr hx)
      · show x ∈ (layF _ out.ws).rd; rw [h2]; simp [hx]
      · funext x
        unfold post applyO
        rw [hnw]
        show (if x ∈ (layF _ out.ws).wr then gt (layF _ out.ws).mem x else m x) = updF m out.ws x
        by_cases hx : ∃ p ∈ out.ws, p.1 = x
        · rw [if_pos ((h4 x).2 (.inl hx)), h1]
          exact updF_same hx
        · have hn : ∀ p ∈ out.ws, p.1 ≠ x := fun p hp e => hx ⟨p, hp, e⟩
          rw [updF_other hn]
          by_cases hw : x ∈ (layF { S with rd := l ++ S.rd } out.ws).wr
          · rw [if_pos hw, h1, updF_other hn]
            exact (hm x (.inr hw)).symm
          · rw [if_neg hw]
    · rename_i o hnw
      split at h
      · rename_i hs hnone
        simp only [Option.some.injEq, Prod.mk.injEq] at h
        obtain ⟨rfl, rfl⟩ := h
        have hmem : gt ((layF { S with rd := l ++ S.rd } out.ws).mem.set 18 S.next o) = upd (updF (gt S.mem) out.ws) S.next o := by rw [gt_set hs, h1]
        refine ⟨⟨fun x hx => ?_, fun x hx => ?_, fun x hx => ?_, fun hS x hx => ?_⟩, rfl, fun _ => ⟨hnone, by simp⟩, fun x hx => ?_, fun m hm => ?_⟩
        · show x ∈ (layF _ out.ws).rd; rw [h2]; simp [hx]
        · show x ∈ S.next :: (layF _ out.ws).wr
          exact List.mem_cons_of_mem _ ((h4 x).2 (.inr hx))
        rotate_left
        · rcases hx with hx | hx
          · have hx : x ∈ (layF { S with rd := l ++ S.rd } out.ws).rd := hx
            rw [h2] at hx
            rcases List.mem_append.1 hx with hx | hx
            · obtain ⟨o, ho⟩ := hl x hx; exact small_of_gt ho
            · exact hS x (.inl hx)
          · have hx : x ∈ S.next :: (layF { S with rd := l ++ S.rd } out.ws).wr := hx
            rcases List.mem_cons.1 hx with rfl | hx
            · exact hs
            · rcases (h4 x).1 hx with ⟨p, hp, rfl⟩ | hx
              · exact hsm p hp
              · exact hS x (.inr hx)
        rotate_left
        rotate_left
        · have hx' : x ∉ S.next :: (layF { S with rd := l ++ S.rd } out.ws).wr := hx
          simp only [List.mem_cons, not_or] at hx'
          show gt ((layF { S with rd := l ++ S.rd } out.ws).mem.set 18 S.next o) x = _
          rw [hmem, upd_other _ hx'.1, updF_other fun p hp e => hx'.2 ((h4 x).2 (.inl ⟨p, hp, e⟩))]
        · show x ∈ (layF _ out.ws).rd; rw [h2]; simp [hx]
        · funext x
          unfold post applyO
          rw [hnw]
          show (if x ∈ S.next :: (layF _ out.ws).wr then gt ((layF { S with rd := l ++ S.rd } out.ws).mem.set 18 S.next o) x else m x) = upd (updF m out.ws) S.next o x
          rw [hmem]
          by_cases hxn : x = S.next
          · subst hxn
            rw [if_pos (by simp), upd_same, upd_same]
          · rw [upd_other _ hxn, upd_other _ hxn]
            by_cases hx : ∃ p ∈ out.ws, p.1 = x
            · rw [if_pos (List.mem_cons_of_mem _ ((h4 x).2 (.inl hx)))]
              exact updF_same hx
            · have hn : ∀ p ∈ out.ws, p.1 ≠ x := fun p hp e => hx ⟨p, hp, e⟩
              rw [updF_other hn, updF_other hn]
              by_cases hw : x ∈ S.next :: (layF { S with rd := l ++ S.rd } out.ws).wr
              · rw [if_pos hw]
                exact (hm x (.inr hw)).symm
              · rw [if_neg hw]
      · cases h

section
variable {P : Program} {B : Nat → Prop} {w₀ : World}

theorem stepOp0_ext {t : Fr} {S S1 : VS} {o : Oper} {r : ORes} (h : stepOp0 P t S o = some (r, S1)) : Ext S S1 := by
  unfold stepOp0 at h
  split at h
  · cases h
  · split at h
    · cases h
    · rename_i out l hev
      exact (commit_spec (fun x hx => Rd.read_mem hev x hx) h).1

theorem stepOp0_ok (hP : plainNames P = true) {ρ : Ren} {m : Nat → Option VObj} {w : World} {t : Fr} {a : Act} {S S1 : VS} {o : Oper} {r : ORes} (h : stepOp0 P t S o = some (r, S1))
    (ht : FR ρ t a) (hw : WR P B w₀ ρ m w) (hm : Agree S S1 m) : ∃ ρ' w', ρ.le ρ' ∧ RR ρ' r ((execOp a.eval o).run P w) w' ∧ WR P B w₀ ρ' (post m S1) w' := by
  unfold stepOp0 at h
  split at h
  · cases h
  · rename_i hops
    split at h
    · cases h
    · rename_i out l hev
      obtain ⟨h1, rfl, h3, h4, h5⟩ := commit_spec (fun x hx => Rd.read_mem hev x hx) h
      have hev' : (ev P (evalL t) S.next o).run m = some (out, l) := Rd.run_congr hev fun x hx => hm x (.inl (h4 x hx))
      obtain ⟨ρ', w', h6, h7, h8⟩ := (ev_ok hP hw (e' := a.eval) (fun x hx => ht.eval (List.all_eq_true.1 hops x (Array.mem_toList_iff.2 hx)))
        (fun hne => by obtain ⟨h9, h10⟩ := h3 hne; rw [hm _ (.inr h10), h9]) hev').ex
      exact ⟨ρ', w', h6, h7, by rw [h5 m hm]; exact h8⟩

/- Rows of arguments. -/
theorem layN_spec : ∀ {l : List VObj} {S S1 : VS}, layN l S = some S1 → Ext S S1 ∧ S1.rd = S.rd ∧ (∀ j, j < l.length → gt S.mem (S.next + j) = none ∧ S.next + j ∈ S1.wr) ∧ ∀ m, Agree S S1 m → post m S1 = updN m S.next l
  | [], S, S1, h => by
    simp only [layN, Option.some.injEq] at h
    subst h
    exact ⟨Ext.refl S, rfl, fun j hj => absurd hj (by simp), fun m hm => post_self hm⟩
  | o :: l, S, S1, h => by
    unfold layN at h
    split at h
    · rename_i hs hn
      obtain ⟨h1, h2, h3, h4⟩ := layN_spec h
      have hmem : gt (S.mem.set 18 S.next o) = upd (gt S.mem) S.next o := gt_set hs
      have e1 : Ext S { S with mem := S.mem.set 18 S.next o, next := S.next + 1, wr := S.next :: S.wr } := by
        refine ⟨fun x hx => hx, fun x hx => List.mem_cons_of_mem _ hx, fun x hx => ?_, fun hS x hx => ?_⟩
        · show gt (S.mem.set 18 S.next o) x = _
          rw [hmem, upd_other _ fun e => hx (by rw [e]; exact List.mem_cons_self)]
        · rcases hx with hx | hx
          · exact hS x (.inl hx)
          · rcases List.mem_cons.1 hx with rfl | hx
            · exact hs
            · exact hS x (.inr hx)
      have hin : S.next ∈ S1.wr := h1.wr _ List.mem_cons_self
      refine ⟨e1.trans h1, h2, fun j hj => ?_, fun m hm => ?_⟩
      · cases j with
        | zero => exact ⟨hn, hin⟩
        | succ j =>
          obtain ⟨h5, h6⟩ := h3 j (by simpa using hj)
          dsimp only at h5 h6
          rw [hmem, upd_other _ (by omega)] at h5
          rw [show S.next + (j + 1) = S.next + 1 + j by omega]
          exact ⟨h5, h6⟩
      · have hm2 : Agree { S with mem := S.mem.set 18 S.next o, next := S.next + 1, wr := S.next :: S.wr } S1 (upd m S.next o) := by
          intro x hx
          show upd m S.next o x = gt (S.mem.set 18 S.next o) x
          rw [hmem]
          by_cases e : x = S.next
          · subst e; rw [upd_same, upd_same]
          · rw [upd_other _ e, upd_other _ e]; exact hm x hx
        show post m S1 = updN (upd m S.next o) (S.next + 1) l
        rw [← h4 _ hm2]
        funext x
        unfold post
        by_cases hx : x ∈ S1.wr
        · rw [if_pos hx, if_pos hx]
        · rw [if_neg hx, if_neg hx, upd_other _ fun e => hx (by rw [e]; exact hin)]
    · cases h

theorem viewOf_some {t : Fr} {S : VS} {o : Oper} {V : View} (h : viewOf P t S o = some V) :
    ∃ ty x i cap, o.op = .indexAddr ty x i ∧ evalL t x = .slice (some ⟨V.b, 0, none⟩) V.len cap ∧ gt S.mem V.b = some (.rows V.n V.size V.row) ∧ P.underlying ty = some (.slice V.el) ∧ szOf P V.el = some V.size ∧ V.i = evalL t i := by
  unfold viewOf at h
  split at h
  · rename_i ty x i hop
    split at h
    · rename_i b len cap hx
      split at h
      · rename_i n size row hb
        split at h
        · rename_i el hu
          split at h
          · rename_i s hs
            split at h
            · rename_i hss
              have hss := Nat.eq_of_beq_eq_true hss
              subst hss
              cases h
              exact ⟨ty, x, i, cap, hop, hx, hb, hu, hs, rfl⟩
            · cases h
          · cases h
        · cases h
      · cases h
    · cases h
  · cases h

theorem viewStep_some {S S1 : VS} {b : Nat} {el : TypeId} {l : List SV} {r : ORes} (h : viewStep S b el l = some (r, S1)) :
    r = .val (.pointer (some ⟨S.next + viewLen l, 0, none⟩)) ∧ layN (viewObjs l ++ [.cells (viewVals l S.next) el true]) { S with rd := b :: S.rd } = some S1 := by
  unfold viewStep at h
  split at h
  · rename_i S2 hl
    simp only [Option.some.injEq, Prod.mk.injEq] at h
    obtain ⟨rfl, rfl⟩ := h
    exact ⟨rfl, hl⟩
  · cases h

theorem rd_ext {S S1 : VS} {b : Nat} {o : VObj} (hb : gt S.mem b = some o) (h : Ext { S with rd := b :: S.rd } S1) : Ext S S1 := by
  refine Ext.trans (b := { S with rd := b :: S.rd }) ⟨fun x hx => List.mem_cons_of_mem _ hx, fun x hx => hx, fun x hx => rfl, fun hS x hx => ?_⟩ h
  rcases hx with hx | hx
  · rcases List.mem_cons.1 hx with rfl | hx
    · exact small_of_gt hb
    · exact hS x (.inl hx)
  · exact hS x (.inr hx)

theorem stepOp_view {t : Fr} {S S1 : VS} {o : Oper} {r : ORes} {V : View} (hV : viewOf P t S o = some V) (h : stepOp P t S o = some (r, S1)) :
    o.op.operands.toList.all okOperand = true ∧ ∃ k, nOf V.i = some k ∧ k < V.n ∧ k < V.len ∧ viewStep S V.b V.el (V.row k) = some (r, S1) := by
  unfold stepOp at h
  rw [hV] at h
  dsimp only at h
  split at h
  · rename_i k hops hk
    split at h
    · rename_i hlt
      simp only [Bool.and_eq_true, blt_iff] at hlt
      exact ⟨hops, k, hk, hlt.1, hlt.2, h⟩
    · cases h
  · cases h
theorem stepOp_none {t : Fr} {S : VS} {o : Oper} (hV : viewOf P t S o = none) : stepOp P t S o = stepOp0 P t S o := by
  unfold stepOp
  rw [hV]

theorem stepOp_ext {t : Fr} {S S1 : VS} {o : Oper} {r : ORes} (h : stepOp P t S o = some (r, S1)) : Ext S S1 := by
  cases hV : viewOf P t S o with
  | none => rw [stepOp_none hV] at h; exact stepOp0_ext h
  | some V =>
    obtain ⟨_, k, _, _, _, h⟩ := stepOp_view hV h
    obtain ⟨ty, x, i, cap, _, _, hb, _⟩ := viewOf_some hV
    exact rd_ext hb (layN_spec (viewStep_some h).2).1

theorem stepOp_ok (hP : plainNames P = true) {ρ : Ren} {m : Nat → Option VObj} {w : World} {t : Fr} {a : Act} {S S1 : VS} {o : Oper} {r : ORes} (h : stepOp P t S o = some (r, S1))
    (ht : FR ρ t a) (hw : WR P B w₀ ρ m w) (hm : Agree S S1 m) : ∃ ρ' w', ρ.le ρ' ∧ RR ρ' r ((execOp a.eval o).run P w) w' ∧ WR P B w₀ ρ' (post m S1) w' := by
  cases hV : viewOf P t S o with
  | none => rw [stepOp_none hV] at h; exact stepOp0_ok hP h ht hw hm
  | some V =>
    have hext := stepOp_ext h
    obtain ⟨hops, k, hk, hkn, hkl, h⟩ := stepOp_view hV h
    obtain ⟨ty, x, i, cap, hop, hx, hb, hu, hs, hi⟩ := viewOf_some hV
    obtain ⟨hr, hl⟩ := viewStep_some h
    obtain ⟨he, hrd, hfr, hpost⟩ := layN_spec hl
    have hbm : m V.b = some (.rows V.n V.size V.row) := by
      rw [hm V.b (.inl (by rw [hrd]; exact List.mem_cons_self)), hb]
    have hm' : Agree { S with rd := V.b :: S.rd } S1 m := hm
    have hpost := hpost m hm'
    obtain ⟨rr, hrr, hat⟩ := hw.rows _ _ _ _ hbm
    have hat := hat (by omega)
    obtain ⟨c', el', fr, h1, h2, h3, h4⟩ := hat.at_
    obtain ⟨h5, h6⟩ := h4 k hkn
    have hwb : w.heap[rr.blk]? = some (.cells c' el' fr) := (hw.below.block _ hat.blk).trans h1
    have hmul : k * V.size + V.size ≤ V.n * V.size := by
      have := Nat.mul_le_mul_right V.size hkn
      rw [Nat.succ_mul] at this
      exact this
    let l' : List Value := (c'.toList.drop (rr.sh + k * V.size)).take V.size
    have hl'len : l'.length = V.size := by simp [l']; omega
    have hsr : SRs P w₀ B (V.row k) l' := ⟨by rw [h5, hl'len], fun j s v hj hv => by
      obtain ⟨v', a1, a2⟩ := h6 j s hj
      have : l'[j]? = some v' := by
        show ((c'.toList.drop (rr.sh + k * V.size)).take V.size)[j]? = _
        have hjs : j < V.size := by rw [← h5]; exact (List.getElem?_eq_some_iff.1 hj).1
        rw [List.getElem?_take, if_pos hjs, List.getElem?_drop]
        simpa using a1
      rw [this] at hv
      cases hv
      exact a2⟩
    have hfree : ∀ j, j < (viewObjs (V.row k) ++ [VObj.cells (viewVals (V.row k) S.next) V.el true]).length → m (S.next + j) = none := fun j hj => by
      obtain ⟨a1, a2⟩ := hfr j hj
      rw [hm _ (.inr a2)]
      exact a1
    obtain ⟨ρ1, g1, g2, g3⟩ := view_ok (k := S.next) hsr hw fun j hj => hfree j (by rw [List.length_append, viewLen_eq]; omega)
    have hlast : updN m S.next (viewObjs (V.row k)) (S.next + viewLen (V.row k)) = none := by
      rw [updN_other (.inr (by rw [viewLen_eq]; exact Nat.le_refl _))]
      exact hfree _ (by rw [List.length_append, viewLen_eq]; simp)
    let R : Where := ⟨rr.blk, rr.sh + k * V.size, V.size, c'.size⟩
    have g4 := g2.addRo (r := R) hlast (c := viewVals (V.row k) S.next) (el := V.el) (fun q hq => by rw [hs] at hq; cases hq; rfl) fun hne =>
      ⟨hat.blk, c', el', fr, hwb, rfl, by show rr.sh + k * V.size + _ ≤ c'.size; rw [g3.len, hl'len]; omega, fun j v hv => by
        obtain ⟨v', b1, b2⟩ := g3.get hv
        refine ⟨v', ?_, b2.mono (Ren.put_le (g2.fresh _ hlast) _)⟩
        have b1 : ((c'.toList.drop (rr.sh + k * V.size)).take V.size)[j]? = some v' := b1
        rw [List.getElem?_take] at b1
        split at b1
        · rw [List.getElem?_drop] at b1
          simpa using b1
        · cases b1⟩
    refine ⟨_, w, Ren.le_trans g1 (Ren.put_le (g2.fresh _ hlast) R), ?_, ?_⟩
    · -- the model's own index
      have hvx : VR ρ (.slice (some ⟨V.b, 0, none⟩) V.len cap) (a.eval x) := by
        rw [← hx]
        exact ht.eval (List.all_eq_true.1 hops x (by rw [hop]; simp [Op.operands]))
      have hvi : VR ρ (evalL t i) (a.eval i) := ht.eval (List.all_eq_true.1 hops i (by rw [hop]; simp [Op.operands]))
      have hij : (indexAddrV P ty (.slice (some ⟨V.b, 0, none⟩) V.len cap) (evalL t i)).run m = some (⟨.val (.pointer (some ⟨V.b, 0 + k * V.size, none⟩)), [], none⟩, []) := by
        unfold indexAddrV
        rw [hu]
        rw [hi] at hk
        simp only [hu, hk, hs, blt_iff.2 hkl]
        rfl
      obtain ⟨ρ2, w2, f1, f2, f3⟩ := (indexAddrV_ok (n := 0) hw hvx hvi hij).ex
      obtain ⟨dst, op, type, pos, after, guard⟩ := o
      dsimp only at hop
      subst hop
      subst hr
      generalize hres : (Sem.run P (do let v ← Instr.indexAt ty (a.eval x) (a.eval i); pure (Next.value v) : Sem Next) w) = res at f2
      cases f2 with
      | val _ v' _ hv =>
        have hw2 : w2 = w := by
          generalize hgx : a.eval x = ax at hvx hres
          generalize hvl : V.len = vl at hvx hkl
          cases hvx with
          | scal _ h => cases h
          | slE => omega
          | sl _ _ _ _ cap' r hr' hc =>
            rw [hi] at hk
            obtain ⟨ik, hik⟩ := nOf_some hk
            rw [hik] at hvi
            rw [hvi.int_inv] at hres
            have : (Instr.indexAt ty (.slice (some ⟨r.blk, r.sh + 0, none⟩) vl cap') (.int ik k)).run P w = .ok (.pointer (some ⟨r.blk, r.sh + 0 + k * V.size, none⟩)) w := by
              unfold Instr.indexAt
              simp only [asIntOf, Sem.run_bind, Sem.run_pure, Result.andThen_ok, run_underlying hu, Instr.sureAddr]
              rw [if_pos ⟨by omega, by omega⟩]
              simp only [Sem.run_bind, run_sizeOf hs, Result.andThen_ok, Sem.run_pure, addr_add0, Int.toNat_natCast]
            rw [Sem.run_bind, this] at hres
            cases hres
            rfl
        subst hw2
        obtain ⟨r, hr2, rfl⟩ := hv.ptr_inv
        rw [f1 _ _ hrr] at hr2
        cases hr2
        have e : (execOp a.eval { dst, op := Op.indexAddr ty x i, type, pos, after, guard }).run P w2 = .ok (.value (.pointer (some ⟨rr.blk, rr.sh + (0 + k * V.size), none⟩))) w2 := hres
        rw [e]
        refine .val _ _ _ ?_
        have := VR.ptr (ρ := ρ1.put (S.next + viewLen (V.row k)) R) (S.next + viewLen (V.row k)) 0 R (Ren.put_same _ _ _)
        simpa [R] using this
    · have : post m S1 = upd (updN m S.next (viewObjs (V.row k))) (S.next + viewLen (V.row k)) (.cells (viewVals (V.row k) S.next) V.el true) := by
        rw [hpost]
        show updN m S.next _ = _
        rw [updN_append, viewLen_eq]
        rfl
      rw [this]
      exact g4

def CR (ρ : Ren) : CRes → Ending → Prop
  | .ret v, .returned v' => VR ρ v v'
  | .panic v, .panicked chain => ∃ v', chain = [{ v := v', recovered := false }] ∧ VR ρ v v'
  | _, _ => False

structure CallOk (P : Program) (call : CallF) : Prop where
  ext : ∀ {f : FuncId} {args : List Value} {S : VS} {r : CRes} {S' : VS}, call f args S = some (r, S') → Ext S S'
  ok : ∀ {f : FuncId} {args : List Value} {S : VS} {r : CRes} {S' : VS}, call f args S = some (r, S') → ∀ {B : Nat → Prop} {w₀ : World} {ρ : Ren} {m : Nat → Option VObj} {w : World} {args' : Array Value},
    LR ρ args args'.toList → WR P B w₀ ρ m w → Agree S S' m → Calls P f args' w fun e w' => ∃ ρ', ρ.le ρ' ∧ CR ρ' r e ∧ WR P B w₀ ρ' (post m S') w'

theorem opV_ext {call : CallF} (hc : CallOk P call) {ops : List Oper} {o : Oper} {t t1 : Fr} {S S1 : VS} {res : Option Value} (h : opV P call ops o t S = some (res, t1, S1)) : Ext S S1 := by
  unfold opV at h
  split at h
  · simp only [Option.map_eq_some_iff, Prod.mk.injEq] at h
    obtain ⟨_, _, _, _, rfl⟩ := h
    exact Ext.refl S
  · split at h
    · cases h
    · rename_i r S2 hs
      have e := stepOp_ext hs
      split at h
      · simp only [Option.map_eq_some_iff, Prod.mk.injEq] at h
        obtain ⟨_, _, _, _, rfl⟩ := h
        exact e
      · simp only [Option.map_eq_some_iff, Prod.mk.injEq] at h
        obtain ⟨_, _, _, _, rfl⟩ := h
        exact e
      · simp only [Option.some.injEq, Prod.mk.injEq] at h
        obtain ⟨_, _, rfl⟩ := h
        exact e
      · cases h
      · split at h
        · cases h
        · rename_i v S3 hcl
          simp only [Option.map_eq_some_iff, Prod.mk.injEq] at h
          obtain ⟨_, _, _, _, rfl⟩ := h
          exact e.trans (hc.ext hcl)
        · rename_i v S3 hcl
          simp only [Option.some.injEq, Prod.mk.injEq] at h
          obtain ⟨_, _, rfl⟩ := h
          exact e.trans (hc.ext hcl)

theorem callsFF {r : Option Nat} {n : Nat} {f : FuncId} {args : Array Value} {w : World} {R : Ending → World → Prop} (h : Calls P f args w R) : CallsIn (FF r) n P f args w R := (callsIn_wide (n := n)).2 h
theorem stepOp_noDefer {t : Fr} {S : VS} {o : Oper} {q : ORes × VS} (h : stepOp P t S o = some q) : ∀ c, o.op ≠ .defer c := by
  intro c hc
  unfold stepOp viewOf at h
  rw [hc] at h
  simp only at h
  unfold stepOp0 ev evK at h
  rw [hc] at h
  simp only [Rd.run] at h
  split at h <;> cases h

/-- One operation of a region. -/
theorem opV_ok (hP : plainNames P = true) {call : CallF} (hc : CallOk P call) {ops : Array Oper} {i : Nat} {o : Oper} (ho : ops[i]? = some o) {t t1 : Fr} {S S1 : VS} {res : Option Value}
    (h : opV P call ops.toList o t S = some (res, t1, S1)) {ρ : Ren} {m : Nat → Option VObj} {w : World} {a : Act} (ht : FR ρ t a) (hw : WR P B w₀ ρ m w) (hm : Agree S S1 m)
    {r : Option Nat} {K : Act → World → Prop} {Q : Exit → Act → World → Prop}
    (hK : res = none → ∀ (ρ' : Ren) (a' : Act) (w' : World), ρ.le ρ' → FR ρ' t1 a' → (∃ v, a' = a.put o.dst v) → WR P B w₀ ρ' (post m S1) w' → K a' w')
    (hQ : ∀ v, res = some v → ∀ (ρ' : Ren) (v' : Value) (w' : World), ρ.le ρ' → VR ρ' v v' → FR ρ' t1 a → WR P B w₀ ρ' (post m S1) w' → Q (.panic [{ v := v', recovered := false }]) a w') :
    wpOpIn (FF r) 0 P ops Q i K a w := by
  unfold wpOpIn
  simp only [ho]
  unfold opV at h
  rw [yielded_eq ht] at h
  split at h
  · rename_i hwant
    simp only [Option.map_eq_some_iff, Prod.mk.injEq] at h
    obtain ⟨t2, hp, rfl, rfl, rfl⟩ := h
    simp only [hwant, Bool.false_eq_true, if_false]
    have hpost : post m S = m := post_self hm
    exact ⟨fun _ _ => trivial, hK rfl ρ _ w (Ren.le_refl ρ) (ht.put (VR.undef ρ) hp) ⟨_, rfl⟩ (by rw [hpost]; exact hw)⟩
  · rename_i hwant
    simp only [hwant, if_true]
    unfold Oper.wpIn
    refine ⟨fun _ _ => trivial, ?_⟩
    split at h
    · cases h
    · rename_i r S2 hs
      rw [Oper.semAt_eq _ _ _ (stepOp_noDefer hs)]
      have e := stepOp_ext hs
      split at h
      · rename_i v
        simp only [Option.map_eq_some_iff, Prod.mk.injEq] at h
        obtain ⟨t2, hp, rfl, rfl, rfl⟩ := h
        obtain ⟨ρ', w', h1, h2, h3⟩ := stepOp_ok hP hs ht hw hm
        generalize (execOp a.eval o).run P w = q at h2
        cases h2 with
        | val _ v' _ hv => exact hK rfl ρ' _ w' h1 ((ht.mono h1).put hv hp) ⟨_, rfl⟩ h3
      · simp only [Option.map_eq_some_iff, Prod.mk.injEq] at h
        obtain ⟨t2, hp, rfl, rfl, rfl⟩ := h
        obtain ⟨ρ', w', h1, h2, h3⟩ := stepOp_ok hP hs ht hw hm
        generalize (execOp a.eval o).run P w = q at h2
        cases h2 with
        | skip => exact hK rfl ρ' _ w' h1 ((ht.mono h1).put (VR.undef ρ') hp) ⟨_, rfl⟩ h3
      · rename_i v
        simp only [Option.some.injEq, Prod.mk.injEq] at h
        obtain ⟨rfl, rfl, rfl⟩ := h
        obtain ⟨ρ', w', h1, h2, h3⟩ := stepOp_ok hP hs ht hw hm
        generalize (execOp a.eval o).run P w = q at h2
        cases h2 with
        | panic _ v' _ hv => exact hQ v rfl ρ' v' w' h1 hv (ht.mono h1) h3
      · cases h
      · rename_i f args
        split at h
        · cases h
        · rename_i v S3 hcl
          simp only [Option.map_eq_some_iff, Prod.mk.injEq] at h
          obtain ⟨t2, hp, rfl, rfl, rfl⟩ := h
          have e2 := hc.ext hcl
          obtain ⟨ρ', w', h1, h2, h3⟩ := stepOp_ok hP hs ht hw (hm.first e2)
          generalize (execOp a.eval o).run P w = q at h2
          cases h2 with
          | enter _ _ args' _ ha =>
            refine ⟨(fun hh => by cases hh), (callsFF (hc.ok hcl ha h3 (hm.next e))).mono fun en w'' hen => ?_⟩
            obtain ⟨ρ2, h4, h5, h6⟩ := hen
            rw [post_post e2] at h6
            cases en with
            | returned v' => exact hK rfl ρ2 _ w'' (Ren.le_trans h1 h4) ((ht.mono (Ren.le_trans h1 h4)).put h5 hp) ⟨_, rfl⟩ h6
            | panicked chain => cases h5
            | outgrown => cases h5
        · rename_i v S3 hcl
          simp only [Option.some.injEq, Prod.mk.injEq] at h
          obtain ⟨rfl, rfl, rfl⟩ := h
          have e2 := hc.ext hcl
          obtain ⟨ρ', w', h1, h2, h3⟩ := stepOp_ok hP hs ht hw (hm.first e2)
          generalize (execOp a.eval o).run P w = q at h2
          cases h2 with
          | enter _ _ args' _ ha =>
            refine ⟨(fun hh => by cases hh), (callsFF (hc.ok hcl ha h3 (hm.next e))).mono fun en w'' hen => ?_⟩
            obtain ⟨ρ2, h4, h5, h6⟩ := hen
            rw [post_post e2] at h6
            cases en with
            | returned v' => cases h5
            | panicked chain =>
              obtain ⟨v', rfl, hv⟩ := h5
              exact hQ v rfl ρ2 v' w'' (Ren.le_trans h1 h4) hv (ht.mono (Ren.le_trans h1 h4)) h6
            | outgrown => cases h5
end
end Go.Proofs.YtdbjloigfkckfaaGreatDoor.Vm
