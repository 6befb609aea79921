/- The small machine, its twelfth text: frames, footprints, single steps. -/
import Derived.Test.YtnlkkgpcikkpoaaGreatVm11
import Derived.LoopN
namespace Go.Proofs.YtnlkkgpcikkpoaaGreat.Vm
open Go.RowKit
set_option linter.unusedVariables false
set_option linter.unusedSimpArgs false

structure FR (ρ : Ren) (t : Fr) (a : Act) : Prop where
  size : a.tmps.size = t.n
  small : t.n ≤ 1024
  at_ : ∀ i, VR ρ (t.at i) (a.tmps.getD i undef)
  defers : a.defers = []

theorem FR.mono {ρ ρ' : Ren} (hl : ρ.le ρ') {t : Fr} {a : Act} (h : FR ρ t a) : FR ρ' t a := ⟨h.size, h.small, fun i => (h.at_ i).mono hl, h.defers⟩

theorem FR.eval {ρ : Ren} {t : Fr} {a : Act} (h : FR ρ t a) {x : Operand} (hx : okOperand x = true) : VR ρ (evalL t x) (a.eval x) := by
  cases x with
  | tmp i => exact h.at_ i
  | const v => exact fl_refl hx
  | global g => cases hx
  | func f => exact .func _ _ _ _ _ rfl rfl (fun i v v' h => by simp at h) rfl (fun i v v' h => by simp at h)

theorem blt_iff {a b : Nat} : Nat.blt a b = true ↔ a < b := by
  unfold Nat.blt
  rw [Nat.ble_eq]
  omega

theorem FR.put {ρ : Ren} {t t1 : Fr} {a : Act} (h : FR ρ t a) {d : Option Tmp} {v v' : Value} (hv : VR ρ v v') (hp : Vm.put t d v = some t1) : FR ρ t1 (a.put d v') := by
  unfold Vm.put at hp
  unfold Act.put
  cases d with
  | none => cases hp; exact h
  | some d =>
    simp only [Fr.set] at hp
    split at hp
    · rename_i hlt
      have hlt := blt_iff.1 hlt
      cases hp
      refine ⟨by simpa using h.size, h.small, fun j => ?_, h.defers⟩
      have hj := h.at_ j
      unfold Fr.at at hj ⊢
      dsimp only at hj ⊢
      by_cases hjn : j < t.n
      · rw [blt_iff.2 hjn] at hj ⊢
        dsimp only at hj ⊢
        have h10 : (2 : Nat) ^ 10 = 1024 := rfl
        rw [Tr.get_set 10 _ _ _ _ (by have := h.small; omega) (by have := h.small; omega)]
        by_cases hjd : j = d
        · subst hjd
          rw [if_pos rfl]
          have hjs : j < a.tmps.size := by rw [h.size]; exact hjn
          simp only [Array.getD_eq_getD_getElem?, Array.getElem?_setIfInBounds_self, hjs, if_true, Option.getD_some]
          exact hv
        · rw [if_neg hjd]
          rw [Array.getD_eq_getD_getElem?, Array.getElem?_setIfInBounds_ne (Ne.symm hjd), ← Array.getD_eq_getD_getElem?]
          exact hj
      · have hb : Nat.blt j t.n = false := by cases hb : Nat.blt j t.n with
          | false => rfl
          | true => exact absurd (blt_iff.1 hb) hjn
        rw [hb]
        dsimp only
        have hjs : ¬ j < a.tmps.size := by rw [h.size]; exact hjn
        rw [Array.getD_eq_getD_getElem?, Array.getElem?_eq_none (by simp; omega)]
        exact VR.undef ρ
    · cases hp

theorem yielded_eq {ρ : Ren} {t : Fr} {a : Act} (h : FR ρ t a) (ops : Array Oper) : yieldedL ops.toList t = yielded ops a.tmps := by
  funext j
  unfold yieldedL yielded
  rw [Array.getElem?_toList]
  cases hd : (ops[j]?).bind (·.dst) with
  | none => rfl
  | some d =>
    dsimp only [Option.bind_some]
    have hv := h.at_ d
    rw [Array.getD_eq_getD_getElem?] at hv
    cases hc : a.tmps[d]? with
    | none =>
      rw [hc] at hv
      have hu : ∀ b, t.at d ≠ .bool b := by
        intro b e
        rw [e] at hv
        have := hv.bool_inv
        cases this
      split
      · rename_i b e; exact absurd e (hu b)
      · rfl
    | some u =>
      rw [hc] at hv
      simp only [Option.getD_some] at hv
      split
      · rename_i b e
        rw [e] at hv
        rw [hv.bool_inv]
      · rename_i hne
        split
        · rename_i b e
          simp only [Option.some.injEq] at e
          subst e
          generalize hx : t.at d = x at hv hne
          cases hv
          exact absurd rfl (hne b)
        · rfl

/- Footprints. -/
structure Ext (S S' : VS) : Prop where
  rd : ∀ x, x ∈ S.rd → x ∈ S'.rd
  wr : ∀ x, x ∈ S.wr → x ∈ S'.wr
  frame : ∀ x, x ∉ S'.wr → gt S'.mem x = gt S.mem x

theorem Ext.refl (S : VS) : Ext S S := ⟨fun _ h => h, fun _ h => h, fun _ _ => rfl⟩
theorem Ext.trans {a b c : VS} (h : Ext a b) (k : Ext b c) : Ext a c :=
  ⟨fun x hx => k.rd x (h.rd x hx), fun x hx => k.wr x (h.wr x hx), fun x hx => (k.frame x hx).trans (h.frame x fun hh => hx (k.wr x hh))⟩

def Agree (S S' : VS) (m : Nat → Option VObj) : Prop := ∀ x, (x ∈ S'.rd ∨ x ∈ S'.wr) → m x = gt S.mem x
def post (m : Nat → Option VObj) (S' : VS) : Nat → Option VObj := fun x => if x ∈ S'.wr then gt S'.mem x else m x

theorem Agree.first {S S1 S2 : VS} {m : Nat → Option VObj} (h : Agree S S2 m) (e : Ext S1 S2) : Agree S S1 m :=
  fun x hx => h x (hx.imp (e.rd x) (e.wr x))
theorem Agree.next {S S1 S2 : VS} {m : Nat → Option VObj} (h : Agree S S2 m) (e1 : Ext S S1) : Agree S1 S2 (post m S1) := by
  intro x hx
  unfold post
  by_cases hw : x ∈ S1.wr
  · rw [if_pos hw]
  · rw [if_neg hw, h x hx, e1.frame x hw]
theorem post_post {m : Nat → Option VObj} {S1 S2 : VS} (e : Ext S1 S2) : post (post m S1) S2 = post m S2 := by
  funext x
  unfold post
  by_cases h2 : x ∈ S2.wr
  · rw [if_pos h2, if_pos h2]
  · rw [if_neg h2, if_neg h2, if_neg fun h => h2 (e.wr x h)]
theorem post_self {m : Nat → Option VObj} {S : VS} (h : Agree S S m) : post m S = m := by
  funext x
  unfold post
  by_cases hw : x ∈ S.wr
  · rw [if_pos hw, h x (.inr hw)]
  · rw [if_neg hw]

abbrev updF (g : Nat → Option VObj) (ws : List (Nat × VObj)) : Nat → Option VObj := ws.foldl (fun g (p : Nat × VObj) => upd g p.1 p.2) g
abbrev layF (S : VS) (ws : List (Nat × VObj)) : VS := ws.foldl (fun (S : VS) (p : Nat × VObj) => { S with mem := S.mem.set 18 p.1 p.2, wr := p.1 :: S.wr }) S

theorem updF_other : ∀ {ws : List (Nat × VObj)} {g : Nat → Option VObj} {x : Nat}, (∀ p ∈ ws, p.1 ≠ x) → updF g ws x = g x
  | [], g, x, _ => rfl
  | p :: ws, g, x, h => by
    show updF (upd g p.1 p.2) ws x = g x
    rw [updF_other fun q hq => h q (by simp [hq]), upd_other _ (Ne.symm (h p (by simp)))]

theorem updF_same : ∀ {ws : List (Nat × VObj)} {g g' : Nat → Option VObj} {x : Nat}, (∃ p ∈ ws, p.1 = x) → updF g ws x = updF g' ws x
  | [], g, g', x, h => by obtain ⟨p, hp, _⟩ := h; cases hp
  | p :: ws, g, g', x, h => by
    show updF (upd g p.1 p.2) ws x = updF (upd g' p.1 p.2) ws x
    by_cases hr : ∃ q ∈ ws, q.1 = x
    · exact updF_same hr
    · have hn : ∀ q ∈ ws, q.1 ≠ x := fun q hq e => hr ⟨q, hq, e⟩
      rw [updF_other hn, updF_other hn]
      obtain ⟨q, hq, e⟩ := h
      rcases List.mem_cons.1 hq with rfl | hq
      · subst e; rw [upd_same, upd_same]
      · exact absurd e (hn q hq)

theorem layF_spec : ∀ {ws : List (Nat × VObj)} {S : VS}, (∀ p ∈ ws, small p.1 = true) →
    gt (layF S ws).mem = updF (gt S.mem) ws ∧ (layF S ws).rd = S.rd ∧ (layF S ws).next = S.next ∧ ∀ x, x ∈ (layF S ws).wr ↔ (∃ p ∈ ws, p.1 = x) ∨ x ∈ S.wr
  | [], S, _ => ⟨rfl, rfl, rfl, fun x => by simp⟩
  | p :: ws, S, h => by
    obtain ⟨h1, h2, h3, h4⟩ := layF_spec (ws := ws) (S := { S with mem := S.mem.set 18 p.1 p.2, wr := p.1 :: S.wr }) fun q hq => h q (by simp [hq])
    refine ⟨?_, h2, h3, fun x => ?_⟩
    · show gt (layF _ ws).mem = updF (upd (gt S.mem) p.1 p.2) ws
      rw [h1, ← gt_set (h p (by simp))]
    · show x ∈ (layF _ ws).wr ↔ _
      rw [h4 x]
      simp only [List.mem_cons]
      constructor
      · rintro (⟨q, hq, e⟩ | rfl | hx)
        · exact .inl ⟨q, .inr hq, e⟩
        · exact .inl ⟨p, .inl rfl, rfl⟩
        · exact .inr hx
      · rintro (⟨q, rfl | hq, e⟩ | hx)
        · exact .inr (.inl e.symm)
        · exact .inl ⟨q, hq, e⟩
        · exact .inr (.inr hx)

theorem commit_spec {S S1 : VS} {l : List Nat} {out : OOut} {r : ORes} (hl : ∀ x ∈ l, ∃ o, gt S.mem x = some o) (h : commit S l out = some (r, S1)) :
    Ext S S1 ∧ r = out.r ∧ (out.nw ≠ none → gt S.mem S.next = none ∧ S.next ∈ S1.wr) ∧ (∀ x ∈ l, x ∈ S1.rd) ∧ ∀ m, Agree S S1 m → post m S1 = applyO m S.next out := by
  unfold commit at h
  dsimp only at h
  split at h
  · cases h
  · rename_i hall
    have hsm : ∀ p ∈ out.ws, small p.1 = true := by
      intro p hp
      have := List.all_eq_true.1 hall p hp
      obtain ⟨o, ho⟩ := hl p.1 (by simpa using this)
      exact small_of_gt ho
    obtain ⟨h1, h2, h3, h4⟩ := layF_spec (ws := out.ws) (S := { S with rd := l ++ S.rd }) hsm
    split at h
    · rename_i hnw
      simp only [Option.some.injEq, Prod.mk.injEq] at h
      obtain ⟨rfl, rfl⟩ := h
      refine ⟨⟨fun x hx => ?_, fun x hx => ?_, fun x hx => ?_⟩, rfl, fun hne => absurd hnw hne, fun x hx => ?_, fun m hm => ?_⟩
      · show x ∈ (layF _ out.ws).rd; rw [h2]; simp [hx]
      · exact (h4 x).2 (.inr hx)
      · show gt (layF _ out.ws).mem x = _
        rw [h1, updF_other fun p hp e => hx ((h4 x).2 (.inl ⟨p, hp, e⟩))]
      · show x ∈ (layF _ out.ws).rd; rw [h2]; simp [hx]
      · funext x
        unfold post applyO
        rw [hnw]
        show (if x ∈ (layF _ out.ws).wr then gt (layF _ out.ws).mem x else m x) = updF m out.ws x
        by_cases hx : ∃ p ∈ out.ws, p.1 = x
        · rw [if_pos ((h4 x).2 (.inl hx)), h1]
          exact updF_same hx
        · have hn : ∀ p ∈ out.ws, p.1 ≠ x := fun p hp e => hx ⟨p, hp, e⟩
          rw [updF_other hn]
          by_cases hw : x ∈ (layF { S with rd := l ++ S.rd } out.ws).wr
          · rw [if_pos hw, h1, updF_other hn]
            exact (hm x (.inr hw)).symm
          · rw [if_neg hw]
    · rename_i o hnw
      split at h
      · rename_i hs hnone
        simp only [Option.some.injEq, Prod.mk.injEq] at h
        obtain ⟨rfl, rfl⟩ := h
        have hmem : gt ((layF { S with rd := l ++ S.rd } out.ws).mem.set 18 S.next o) = upd (updF (gt S.mem) out.ws) S.next o := by rw [gt_set hs, h1]
        refine ⟨⟨fun x hx => ?_, fun x hx => ?_, fun x hx => ?_⟩, rfl, fun _ => ⟨hnone, by simp⟩, fun x hx => ?_, fun m hm => ?_⟩
        · show x ∈ (layF _ out.ws).rd; rw [h2]; simp [hx]
        · show x ∈ S.next :: (layF _ out.ws).wr
          exact List.mem_cons_of_mem _ ((h4 x).2 (.inr hx))
        · have hx' : x ∉ S.next :: (layF { S with rd := l ++ S.rd } out.ws).wr := hx
          simp only [List.mem_cons, not_or] at hx'
          show gt ((layF { S with rd := l ++ S.rd } out.ws).mem.set 18 S.next o) x = _
          rw [hmem, upd_other _ hx'.1, updF_other fun p hp e => hx'.2 ((h4 x).2 (.inl ⟨p, hp, e⟩))]
        · show x ∈ (layF _ out.ws).rd; rw [h2]; simp [hx]
        · funext x
          unfold post applyO
          rw [hnw]
          show (if x ∈ S.next :: (layF _ out.ws).wr then gt ((layF { S with rd := l ++ S.rd } out.ws).mem.set 18 S.next o) x else m x) = upd (updF m out.ws) S.next o x
          rw [hmem]
          by_cases hxn : x = S.next
          · subst hxn
            rw [if_pos (by simp), upd_same, upd_same]
          · rw [upd_other _ hxn, upd_other _ hxn]
            by_cases hx : ∃ p ∈ out.ws, p.1 = x
            · rw [if_pos (List.mem_cons_of_mem _ ((h4 x).2 (.inl hx)))]
              exact updF_same hx
            · have hn : ∀ p ∈ out.ws, p.1 ≠ x := fun p hp e => hx ⟨p, hp, e⟩
              rw [updF_other hn, updF_other hn]
              by_cases hw : x ∈ S.next :: (layF { S with rd := l ++ S.rd } out.ws).wr
              · rw [if_pos hw]
                exact (hm x (.inr hw)).symm
              · rw [if_neg hw]
      · cases h

section
variable {P : Program} {B : Nat} {w₀ : World}

theorem stepOp_ext {t : Fr} {S S1 : VS} {o : Oper} {r : ORes} (h : stepOp P t S o = some (r, S1)) : Ext S S1 := by
  unfold stepOp at h
  split at h
  · cases h
  · split at h
    · cases h
    · rename_i out l hev
      exact (commit_spec (fun x hx => Rd.read_mem hev x hx) h).1

theorem stepOp_ok (hP : plainNames P = true) {ρ : Ren} {m : Nat → Option VObj} {w : World} {t : Fr} {a : Act} {S S1 : VS} {o : Oper} {r : ORes} (h : stepOp P t S o = some (r, S1))
    (ht : FR ρ t a) (hw : WR P B w₀ ρ m w) (hm : Agree S S1 m) : ∃ ρ' w', ρ.le ρ' ∧ RR ρ' r ((execOp a.eval o).run P w) w' ∧ WR P B w₀ ρ' (post m S1) w' := by
  unfold stepOp at h
  split at h
  · cases h
  · rename_i hops
    split at h
    · cases h
    · rename_i out l hev
      obtain ⟨h1, rfl, h3, h4, h5⟩ := commit_spec (fun x hx => Rd.read_mem hev x hx) h
      have hev' : (ev P (evalL t) S.next o).run m = some (out, l) := Rd.run_congr hev fun x hx => hm x (.inl (h4 x hx))
      obtain ⟨ρ', w', h6, h7, h8⟩ := (ev_ok hP hw (e' := a.eval) (fun x hx => ht.eval (List.all_eq_true.1 hops x (Array.mem_toList_iff.2 hx)))
        (fun hne => by obtain ⟨h9, h10⟩ := h3 hne; rw [hm _ (.inr h10), h9]) hev').ex
      exact ⟨ρ', w', h6, h7, by rw [h5 m hm]; exact h8⟩

def CR (ρ : Ren) : CRes → Ending → Prop
  | .ret v, .returned v' => VR ρ v v'
  | .panic v, .panicked chain => ∃ v', chain = [{ v := v', recovered := false }] ∧ VR ρ v v'
  | _, _ => False

structure CallOk (P : Program) (call : CallF) : Prop where
  ext : ∀ {f : FuncId} {args : List Value} {S : VS} {r : CRes} {S' : VS}, call f args S = some (r, S') → Ext S S'
  ok : ∀ {f : FuncId} {args : List Value} {S : VS} {r : CRes} {S' : VS}, call f args S = some (r, S') → ∀ {B : Nat} {w₀ : World} {ρ : Ren} {m : Nat → Option VObj} {w : World} {args' : Array Value},
    LR ρ args args'.toList → WR P B w₀ ρ m w → Agree S S' m → Calls P f args' w fun e w' => ∃ ρ', ρ.le ρ' ∧ CR ρ' r e ∧ WR P B w₀ ρ' (post m S') w'

theorem opV_ext {call : CallF} (hc : CallOk P call) {ops : List Oper} {o : Oper} {t t1 : Fr} {S S1 : VS} {res : Option Value} (h : opV P call ops o t S = some (res, t1, S1)) : Ext S S1 := by
  unfold opV at h
  split at h
  · simp only [Option.map_eq_some_iff, Prod.mk.injEq] at h
    obtain ⟨_, _, _, _, rfl⟩ := h
    exact Ext.refl S
  · split at h
    · cases h
    · rename_i r S2 hs
      have e := stepOp_ext hs
      split at h
      · simp only [Option.map_eq_some_iff, Prod.mk.injEq] at h
        obtain ⟨_, _, _, _, rfl⟩ := h
        exact e
      · simp only [Option.map_eq_some_iff, Prod.mk.injEq] at h
        obtain ⟨_, _, _, _, rfl⟩ := h
        exact e
      · simp only [Option.some.injEq, Prod.mk.injEq] at h
        obtain ⟨_, _, rfl⟩ := h
        exact e
      · cases h
      · split at h
        · cases h
        · rename_i v S3 hcl
          simp only [Option.map_eq_some_iff, Prod.mk.injEq] at h
          obtain ⟨_, _, _, _, rfl⟩ := h
          exact e.trans (hc.ext hcl)
        · rename_i v S3 hcl
          simp only [Option.some.injEq, Prod.mk.injEq] at h
          obtain ⟨_, _, rfl⟩ := h
          exact e.trans (hc.ext hcl)

/-- One operation of a region. -/
theorem opV_ok (hP : plainNames P = true) {call : CallF} (hc : CallOk P call) {ops : Array Oper} {i : Nat} {o : Oper} (ho : ops[i]? = some o) {t t1 : Fr} {S S1 : VS} {res : Option Value}
    (h : opV P call ops.toList o t S = some (res, t1, S1)) {ρ : Ren} {m : Nat → Option VObj} {w : World} {a : Act} (ht : FR ρ t a) (hw : WR P B w₀ ρ m w) (hm : Agree S S1 m)
    {K : Act → World → Prop} {Q : Exit → Act → World → Prop}
    (hK : res = none → ∀ (ρ' : Ren) (a' : Act) (w' : World), ρ.le ρ' → FR ρ' t1 a' → (∃ v, a' = a.put o.dst v) → WR P B w₀ ρ' (post m S1) w' → K a' w')
    (hQ : ∀ v, res = some v → ∀ (ρ' : Ren) (v' : Value) (w' : World), ρ.le ρ' → VR ρ' v v' → FR ρ' t1 a → WR P B w₀ ρ' (post m S1) w' → Q (.panic [{ v := v', recovered := false }]) a w') :
    wpOp P ops Q i K a w := by
  unfold wpOp
  simp only [ho]
  unfold opV at h
  rw [yielded_eq ht] at h
  split at h
  · rename_i hwant
    simp only [Option.map_eq_some_iff, Prod.mk.injEq] at h
    obtain ⟨t2, hp, rfl, rfl, rfl⟩ := h
    simp only [hwant, Bool.false_eq_true, if_false]
    have hpost : post m S = m := post_self hm
    exact hK rfl ρ _ w (Ren.le_refl ρ) (ht.put (VR.undef ρ) hp) ⟨_, rfl⟩ (by rw [hpost]; exact hw)
  · rename_i hwant
    simp only [hwant, if_true]
    left
    unfold Oper.wp
    split at h
    · cases h
    · rename_i r S2 hs
      have e := stepOp_ext hs
      split at h
      · rename_i v
        simp only [Option.map_eq_some_iff, Prod.mk.injEq] at h
        obtain ⟨t2, hp, rfl, rfl, rfl⟩ := h
        obtain ⟨ρ', w', h1, h2, h3⟩ := stepOp_ok hP hs ht hw hm
        generalize (execOp a.eval o).run P w = q at h2
        cases h2 with
        | val _ v' _ hv => exact hK rfl ρ' _ w' h1 ((ht.mono h1).put hv hp) ⟨_, rfl⟩ h3
      · simp only [Option.map_eq_some_iff, Prod.mk.injEq] at h
        obtain ⟨t2, hp, rfl, rfl, rfl⟩ := h
        obtain ⟨ρ', w', h1, h2, h3⟩ := stepOp_ok hP hs ht hw hm
        generalize (execOp a.eval o).run P w = q at h2
        cases h2 with
        | skip => exact hK rfl ρ' _ w' h1 ((ht.mono h1).put (VR.undef ρ') hp) ⟨_, rfl⟩ h3
      · rename_i v
        simp only [Option.some.injEq, Prod.mk.injEq] at h
        obtain ⟨rfl, rfl, rfl⟩ := h
        obtain ⟨ρ', w', h1, h2, h3⟩ := stepOp_ok hP hs ht hw hm
        generalize (execOp a.eval o).run P w = q at h2
        cases h2 with
        | panic _ v' _ hv => exact hQ v rfl ρ' v' w' h1 hv (ht.mono h1) h3
      · cases h
      · rename_i f args
        split at h
        · cases h
        · rename_i v S3 hcl
          simp only [Option.map_eq_some_iff, Prod.mk.injEq] at h
          obtain ⟨t2, hp, rfl, rfl, rfl⟩ := h
          have e2 := hc.ext hcl
          obtain ⟨ρ', w', h1, h2, h3⟩ := stepOp_ok hP hs ht hw (hm.first e2)
          generalize (execOp a.eval o).run P w = q at h2
          cases h2 with
          | enter _ _ args' _ ha =>
            refine (hc.ok hcl ha h3 (hm.next e)).mono fun en w'' hen => ?_
            obtain ⟨ρ2, h4, h5, h6⟩ := hen
            rw [post_post e2] at h6
            cases en with
            | returned v' => exact hK rfl ρ2 _ w'' (Ren.le_trans h1 h4) ((ht.mono (Ren.le_trans h1 h4)).put h5 hp) ⟨_, rfl⟩ h6
            | panicked chain => cases h5
            | outgrown => cases h5
        · rename_i v S3 hcl
          simp only [Option.some.injEq, Prod.mk.injEq] at h
          obtain ⟨rfl, rfl, rfl⟩ := h
          have e2 := hc.ext hcl
          obtain ⟨ρ', w', h1, h2, h3⟩ := stepOp_ok hP hs ht hw (hm.first e2)
          generalize (execOp a.eval o).run P w = q at h2
          cases h2 with
          | enter _ _ args' _ ha =>
            refine (hc.ok hcl ha h3 (hm.next e)).mono fun en w'' hen => ?_
            obtain ⟨ρ2, h4, h5, h6⟩ := hen
            rw [post_post e2] at h6
            cases en with
            | returned v' => cases h5
            | panicked chain =>
              obtain ⟨v', rfl, hv⟩ := h5
              exact hQ v rfl ρ2 v' w'' (Ren.le_trans h1 h4) hv (ht.mono (Ren.le_trans h1 h4)) h6
            | outgrown => cases h5
end
end Go.Proofs.YtnlkkgpcikkpoaaGreat.Vm
