/- The small machine's logic, third text: triples of code. -/
import Derived.Test.YtdbjloigfkckfaaGreatDoorHd2
import Derived.LoopN
namespace Go.Proofs.YtdbjloigfkckfaaGreatDoor.Vm
open Go.RowKit
set_option linter.unusedVariables false
set_option linter.unusedSimpArgs false

/- Pieces of code one behind the other. -/
def flat2 : Code → List Code
  | .seq a b => flat2 a ++ flat2 b
  | c => [c]
def wpL (P : Program) : List Code → (Exit → Act → World → Prop) → Act → World → Prop
  | [], Q, a, w => Q .normal a w
  | c :: l, Q, a, w => c.wp P (Exit.then (wpL P l Q) Q) a w

theorem wpL_mono {P : Program} : ∀ {l : List Code} {Q Q' : Exit → Act → World → Prop} {a : Act} {w : World}, wpL P l Q a w → (∀ e a w, Q e a w → Q' e a w) → wpL P l Q' a w
  | [], Q, Q', a, w, h, hq => hq _ _ _ h
  | c :: l, Q, Q', a, w, h, hq => wp_mono h fun e a w he => by
    cases e with
    | normal => exact wpL_mono he hq
    | _ => exact hq _ _ _ he
theorem wpL_append {P : Program} : ∀ {l l' : List Code} {Q : Exit → Act → World → Prop} {a : Act} {w : World}, wpL P l (Exit.then (wpL P l' Q) Q) a w → wpL P (l ++ l') Q a w
  | [], l', Q, a, w, h => h
  | c :: l, l', Q, a, w, h => wp_mono h fun e a w he => by
    cases e with
    | normal => exact wpL_append he
    | _ => exact he
theorem wp_of_flat {P : Program} : ∀ {c : Code} {Q : Exit → Act → World → Prop} {a : Act} {w : World}, wpL P (flat2 c) Q a w → c.wp P Q a w := by
  intro c
  induction c with
  | seq a b iha ihb =>
    intro Q t w h
    have h : wpL P (flat2 a ++ flat2 b) Q t w := h
    refine wp_seq (iha ?_)
    -- take apart what stands one behind the other
    have key : ∀ (l l' : List Code) (Q : Exit → Act → World → Prop) (t : Act) (w : World), wpL P (l ++ l') Q t w → wpL P l (Exit.then (wpL P l' Q) Q) t w := by
      intro l
      induction l with
      | nil => intro l' Q t w h; exact h
      | cons c l ih =>
        intro l' Q t w h
        refine wp_mono (show c.wp P (Exit.then (wpL P (l ++ l') Q) Q) t w from h) fun e t w he => ?_
        cases e with
        | normal => exact ih l' Q t w he
        | _ => exact he
    refine wpL_mono (key _ _ _ _ _ h) fun e t w he => ?_
    cases e with
    | normal => exact ihb he
    | _ => exact he
  | _ =>
    intro Q t w h
    refine wp_mono (show Code.wp P _ (Exit.then (wpL P [] Q) Q) t w from h) fun e t w he => ?_
    cases e <;> exact he

def codesO (P : Program) (call : CallO) (lf : Nat) : List Code → Fr → VS → DT (VEx × Fr × VS)
  | [], t, S => .done (.normal, t, S)
  | c :: l, t, S => (codeO P call lf false c t S).bind fun p => match p.1 with
    | .normal => codesO P call lf l p.2.1 p.2.2
    | _ => .done p
def codesV (P : Program) (call : CallF) (lf : Nat) : List Code → Fr → VS → Option (VEx × Fr × VS)
  | [], t, S => some (.normal, t, S)
  | c :: l, t, S => match codeV P call lf false c t S with
    | some (.normal, t1, S1) => codesV P call lf l t1 S1
    | r => r

/-- Calls that are told by questions. -/
structure CallsOk (P : Program) (cO : CallO) : Prop where
  ex : ∃ cV : CallF, CallOk P cV ∧ ∀ f args S r, (cO f args S).Has r → cV f args S = some r

theorem codesO_ok {P : Program} {callO : CallO} {call : CallF} (hc : ∀ f args S r, (callO f args S).Has r → call f args S = some r) (lf : Nat) : ∀ {l : List Code} {t : Fr} {S : VS} {r : VEx × Fr × VS},
    (codesO P callO lf l t S).Has r → codesV P call lf l t S = some r
  | [], t, S, r, h => by rw [DT.has_done h]; rfl
  | c :: l, t, S, r, h => by
    unfold codesO at h
    obtain ⟨p, h1, h2⟩ := DT.has_bind h
    obtain ⟨e, t1, S1⟩ := p
    unfold codesV
    rw [codeO_ok P hc lf h1]
    cases e with
    | normal => exact codesO_ok hc lf h2
    | exit id => rw [DT.has_done h2]
    | ret => rw [DT.has_done h2]
    | panic v => rw [DT.has_done h2]

theorem codesV_ext {P : Program} {call : CallF} (hc : CallOk P call) (lf : Nat) : ∀ {l : List Code} {t t1 : Fr} {S S1 : VS} {x : VEx}, codesV P call lf l t S = some (x, t1, S1) → Ext S S1
  | [], t, t1, S, S1, x, h => by
    simp only [codesV, Option.some.injEq, Prod.mk.injEq] at h
    obtain ⟨_, _, rfl⟩ := h
    exact Ext.refl S
  | c :: l, t, t1, S, S1, x, h => by
    unfold codesV at h
    split at h
    · rename_i t2 S2 hx
      exact (codeV_ext hc lf hx).trans (codesV_ext hc lf h)
    · exact codeV_ext hc lf h

theorem codesV_ok {P : Program} (hP : plainNames P = true) (hmix : P.follows .mixedOrders = true) {call : CallF} (hc : CallOk P call) (lf : Nat) : ∀ {l : List Code} {t t1 : Fr} {S S1 : VS} {x : VEx}, codesV P call lf l t S = some (x, t1, S1) →
    ∀ {B : Nat → Prop} {w₀ : World} {ρ : Ren} {m : Nat → Option VObj} {w : World} {a : Act}, FR ρ t a → WR P B w₀ ρ m w → Agree S S1 m →
    ∀ {Q : Exit → Act → World → Prop}, (∀ (ρ' : Ren) (e : Exit) (a' : Act) (w' : World), ρ.le ρ' → XR ρ' x e → FR ρ' t1 a' → WR P B w₀ ρ' (post m S1) w' → Q e a' w') → wpL P l Q a w
  | [], t, t1, S, S1, x, h, B, w₀, ρ, m, w, a, ht, hw, hm, Q, hQ => by
    simp only [codesV, Option.some.injEq, Prod.mk.injEq] at h
    obtain ⟨rfl, rfl, rfl⟩ := h
    exact hQ ρ _ a w (Ren.le_refl ρ) .normal ht (by rw [post_self hm]; exact hw)
  | c :: l, t, t1, S, S1, x, h, B, w₀, ρ, m, w, a, ht, hw, hm, Q, hQ => by
    unfold codesV at h
    split at h
    · rename_i t2 S2 hx
      have e2 := codesV_ext hc lf h
      refine (wpIn_wide (n := 0)).1 (codeV_ok hP hmix hc lf (r := none) (fun h => by cases h) c hx ht hw (hm.first e2) fun ρ' e a' w' hle hxr hfr hwr => ?_)
      cases hxr
      refine codesV_ok hP hmix hc lf h hfr hwr (hm.next (codeV_ext hc lf hx)) fun ρ2 e2' a2 w2 hle2 hx2 hfr2 hwr2 => ?_
      rw [post_post e2] at hwr2
      exact hQ ρ2 e2' a2 w2 (Ren.le_trans hle hle2) hx2 hfr2 hwr2
    · rename_i hne
      refine (wpIn_wide (n := 0)).1 (codeV_ok hP hmix hc lf (r := none) (fun h => by cases h) c h ht hw hm fun ρ' e a' w' hle hxr hfr hwr => ?_)
      cases hxr with
      | normal => exact absurd h (hne _ _)
      | _ => exact hQ ρ' _ a' w' hle (by constructor <;> assumption) hfr hwr

/-- What pieces of code come to: how they end, some slots, some blocks. -/
abbrev Ends := VEx × List Value × List (Nat × VObj)
def collectC : List Nat → VS → Option (List (Nat × VObj))
  | [], _ => some []
  | x :: l, S => match gt S.mem x, collectC l S with
    | some o, some r => some ((x, o) :: r)
    | _, _ => none
theorem collectC_ok : ∀ {bs : List Nat} {S : VS} {r : List (Nat × VObj)}, collectC bs S = some r → ∀ p ∈ r, gt S.mem p.1 = some p.2
  | [], S, r, h, p, hp => by
    simp only [collectC, Option.some.injEq] at h
    rw [← h] at hp
    cases hp
  | x :: l, S, r, h, p, hp => by
    unfold collectC at h
    split at h
    · rename_i o r' h1 h3
      simp only [Option.some.injEq] at h
      rw [← h] at hp
      rcases List.mem_cons.1 hp with rfl | hp
      · exact h1
      · exact collectC_ok h3 p hp
    · cases h

def DT.outC (x : DT (VEx × Fr × VS)) (s : Scr) (nn : Nat) (sl bs : List Nat) : Option (Ends × List (Bool × Bool)) := match x.go s with
  | some ((e, t, S), o) => match collectC bs S, Nat.beq t.n nn && t.ds.isEmpty && t.base.isEmpty with
    | some l, true => some ((e, sl.map t.at, l), o)
    | _, _ => none
  | none => none
/-- nn: how many slots. -/
def DoesC (x : DT (VEx × Fr × VS)) (nn : Nat) (sl : List Nat) (r : Ends) : Prop := ∃ t S, x.Has (r.1, t, S) ∧ sl.map t.at = r.2.1 ∧ (∀ p ∈ r.2.2, gt S.mem p.1 = some p.2) ∧ t.n = nn ∧ t.ds = [] ∧ t.base = []
theorem out_doesC {x : DT (VEx × Fr × VS)} {s : Scr} {nn : Nat} {sl bs : List Nat} {r : Ends} {o : List (Bool × Bool)} (h : x.outC s nn sl bs = some (r, o)) (ho : ∀ p ∈ o, p.1 = p.2) : DoesC x nn sl r := by
  unfold DT.outC at h
  split at h
  · rename_i e t S o' hg
    split at h
    · rename_i l hc hn
      simp only [Option.some.injEq, Prod.mk.injEq] at h
      obtain ⟨rfl, rfl⟩ := h
      simp only [Bool.and_eq_true] at hn
      exact ⟨t, S, DT.go_has hg ho, rfl, collectC_ok hc, Nat.eq_of_beq_eq_true hn.1.1, List.isEmpty_iff.1 hn.1.2, List.isEmpty_iff.1 hn.2⟩
    · cases h
  · cases h
theorem obs_nil : ∀ p ∈ ([] : List (Bool × Bool)), p.1 = p.2 := fun p h => by cases h
theorem obs_cons {d b : Bool} {l : List (Bool × Bool)} (h : d = b) (hl : ∀ p ∈ l, p.1 = p.2) : ∀ p ∈ (d, b) :: l, p.1 = p.2 := fun p hp => by
  rcases List.mem_cons.1 hp with rfl | hp
  · exact h
  · exact hl p hp

/-- Triples: wherever d holds, the pieces of code come to an end x and a d' of Q. -/
def TriL (P : Program) (n k : Nat) (l : List Code) (d : Desc) (Q : VEx → Desc → Prop) : Prop :=
  ∀ (X : Ctx), X.n = n → X.k = k → ∀ (a : Act) (w : World), Holds P X d a w → wpL P l (fun e a' w' => ∃ x d', Q x d' ∧ XR (fun _ => none) x e ∧ Holds P X d' a' w') a w

theorem TriL.mono {P : Program} {n k : Nat} {l : List Code} {d : Desc} {Q Q' : VEx → Desc → Prop} (h : TriL P n k l d Q) (hq : ∀ x d', Q x d' → Q' x d') : TriL P n k l d Q' :=
  fun X hn hk a w hd => wpL_mono (h X hn hk a w hd) fun e a w ⟨x, d', h1, h2, h3⟩ => ⟨x, d', hq x d' h1, h2, h3⟩

theorem TriL.nil {P : Program} {n k : Nat} {d : Desc} {Q : VEx → Desc → Prop} (h : Q .normal d) : TriL P n k [] d Q := fun X hn hk a w hd => ⟨.normal, d, h, .normal, hd⟩

def flatX : VEx → Bool
  | .panic v => fl v
  | _ => true

/-- Pieces that the machine runs, and what stands behind them. -/
theorem TriL.piece {P : Program} (hP : plainNames P = true) (hmix : P.follows .mixedOrders = true) {cO : CallO} (hc : CallsOk P cO) {lf n k m : Nat} {l : List Code} {d d' : Desc} {sl : List Nat} {x : VEx} {vals : List Value} {bl : List (Nat × VObj)}
    (h : ∀ u, DoesC (codesO P cO lf (l.take m) (frU n u d.sl) (vsOf d.objs)) n sl (x, vals, bl))
    (hcl : (keepOk k (bl.map (·.1)) 0 && nodupB (bl.map (·.1)) && sl.all (fun i => Nat.blt i n) && Nat.ble d'.objs.length 262144 && flatX x) = true)
    (hvs : rnS (idxN (bl.map (·.1))) sl vals = some d'.sl) (hob : All2 (ON (idxN (bl.map (·.1)))) (bl.map (·.2)) d'.objs) {Q : VEx → Desc → Prop}
    (hQ : match x with
      | .normal => TriL P n k (l.drop m) d' Q
      | x => Q x d') : TriL P n k l d Q := by
  intro X hn hk a w hd
  obtain ⟨ρ, u, hd⟩ := hd
  subst hn hk
  simp only [Bool.and_eq_true] at hcl
  obtain ⟨⟨⟨⟨hkeep, hnd⟩, hsln⟩, hfew⟩, hfx⟩ := hcl
  obtain ⟨t1, S1, h1, h2, h3, h4, h4d, h4b⟩ := h u
  obtain ⟨cV, hcV, hcO⟩ := hc.ex
  have hv := codesO_ok hcO lf h1
  have he := codesV_ext hcV lf hv
  have hsm := he.sm (fun x hx => by rcases hx with hx | hx <;> cases hx)
  have hag : Agree (vsOf d.objs) S1 (memOf d.objs) := fun x hx => by rw [memOf_small (hsm x hx), gt_vsOf hd.few]
  rw [← List.take_append_drop m l]
  refine wpL_append (codesV_ok hP hmix hcV lf hv hd.fr hd.mem hag fun ρ' e a' w' hle hxr hfr hwr => ?_)
  have hh : Holds P X d' a' w' := Holds.of_raw hd.full hle hd.kept hfr h4 h4d h4b hwr h2 (fun p hp => by
    have hg := h3 p hp
    unfold post
    by_cases hx : p.1 ∈ S1.wr
    · rw [if_pos hx, hg]
    · rw [if_neg hx, memOf_small (small_of_gt hg), ← gt_vsOf hd.few, ← he.frame p.1 hx, hg]) hkeep hnd hvs hob hsln hfew
  cases x with
  | normal => cases hxr; exact hQ X rfl rfl a' w' hh
  | exit id => cases hxr; exact ⟨.exit id, d', hQ, .exit id, hh⟩
  | ret => cases hxr; exact ⟨.ret, d', hQ, .ret, hh⟩
  | panic v =>
    cases hxr with
    | panic _ v' hv =>
      have := fl_inv hfx hv
      subst this
      exact ⟨.panic v', d', hQ, .panic _ _ (fl_refl hfx), hh⟩

/-- A block, a loop at the head. -/
def inner : List Code → Code
  | .block _ c :: _ => c
  | .loop c :: _ => c
  | .scope c :: _ => c
  | _ => .skip
def isBlock : List Code → Option Nat
  | .block id _ :: _ => some id
  | _ => none
def isLoop : List Code → Bool
  | .loop _ :: _ => true
  | _ => false

def QB (id : Nat) (N : Desc → Prop) (Q : VEx → Desc → Prop) : VEx → Desc → Prop
  | .normal, d => N d
  | .exit j, d => match Nat.beq j id with
    | true => N d
    | false => Q (.exit j) d
  | x, d => Q x d

theorem TriL.block {P : Program} {n k id : Nat} {l : List Code} {d : Desc} {Q : VEx → Desc → Prop} (hl : isBlock l = some id) (h : TriL P n k (flat2 (inner l)) d (QB id (fun d' => TriL P n k l.tail d' Q) Q)) : TriL P n k l d Q := by
  intro X hn hk a w hd
  unfold isBlock at hl
  split at hl
  · rename_i id' c l'
    cases hl
    refine wp_block (wp_mono (wp_of_flat (h X hn hk a w hd)) fun e a' w' he => ?_)
    obtain ⟨x, d', h1, h2, h3⟩ := he
    cases h2 with
    | normal => exact h1 X hn hk a' w' h3
    | exit j =>
      by_cases hj : j = id
      · subst hj
        simp only [QB, Nat.beq_refl] at h1
        simp only [Exit.inBlock, if_true]
        exact h1 X hn hk a' w' h3
      · have hb : Nat.beq j id = false := by
          cases hb : Nat.beq j id with
          | false => rfl
          | true => exact absurd (Nat.eq_of_beq_eq_true hb) hj
        simp only [QB, hb] at h1
        simp only [Exit.inBlock, hj, if_false]
        exact ⟨_, d', h1, .exit j, h3⟩
    | ret => exact ⟨_, d', h1, .ret, h3⟩
    | panic v v' hv => exact ⟨_, d', h1, .panic v v' hv, h3⟩
  · cases hl

/-- A loop: an invariant, and what falls. -/
theorem TriL.loop {P : Program} {n k : Nat} {l : List Code} {Q : VEx → Desc → Prop} {σ : Type} (I : σ → Desc) (μ : σ → Nat) (ok : σ → Prop) (hl : isLoop l = true)
    (h : ∀ s, ok s → TriL P n k (flat2 (inner l)) (I s) (fun x d' => match x with
      | .normal => ∃ s', ok s' ∧ μ s' < μ s ∧ d' = I s'
      | x => Q x d')) : ∀ s, ok s → TriL P n k l (I s) Q := by
  intro s hs X hn hk a w hd
  unfold isLoop at hl
  split at hl
  · rename_i c l'
    have key : ∀ m s a w, ok s → μ s ≤ m → Holds P X (I s) a w → Code.rounds P c (Exit.then (wpL P l' fun e a' w' => ∃ x d', Q x d' ∧ XR (fun _ => none) x e ∧ Holds P X d' a' w') fun e a' w' => ∃ x d', Q x d' ∧ XR (fun _ => none) x e ∧ Holds P X d' a' w') (m + 1) a w := by
      intro m
      induction m with
      | zero =>
        intro s a w hs hm hd
        rw [rounds_succ]
        refine wp_mono (wp_of_flat (h s hs X hn hk a w hd)) fun e a' w' he => ?_
        obtain ⟨x, d', h1, h2, h3⟩ := he
        cases h2 with
        | normal => obtain ⟨s', _, hlt, _⟩ := h1; omega
        | exit j => exact ⟨_, d', h1, .exit j, h3⟩
        | ret => exact ⟨_, d', h1, .ret, h3⟩
        | panic v v' hv => exact ⟨_, d', h1, .panic v v' hv, h3⟩
      | succ m ih =>
        intro s a w hs hm hd
        rw [rounds_succ]
        refine wp_mono (wp_of_flat (h s hs X hn hk a w hd)) fun e a' w' he => ?_
        obtain ⟨x, d', h1, h2, h3⟩ := he
        cases h2 with
        | normal =>
          obtain ⟨s', hs', hlt, rfl⟩ := h1
          exact ih s' a' w' hs' (by omega) h3
        | exit j => exact ⟨_, d', h1, .exit j, h3⟩
        | ret => exact ⟨_, d', h1, .ret, h3⟩
        | panic v v' hv => exact ⟨_, d', h1, .panic v v' hv, h3⟩
    exact wp_loop_rounds _ (key _ s a w hs (Nat.le_refl _) hd)
  · cases hl

/-- A condition at the head. -/
def isCond : List Code → Option Nat
  | .cond (.tmp i) _ _ :: _ => some i
  | _ => none
def arm (b : Bool) : List Code → Code
  | .cond _ x y :: _ => if b then x else y
  | _ => .skip
def slotOf : List (Nat × Value) → Nat → Option Value
  | [], _ => none
  | p :: l, i => match slotOf l i with
    | some v => some v
    | none => match Nat.beq p.1 i with
      | true => some p.2
      | false => none

theorem valsU_get {n : Nat} {u : Nat → Value} : ∀ (l : List (Nat × Value)) (L : List Value) (i : Nat) (v : Value), slotOf l i = some v → i < L.length → (l.foldl (fun L p => L.set p.1 p.2) L)[i]? = some v
  | [], L, i, v, h, hi => by cases h
  | p :: l, L, i, v, h, hi => by
    rw [List.foldl_cons]
    unfold slotOf at h
    split at h
    · rename_i v' hv
      cases h
      exact valsU_get (n := n) (u := u) l _ i v hv (by simpa using hi)
    · rename_i hn
      split at h
      · rename_i hb
        cases h
        have hb := Nat.eq_of_beq_eq_true hb
        subst hb
        have key : ∀ (l : List (Nat × Value)) (L : List Value) (i : Nat), slotOf l i = none → (l.foldl (fun L p => L.set p.1 p.2) L)[i]? = L[i]? := by
          intro l
          induction l with
          | nil => intro L i _; rfl
          | cons q l ih =>
            intro L i h
            rw [List.foldl_cons]
            unfold slotOf at h
            split at h
            · cases h
            · rename_i h'
              rw [ih _ _ h']
              split at h
              · cases h
              · rename_i hb
                rw [List.getElem?_set_ne]
                intro e
                rw [e, Nat.beq_refl] at hb
                cases hb
        rw [key l _ _ hn, List.getElem?_set_self hi]
      · cases h

theorem frU_at {n : Nat} {u : Nat → Value} {l : List (Nat × Value)} {i : Nat} {v : Value} (hn : n ≤ 1024) (hi : i < n) (h : slotOf l i = some v) : (frU n u l).at i = v := by
  have hlen : (valsU n u l).length = n := by unfold valsU; rw [foldset_len]; simp
  have := valsU_get (n := n) (u := u) l ((List.range n).map u) i v h (by simpa using hi)
  unfold frU frOf Fr.at
  dsimp only
  rw [blt_iff.2 (by omega)]
  dsimp only
  rw [Fr.sets_get (by omega) (by omega), if_pos (by omega), Nat.sub_zero]
  have : (valsU n u l)[i]? = some v := this
  rw [this]

theorem TriL.cond {P : Program} {n k i : Nat} {l : List Code} {d : Desc} {Q : VEx → Desc → Prop} {b : Bool} (hl : isCond l = some i) (hi : Nat.blt i n = true) (hv : slotOf d.sl i = some (.bool b))
    (h : TriL P n k (flat2 (arm b l) ++ l.tail) d Q) : TriL P n k l d Q := by
  intro X hn hk a w hd
  unfold isCond at hl
  split at hl
  · rename_i i' x y l'
    simp only [Option.some.injEq] at hl
    subst hl
    have h0 : wpL P (flat2 (if b then x else y) ++ l') _ a w := h X hn hk a w hd
    obtain ⟨ρ, u, hd⟩ := hd
    subst hn
    have hsm := hd.fr.small
    have hnl : (frU X.n u d.sl).n = X.n := by show (valsU X.n u d.sl).length = _; unfold valsU; rw [foldset_len]; simp
    have hev : a.eval (.tmp i') = .bool b := hd.fr.evalBool (c := .tmp i') (frU_at (by omega) (blt_iff.1 hi) hv)
    have key : ∀ (l l' : List Code) (Q : Exit → Act → World → Prop) (t : Act) (w : World), wpL P (l ++ l') Q t w → wpL P l (Exit.then (wpL P l' Q) Q) t w := by
      intro l
      induction l with
      | nil => intro l' Q t w h; exact h
      | cons c l ih =>
        intro l' Q t w h
        refine wp_mono (show c.wp P (Exit.then (wpL P (l ++ l') Q) Q) t w from h) fun e t w he => ?_
        cases e with
        | normal => exact ih l' Q t w he
        | _ => exact he
    have h2 := wp_of_flat (key _ _ _ _ _ h0)
    cases b with
    | true => exact wp_cond_true hev h2
    | false => exact wp_cond_false hev h2
  · cases hl
end Go.Proofs.YtdbjloigfkckfaaGreatDoor.Vm
