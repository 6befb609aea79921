/- The small machine's logic, eighth text: blocks and loops at a place; tables of what is said. -/
import Derived.Test.YtdbjloigfkckfaaGreatDoorHd7
namespace Go.Proofs.YtdbjloigfkckfaaGreatDoor.Vm
open Go.RowKit
set_option linter.unusedVariables false
set_option linter.unusedSimpArgs false

theorem TriL.blockAt {P : Program} {n k : Nat} {L : List Code} {d : Desc} {Q : VEx → Desc → Prop} (i id : Nat) (hl : isBlock (L.drop i) = some id)
    (h : TriL P n k (flat2 (inner (L.drop i))) d (QB id (fun d' => TriL P n k (L.drop (i + 1)) d' Q) Q)) : TriL P n k (L.drop i) d Q :=
  TriL.block hl (by rw [List.tail_drop]; exact h)
theorem TriL.condAt {P : Program} {n k : Nat} {L : List Code} {d : Desc} {Q : VEx → Desc → Prop} (i : Nat) {c : Nat} {b : Bool} (hl : isCond (L.drop i) = some c) (hi : Nat.blt c n = true) (hv : slotOf d.sl c = some (.bool b))
    (h : TriL P n k (flat2 (arm b (L.drop i)) ++ L.drop (i + 1)) d Q) : TriL P n k (L.drop i) d Q :=
  TriL.cond hl hi hv (by rw [List.tail_drop]; exact h)

/-- What a loop comes to at its rounds' ends. -/
def QL {σ : Type} (I : σ → Desc) (μ : σ → Nat) (ok : σ → Prop) (s : σ) (Q : VEx → Desc → Prop) : VEx → Desc → Prop
  | .normal, d => ∃ s', ok s' ∧ μ s' < μ s ∧ d = I s'
  | x, d => Q x d
theorem TriL.loopAt {P : Program} {n k : Nat} {l : List Code} {Q : VEx → Desc → Prop} {σ : Type} (I : σ → Desc) (μ : σ → Nat) (ok : σ → Prop) (s₀ : σ) (hl : isLoop l = true) (h₀ : ok s₀)
    (h : ∀ s, ok s → TriL P n k (flat2 (inner l)) (I s) (QL I μ ok s Q)) : TriL P n k l (I s₀) Q :=
  TriL.loop I μ ok hl (fun s hs => (h s hs).mono fun x d hx => by cases x <;> exact hx) s₀ h₀

theorem QL.ret {σ : Type} {I : σ → Desc} {μ : σ → Nat} {ok : σ → Prop} {s : σ} {Q : VEx → Desc → Prop} {d : Desc} (h : Q .ret d) : QL I μ ok s Q .ret d := h
theorem QL.exit {σ : Type} {I : σ → Desc} {μ : σ → Nat} {ok : σ → Prop} {s : σ} {Q : VEx → Desc → Prop} {d : Desc} {j : Nat} (h : Q (.exit j) d) : QL I μ ok s Q (.exit j) d := h
theorem QL.panic {σ : Type} {I : σ → Desc} {μ : σ → Nat} {ok : σ → Prop} {s : σ} {Q : VEx → Desc → Prop} {d : Desc} {v : Value} (h : Q (.panic v) d) : QL I μ ok s Q (.panic v) d := h
theorem QL.next {σ : Type} {I : σ → Desc} {μ : σ → Nat} {ok : σ → Prop} {s : σ} {Q : VEx → Desc → Prop} (s' : σ) (h : ok s') (hm : μ s' < μ s) : QL I μ ok s Q .normal (I s') := ⟨s', h, hm, rfl⟩
theorem QL.to {σ : Type} {I : σ → Desc} {μ : σ → Nat} {ok : σ → Prop} {s : σ} {Q : VEx → Desc → Prop} {d : Desc} (s' : σ) (h : ok s') (hm : μ s' < μ s) (e : d = I s') : QL I μ ok s Q .normal d := ⟨s', h, hm, e⟩
theorem QB.ret {id : Nat} {N : Desc → Prop} {Q : VEx → Desc → Prop} {d : Desc} (h : Q .ret d) : QB id N Q .ret d := h
theorem QB.panic {id : Nat} {N : Desc → Prop} {Q : VEx → Desc → Prop} {d : Desc} {v : Value} (h : Q (.panic v) d) : QB id N Q (.panic v) d := h
theorem QB.normal {id : Nat} {N : Desc → Prop} {Q : VEx → Desc → Prop} {d : Desc} (h : N d) : QB id N Q .normal d := h
theorem QB.hit {id : Nat} {N : Desc → Prop} {Q : VEx → Desc → Prop} {d : Desc} (h : N d) : QB id N Q (.exit id) d := by
  unfold QB; dsimp only; rw [Nat.beq_refl]; exact h
theorem QB.miss {id j : Nat} {N : Desc → Prop} {Q : VEx → Desc → Prop} {d : Desc} (hj : Nat.beq j id = false) (h : Q (.exit j) d) : QB id N Q (.exit j) d := by
  unfold QB; dsimp only; rw [hj]; exact h
/-- Said of one call alone. -/
noncomputable def Sum.one (names : List Value → (Nat → Option VObj) → Option (List Nat)) (args : List Value) (objs : List VObj) (r : CRes) (out : List VObj) : Sum where
  names := names
  spec a o := .must (@decide (a = args ∧ o = objs) (Classical.propDecidable _)) (.done (r, out))
theorem FnOk.one {P : Program} {f : FuncId} {names : List Value → (Nat → Option VObj) → Option (List Nat)} {args : List Value} {objs : List VObj} {r : CRes} {out : List VObj} (h : FnT P f args objs fun r' o' => r' = r ∧ o' = out) :
    FnOk P f (Sum.one names args objs r out) := by
  intro a o r' o' hr
  obtain ⟨h1, h2⟩ := QT.run_must hr
  obtain ⟨rfl, rfl⟩ := @of_decide_eq_true _ (Classical.propDecidable _) h1
  cases h2
  exact h

/-- The blocks that arguments name. -/
def blkV : Nat → Value → List Nat
  | _, .pointer (some ⟨b, _, _⟩) => [b]
  | _, .slice (some ⟨b, _, _⟩) _ _ => [b]
  | _, .map (some b) => [b]
  | d + 1, .iface _ v => blkV d v
  | d + 1, .agg c => (c.toList.map (blkV d)).flatten
  | d + 1, .tuple c => (c.toList.map (blkV d)).flatten
  | d + 1, .func _ f c => (f.toList.map (blkV d)).flatten ++ (c.toList.map (blkV d)).flatten
  | _, _ => []
def dedup : List Nat → List Nat → List Nat
  | [], _ => []
  | x :: l, seen => match seen.any (Nat.beq x) with
    | true => dedup l seen
    | false => x :: dedup l (x :: seen)
def namesA (args : List Value) (_ : Nat → Option VObj) : Option (List Nat) := some (dedup ((args.map (blkV 6)).flatten) [])
theorem decide_cls {p : Prop} (h : p) : @decide p (Classical.propDecidable _) = true := by simp [h]

/-- A function without arguments that comes to a value without addresses. -/
theorem FnOk.closed {P : Program} {f : FuncId} {v : Value} (h : FnT P f [] [] fun r' o' => r' = .ret v ∧ o' = []) : FnOk P f ⟨namesA, fun a o => match a, o with
  | [], [] => .done (.ret v, [])
  | _, _ => .fail⟩ := by
  intro a o r' o' hr
  dsimp only at hr
  split at hr
  · cases hr; exact h
  · cases hr

/-- The same memory by new names. -/
theorem WR.named_anew {P : Program} {B : Nat → Prop} {w₀ w : World} {ρ : Ren} {m : Nat → Option VObj} (hfull : Full ρ) (hw : WR P B w₀ ρ m w) {bl : List (Nat × VObj)} (hbl : ∀ p ∈ bl, m p.1 = some p.2) {objs : List VObj} {k : Nat} (hk : ∀ x, x < k → ∃ r, ρ x = some r)
    (hkeep : keepOk k (bl.map (·.1)) 0 = true) (hnd : nodupB (bl.map (·.1)) = true) (hob : All2 (ON (idxN (bl.map (·.1)))) (bl.map (·.2)) objs) (hfew' : objs.length ≤ 262144) :
    ∃ ρ2 : Ren, Full ρ2 ∧ (∀ x, x < k → ρ2 x = ρ x) ∧ (∀ y i r, idxN (bl.map (·.1)) y = some i → ρ y = some r → ρ2 i = some r) ∧ WR P B w₀ ρ2 (memOf objs) w := by
  let σ : List Nat := bl.map (·.1)
  let ρ2 : Ren := fun x => match small x with
    | true => (σ[x]?).bind ρ
    | false => ρ x
  have hsm : ∀ x, small x = true → ρ2 x = (σ[x]?).bind ρ := fun x h => by show (match small x with | true => _ | false => _) = _; rw [h]
  have hgr : ∀ x, small x = false → ρ2 x = ρ x := fun x h => by show (match small x with | true => _ | false => _) = _; rw [h]
  have hlen : bl.length = objs.length := by have := hob.len; simpa using this
  have hfull2 : Full ρ2 := fun r => by
    obtain ⟨y, h1, h2⟩ := hfull r
    exact ⟨y, h1, by rw [hgr y h1]; exact h2⟩
  have hσsm : ∀ i y, σ[i]? = some y → small i = true := fun i y h => small_iff.2 (by
    have : i < σ.length := (List.getElem?_eq_some_iff.1 h).1
    have e : σ.length = bl.length := by simp [σ]
    have : (2 : Nat) ^ 18 = 262144 := rfl
    omega)
  have hσ : ∀ i y r, σ[i]? = some y → ρ y = some r → ρ2 i = some r := fun i y r h1 h2 => by rw [hsm i (hσsm i y h1), h1]; exact h2
  have hσ' : ∀ y i r, idxN σ y = some i → ρ y = some r → ρ2 i = some r := fun y i r h1 h2 => hσ i y r (idxN_some h1) h2
  refine ⟨ρ2, hfull2, fun x hx => ?_, hσ', ?_⟩
  · have := keepOk_get hkeep x hx
    rw [Nat.zero_add] at this
    obtain ⟨r, hr⟩ := hk x hx
    rw [hσ x x r this hr, hr]
  · have hbi : ∀ (i : Nat) (o : VObj), objs[i]? = some o → ∃ y ob, σ[i]? = some y ∧ m y = some ob ∧ ON (idxN σ) ob o := fun i o hi => by
      obtain ⟨ob, h1, h2⟩ := hob.get hi
      rw [List.getElem?_map] at h1
      cases hb : bl[i]? with
      | none => rw [hb] at h1; cases h1
      | some p =>
        rw [hb] at h1
        simp only [Option.map_some, Option.some.injEq] at h1
        subst h1
        exact ⟨p.1, p.2, by simp [σ, hb], hbl p (List.mem_of_getElem? hb), h2⟩
    refine hw.recast (fun x => match small x with
      | true => σ[x]?
      | false => none) (fun x o hx hne => ?_) (fun x y z hx hy => ?_) fun x hx => ?_
    · cases hs : small x with
      | false => rw [memOf_great hs] at hx; cases hx; exact absurd rfl hne
      | true =>
        rw [memOf_small hs] at hx
        obtain ⟨y, ob, h1, h2, h3⟩ := hbi x o hx
        refine ⟨y, ob, h1, h2, h3.ne hne, ?_, fun r hl => ⟨(h3.live hl).1, (h3.live hl).2, h3.or hσ' hl⟩, fun n size row e => ?_, fun el ro e => ?_⟩
        · rw [hsm x hs, h1]; rfl
        · subst e; cases h3; rfl
        · subst e
          cases h3 with
          | plain => rfl
          | cells c _ _ _ h =>
            cases c with
            | nil => rfl
            | cons v c => have := rnL_len h; simp at this
    · have key : ∀ q, (match small q with | true => σ[q]? | false => none) = some z → σ[q]? = some z := fun q hq => by
        cases hs : small q with
        | true => rw [hs] at hq; exact hq
        | false => rw [hs] at hq; cases hq
      exact nodupB_get hnd (key x hx) (key y hy)
    · cases hs : small x with
      | false => rw [memOf_great hs] at hx; cases hx
      | true =>
        rw [memOf_small hs] at hx
        rw [hsm x hs]
        have : σ[x]? = none := by
          rw [List.getElem?_eq_none_iff] at hx ⊢
          simp [σ]
          omega
        rw [this]
        rfl

/-- What a call leaves, without what nobody needs. -/
def trimT (k : Nat) (bs pl : List Nat) (r : CRes) (o : List VObj) : Option (CRes × List VObj × List (List Value)) := match getAll (fun x => o[x]?) bs with
  | none => none
  | some ob => match rnB pl (idxN bs) (bs.zip ob), backR (idxN bs) r, keepOk k bs 0 && nodupB bs && Nat.ble bs.length 262144 with
    | some (o', q), some r', true => some (r', o', q)
    | _, _, _ => none

theorem FnT.trim {P : Program} {f : FuncId} {args : List Value} {objs : List VObj} {Q Q' : CRes → List VObj → Prop} (h : FnT P f args objs Q)
    (ht : ∀ r o, Q r o → ∃ bs pl r' o' q, trimT objs.length bs pl r o = some (r', o', q) ∧ (∀ c ∈ q, c.all isScal = true) ∧ Q' r' o') : FnT P f args objs Q' := by
  intro B w₀ ρ w args' h1 h2 h3 h4
  refine (h B w₀ ρ w args' h1 h2 h3 h4).mono fun e w' he => ?_
  obtain ⟨r, o, ρ', hq, hcr, hfull, hw, hfew, hkeep⟩ := he
  obtain ⟨bs, pl, r', o', q, t1, t2, t3⟩ := ht r o hq
  unfold trimT at t1
  split at t1
  · cases t1
  · rename_i ob hob
    split at t1
    · rename_i o2 q2 r2 hr1 hr2 hc
      simp only [Option.some.injEq, Prod.mk.injEq] at t1
      obtain ⟨rfl, rfl, rfl⟩ := t1
      simp only [Bool.and_eq_true] at hc
      obtain ⟨⟨c1, c2⟩, c3⟩ := hc
      obtain ⟨g1, g2⟩ := getAll_ok hob
      have e1 : (bs.zip ob).map (·.1) = bs := by rw [List.map_fst_zip (by omega)]
      have hob2 := rnB_ok hr1 t2
      have hl : o2.length = bs.length := by rw [← hob2.len]; simp; omega
      have hsm : ∀ x ∈ bs, small x = true := fun x hx => by
        obtain ⟨i, hi⟩ := List.getElem?_of_mem hx
        obtain ⟨oo, _, h⟩ := g2 i x hi
        have : x < o.length := (List.getElem?_eq_some_iff.1 h).1
        exact small_iff.2 (by have : (2 : Nat) ^ 18 = 262144 := rfl; omega)
      obtain ⟨ρ2, k1, k2, k3, k4⟩ := WR.named_anew (bl := bs.zip ob) (objs := o2) (k := objs.length) hfull hw (fun p hp => by
        obtain ⟨i, hi⟩ := List.getElem?_of_mem hp
        rw [List.getElem?_zip_eq_some] at hi
        obtain ⟨oo, h5, h6⟩ := g2 i p.1 hi.1
        rw [hi.2] at h5
        cases h5
        rw [memOf_small (hsm p.1 (List.mem_of_getElem? hi.1))]
        exact h6) (fun x hx => by rw [hkeep x hx]; exact h2 x hx) (by rw [e1]; exact c1) (by rw [e1]; exact c2) (by rw [e1]; exact hob2) (by rw [hl]; exact Nat.le_of_ble_eq_true c3)
      rw [e1] at k3
      refine ⟨r2, o2, ρ2, t3, ?_, k1, k4, by rw [hl]; exact Nat.le_of_ble_eq_true c3, fun x hx => (k2 x hx).trans (hkeep x hx)⟩
      unfold backR at hr2
      split at hr2
      · rename_i v
        split at hr2
        · rename_i u hu
          cases hr2
          cases e with
          | returned v' => exact rnV_ok k3 6 v u v' hu hcr
          | panicked chain => cases hcr
          | outgrown => cases hcr
        · cases hr2
      · rename_i v
        split at hr2
        · rename_i hfl
          cases hr2
          cases e with
          | returned v' => cases hcr
          | panicked chain =>
            obtain ⟨v', h1, h2⟩ := hcr
            have := fl_inv hfl h2
            subst this
            exact ⟨v', h1, fl_refl hfl⟩
          | outgrown => cases hcr
        · cases hr2
    · cases t1

/-- The end of a function, trimmed. -/
def FinT (P : Program) (f : FuncId) (n k : Nat) (Q : CRes → List VObj → Prop) : VEx → Desc → Prop
  | .normal, d => ∃ vs l, (∀ u, (resV P (frU n u d.sl) (resC P f)).run (gt (vsOf d.objs).mem) = some (vs, l)) ∧ ∃ bs pl r' o' q, trimT k bs pl (.ret (resOf vs)) d.objs = some (r', o', q) ∧ (∀ c ∈ q, c.all isScal = true) ∧ Q r' o'
  | .ret, d => ∃ vs l, (∀ u, (resV P (frU n u d.sl) (resC P f)).run (gt (vsOf d.objs).mem) = some (vs, l)) ∧ ∃ bs pl r' o' q, trimT k bs pl (.ret (resOf vs)) d.objs = some (r', o', q) ∧ (∀ c ∈ q, c.all isScal = true) ∧ Q r' o'
  | _, _ => False
theorem FnT.ofT {P : Program} {f : FuncId} {n : Nat} {args : List Value} {objs : List VObj} {Q : CRes → List VObj → Prop}
    (hf : (((P.funcs[f]?).bind (·.body)).isSome && Nat.beq (slotsC P f) n && Nat.ble args.length n && Nat.ble n 1024 && Nat.ble objs.length 262144) = true)
    (h : TriL P n objs.length (flat2 (bodyC P f)) ⟨numb args 0, objs⟩ (FinT P f n objs.length Q)) : FnT P f args objs Q :=
  FnT.trim (Q := fun r o => ∃ bs pl r' o' q, trimT objs.length bs pl r o = some (r', o', q) ∧ (∀ c ∈ q, c.all isScal = true) ∧ Q r' o')
    (FnT.of hf (h.mono fun x d hx => by cases x <;> first | exact hx | exact hx.elim)) fun r o h => h
theorem FinT.ret {P : Program} {f n k : Nat} {Q : CRes → List VObj → Prop} {d : Desc} {vs : List Value} {l bs pl : List Nat} {r' : CRes} {o' : List VObj} {q : List (List Value)} (h : ∀ u, (resV P (frU n u d.sl) (resC P f)).run (gt (vsOf d.objs).mem) = some (vs, l))
    (ht : trimT k bs pl (.ret (resOf vs)) d.objs = some (r', o', q)) (hp : ∀ c ∈ q, c.all isScal = true) (hq : Q r' o') : FinT P f n k Q .ret d := ⟨vs, l, h, bs, pl, r', o', q, ht, hp, hq⟩
theorem FinT.normal {P : Program} {f n k : Nat} {Q : CRes → List VObj → Prop} {d : Desc} {vs : List Value} {l bs pl : List Nat} {r' : CRes} {o' : List VObj} {q : List (List Value)} (h : ∀ u, (resV P (frU n u d.sl) (resC P f)).run (gt (vsOf d.objs).mem) = some (vs, l))
    (ht : trimT k bs pl (.ret (resOf vs)) d.objs = some (r', o', q)) (hp : ∀ c ∈ q, c.all isScal = true) (hq : Q r' o') : FinT P f n k Q .normal d := ⟨vs, l, h, bs, pl, r', o', q, ht, hp, hq⟩
theorem pls_nil : ∀ c ∈ ([] : List (List Value)), c.all isScal = true := fun c h => by cases h
theorem pls_cons {c : List Value} {q : List (List Value)} (h : c.all isScal = true) (hq : ∀ c ∈ q, c.all isScal = true) : ∀ x ∈ c :: q, x.all isScal = true := fun x hx => by
  rcases List.mem_cons.1 hx with rfl | hx
  · exact h
  · exact hq x hx
end Go.Proofs.YtdbjloigfkckfaaGreatDoor.Vm
