/- The small machine's logic, fifth text: what is said of functions is sound. -/
import Derived.Test.YtdbjloigfkckfaaGreatDoorHd4
namespace Go.Proofs.YtdbjloigfkckfaaGreatDoor.Vm
open Go.RowKit
set_option linter.unusedVariables false
set_option linter.unusedSimpArgs false

section
variable {P : Program}

/-- What there is when a summary applies. -/
structure Applied (P : Program) (s : Sum) (args : List Value) (S S' : VS) (r : CRes) where
  σ : List Nat
  obs : List VObj
  args1 : List Value
  objs1 : List VObj
  r1 : CRes
  objs2 : List VObj
  back : List VObj
  t : Tr VObj
  wr : List Nat
  news : List VObj
  hob : getAll (gt S.mem) σ = some obs
  harg : rnL (rnV (idxN σ) 6) args = some args1
  hnd : nodupB σ = true
  hfew : σ.length ≤ 262144
  hobs1 : All2 (fun o o' => ON (idxN σ) o o' ∧ o'.ro = o.ro ∧ o ≠ .dead ∧ o' ≠ .dead) obs objs1
  hspec : (s.spec args1 objs1).run = some (r1, objs2)
  hback : (backOs P (fun i => (σ ++ seqN S.next (objs2.length - σ.length))[i]?) obs objs2).run = some back
  hr : backR (fun i => (σ ++ seqN S.next (objs2.length - σ.length))[i]?) r1 = some r
  hlay : layOld σ obs back (S.mem, S.wr) = some (t, wr, news)
  hnew : layN news ⟨t, S.next, σ ++ S.rd, wr⟩ = some S'

theorem applied_of {s : Sum} {args : List Value} {S S' : VS} {r : CRes} (h : (applyS P s args S).run = some (r, S')) : Nonempty (Applied P s args S S' r) := by
  unfold applyS at h
  split at h
  · cases h
  · rename_i σ hσ
    split at h
    · rename_i obs args1 h1 h2 h3
      simp only [Bool.and_eq_true] at h3
      obtain ⟨objs1, h4, h⟩ := QT.run_bind h
      obtain ⟨⟨r1, objs2⟩, h5, h⟩ := QT.run_bind h
      obtain ⟨back, h6, h⟩ := QT.run_bind h
      dsimp only at h h6
      split at h
      · rename_i r' t wr news h7 h8
        split at h
        · rename_i S1 h9
          simp only [QT.run, Option.some.injEq, Prod.mk.injEq] at h
          obtain ⟨rfl, rfl⟩ := h
          exact ⟨⟨σ, obs, args1, objs1, r1, objs2, back, t, wr, news, h1, h2, h3.1, Nat.le_of_ble_eq_true h3.2, rnOs_ok h4, h5, h6, h7, h8, h9⟩⟩
        · cases h
      · cases h
    · cases h

theorem Applied.allSmall {s : Sum} {args : List Value} {S S' : VS} {r : CRes} (A : Applied P s args S S' r) : ∀ x ∈ A.σ, small x = true := fun x hx => by
  obtain ⟨i, hi⟩ := List.getElem?_of_mem hx
  obtain ⟨o, _, h⟩ := (getAll_ok A.hob).2 i x hi
  exact small_of_gt h

theorem Applied.ext {s : Sum} {args : List Value} {S S' : VS} {r : CRes} (A : Applied P s args S S' r) : Ext S S' := by
  obtain ⟨h1, h2, _, h4, h5, h6⟩ := layOld_ok A.hlay A.allSmall
  obtain ⟨e, hrd, _, _⟩ := layN_spec A.hnew
  refine Ext.trans (b := ⟨A.t, S.next, A.σ ++ S.rd, A.wr⟩) ⟨fun x hx => List.mem_append_right _ hx, h4, fun x hx => ?_, fun hS x hx => ?_⟩ e
  · show gt A.t x = gt S.mem x
    rw [h1, updO_other]
    intro i ob hi hob
    cases hro : ob.ro with
    | true => rfl
    | false => exact absurd (h6 i x ob hi hob hro) hx
  · rcases hx with hx | hx
    · rcases List.mem_append.1 hx with hx | hx
      · exact A.allSmall x hx
      · exact hS x (.inl hx)
    · rcases h5 x hx with hx | hx
      · exact hS x (.inr hx)
      · exact A.allSmall x hx

theorem Applied.call {f : FuncId} {s : Sum} (hs : FnOk P f s) {args : List Value} {S S' : VS} {r : CRes} (A : Applied P s args S S' r) {B : Nat → Prop} {w₀ : World} {ρ : Ren} {m : Nat → Option VObj} {w : World} {args' : Array Value}
    (ha : LR ρ args args'.toList) (hw : WR P B w₀ ρ m w) (hm : Agree S S' m) : Calls P f args' w fun e w' => ∃ ρ', ρ.le ρ' ∧ CR ρ' r e ∧ WR P B w₀ ρ' (post m S') w' := by
  obtain ⟨σ, obs, args1, objs1, r1, objs2, back, t, wr, news, hob, harg, hnd, hfew, hobs1, hspec, hback, hr, hlay, hnew⟩ := A
  have hA : Applied P s args S S' r := ⟨σ, obs, args1, objs1, r1, objs2, back, t, wr, news, hob, harg, hnd, hfew, hobs1, hspec, hback, hr, hlay, hnew⟩
  obtain ⟨hg1, hg2⟩ := getAll_ok hob
  have hsmall : ∀ x ∈ σ, small x = true := fun x hx => by
    obtain ⟨i, hi⟩ := List.getElem?_of_mem hx
    obtain ⟨o, _, h⟩ := hg2 i x hi
    exact small_of_gt h
  obtain ⟨l1, l2, ⟨olds, l3, l3'⟩, l4, l5, l6⟩ := layOld_ok hlay hsmall
  obtain ⟨e1, hrd, hfree, hpost⟩ := layN_spec hnew
  obtain ⟨b1, b2, b3⟩ := backOs_ok hback
  -- the caller's memory at the old names
  have hmσ : ∀ (i x : Nat), σ[i]? = some x → ∃ o, obs[i]? = some o ∧ m x = some o := fun i x hi => by
    obtain ⟨o, h1, h2⟩ := hg2 i x hi
    refine ⟨o, h1, ?_⟩
    rw [hm x (.inl (by rw [hrd]; exact List.mem_append_left _ (List.mem_of_getElem? hi)))]
    exact h2
  have hlen1 : objs1.length = σ.length := by rw [← hobs1.len, hg1]
  have hne : ∀ (i : Nat) (o : VObj), obs[i]? = some o → o ≠ .dead := fun i o hi => by
    obtain ⟨o', ho'⟩ : ∃ o', objs1[i]? = some o' := by
      have : i < objs1.length := by rw [← hobs1.len]; exact (List.getElem?_eq_some_iff.1 hi).1
      exact ⟨_, List.getElem?_eq_getElem this⟩
    obtain ⟨o2, h1, _, _, h2, _⟩ := hobs1.get ho'
    rw [hi] at h1
    cases h1
    exact h2
  have hρσ : ∀ (i x : Nat), σ[i]? = some x → ∃ q, ρ x = some q := fun i x hi => by
    obtain ⟨o, h1, h2⟩ := hmσ i x hi
    exact hw.named x o h2 (hne i o h1)
  -- the callee's names
  let ρ1 : Ren := fun x => match small x with
    | true => (σ[x]?).bind ρ
    | false => some (decW (x - 262144))
  have hs1 : ∀ x, small x = true → ρ1 x = (σ[x]?).bind ρ := fun x h => by show (match small x with | true => _ | false => _) = _; rw [h]
  have hs2 : ∀ x, small x = false → ρ1 x = some (decW (x - 262144)) := fun x h => by show (match small x with | true => _ | false => _) = _; rw [h]
  have hsmi : ∀ (i x : Nat), σ[i]? = some x → small i = true := fun i x h => small_iff.2 (by
    have : i < σ.length := (List.getElem?_eq_some_iff.1 h).1
    have : (2 : Nat) ^ 18 = 262144 := rfl
    omega)
  have hσρ : ∀ y i q, idxN σ y = some i → ρ y = some q → ρ1 i = some q := fun y i q h1 h2 => by
    have h3 := idxN_some h1
    rw [hs1 i (hsmi i y h3), h3]
    exact h2
  have hfull : Full ρ1 := fun q => by
    obtain ⟨n, h⟩ := decW_all q
    exact ⟨n + 262144, not_small n, by rw [hs2 _ (not_small n)]; simp [h]⟩
  let B1 : Nat → Prop := fun b => b < w.heap.size ∧ ∀ (i x : Nat) (o : VObj) (q : Where), σ[i]? = some x → obs[i]? = some o → ρ x = some q → o.ro = false → Live o q = true → q.blk ≠ b
  have hBB : ∀ b, B b → B1 b := fun b hb => ⟨hw.size b hb, fun i x o q h1 h2 h3 h4 h5 e => by
    obtain ⟨o', h6, h7⟩ := hmσ i x h1
    rw [h2] at h6
    cases h6
    obtain ⟨_, _, _, h8⟩ := hw.live x o q h7 h3 h5
    exact h8 h4 (e ▸ hb)⟩
  have hBm : ∀ b, B b → B1 b ∧ w.heap[b]? = w₀.heap[b]? := fun b hb => ⟨hBB b hb, hw.below.block b hb⟩
  have hobj : ∀ (i : Nat) (o' : VObj), objs1[i]? = some o' → ∃ x o, σ[i]? = some x ∧ obs[i]? = some o ∧ m x = some o ∧ ON (idxN σ) o o' ∧ o'.ro = o.ro := fun i o' hi => by
    obtain ⟨o, h1, h2, h3, _, _⟩ := hobs1.get hi
    have hlt : i < σ.length := by rw [← hlen1]; exact (List.getElem?_eq_some_iff.1 hi).1
    obtain ⟨o2, h4, h5⟩ := hmσ i _ (List.getElem?_eq_getElem hlt)
    rw [h1] at h4
    cases h4
    exact ⟨_, o, List.getElem?_eq_getElem hlt, h1, h5, h2, h3⟩
  have hmem1 : ∀ x o', memOf objs1 x = some o' → o' ≠ .dead → small x = true ∧ objs1[x]? = some o' := fun x o' hx hne => by
    cases hsx : small x with
    | true => rw [memOf_small hsx] at hx; exact ⟨rfl, hx⟩
    | false => rw [memOf_great hsx] at hx; cases hx; exact absurd rfl hne
  have hw1 : WR P B1 w ρ1 (memOf objs1) w :=
    { below := BelowK.refl _ _
      size := fun k hk => hk.1
      live := by
        intro x o' q hx hq hl
        obtain ⟨hsx, hx'⟩ := hmem1 x o' hx (by rintro rfl; cases hl)
        obtain ⟨y, o, h1, h2, h3, h4, h5⟩ := hobj x o' hx'
        rw [hs1 x hsx, h1] at hq
        have hq : ρ y = some q := hq
        obtain ⟨hl', _⟩ := h4.live hl
        obtain ⟨oo, h6, h7, h8⟩ := hw.live y o q h3 hq hl'
        exact ⟨oo, h6, h4.or hσρ hl oo h7, fun hro hb => hb.2 x y o q h1 h2 hq (h5 ▸ hro) hl' rfl⟩
      inj := by
        intro x y ox oy rx ry hx hy hrx hry hlx hly hd he
        obtain ⟨hsx, hx'⟩ := hmem1 x ox hx (by rintro rfl; cases hlx)
        obtain ⟨hsy, hy'⟩ := hmem1 y oy hy (by rintro rfl; cases hly)
        obtain ⟨a, oa, a1, a2, a3, a4, a5⟩ := hobj x ox hx'
        obtain ⟨b, ob, c1, c2, c3, c4, c5⟩ := hobj y oy hy'
        rw [hs1 x hsx, a1] at hrx
        rw [hs1 y hsy, c1] at hry
        have := hw.inj a b oa ob rx ry a3 c3 hrx hry (a4.live hlx).1 (c4.live hly).1 (hd.imp (fun h => a5 ▸ h) (fun h => c5 ▸ h)) he
        subst this
        exact nodupB_get hnd a1 c1
      fresh := by
        intro x hx
        cases hsx : small x with
        | true =>
          rw [memOf_small hsx] at hx
          rw [hs1 x hsx]
          have : σ[x]? = none := by
            rw [List.getElem?_eq_none_iff] at hx ⊢
            omega
          rw [this]; rfl
        | false => rw [memOf_great hsx] at hx; cases hx
      rows := by
        intro x n size row hx
        obtain ⟨hsx, hx'⟩ := hmem1 x _ hx (by intro e; cases e)
        obtain ⟨y, o, h1, h2, h3, h4, h5⟩ := hobj x _ hx'
        cases h4
        obtain ⟨q, h6, h7⟩ := hw.rows y n size row h3
        exact ⟨q, by rw [hs1 x hsx, h1]; exact h6, fun hn => (h7 hn).mono hBm⟩
      nil := by
        intro x el ro q hx hq
        obtain ⟨hsx, hx'⟩ := hmem1 x _ hx (by intro e; cases e)
        obtain ⟨y, o, h1, h2, h3, h4, h5⟩ := hobj x _ hx'
        rw [hs1 x hsx, h1] at hq
        have hq : ρ y = some q := hq
        cases h4 with
        | plain => exact hw.nil y el ro q h3 hq
        | cells c _ _ _ h =>
          cases c with
          | nil => exact hw.nil y el ro q h3 hq
          | cons v c => have := rnL_len h; simp at this
      named := by
        intro x o' hx hne'
        obtain ⟨hsx, hx'⟩ := hmem1 x o' hx hne'
        obtain ⟨y, o, h1, h2, h3, h4, h5⟩ := hobj x o' hx'
        obtain ⟨q, hq⟩ := hρσ x y h1
        exact ⟨q, by rw [hs1 x hsx, h1]; exact hq⟩ }
  have hnamed1 : ∀ x, x < objs1.length → ∃ q, ρ1 x = some q := fun x hx => by
    have hlt : x < σ.length := by omega
    obtain ⟨q, hq⟩ := hρσ x _ (List.getElem?_eq_getElem hlt)
    exact ⟨q, by rw [hs1 x (hsmi x _ (List.getElem?_eq_getElem hlt)), List.getElem?_eq_getElem hlt]; exact hq⟩
  have ha1 : LR ρ1 args1 args'.toList := rnL_ok (rnV_ok hσρ 6) harg ha
  refine (hs args1 objs1 r1 objs2 hspec B1 w ρ1 w args' hfull hnamed1 ha1 hw1).mono fun e w' he => ?_
  obtain ⟨r2, o2', ρ2, ⟨hr2, ho2⟩, hcr, hfull2, hw2, hfew2, hkeep⟩ := he
  rw [hr2] at hcr
  rw [ho2] at hw2 hfew2
  clear hr2 ho2 r2 o2'
  -- the caller's names behind the call
  let N : Nat := objs2.length - σ.length
  have hlenb : back.length = objs2.length := b1
  have hlenn : news.length = N := by
    have := congrArg List.length l3
    rw [List.length_append] at this
    show news.length = objs2.length - σ.length
    omega
  have hle : σ.length ≤ objs2.length := by omega
  let ρ' : Ren := fun y => if S.next ≤ y ∧ y < S.next + N then ρ2 (σ.length + (y - S.next)) else ρ y
  have hnone : ∀ j, j < N → m (S.next + j) = none := fun j hj => by
    obtain ⟨h1, h2⟩ := hfree j (by omega)
    have h1 : gt t (S.next + j) = none := h1
    have h2 : S.next + j ∈ S'.wr := h2
    rw [hm _ (.inr h2)]
    rw [l1, updO_other] at h1
    · exact h1
    · intro i ob hi hob
      cases hro : ob.ro with
      | true => rfl
      | false =>
        exfalso
        have hi' : i < back.length := by have := (List.getElem?_eq_some_iff.1 hi).1; omega
        rw [updO_same hnd hi hob (List.getElem?_eq_getElem hi') hro] at h1
        cases h1
  have hnin : ∀ (i x : Nat), σ[i]? = some x → ¬ (S.next ≤ x ∧ x < S.next + N) := fun i x hi hx => by
    obtain ⟨o, _, h2⟩ := hmσ i x hi
    have := hnone (x - S.next) (by omega)
    rw [show S.next + (x - S.next) = x by omega, h2] at this
    cases this
  have hρ'n : ∀ j, j < N → ρ' (S.next + j) = ρ2 (σ.length + j) := fun j hj => by
    show (if _ then _ else _) = _
    rw [if_pos ⟨by omega, by omega⟩, show S.next + j - S.next = j by omega]
  have hρ'o : ∀ y, ¬ (S.next ≤ y ∧ y < S.next + N) → ρ' y = ρ y := fun y hy => by
    show (if _ then _ else _) = _
    rw [if_neg hy]
  have hρ'σ : ∀ (i x : Nat), σ[i]? = some x → ρ' x = ρ2 i := fun i x hi => by
    have hlt : i < σ.length := (List.getElem?_eq_some_iff.1 hi).1
    rw [hρ'o x (hnin i x hi), hkeep i (by omega), hs1 i (hsmi i x hi), hi]
    rfl
  have hle' : ρ.le ρ' := fun y q hy => by
    by_cases hin : S.next ≤ y ∧ y < S.next + N
    · have := hw.fresh _ (hnone (y - S.next) (by omega))
      rw [show S.next + (y - S.next) = y by omega, hy] at this
      cases this
    · rw [hρ'o y hin, hy]
  let τ : Nat → Option Nat := fun i => (σ ++ seqN S.next (objs2.length - σ.length))[i]?
  have hτ : ∀ i y, τ i = some y → (σ[i]? = some y) ∨ (σ.length ≤ i ∧ i - σ.length < N ∧ y = S.next + (i - σ.length)) := fun i y h => by
    have h : (σ ++ seqN S.next N)[i]? = some y := h
    by_cases hi : i < σ.length
    · rw [List.getElem?_append_left hi] at h; exact .inl h
    · rw [List.getElem?_append_right (by omega), seqN_get] at h
      split at h
      · rename_i h3; cases h; exact .inr ⟨by omega, h3, rfl⟩
      · cases h
  have hτρ : ∀ i y q, τ i = some y → ρ2 i = some q → ρ' y = some q := fun i y q h1 h2 => by
    rcases hτ i y h1 with h3 | ⟨h3, h4, rfl⟩
    · rw [hρ'σ i y h3, h2]
    · rw [hρ'n _ h4, show σ.length + (i - σ.length) = i by omega, h2]
  have hcr' : CR ρ' r e := by
    unfold backR at hr
    split at hr
    · rename_i v
      split at hr
      · rename_i u hu
        cases hr
        cases e with
        | returned v' => exact rnV_ok hτρ 6 v u v' hu hcr
        | panicked chain => cases hcr
        | outgrown => cases hcr
      · cases hr
    · rename_i v
      split at hr
      · rename_i hfl
        cases hr
        cases e with
        | returned v' => cases hcr
        | panicked chain =>
          obtain ⟨v', h1, h2⟩ := hcr
          have := fl_inv hfl h2
          subst this
          exact ⟨v', h1, fl_refl hfl⟩
        | outgrown => cases hcr
      · cases hr
  -- the memory behind the call
  let m0 : Nat → Option VObj := updO m σ obs back
  have hm0 : Agree ⟨t, S.next, σ ++ S.rd, wr⟩ S' m0 := fun x hx => by
    show updO m σ obs back x = gt t x
    rw [l1]
    by_cases hex : ∃ (i : Nat) (ob : VObj), σ[i]? = some x ∧ obs[i]? = some ob ∧ ob.ro = false
    · obtain ⟨i, ob, h1, h2, h3⟩ := hex
      have hi' : i < back.length := by have := (List.getElem?_eq_some_iff.1 h1).1; omega
      rw [updO_same hnd h1 h2 (List.getElem?_eq_getElem hi') h3, updO_same hnd h1 h2 (List.getElem?_eq_getElem hi') h3]
    · have hall : ∀ (i : Nat) (ob : VObj), σ[i]? = some x → obs[i]? = some ob → ob.ro = true := fun i ob h1 h2 => by
        cases h3 : ob.ro with
        | true => rfl
        | false => exact absurd ⟨i, ob, h1, h2, h3⟩ hex
      rw [updO_other hall, updO_other hall]
      exact hm x hx
  have hpost' : post m S' = updN m0 S.next news := by
    have h1 := hpost m0 hm0
    have h1 : post m0 S' = updN m0 S.next news := h1
    rw [← h1]
    funext x
    unfold post
    by_cases hx : x ∈ S'.wr
    · rw [if_pos hx, if_pos hx]
    · rw [if_neg hx, if_neg hx]
      show m x = updO m σ obs back x
      rw [updO_other]
      intro i ob h1 h2
      cases h3 : ob.ro with
      | true => rfl
      | false => exact absurd (e1.wr x (l6 i x ob h1 h2 h3)) hx
  have hupN : ∀ (l : List VObj) (k j : Nat) (g : Nat → Option VObj), j < l.length → updN g k l (k + j) = l[j]? := by
    intro l
    induction l with
    | nil => intro k j g h; simp at h
    | cons o l ih =>
      intro k j g h
      cases j with
      | zero =>
        show updN (upd g k o) (k + 1) l (k + 0) = _
        rw [updN_other (.inl (by omega)), Nat.add_zero, upd_same]
        rfl
      | succ j =>
        show updN (upd g k o) (k + 1) l (k + (j + 1)) = _
        rw [show k + (j + 1) = k + 1 + j by omega, ih (k + 1) j _ (by simpa using h)]
        rfl
  -- each name of the caller's: another's, or one of the callee's
  have hname : ∀ y o, post m S' y = some o → (m y = some o ∧ ρ' y = ρ y ∧ ∀ (i : Nat) (ob : VObj), σ[i]? = some y → obs[i]? = some ob → ob.ro = true) ∨
      ∃ i o2, τ i = some y ∧ small i = true ∧ memOf objs2 i = some o2 ∧ ON τ o2 o ∧ o.ro = false ∧ o ≠ .dead ∧ ρ' y = ρ2 i := fun y o hy => by
    rw [hpost'] at hy
    by_cases hin : S.next ≤ y ∧ y < S.next + N
    · right
      have hj : y - S.next < news.length := by omega
      rw [show y = S.next + (y - S.next) by omega, hupN news _ _ _ hj] at hy
      have hbk : back[σ.length + (y - S.next)]? = some o := by
        rw [l3, List.getElem?_append_right (by omega), show σ.length + (y - S.next) - olds.length = y - S.next by omega]
        exact hy
      have hi : σ.length + (y - S.next) < objs2.length := by rw [← hlenb]; exact (List.getElem?_eq_some_iff.1 hbk).1
      obtain ⟨c1, c2, c3⟩ := b3 _ _ o (List.getElem?_eq_getElem hi) hbk (fun ob hob => by
        have := (List.getElem?_eq_some_iff.1 hob).1
        omega)
      have hsi : small (σ.length + (y - S.next)) = true := small_iff.2 (by have : (2 : Nat) ^ 18 = 262144 := rfl; omega)
      refine ⟨σ.length + (y - S.next), _, ?_, hsi, by rw [memOf_small hsi, List.getElem?_eq_getElem hi], c1, c2, c3, ?_⟩
      · show (σ ++ seqN S.next N)[σ.length + (y - S.next)]? = some y
        rw [List.getElem?_append_right (by omega), seqN_get, if_pos (by omega)]
        congr 1
        omega
      · have := hρ'n (y - S.next) (by omega)
        rwa [show S.next + (y - S.next) = y by omega] at this
    · rw [updN_other (by omega)] at hy
      have hy : updO m σ obs back y = some o := hy
      by_cases hex : ∃ (i : Nat) (ob : VObj), σ[i]? = some y ∧ obs[i]? = some ob ∧ ob.ro = false
      · right
        obtain ⟨i, ob, h1, h2, h3⟩ := hex
        have hi' : i < back.length := by have := (List.getElem?_eq_some_iff.1 h1).1; omega
        rw [updO_same hnd h1 h2 (List.getElem?_eq_getElem hi') h3] at hy
        have hbk : back[i]? = some o := by rw [List.getElem?_eq_getElem hi', ← hy]
        have hi2 : i < objs2.length := by omega
        obtain ⟨c1, c2, c3⟩ := b3 _ _ o (List.getElem?_eq_getElem hi2) hbk (fun ob' hob => by rw [h2] at hob; cases hob; exact h3)
        refine ⟨i, _, ?_, hsmi i y h1, by rw [memOf_small (hsmi i y h1), List.getElem?_eq_getElem hi2], c1, c2, c3, hρ'σ i y h1⟩
        show (σ ++ seqN S.next N)[i]? = some y
        rw [List.getElem?_append_left (List.getElem?_eq_some_iff.1 h1).1, h1]
      · left
        have hall : ∀ (i : Nat) (ob : VObj), σ[i]? = some y → obs[i]? = some ob → ob.ro = true := fun i ob h1 h2 => by
          cases h3 : ob.ro with
          | true => rfl
          | false => exact absurd ⟨i, ob, h1, h2, h3⟩ hex
        rw [updO_other hall] at hy
        exact ⟨hy, hρ'o y hin, hall⟩
  have hτinj : ∀ i j y, τ i = some y → τ j = some y → i = j := fun i j y h1 h2 => by
    rcases hτ i y h1 with h3 | ⟨h3, h4, h5⟩ <;> rcases hτ j y h2 with h6 | ⟨h6, h7, h8⟩
    · exact nodupB_get hnd h3 h6
    · exact absurd ⟨by omega, by omega⟩ (hnin i y h3)
    · exact absurd ⟨by omega, by omega⟩ (hnin j y h6)
    · omega
  have hold : ∀ y o q, m y = some o → ρ y = some q → Live o q = true → (∀ (i : Nat) (ob : VObj), σ[i]? = some y → obs[i]? = some ob → ob.ro = true) → B1 q.blk := fun y o q h1 h2 h3 h4 => by
    obtain ⟨oo, h5, _⟩ := hw.live y o q h1 h2 h3
    refine ⟨(Array.getElem?_eq_some_iff.1 h5).1, fun i x o' q' g1 g2 g3 g4 g5 e => ?_⟩
    obtain ⟨o2, g6, g7⟩ := hmσ i x g1
    rw [g2] at g6
    cases g6
    have := hw.inj x y o' o q' q g7 h1 g3 h2 g5 h3 (.inl g4) e
    subst this
    have := h4 i o' g1 g2
    rw [g4] at this
    cases this
  refine ⟨ρ', hle', hcr',
    { below := hw.below.trans ⟨hw2.below.os, hw2.below.tape, hw2.below.output, hw2.below.size, fun k hk => hw2.below.block k (hBB k hk)⟩
      size := fun k hk => Nat.lt_of_lt_of_le (hw.size k hk) hw2.below.size
      live := ?_, inj := ?_, fresh := ?_, rows := ?_, nil := ?_, named := ?_ }⟩
  · intro y o q hy hq hl
    rcases hname y o hy with ⟨h1, h2, h3⟩ | ⟨i, o2, h1, h2, h3, h4, h5, _, h6⟩
    · rw [h2] at hq
      obtain ⟨oo, g1, g2, g3⟩ := hw.live y o q h1 hq hl
      exact ⟨oo, by rw [hw2.below.block _ (hold y o q h1 hq hl h3)]; exact g1, g2.mono hle', g3⟩
    · rw [h6] at hq
      obtain ⟨oo, g1, g2, g3⟩ := hw2.live i o2 q h3 hq (h4.live hl).1
      exact ⟨oo, g1, h4.or hτρ hl oo g2, fun hro hb => g3 ((h4.live hl).2 hro) (hBB _ hb)⟩
  · intro x y ox oy rx ry hx hy hrx hry hlx hly hd he
    rcases hname x ox hx with ⟨h1, h2, h3⟩ | ⟨i, o2, h1, h2, h3, h4, h5, _, h6⟩ <;> rcases hname y oy hy with ⟨g1, g2, g3⟩ | ⟨j, o3, g1, g2, g3, g4, g5, _, g6⟩
    · rw [h2] at hrx
      rw [g2] at hry
      exact hw.inj x y ox oy rx ry h1 g1 hrx hry hlx hly hd he
    · rw [h2] at hrx
      rw [g6] at hry
      obtain ⟨_, _, _, g7⟩ := hw2.live j o3 ry g3 hry (g4.live hly).1
      exact absurd (hold x ox rx h1 hrx hlx h3) (he ▸ g7 ((g4.live hly).2 g5))
    · rw [h6] at hrx
      rw [g2] at hry
      obtain ⟨_, _, _, h7⟩ := hw2.live i o2 rx h3 hrx (h4.live hlx).1
      exact absurd (hold y oy ry g1 hry hly g3) (he ▸ h7 ((h4.live hlx).2 h5))
    · rw [h6] at hrx
      rw [g6] at hry
      have := hw2.inj i j o2 o3 rx ry h3 g3 hrx hry (h4.live hlx).1 (g4.live hly).1 (.inl ((h4.live hlx).2 h5)) he
      subst this
      rw [h1] at g1
      cases g1
      rfl
  · intro y hy
    by_cases hin : S.next ≤ y ∧ y < S.next + N
    · rw [hpost', show y = S.next + (y - S.next) by omega, hupN news _ _ _ (by omega)] at hy
      rw [List.getElem?_eq_none_iff] at hy
      omega
    · rw [hpost', updN_other (by omega)] at hy
      have hy : updO m σ obs back y = none := hy
      rw [hρ'o y hin]
      by_cases hex : ∃ (i : Nat) (ob : VObj), σ[i]? = some y ∧ obs[i]? = some ob ∧ ob.ro = false
      · obtain ⟨i, ob, h1, h2, h3⟩ := hex
        have hi' : i < back.length := by have := (List.getElem?_eq_some_iff.1 h1).1; omega
        rw [updO_same hnd h1 h2 (List.getElem?_eq_getElem hi') h3] at hy
        cases hy
      · rw [updO_other (fun i ob h1 h2 => by
          cases h3 : ob.ro with
          | true => rfl
          | false => exact absurd ⟨i, ob, h1, h2, h3⟩ hex)] at hy
        exact hw.fresh y hy
  · intro y n size row hy
    rcases hname y _ hy with ⟨h1, h2, h3⟩ | ⟨i, o2, h1, h2, h3, h4, h5, _, h6⟩
    · obtain ⟨q, g1, g2⟩ := hw.rows y n size row h1
      exact ⟨q, by rw [h2]; exact g1, g2⟩
    · cases h5
  · intro y el ro q hy hq
    rcases hname y _ hy with ⟨h1, h2, h3⟩ | ⟨i, o2, h1, h2, h3, h4, h5, _, h6⟩
    · rw [h2] at hq; exact hw.nil y el ro q h1 hq
    · rw [h6] at hq
      cases h4 with
      | plain => exact hw2.nil i el ro q h3 hq
      | cells c _ _ _ h =>
        cases c with
        | nil => exact hw2.nil i el ro q h3 hq
        | cons v c => have := rnL_len h; simp at this
  · intro y o hy hne'
    rcases hname y o hy with ⟨h1, h2, h3⟩ | ⟨i, o2, h1, h2, h3, h4, h5, _, h6⟩
    · rw [h2]; exact hw.named y o h1 hne'
    · rw [h6]; exact hw2.named i o2 h3 (h4.ne hne')
end

/-- A table of what is said of functions. -/
def callS (P : Program) (tbl : FuncId → Option Sum) (base : CallO) : CallO := fun f args S => match tbl f with
  | some s => (applyS P s args S).dt
  | none => base f args S
def callSV (P : Program) (tbl : FuncId → Option Sum) (base : CallF) : CallF := fun f args S => match tbl f with
  | some s => (applyS P s args S).run
  | none => base f args S
/-- Calls: as told, else by their code. -/
def callT (P : Program) (tbl : FuncId → Option Sum) (lf d : Nat) : CallO := callS P tbl (funO P (callS P tbl) lf d)

theorem callT_ok {P : Program} (hP : plainNames P = true) (hmix : P.follows .mixedOrders = true) {tbl : FuncId → Option Sum} (ht : ∀ f s, tbl f = some s → FnOk P f s) (lf d : Nat) : CallsOk P (callT P tbl lf d) := by
  have h1 : ∀ call, CallOk P call → CallOk P (callSV P tbl call) := fun call hc =>
    { ext := by
        intro f args S r S' h
        unfold callSV at h
        split at h
        · rename_i s hs
          obtain ⟨A⟩ := applied_of h
          exact A.ext
        · exact hc.ext h
      ok := by
        intro f args S r S' h B w₀ ρ m w args' ha hw hm
        unfold callSV at h
        split at h
        · rename_i s hs
          obtain ⟨A⟩ := applied_of h
          exact A.call (ht f s hs) ha hw hm
        · exact hc.ok h ha hw hm }
  have h2 : ∀ (c : CallO) (c' : CallF), (∀ f args S r, (c f args S).Has r → c' f args S = some r) → ∀ f args S r, (callS P tbl c f args S).Has r → callSV P tbl c' f args S = some r := by
    intro c c' hc f args S r h
    unfold callS at h
    unfold callSV
    split at h
    · exact QT.dt_has h
    · exact hc f args S r h
  exact ⟨callSV P tbl (funV P (callSV P tbl) lf d), h1 _ (funV_call hP hmix h1 lf d), h2 _ _ fun f args S r h => funO_ok P h2 lf h⟩
#print axioms callT_ok
end Go.Proofs.YtdbjloigfkckfaaGreatDoor.Vm
