/- The small machine's logic, second text: what holds of a frame and a memory; triples. -/
import Derived.Test.YtdbjloigfkckfaaGreatDoorHd1
namespace Go.Proofs.YtdbjloigfkckfaaGreatDoor.Vm
open Go.RowKit
set_option linter.unusedVariables false
set_option linter.unusedSimpArgs false

/- A memory of some blocks: 0, 1, .. -/
def setsO : List VObj → Nat → Tr VObj → Tr VObj
  | [], _, t => t
  | o :: l, i, t => setsO l (i + 1) (Tr.set 18 t i o)
def vsOf (l : List VObj) : VS := ⟨setsO l 0 .nil, l.length, [], []⟩
theorem setsO_gt : ∀ (l : List VObj) (i : Nat) (t : Tr VObj) (x : Nat), i + l.length ≤ 262144 → gt (setsO l i t) x = if i ≤ x ∧ x < i + l.length then l[x - i]? else gt t x
  | [], i, t, x, h => by
    rw [if_neg (by simp only [List.length_nil]; omega)]; rfl
  | o :: l, i, t, x, h => by
    simp only [List.length_cons] at h
    show gt (setsO l (i + 1) (Tr.set 18 t i o)) x = _
    rw [setsO_gt l (i + 1) _ x (by omega), gt_set (small_iff.2 (by omega))]
    simp only [List.length_cons]
    by_cases h1 : x = i
    · subst h1
      rw [if_neg (by omega), upd_same, if_pos (by omega), Nat.sub_self]; rfl
    · rw [upd_other _ h1]
      by_cases h2 : i ≤ x ∧ x < i + (l.length + 1)
      · rw [if_pos (by omega), if_pos h2, show x - i = x - (i + 1) + 1 by omega]; rfl
      · rw [if_neg (by omega), if_neg h2]
theorem gt_nil (x : Nat) : gt (.nil : Tr VObj) x = none := by
  unfold gt
  split
  · rw [Tr.get_nil]
  · rfl
theorem gt_vsOf {l : List VObj} (h : l.length ≤ 262144) (x : Nat) : gt (vsOf l).mem x = l[x]? := by
  show gt (setsO l 0 .nil) x = _
  rw [setsO_gt l 0 .nil x (by omega), gt_nil]
  by_cases hx : x < l.length
  · rw [if_pos (by omega), Nat.sub_zero]
  · rw [if_neg (by omega), List.getElem?_eq_none (by omega)]

/-- The memory of some blocks; great names name what is dead. -/
def memOf (objs : List VObj) : Nat → Option VObj := fun x => match small x with
  | true => objs[x]?
  | false => some .dead
theorem memOf_small {objs : List VObj} {x : Nat} (h : small x = true) : memOf objs x = objs[x]? := by unfold memOf; rw [h]
theorem memOf_great {objs : List VObj} {x : Nat} (h : small x = false) : memOf objs x = some .dead := by unfold memOf; rw [h]

/- A frame: some slots as told, what else stands there by u. -/
abbrev frOf (vals : List Value) : Fr := ⟨Fr.sets vals 0 .nil, vals.length, [], []⟩
def valsU (n : Nat) (u : Nat → Value) (l : List (Nat × Value)) : List Value := l.foldl (fun L p => L.set p.1 p.2) ((List.range n).map u)
def frU (n : Nat) (u : Nat → Value) (l : List (Nat × Value)) : Fr := frOf (valsU n u l)

theorem FR.of_list {ρ : Ren} {vals : List Value} {a : Act} (h : LR ρ vals a.tmps.toList) (hd : a.defers = []) (hn : vals.length ≤ 1024) : FR ρ (frOf vals) a := by
  have hlen : vals.length = a.tmps.size := by have := h.len; simpa using this
  refine ⟨hlen.symm, hn, fun i => ?_, by rw [hd]; exact .nil⟩
  show VR ρ (Fr.at ⟨Fr.sets vals 0 .nil, vals.length, [], []⟩ i) _
  unfold Fr.at
  dsimp only
  by_cases hi : i < vals.length
  · rw [blt_iff.2 hi]
    dsimp only
    rw [Fr.sets_get (by omega) (by omega), if_pos (by omega), Nat.sub_zero]
    obtain ⟨v', h1, h2⟩ := h.get (List.getElem?_eq_getElem hi)
    rw [List.getElem?_eq_getElem hi, Array.getD_eq_getD_getElem?]
    have h3 : a.tmps[i]? = some v' := by simpa using h1
    rw [h3]
    exact h2
  · have hb : Nat.blt i vals.length = false := by cases hb : Nat.blt i vals.length with
      | false => rfl
      | true => exact absurd (blt_iff.1 hb) hi
    rw [hb]
    dsimp only
    rw [Array.getD_eq_getD_getElem?, Array.getElem?_eq_none (by omega)]
    exact VR.undef ρ
theorem LR.set {ρ : Ren} {l l' : List Value} (h : LR ρ l l') {i : Nat} {v v' : Value} (hv' : l'[i]? = some v') (hv : VR ρ v v') : LR ρ (l.set i v) l' :=
  ⟨by simp [h.len], fun k u u' hu hu' => by
    by_cases e : k = i
    · subst e
      have hk : k < l.length := by rw [h.len]; exact (List.getElem?_eq_some_iff.1 hu').1
      rw [List.getElem?_set_self hk] at hu
      cases hu
      rw [hv'] at hu'
      cases hu'
      exact hv
    · rw [List.getElem?_set_ne (Ne.symm e)] at hu
      exact h.at_ k u u' hu hu'⟩
theorem foldset_len : ∀ (l : List (Nat × Value)) (L : List Value), (l.foldl (fun L p => L.set p.1 p.2) L).length = L.length
  | [], L => rfl
  | p :: l, L => by rw [List.foldl_cons, foldset_len l, List.length_set]
theorem foldset_LR {ρ : Ren} {L' : List Value} : ∀ (l : List (Nat × Value)) (L : List Value), LR ρ L L' → (∀ p ∈ l, ∃ v', L'[p.1]? = some v' ∧ VR ρ p.2 v') → LR ρ (l.foldl (fun L p => L.set p.1 p.2) L) L'
  | [], L, h, _ => h
  | p :: l, L, h, hl => by
    rw [List.foldl_cons]
    obtain ⟨v', h1, h2⟩ := hl p List.mem_cons_self
    exact foldset_LR l _ (h.set h1 h2) fun q hq => hl q (List.mem_cons_of_mem _ hq)

theorem FR.make {ρ : Ren} {a : Act} {n : Nat} (hsz : a.tmps.size = n) (hn : n ≤ 1024) (hd : a.defers = []) (hok : ∀ i, ∃ u, VR ρ u (a.tmps.getD i undef)) {l : List (Nat × Value)}
    (hl : ∀ p ∈ l, p.1 < n ∧ VR ρ p.2 (a.tmps.getD p.1 undef)) : ∃ u : Nat → Value, FR ρ (frU n u l) a := by
  refine ⟨fun i => Classical.choose (hok i), ?_⟩
  have at_ : ∀ i, i < n → a.tmps.toList[i]? = some (a.tmps.getD i undef) := fun i hi => by
    rw [Array.getElem?_toList, Array.getD_eq_getD_getElem?, Array.getElem?_eq_getElem (by omega)]; rfl
  refine FR.of_list (foldset_LR l _ ⟨by simp [hsz], fun i v v' hv hv' => ?_⟩ fun p hp => ⟨_, at_ _ (hl p hp).1, (hl p hp).2⟩) hd (by unfold valsU; rw [foldset_len]; simpa using hn)
  have hi : i < n := by simpa using (List.getElem?_eq_some_iff.1 hv).1
  rw [List.getElem?_map, List.getElem?_range hi] at hv
  simp only [Option.map_some, Option.some.injEq] at hv
  rw [at_ i hi] at hv'
  cases hv'
  rw [← hv]
  exact Classical.choose_spec (hok i)

/-- What is known of a frame and of a memory. -/
structure Desc where
  sl : List (Nat × Value)
  objs : List VObj

structure Ctx where
  B : Nat → Prop
  w₀ : World
  k : Nat
  ρ₀ : Ren
  n : Nat
  named : ∀ x, x < k → ∃ r, ρ₀ x = some r

/-- It holds. -/
structure Hd (P : Program) (X : Ctx) (d : Desc) (ρ : Ren) (u : Nat → Value) (a : Act) (w : World) : Prop where
  full : Full ρ
  kept : ∀ x, x < X.k → ρ x = X.ρ₀ x
  fr : FR ρ (frU X.n u d.sl) a
  mem : WR P X.B X.w₀ ρ (memOf d.objs) w
  few : d.objs.length ≤ 262144
def Holds (P : Program) (X : Ctx) (d : Desc) (a : Act) (w : World) : Prop := ∃ ρ u, Hd P X d ρ u a w

/-- Blocks, one for one. -/
inductive All2 {α β : Type} (R : α → β → Prop) : List α → List β → Prop where
  | nil : All2 R [] []
  | cons {a : α} {b : β} {l : List α} {l' : List β} (h : R a b) (t : All2 R l l') : All2 R (a :: l) (b :: l')
theorem All2.len {α β : Type} {R : α → β → Prop} {l : List α} {l' : List β} (h : All2 R l l') : l.length = l'.length := by
  induction h with
  | nil => rfl
  | cons _ _ ih => simp [ih]
theorem All2.get {α β : Type} {R : α → β → Prop} {l : List α} {l' : List β} (h : All2 R l l') : ∀ {i : Nat} {b : β}, l'[i]? = some b → ∃ a, l[i]? = some a ∧ R a b := by
  induction h with
  | nil => intro i b hb; simp at hb
  | cons h t ih =>
    intro i b hb
    cases i with
    | zero => simp only [List.getElem?_cons_zero, Option.some.injEq] at hb; subst hb; exact ⟨_, rfl, h⟩
    | succ i => simpa using ih (by simpa using hb)

def keepOk : Nat → List Nat → Nat → Bool
  | 0, _, _ => true
  | k + 1, y :: l, i => Nat.beq y i && keepOk k l (i + 1)
  | _ + 1, [], _ => false
theorem keepOk_get : ∀ {k i : Nat} {l : List Nat}, keepOk k l i = true → ∀ x, x < k → l[x]? = some (i + x)
  | 0, i, l, h, x, hx => by omega
  | k + 1, i, y :: l, h, x, hx => by
    simp only [keepOk, Bool.and_eq_true] at h
    cases x with
    | zero => simp [Nat.eq_of_beq_eq_true h.1]
    | succ x => simpa [show i + 1 + x = i + (x + 1) by omega] using keepOk_get h.2 x (by omega)
  | k + 1, i, [], h, x, hx => by cases h
def nodupB : List Nat → Bool
  | [] => true
  | y :: l => !(l.any (Nat.beq y)) && nodupB l
theorem nodupB_get : ∀ {l : List Nat}, nodupB l = true → ∀ {x y z : Nat}, l[x]? = some z → l[y]? = some z → x = y
  | [], h, x, y, z, hx, hy => by simp at hx
  | a :: l, h, x, y, z, hx, hy => by
    simp only [nodupB, Bool.and_eq_true, Bool.not_eq_true', List.any_eq_false] at h
    have hne : ∀ i, l[i]? ≠ some a := fun i hi => by
      have := h.1 a (List.mem_of_getElem? hi)
      simp at this
    cases x with
    | zero =>
      simp only [List.getElem?_cons_zero, Option.some.injEq] at hx
      subst hx
      cases y with
      | zero => rfl
      | succ y => exact absurd (by simpa using hy) (hne y)
    | succ x =>
      cases y with
      | zero =>
        simp only [List.getElem?_cons_zero, Option.some.injEq] at hy
        subst hy
        exact absurd (by simpa using hx) (hne x)
      | succ y => exact congrArg (· + 1) (nodupB_get h.2 (x := x) (y := y) (z := z) (by simpa using hx) (by simpa using hy))

/-- Slots by new names. -/
def rnS (σ : Nat → Option Nat) : List Nat → List Value → Option (List (Nat × Value))
  | [], [] => some []
  | i :: l, v :: vs => match rnV σ 6 v, rnS σ l vs with
    | some u, some r => some ((i, u) :: r)
    | _, _ => none
  | _, _ => none
theorem rnS_mem {σ : Nat → Option Nat} : ∀ {sl : List Nat} {vs : List Value} {r : List (Nat × Value)}, rnS σ sl vs = some r → ∀ p ∈ r, ∃ (j : Nat) (v : Value), sl[j]? = some p.1 ∧ vs[j]? = some v ∧ rnV σ 6 v = some p.2
  | [], [], r, h, p, hp => by cases h; cases hp
  | i :: l, v :: vs, r, h, p, hp => by
    unfold rnS at h
    split at h
    · rename_i u q hu hq
      cases h
      rcases List.mem_cons.1 hp with rfl | hp
      · exact ⟨0, v, rfl, rfl, hu⟩
      · obtain ⟨j, v', h1, h2, h3⟩ := rnS_mem hq p hp
        exact ⟨j + 1, v', by simpa using h1, by simpa using h2, h3⟩
    · cases h
  | [], _ :: _, r, h, p, hp => by cases h
  | _ :: _, [], r, h, p, hp => by cases h

/-- What a run leaves, by new names. -/
theorem Holds.of_raw {P : Program} {X : Ctx} {ρ ρ' : Ren} {m : Nat → Option VObj} {t : Fr} {a : Act} {w : World} (hfull : Full ρ) (hle : ρ.le ρ') (hk : ∀ x, x < X.k → ρ x = X.ρ₀ x)
    (hfr : FR ρ' t a) (htn : t.n = X.n) (htd : t.ds = []) (htb : t.base = []) (hw : WR P X.B X.w₀ ρ' m w) {sl : List Nat} {vals : List Value} (hsl : sl.map t.at = vals) {bl : List (Nat × VObj)} (hbl : ∀ p ∈ bl, m p.1 = some p.2) {d : Desc}
    (hkeep : keepOk X.k (bl.map (·.1)) 0 = true) (hnd : nodupB (bl.map (·.1)) = true) (hvs : rnS (idxN (bl.map (·.1))) sl vals = some d.sl) (hob : All2 (ON (idxN (bl.map (·.1)))) (bl.map (·.2)) d.objs)
    (hsln : sl.all (fun i => Nat.blt i X.n) = true) (hfew : Nat.ble d.objs.length 262144 = true) : Holds P X d a w := by
  subst hsl
  let σ : List Nat := bl.map (·.1)
  let ρ2 : Ren := fun x => match small x with
    | true => (σ[x]?).bind ρ'
    | false => ρ' x
  have hsm : ∀ x, small x = true → ρ2 x = (σ[x]?).bind ρ' := fun x h => by show (match small x with | true => _ | false => _) = _; rw [h]
  have hgr : ∀ x, small x = false → ρ2 x = ρ' x := fun x h => by show (match small x with | true => _ | false => _) = _; rw [h]
  have hfew' := Nat.le_of_ble_eq_true hfew
  have hlen : bl.length = d.objs.length := by have := hob.len; simpa using this
  have hfull2 : Full ρ2 := fun r => by
    obtain ⟨y, h1, h2⟩ := hfull r
    exact ⟨y, h1, by rw [hgr y h1]; exact hle _ _ h2⟩
  have hσsm : ∀ i y, σ[i]? = some y → small i = true := fun i y h => small_iff.2 (by
    have : i < σ.length := (List.getElem?_eq_some_iff.1 h).1
    have e : σ.length = bl.length := by simp [σ]
    have : (2 : Nat) ^ 18 = 262144 := rfl
    omega)
  have hσ : ∀ i y r, σ[i]? = some y → ρ' y = some r → ρ2 i = some r := fun i y r h1 h2 => by rw [hsm i (hσsm i y h1), h1]; exact h2
  have hσ' : ∀ y i r, idxN σ y = some i → ρ' y = some r → ρ2 i = some r := fun y i r h1 h2 => hσ i y r (idxN_some h1) h2
  obtain ⟨u, hu⟩ : ∃ u : Nat → Value, FR ρ2 (frU X.n u d.sl) a := by
    refine FR.make (by rw [hfr.size, htn]) (by rw [← htn]; exact hfr.small) ((hfr.none_left htd).trans htb) (fun i => (hfr.at_ i).full hfull2) fun p hp => ?_
    obtain ⟨j, v, h1, h2, h3⟩ := rnS_mem hvs p hp
    rw [List.getElem?_map, h1] at h2
    simp only [Option.map_some, Option.some.injEq] at h2
    subst h2
    exact ⟨blt_iff.1 (List.all_eq_true.1 hsln p.1 (List.mem_of_getElem? h1)), rnV_ok hσ' 6 _ _ _ h3 (hfr.at_ p.1)⟩
  refine ⟨ρ2, u, hfull2, fun x hx => ?_, hu, ?_, hfew'⟩
  · have := keepOk_get hkeep x hx
    rw [Nat.zero_add] at this
    obtain ⟨r, hr⟩ := X.named x hx
    rw [hσ x x r this (hle _ _ ((hk x hx).trans hr)), hr]
  · have hbi : ∀ (i : Nat) (o : VObj), d.objs[i]? = some o → ∃ y ob, σ[i]? = some y ∧ m y = some ob ∧ ON (idxN σ) ob o := fun i o hi => by
      obtain ⟨ob, h1, h2⟩ := hob.get hi
      rw [List.getElem?_map] at h1
      cases hb : bl[i]? with
      | none => rw [hb] at h1; cases h1
      | some p =>
        rw [hb] at h1
        simp only [Option.map_some, Option.some.injEq] at h1
        subst h1
        exact ⟨p.1, p.2, by simp [σ, hb], hbl p (List.mem_of_getElem? hb), h2⟩
    refine hw.recast (fun x => match small x with
      | true => σ[x]?
      | false => none) (fun x o hx hne => ?_) (fun x y z hx hy => ?_) fun x hx => ?_
    · cases hs : small x with
      | false => rw [memOf_great hs] at hx; cases hx; exact absurd rfl hne
      | true =>
        rw [memOf_small hs] at hx
        obtain ⟨y, ob, h1, h2, h3⟩ := hbi x o hx
        refine ⟨y, ob, h1, h2, h3.ne hne, ?_, fun r hl => ⟨(h3.live hl).1, (h3.live hl).2, h3.or hσ' hl⟩, fun n size row e => ?_, fun el ro e => ?_⟩
        · rw [hsm x hs, h1]; rfl
        · subst e; cases h3; rfl
        · subst e
          cases h3 with
          | plain => rfl
          | cells c _ _ _ h =>
            cases c with
            | nil => rfl
            | cons v c => have := rnL_len h; simp at this
    · have key : ∀ q, (match small q with | true => σ[q]? | false => none) = some z → σ[q]? = some z := fun q hq => by
        cases hs : small q with
        | true => rw [hs] at hq; exact hq
        | false => rw [hs] at hq; cases hq
      exact nodupB_get hnd (key x hx) (key y hy)
    · cases hs : small x with
      | false => rw [memOf_great hs] at hx; cases hx
      | true =>
        rw [memOf_small hs] at hx
        rw [hsm x hs]
        have : σ[x]? = none := by
          rw [List.getElem?_eq_none_iff] at hx ⊢
          simp [σ]
          omega
        rw [this]
        rfl
end Go.Proofs.YtdbjloigfkckfaaGreatDoor.Vm
