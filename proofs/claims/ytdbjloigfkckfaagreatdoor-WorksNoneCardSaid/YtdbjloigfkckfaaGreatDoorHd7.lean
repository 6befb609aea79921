/- The small machine's logic, seventh text: a piece's whole run as one tree. -/
import Derived.Test.YtdbjloigfkckfaaGreatDoorHd6
namespace Go.Proofs.YtdbjloigfkckfaaGreatDoor.Vm
open Go.RowKit
set_option linter.unusedVariables false
set_option linter.unusedSimpArgs false

/-- What a piece comes to: ends, by conditions. -/
inductive Tree where
  | leaf (x : VEx) (d : Desc)
  | fork (c : Bool) (a b : Tree)
  | need (c : Bool) (v : Bool) (t : Tree)
def Tree.ok (R : VEx → Desc → Prop) : Tree → Prop
  | .leaf x d => R x d
  | .fork c a b => (c = true → a.ok R) ∧ (c = false → b.ok R)
  | .need c v t => c = v ∧ t.ok R
theorem Tree.ok_mono {R R' : VEx → Desc → Prop} (h : ∀ x d, R x d → R' x d) : ∀ {T : Tree}, T.ok R → T.ok R'
  | .leaf x d, ht => h x d ht
  | .fork c a b, ht => ⟨fun hc => ok_mono h (ht.1 hc), fun hc => ok_mono h (ht.2 hc)⟩
  | .need c v t, ht => ⟨ht.1, ok_mono h ht.2⟩

/-- Where it forks, what must hold, which slots and blocks are told at the ends. -/
inductive ST where
  | leaf (sl bs pl : List Nat)
  | fork (n : Nat) (a b : ST)
  | need (n : Nat) (v : Bool) (a : ST)

def DT.sym {α : Type} (fin : List Nat → List Nat → List Nat → α → Option Tree) : DT α → ST → Option Tree
  | .done a, .leaf sl bs pl => fin sl bs pl a
  | .ask d k, .fork 0 s1 s2 => match (k true).sym fin s1 with
    | some x => match (k false).sym fin s2 with
      | some y => some (.fork d x y)
      | none => none
    | none => none
  | .ask d k, .need 0 v s => match v with
    | true => match (k true).sym fin s with
      | some x => some (.need d true x)
      | none => none
    | false => match (k false).sym fin s with
      | some x => some (.need d false x)
      | none => none
  | .ask d k, .fork (n + 1) s1 s2 => match d with
    | true => (k true).sym fin (.fork n s1 s2)
    | false => (k false).sym fin (.fork n s1 s2)
  | .ask d k, .need (n + 1) v s => match d with
    | true => (k true).sym fin (.need n v s)
    | false => (k false).sym fin (.need n v s)
  | .ask d k, .leaf sl bs pl => match d with
    | true => (k true).sym fin (.leaf sl bs pl)
    | false => (k false).sym fin (.leaf sl bs pl)
  | .alt p x y, .need 0 v s => match v with
    | true => x.sym fin s
    | false => y.sym fin s
  | .alt p x y, .need (n + 1) v s => match p with
    | true => x.sym fin (.need n v s)
    | false => y.sym fin (.need n v s)
  | .alt p x y, .fork (n + 1) s1 s2 => match p with
    | true => x.sym fin (.fork n s1 s2)
    | false => y.sym fin (.fork n s1 s2)
  | .alt p x y, .leaf sl bs pl => match p with
    | true => x.sym fin (.leaf sl bs pl)
    | false => y.sym fin (.leaf sl bs pl)
  | _, _ => none

theorem DT.sym_ok {α : Type} {fin : List Nat → List Nat → List Nat → α → Option Tree} {R : VEx → Desc → Prop} : ∀ {x : DT α} {s : ST} {T : Tree}, x.sym fin s = some T → T.ok R → ∃ a sl bs pl T', x.Has a ∧ fin sl bs pl a = some T' ∧ T'.ok R := by
  intro x
  induction x with
  | done a =>
    intro s T h ht
    cases s with
    | leaf sl bs pl => exact ⟨a, sl, bs, pl, T, .done a, h, ht⟩
    | fork n _ _ => cases n <;> cases h
    | need n _ _ => cases n <;> cases h
  | fail =>
    intro s T h ht
    unfold DT.sym at h
    cases s with
    | leaf => cases h
    | fork n _ _ => cases n <;> cases h
    | need n _ _ => cases n <;> cases h
  | ask d k ih =>
    intro s T h ht
    cases s with
    | leaf sl bs pl =>
      unfold DT.sym at h
      cases d with
      | true => obtain ⟨a, sl, bs, pl, T', h1, h2⟩ := ih true h ht; exact ⟨a, sl, bs, pl, T', .ask _ _ _ h1, h2⟩
      | false => obtain ⟨a, sl, bs, pl, T', h1, h2⟩ := ih false h ht; exact ⟨a, sl, bs, pl, T', .ask _ _ _ h1, h2⟩
    | fork n s1 s2 =>
      cases n with
      | zero =>
        unfold DT.sym at h
        split at h
        · rename_i x hx
          split at h
          · rename_i y hy
            cases h
            cases d with
            | true => obtain ⟨a, sl, bs, pl, T', h1, h2⟩ := ih true hx (ht.1 rfl); exact ⟨a, sl, bs, pl, T', .ask _ _ _ h1, h2⟩
            | false => obtain ⟨a, sl, bs, pl, T', h1, h2⟩ := ih false hy (ht.2 rfl); exact ⟨a, sl, bs, pl, T', .ask _ _ _ h1, h2⟩
          · cases h
        · cases h
      | succ n =>
        unfold DT.sym at h
        cases d with
        | true => obtain ⟨a, sl, bs, pl, T', h1, h2⟩ := ih true h ht; exact ⟨a, sl, bs, pl, T', .ask _ _ _ h1, h2⟩
        | false => obtain ⟨a, sl, bs, pl, T', h1, h2⟩ := ih false h ht; exact ⟨a, sl, bs, pl, T', .ask _ _ _ h1, h2⟩
    | need n v s =>
      cases n with
      | zero =>
        unfold DT.sym at h
        cases v with
        | true =>
          dsimp only at h
          split at h
          · rename_i x hx
            cases h
            obtain ⟨e, ht⟩ := ht
            subst e
            obtain ⟨a, sl, bs, pl, T', h1, h2⟩ := ih true hx ht
            exact ⟨a, sl, bs, pl, T', .ask _ _ _ h1, h2⟩
          · cases h
        | false =>
          dsimp only at h
          split at h
          · rename_i x hx
            cases h
            obtain ⟨e, ht⟩ := ht
            subst e
            obtain ⟨a, sl, bs, pl, T', h1, h2⟩ := ih false hx ht
            exact ⟨a, sl, bs, pl, T', .ask _ _ _ h1, h2⟩
          · cases h
      | succ n =>
        unfold DT.sym at h
        cases d with
        | true => obtain ⟨a, sl, bs, pl, T', h1, h2⟩ := ih true h ht; exact ⟨a, sl, bs, pl, T', .ask _ _ _ h1, h2⟩
        | false => obtain ⟨a, sl, bs, pl, T', h1, h2⟩ := ih false h ht; exact ⟨a, sl, bs, pl, T', .ask _ _ _ h1, h2⟩
  | alt p x y ihx ihy =>
    intro s T h ht
    have L : ∀ {s}, x.sym fin s = some T → ∃ a sl bs pl T', (DT.alt p x y).Has a ∧ fin sl bs pl a = some T' ∧ T'.ok R := fun h => by
      obtain ⟨a, sl, bs, pl, T', h1, h2⟩ := ihx h ht; exact ⟨a, sl, bs, pl, T', .left _ _ _ _ h1, h2⟩
    have M : ∀ {s}, y.sym fin s = some T → ∃ a sl bs pl T', (DT.alt p x y).Has a ∧ fin sl bs pl a = some T' ∧ T'.ok R := fun h => by
      obtain ⟨a, sl, bs, pl, T', h1, h2⟩ := ihy h ht; exact ⟨a, sl, bs, pl, T', .right _ _ _ _ h1, h2⟩
    cases s with
    | leaf sl bs pl =>
      unfold DT.sym at h
      cases p with
      | true => exact L h
      | false => exact M h
    | fork n s1 s2 =>
      cases n with
      | zero => unfold DT.sym at h; cases h
      | succ n =>
        unfold DT.sym at h
        cases p with
        | true => exact L h
        | false => exact M h
    | need n v s =>
      cases n with
      | zero =>
        unfold DT.sym at h
        cases v with
        | true => exact L h
        | false => exact M h
      | succ n =>
        unfold DT.sym at h
        cases p with
        | true => exact L h
        | false => exact M h

/-- An end by new names. What must be plain is asked. -/
def rnB (pl : List Nat) (τ : Nat → Option Nat) : List (Nat × VObj) → Option (List VObj × List (List Value))
  | [] => some ([], [])
  | (b, o) :: l => match rnB pl τ l with
    | none => none
    | some (r, q) => match o with
      | .cells c el ro => match pl.any (Nat.beq b) with
        | true => some (.cells c el ro :: r, c :: q)
        | false => match rnL (rnV τ 6) c with
          | some c' => some (.cells c' el ro :: r, q)
          | none => none
      | .map es clock => match rnEs τ es with
        | some es' => some (.map es' clock :: r, q)
        | none => none
      | .siter s p => some (.siter s p :: r, q)
      | .rows n s f => some (.rows n s f :: r, q)
      | .dead => some (.dead :: r, q)
def needs : List (List Value) → Tree → Tree
  | [], t => t
  | c :: l, t => .need (c.all isScal) true (needs l t)
theorem needs_ok {R : VEx → Desc → Prop} {t : Tree} : ∀ {l : List (List Value)}, (needs l t).ok R → (∀ c ∈ l, c.all isScal = true) ∧ t.ok R
  | [], h => ⟨fun c hc => (by cases hc), h⟩
  | c :: l, h => by
    obtain ⟨h1, h2⟩ := h
    obtain ⟨h3, h4⟩ := needs_ok h2
    exact ⟨fun x hx => by
      rcases List.mem_cons.1 hx with rfl | hx
      · exact h1
      · exact h3 x hx, h4⟩
theorem rnB_ok {pl : List Nat} {τ : Nat → Option Nat} : ∀ {l : List (Nat × VObj)} {l' : List VObj} {q : List (List Value)}, rnB pl τ l = some (l', q) → (∀ c ∈ q, c.all isScal = true) → All2 (ON τ) (l.map (·.2)) l'
  | [], l', q, h, _ => by cases h; exact .nil
  | (b, o) :: l, l', q, h, hq => by
    unfold rnB at h
    split at h
    · cases h
    · rename_i r q' hr
      split at h
      · split at h
        · cases h
          exact .cons (.plain _ _ _ (hq _ List.mem_cons_self)) (rnB_ok hr fun c hc => hq c (List.mem_cons_of_mem _ hc))
        · split at h
          · rename_i hc
            cases h
            exact .cons (.cells _ _ _ _ hc) (rnB_ok hr hq)
          · cases h
      · split at h
        · rename_i he
          cases h
          exact .cons (.map _ _ _ he) (rnB_ok hr hq)
        · cases h
      · cases h; exact .cons (.siter _ _) (rnB_ok hr hq)
      · cases h; exact .cons (.rows _ _ _) (rnB_ok hr hq)
      · cases h; exact .cons (.dead _) (rnB_ok hr hq)

def leafT (n k : Nat) (sl bs pl : List Nat) : VEx × Fr × VS → Option Tree
  | (x, t, S) => match collectC bs S with
    | none => none
    | some bl => match rnS (idxN bs) sl (sl.map t.at), rnB pl (idxN bs) bl with
      | some d, some (objs, q) => match keepOk k bs 0 && nodupB bs && sl.all (fun i => Nat.blt i n) && Nat.ble bs.length 262144 && flatX x && Nat.beq t.n n && (t.ds.isEmpty && t.base.isEmpty) with
        | true => some (needs q (.leaf x ⟨d, objs⟩))
        | false => none
      | _, _ => none

theorem collectC_names : ∀ {bs : List Nat} {S : VS} {r : List (Nat × VObj)}, collectC bs S = some r → r.map (·.1) = bs
  | [], S, r, h => by simp only [collectC, Option.some.injEq] at h; subst h; rfl
  | x :: l, S, r, h => by
    unfold collectC at h
    split at h
    · rename_i o r' h1 h2
      simp only [Option.some.injEq] at h
      subst h
      simp [collectC_names h2]
    · cases h

/-- Pieces that the machine runs, told as a tree. -/
theorem TriL.tree {P : Program} (hP : plainNames P = true) (hmix : P.follows .mixedOrders = true) {cO : CallO} (hc : CallsOk P cO) {lf n k m : Nat} {l : List Code} {d : Desc} {s : ST} {T : Tree}
    (h : ∀ u, (codesO P cO lf (l.take m) (frU n u d.sl) (vsOf d.objs)).sym (leafT n k) s = some T) {Q : VEx → Desc → Prop}
    (hT : T.ok (fun x d' => match x with
      | .normal => TriL P n k (l.drop m) d' Q
      | x => Q x d')) : TriL P n k l d Q := by
  intro X hn hk a w hd
  have hd0 := hd
  obtain ⟨ρ, u, hd⟩ := hd
  obtain ⟨p, sl, bs, pl, T', h1, h2, h3⟩ := DT.sym_ok (h u) hT
  obtain ⟨x, t1, S1⟩ := p
  dsimp only [leafT] at h2
  cases hbl : collectC bs S1 with
  | none => rw [hbl] at h2; cases h2
  | some bl =>
    rw [hbl] at h2
    dsimp only at h2
    split at h2
    · rename_i dl objs q hs hr
      split at h2
      · rename_i hcl
        cases h2
        obtain ⟨hq, hleaf⟩ := needs_ok h3
        have hnm := collectC_names hbl
        have hob := rnB_ok hr hq
        simp only [Bool.and_eq_true] at hcl
        obtain ⟨⟨⟨⟨⟨⟨c1, c2⟩, c3⟩, c4⟩, c5⟩, c6⟩, c7, c8⟩ := hcl
        have hlen : objs.length = bs.length := by rw [← hob.len, ← hnm]; simp
        subst hn hk
        obtain ⟨cV, hcV, hcO⟩ := hc.ex
        have hv := codesO_ok hcO lf h1
        have he := codesV_ext hcV lf hv
        have hsm := he.sm (fun x hx => by rcases hx with hx | hx <;> cases hx)
        have hag : Agree (vsOf d.objs) S1 (memOf d.objs) := fun x hx => by rw [memOf_small (hsm x hx), gt_vsOf hd.few]
        rw [← List.take_append_drop m l]
        refine wpL_append (codesV_ok hP hmix hcV lf hv hd.fr hd.mem hag fun ρ' e a' w' hle hxr hfr hwr => ?_)
        have hh : Holds P X ⟨dl, objs⟩ a' w' := Holds.of_raw (bl := bl) hd.full hle hd.kept hfr (Nat.eq_of_beq_eq_true c6) (List.isEmpty_iff.1 c7) (List.isEmpty_iff.1 c8) hwr rfl (fun p hp => by
          have hg := collectC_ok hbl p hp
          unfold post
          by_cases hx : p.1 ∈ S1.wr
          · rw [if_pos hx, hg]
          · rw [if_neg hx, memOf_small (small_of_gt hg), ← gt_vsOf hd.few, ← he.frame p.1 hx, hg]) (by rw [hnm]; exact c1) (by rw [hnm]; exact c2) (by rw [hnm]; exact hs) (by rw [hnm]; exact hob) c3 (Nat.ble_eq_true_of_le (by rw [hlen]; exact Nat.le_of_ble_eq_true c4))
        cases x with
        | normal => cases hxr; exact hleaf X rfl rfl a' w' hh
        | exit id => cases hxr; exact ⟨.exit id, _, hleaf, .exit id, hh⟩
        | ret => cases hxr; exact ⟨.ret, _, hleaf, .ret, hh⟩
        | panic v =>
          cases hxr with
          | panic _ v' hv =>
            have := fl_inv c5 hv
            subst this
            exact ⟨.panic v', _, hleaf, .panic _ _ (fl_refl c5), hh⟩
      · cases h2
    · cases h2

theorem Tree.mkFork {R : VEx → Desc → Prop} {c : Bool} {a b : Tree} (h1 : c = true → a.ok R) (h2 : c = false → b.ok R) : (Tree.fork c a b).ok R := ⟨h1, h2⟩
theorem Tree.mkNeed {R : VEx → Desc → Prop} {c v : Bool} {t : Tree} (h1 : c = v) (h2 : t.ok R) : (Tree.need c v t).ok R := ⟨h1, h2⟩
theorem Tree.mkLeaf {R : VEx → Desc → Prop} {x : VEx} {d : Desc} (h : R x d) : (Tree.leaf x d).ok R := h
/-- The end of a function, told. -/
theorem FinC.ret {P : Program} {f n : Nat} {Q : CRes → List VObj → Prop} {d : Desc} {vs : List Value} {l : List Nat} (h : ∀ u, (resV P (frU n u d.sl) (resC P f)).run (gt (vsOf d.objs).mem) = some (vs, l))
    (hq : Q (.ret (resOf vs)) d.objs) : FinC P f n Q .ret d := ⟨vs, l, h, hq⟩
theorem FinC.normal {P : Program} {f n : Nat} {Q : CRes → List VObj → Prop} {d : Desc} {vs : List Value} {l : List Nat} (h : ∀ u, (resV P (frU n u d.sl) (resC P f)).run (gt (vsOf d.objs).mem) = some (vs, l))
    (hq : Q (.ret (resOf vs)) d.objs) : FinC P f n Q .normal d := ⟨vs, l, h, hq⟩
end Go.Proofs.YtdbjloigfkckfaaGreatDoor.Vm
