/- Several texts as one: Hd7, Hd8, Hd9, Hd10, Hd11, Hd12, Hd13, HdB, HdC. -/
import Derived.Test.YtgdpahojinknmaaVc
import Derived.LoopNIn
import Derived.RangeFuncNested
import Derived.RangeFuncCalls
import Derived.RangeFuncLeaves
/- The small machine's logic, seventh text: a piece's whole run as one tree. -/
namespace Go.Proofs.Ytgdpahojinknmaa.Vm
open Go.RowKit
set_option linter.unusedVariables false
set_option linter.unusedSimpArgs false

/-- What a piece comes to: ends, by conditions. -/
inductive Tree where
  | leaf (x : VEx) (d : Desc)
  | fork (c : Bool) (a b : Tree)
  | need (c : Bool) (v : Bool) (t : Tree)
def Tree.ok (R : VEx → Desc → Prop) : Tree → Prop
  | .leaf x d => R x d
  | .fork c a b => (c = true → a.ok R) ∧ (c = false → b.ok R)
  | .need c v t => c = v ∧ t.ok R
theorem Tree.ok_mono {R R' : VEx → Desc → Prop} (h : ∀ x d, R x d → R' x d) : ∀ {T : Tree}, T.ok R → T.ok R'
  | .leaf x d, ht => h x d ht
  | .fork c a b, ht => ⟨fun hc => ok_mono h (ht.1 hc), fun hc => ok_mono h (ht.2 hc)⟩
  | .need c v t, ht => ⟨ht.1, ok_mono h ht.2⟩

/-- Where it forks, what must hold, which slots and blocks are told at the ends. -/
inductive ST where
  | leaf (sl bs pl : List Nat)
  | fork (n : Nat) (a b : ST)
  | need (n : Nat) (v : Bool) (a : ST)

def DT.sym {α : Type} (fin : List Nat → List Nat → List Nat → α → Option Tree) : DT α → ST → Option Tree
  | .done a, .leaf sl bs pl => fin sl bs pl a
  | .ask d k, .fork 0 s1 s2 => match (k true).sym fin s1 with
    | some x => match (k false).sym fin s2 with
      | some y => some (.fork d x y)
      | none => none
    | none => none
  | .ask d k, .need 0 v s => match v with
    | true => match (k true).sym fin s with
      | some x => some (.need d true x)
      | none => none
    | false => match (k false).sym fin s with
      | some x => some (.need d false x)
      | none => none
  | .ask d k, .fork (n + 1) s1 s2 => match d with
    | true => (k true).sym fin (.fork n s1 s2)
    | false => (k false).sym fin (.fork n s1 s2)
  | .ask d k, .need (n + 1) v s => match d with
    | true => (k true).sym fin (.need n v s)
    | false => (k false).sym fin (.need n v s)
  | .ask d k, .leaf sl bs pl => match d with
    | true => (k true).sym fin (.leaf sl bs pl)
    | false => (k false).sym fin (.leaf sl bs pl)
  | .alt p x y, .need 0 v s => match v with
    | true => x.sym fin s
    | false => y.sym fin s
  | .alt p x y, .need (n + 1) v s => match p with
    | true => x.sym fin (.need n v s)
    | false => y.sym fin (.need n v s)
  | .alt p x y, .fork (n + 1) s1 s2 => match p with
    | true => x.sym fin (.fork n s1 s2)
    | false => y.sym fin (.fork n s1 s2)
  | .alt p x y, .leaf sl bs pl => match p with
    | true => x.sym fin (.leaf sl bs pl)
    | false => y.sym fin (.leaf sl bs pl)
  | _, _ => none

theorem DT.sym_ok {α : Type} {fin : List Nat → List Nat → List Nat → α → Option Tree} {R : VEx → Desc → Prop} : ∀ {x : DT α} {s : ST} {T : Tree}, x.sym fin s = some T → T.ok R → ∃ a sl bs pl T', x.Has a ∧ fin sl bs pl a = some T' ∧ T'.ok R := by
  intro x
  induction x with
  | done a =>
    intro s T h ht
    cases s with
    | leaf sl bs pl => exact ⟨a, sl, bs, pl, T, .done a, h, ht⟩
    | fork n _ _ => cases n <;> cases h
    | need n _ _ => cases n <;> cases h
  | fail =>
    intro s T h ht
    unfold DT.sym at h
    cases s with
    | leaf => cases h
    | fork n _ _ => cases n <;> cases h
    | need n _ _ => cases n <;> cases h
  | ask d k ih =>
    intro s T h ht
    cases s with
    | leaf sl bs pl =>
      unfold DT.sym at h
      cases d with
      | true => obtain ⟨a, sl, bs, pl, T', h1, h2⟩ := ih true h ht; exact ⟨a, sl, bs, pl, T', .ask _ _ _ h1, h2⟩
      | false => obtain ⟨a, sl, bs, pl, T', h1, h2⟩ := ih false h ht; exact ⟨a, sl, bs, pl, T', .ask _ _ _ h1, h2⟩
    | fork n s1 s2 =>
      cases n with
      | zero =>
        unfold DT.sym at h
        split at h
        · rename_i x hx
          split at h
          · rename_i y hy
            cases h
            cases d with
            | true => obtain ⟨a, sl, bs, pl, T', h1, h2⟩ := ih true hx (ht.1 rfl); exact ⟨a, sl, bs, pl, T', .ask _ _ _ h1, h2⟩
            | false => obtain ⟨a, sl, bs, pl, T', h1, h2⟩ := ih false hy (ht.2 rfl); exact ⟨a, sl, bs, pl, T', .ask _ _ _ h1, h2⟩
          · cases h
        · cases h
      | succ n =>
        unfold DT.sym at h
        cases d with
        | true => obtain ⟨a, sl, bs, pl, T', h1, h2⟩ := ih true h ht; exact ⟨a, sl, bs, pl, T', .ask _ _ _ h1, h2⟩
        | false => obtain ⟨a, sl, bs, pl, T', h1, h2⟩ := ih false h ht; exact ⟨a, sl, bs, pl, T', .ask _ _ _ h1, h2⟩
    | need n v s =>
      cases n with
      | zero =>
        unfold DT.sym at h
        cases v with
        | true =>
          dsimp only at h
          split at h
          · rename_i x hx
            cases h
            obtain ⟨e, ht⟩ := ht
            subst e
            obtain ⟨a, sl, bs, pl, T', h1, h2⟩ := ih true hx ht
            exact ⟨a, sl, bs, pl, T', .ask _ _ _ h1, h2⟩
          · cases h
        | false =>
          dsimp only at h
          split at h
          · rename_i x hx
            cases h
            obtain ⟨e, ht⟩ := ht
            subst e
            obtain ⟨a, sl, bs, pl, T', h1, h2⟩ := ih false hx ht
            exact ⟨a, sl, bs, pl, T', .ask _ _ _ h1, h2⟩
          · cases h
      | succ n =>
        unfold DT.sym at h
        cases d with
        | true => obtain ⟨a, sl, bs, pl, T', h1, h2⟩ := ih true h ht; exact ⟨a, sl, bs, pl, T', .ask _ _ _ h1, h2⟩
        | false => obtain ⟨a, sl, bs, pl, T', h1, h2⟩ := ih false h ht; exact ⟨a, sl, bs, pl, T', .ask _ _ _ h1, h2⟩
  | alt p x y ihx ihy =>
    intro s T h ht
    have L : ∀ {s}, x.sym fin s = some T → ∃ a sl bs pl T', (DT.alt p x y).Has a ∧ fin sl bs pl a = some T' ∧ T'.ok R := fun h => by
      obtain ⟨a, sl, bs, pl, T', h1, h2⟩ := ihx h ht; exact ⟨a, sl, bs, pl, T', .left _ _ _ _ h1, h2⟩
    have M : ∀ {s}, y.sym fin s = some T → ∃ a sl bs pl T', (DT.alt p x y).Has a ∧ fin sl bs pl a = some T' ∧ T'.ok R := fun h => by
      obtain ⟨a, sl, bs, pl, T', h1, h2⟩ := ihy h ht; exact ⟨a, sl, bs, pl, T', .right _ _ _ _ h1, h2⟩
    cases s with
    | leaf sl bs pl =>
      unfold DT.sym at h
      cases p with
      | true => exact L h
      | false => exact M h
    | fork n s1 s2 =>
      cases n with
      | zero => unfold DT.sym at h; cases h
      | succ n =>
        unfold DT.sym at h
        cases p with
        | true => exact L h
        | false => exact M h
    | need n v s =>
      cases n with
      | zero =>
        unfold DT.sym at h
        cases v with
        | true => exact L h
        | false => exact M h
      | succ n =>
        unfold DT.sym at h
        cases p with
        | true => exact L h
        | false => exact M h

/-- An end by new names. What must be plain is asked. -/
def rnB (pl : List Nat) (τ : Nat → Option Nat) : List (Nat × VObj) → Option (List VObj × List (List Value))
  | [] => some ([], [])
  | (b, o) :: l => match rnB pl τ l with
    | none => none
    | some (r, q) => match o with
      | .cells c el ro => match pl.any (Nat.beq b) with
        | true => some (.cells c el ro :: r, c :: q)
        | false => match rnL (rnV τ 6) c with
          | some c' => some (.cells c' el ro :: r, q)
          | none => none
      | .map es clock => match rnEs τ es with
        | some es' => some (.map es' clock :: r, q)
        | none => none
      | .siter s p => some (.siter s p :: r, q)
      | .rows n s f => some (.rows n s f :: r, q)
      | .dead => some (.dead :: r, q)
def needs : List (List Value) → Tree → Tree
  | [], t => t
  | c :: l, t => .need (c.all isScal) true (needs l t)
theorem needs_ok {R : VEx → Desc → Prop} {t : Tree} : ∀ {l : List (List Value)}, (needs l t).ok R → (∀ c ∈ l, c.all isScal = true) ∧ t.ok R
  | [], h => ⟨fun c hc => (by cases hc), h⟩
  | c :: l, h => by
    obtain ⟨h1, h2⟩ := h
    obtain ⟨h3, h4⟩ := needs_ok h2
    exact ⟨fun x hx => by
      rcases List.mem_cons.1 hx with rfl | hx
      · exact h1
      · exact h3 x hx, h4⟩
theorem rnB_ok {pl : List Nat} {τ : Nat → Option Nat} : ∀ {l : List (Nat × VObj)} {l' : List VObj} {q : List (List Value)}, rnB pl τ l = some (l', q) → (∀ c ∈ q, c.all isScal = true) → All2 (ON τ) (l.map (·.2)) l'
  | [], l', q, h, _ => by cases h; exact .nil
  | (b, o) :: l, l', q, h, hq => by
    unfold rnB at h
    split at h
    · cases h
    · rename_i r q' hr
      split at h
      · split at h
        · cases h
          exact .cons (.plain _ _ _ (hq _ List.mem_cons_self)) (rnB_ok hr fun c hc => hq c (List.mem_cons_of_mem _ hc))
        · split at h
          · rename_i hc
            cases h
            exact .cons (.cells _ _ _ _ hc) (rnB_ok hr hq)
          · cases h
      · split at h
        · rename_i he
          cases h
          exact .cons (.map _ _ _ he) (rnB_ok hr hq)
        · cases h
      · cases h; exact .cons (.siter _ _) (rnB_ok hr hq)
      · cases h; exact .cons (.rows _ _ _) (rnB_ok hr hq)
      · cases h; exact .cons (.dead _) (rnB_ok hr hq)

def leafT (n k : Nat) (sl bs pl : List Nat) : VEx × Fr × VS → Option Tree
  | (x, t, S) => match collectC bs S with
    | none => none
    | some bl => match rnS (idxN bs) sl (sl.map t.at), rnB pl (idxN bs) bl with
      | some d, some (objs, q) => match keepOk k bs 0 && nodupB bs && sl.all (fun i => Nat.blt i n) && Nat.ble bs.length 262144 && flatX x && Nat.beq t.n n && (t.ds.isEmpty && t.base.isEmpty) with
        | true => some (needs q (.leaf x ⟨d, objs⟩))
        | false => none
      | _, _ => none

theorem collectC_names : ∀ {bs : List Nat} {S : VS} {r : List (Nat × VObj)}, collectC bs S = some r → r.map (·.1) = bs
  | [], S, r, h => by simp only [collectC, Option.some.injEq] at h; subst h; rfl
  | x :: l, S, r, h => by
    unfold collectC at h
    split at h
    · rename_i o r' h1 h2
      simp only [Option.some.injEq] at h
      subst h
      simp [collectC_names h2]
    · cases h

/-- Pieces that the machine runs, told as a tree. -/
theorem TriL.tree {P : Program} (hP : plainNames P = true) (hmix : P.follows .mixedOrders = true) {cO : CallO} (hc : CallsOk P cO) {lf n k m : Nat} {l : List Code} {d : Desc} {s : ST} {T : Tree}
    (h : ∀ u, (codesO P cO lf (l.take m) (frU n u d.sl) (vsOf d.objs)).sym (leafT n k) s = some T) {Q : VEx → Desc → Prop}
    (hT : T.ok (fun x d' => match x with
      | .normal => TriL P n k (l.drop m) d' Q
      | x => Q x d')) : TriL P n k l d Q := by
  intro X hn hk a w hd
  have hd0 := hd
  obtain ⟨ρ, u, M, hd⟩ := hd
  obtain ⟨p, sl, bs, pl, T', h1, h2, h3⟩ := DT.sym_ok (h u) hT
  obtain ⟨x, t1, S1⟩ := p
  dsimp only [leafT] at h2
  cases hbl : collectC bs S1 with
  | none => rw [hbl] at h2; cases h2
  | some bl =>
    rw [hbl] at h2
    dsimp only at h2
    split at h2
    · rename_i dl objs q hs hr
      split at h2
      · rename_i hcl
        cases h2
        obtain ⟨hq, hleaf⟩ := needs_ok h3
        have hnm := collectC_names hbl
        have hob := rnB_ok hr hq
        simp only [Bool.and_eq_true] at hcl
        obtain ⟨⟨⟨⟨⟨⟨c1, c2⟩, c3⟩, c4⟩, c5⟩, c6⟩, c7, c8⟩ := hcl
        have hlen : objs.length = bs.length := by rw [← hob.len, ← hnm]; simp
        subst hn hk
        obtain ⟨cV, hcV, hcO⟩ := hc.ex
        have hv := codesO_ok hcO lf h1
        have he := codesV_ext hcV lf hv
        have hsm := he.sm (fun x hx => by rcases hx with hx | hx <;> cases hx)
        have hag : Agree (vsOf d.objs) S1 (memOf d.objs) := fun x hx => by rw [memOf_small (hsm x hx), gt_vsOf hd.few]
        rw [← List.take_append_drop m l]
        have hqr := quiet_rows hd.quiet
        refine wpL_append (codesV_ok hP hmix hcV lf (codesV_base (M.map coll) hv) hd.fr (hd.mem.reroot hqr) hag fun ρ' e a' w' hle hxr hfr hwr0 => ?_)
        have hwr := hwr0.unroot hd.mem.below hd.mem.size hqr
        have hh : Holds P X ⟨dl, objs⟩ a' w' := Holds.of_raw (bl := bl) (t := t1.rebase (M.map coll)) (M := M) hd.full hle hd.kept hfr (Nat.eq_of_beq_eq_true c6) (List.isEmpty_iff.1 c7) rfl (fun D hD => (hwr0.kept_block hD).trans (hd.quiet D hD)) hd.once hd.outside hwr rfl (fun p hp => by
          have hg := collectC_ok hbl p hp
          unfold post
          by_cases hx : p.1 ∈ S1.wr
          · rw [if_pos hx, hg]
          · rw [if_neg hx, memOf_small (small_of_gt hg), ← gt_vsOf hd.few, ← he.frame p.1 hx, hg]) (by rw [hnm]; exact c1) (by rw [hnm]; exact c2) (by rw [hnm]; exact hs) (by rw [hnm]; exact hob) c3 (Nat.ble_eq_true_of_le (by rw [hlen]; exact Nat.le_of_ble_eq_true c4))
        cases x with
        | normal => cases hxr; exact hleaf X rfl rfl a' w' hh
        | exit id => cases hxr; exact ⟨.exit id, _, hleaf, .exit id, hh⟩
        | ret => cases hxr; exact ⟨.ret, _, hleaf, .ret, hh⟩
        | panic v =>
          cases hxr with
          | panic _ v' hv =>
            have := fl_inv c5 hv
            subst this
            exact ⟨.panic v', _, hleaf, .panic _ _ (fl_refl c5), hh⟩
      · cases h2
    · cases h2

theorem Tree.mkFork {R : VEx → Desc → Prop} {c : Bool} {a b : Tree} (h1 : c = true → a.ok R) (h2 : c = false → b.ok R) : (Tree.fork c a b).ok R := ⟨h1, h2⟩
theorem Tree.mkNeed {R : VEx → Desc → Prop} {c v : Bool} {t : Tree} (h1 : c = v) (h2 : t.ok R) : (Tree.need c v t).ok R := ⟨h1, h2⟩
theorem Tree.mkLeaf {R : VEx → Desc → Prop} {x : VEx} {d : Desc} (h : R x d) : (Tree.leaf x d).ok R := h
/-- The end of a function, told. -/
theorem FinC.ret {P : Program} {f n : Nat} {Q : CRes → List VObj → Prop} {d : Desc} {vs : List Value} {l : List Nat} (h : ∀ u, (resV P (frU n u d.sl) (resC P f)).run (gt (vsOf d.objs).mem) = some (vs, l))
    (hq : Q (.ret (resOf vs)) d.objs) : FinC P f n Q .ret d := ⟨vs, l, h, hq⟩
theorem FinC.normal {P : Program} {f n : Nat} {Q : CRes → List VObj → Prop} {d : Desc} {vs : List Value} {l : List Nat} (h : ∀ u, (resV P (frU n u d.sl) (resC P f)).run (gt (vsOf d.objs).mem) = some (vs, l))
    (hq : Q (.ret (resOf vs)) d.objs) : FinC P f n Q .normal d := ⟨vs, l, h, hq⟩
end Go.Proofs.Ytgdpahojinknmaa.Vm

/- The small machine's logic, eighth text: blocks and loops at a place; tables of what is said. -/
namespace Go.Proofs.Ytgdpahojinknmaa.Vm
open Go.RowKit
set_option linter.unusedVariables false
set_option linter.unusedSimpArgs false

theorem TriL.blockAt {P : Program} {n k : Nat} {L : List Code} {d : Desc} {Q : VEx → Desc → Prop} (i id : Nat) (hl : isBlock (L.drop i) = some id)
    (h : TriL P n k (flat2 (inner (L.drop i))) d (QB id (fun d' => TriL P n k (L.drop (i + 1)) d' Q) Q)) : TriL P n k (L.drop i) d Q :=
  TriL.block hl (by rw [List.tail_drop]; exact h)
theorem TriL.condAt {P : Program} {n k : Nat} {L : List Code} {d : Desc} {Q : VEx → Desc → Prop} (i : Nat) {c : Nat} {b : Bool} (hl : isCond (L.drop i) = some c) (hi : Nat.blt c n = true) (hv : slotOf d.sl c = some (.bool b))
    (h : TriL P n k (flat2 (arm b (L.drop i)) ++ L.drop (i + 1)) d Q) : TriL P n k (L.drop i) d Q :=
  TriL.cond hl hi hv (by rw [List.tail_drop]; exact h)

/-- What a loop comes to at its rounds' ends. -/
def QL {σ : Type} (I : σ → Desc) (μ : σ → Nat) (ok : σ → Prop) (s : σ) (Q : VEx → Desc → Prop) : VEx → Desc → Prop
  | .normal, d => ∃ s', ok s' ∧ μ s' < μ s ∧ d = I s'
  | x, d => Q x d
theorem TriL.loopAt {P : Program} {n k : Nat} {l : List Code} {Q : VEx → Desc → Prop} {σ : Type} (I : σ → Desc) (μ : σ → Nat) (ok : σ → Prop) (s₀ : σ) (hl : isLoop l = true) (h₀ : ok s₀)
    (h : ∀ s, ok s → TriL P n k (flat2 (inner l)) (I s) (QL I μ ok s Q)) : TriL P n k l (I s₀) Q :=
  TriL.loop I μ ok hl (fun s hs => (h s hs).mono fun x d hx => by cases x <;> exact hx) s₀ h₀

theorem QL.ret {σ : Type} {I : σ → Desc} {μ : σ → Nat} {ok : σ → Prop} {s : σ} {Q : VEx → Desc → Prop} {d : Desc} (h : Q .ret d) : QL I μ ok s Q .ret d := h
theorem QL.exit {σ : Type} {I : σ → Desc} {μ : σ → Nat} {ok : σ → Prop} {s : σ} {Q : VEx → Desc → Prop} {d : Desc} {j : Nat} (h : Q (.exit j) d) : QL I μ ok s Q (.exit j) d := h
theorem QL.panic {σ : Type} {I : σ → Desc} {μ : σ → Nat} {ok : σ → Prop} {s : σ} {Q : VEx → Desc → Prop} {d : Desc} {v : Value} (h : Q (.panic v) d) : QL I μ ok s Q (.panic v) d := h
theorem QL.next {σ : Type} {I : σ → Desc} {μ : σ → Nat} {ok : σ → Prop} {s : σ} {Q : VEx → Desc → Prop} (s' : σ) (h : ok s') (hm : μ s' < μ s) : QL I μ ok s Q .normal (I s') := ⟨s', h, hm, rfl⟩
theorem QL.to {σ : Type} {I : σ → Desc} {μ : σ → Nat} {ok : σ → Prop} {s : σ} {Q : VEx → Desc → Prop} {d : Desc} (s' : σ) (h : ok s') (hm : μ s' < μ s) (e : d = I s') : QL I μ ok s Q .normal d := ⟨s', h, hm, e⟩
theorem QB.ret {id : Nat} {N : Desc → Prop} {Q : VEx → Desc → Prop} {d : Desc} (h : Q .ret d) : QB id N Q .ret d := h
theorem QB.panic {id : Nat} {N : Desc → Prop} {Q : VEx → Desc → Prop} {d : Desc} {v : Value} (h : Q (.panic v) d) : QB id N Q (.panic v) d := h
theorem QB.normal {id : Nat} {N : Desc → Prop} {Q : VEx → Desc → Prop} {d : Desc} (h : N d) : QB id N Q .normal d := h
theorem QB.hit {id : Nat} {N : Desc → Prop} {Q : VEx → Desc → Prop} {d : Desc} (h : N d) : QB id N Q (.exit id) d := by
  unfold QB; dsimp only; rw [Nat.beq_refl]; exact h
theorem QB.miss {id j : Nat} {N : Desc → Prop} {Q : VEx → Desc → Prop} {d : Desc} (hj : Nat.beq j id = false) (h : Q (.exit j) d) : QB id N Q (.exit j) d := by
  unfold QB; dsimp only; rw [hj]; exact h
/-- Said of one call alone. -/
noncomputable def Sum.one (names : List Value → (Nat → Option VObj) → Option (List Nat)) (args : List Value) (objs : List VObj) (r : CRes) (out : List VObj) : Sum where
  names := names
  spec a o := .must (@decide (a = args ∧ o = objs) (Classical.propDecidable _)) (.done (r, out))
theorem FnOk.one {P : Program} {f : FuncId} {names : List Value → (Nat → Option VObj) → Option (List Nat)} {args : List Value} {objs : List VObj} {r : CRes} {out : List VObj} (h : FnT P f args objs fun r' o' => r' = r ∧ o' = out) :
    FnOk P f (Sum.one names args objs r out) := by
  intro a o r' o' hr
  obtain ⟨h1, h2⟩ := QT.run_must hr
  obtain ⟨rfl, rfl⟩ := @of_decide_eq_true _ (Classical.propDecidable _) h1
  cases h2
  exact h

/-- The blocks that arguments name. -/
def blkV : Nat → Value → List Nat
  | _, .pointer (some ⟨b, _, _⟩) => [b]
  | _, .slice (some ⟨b, _, _⟩) _ _ => [b]
  | _, .map (some b) => [b]
  | d + 1, .iface _ v => blkV d v
  | d + 1, .agg c => (c.toList.map (blkV d)).flatten
  | d + 1, .tuple c => (c.toList.map (blkV d)).flatten
  | d + 1, .func _ f c => (f.toList.map (blkV d)).flatten ++ (c.toList.map (blkV d)).flatten
  | _, _ => []
def dedup : List Nat → List Nat → List Nat
  | [], _ => []
  | x :: l, seen => match seen.any (Nat.beq x) with
    | true => dedup l seen
    | false => x :: dedup l (x :: seen)
def namesA (args : List Value) (_ : Nat → Option VObj) : Option (List Nat) := some (dedup ((args.map (blkV 6)).flatten) [])
theorem decide_cls {p : Prop} (h : p) : @decide p (Classical.propDecidable _) = true := by simp [h]

/-- A function without arguments that comes to a value without addresses. -/
theorem FnOk.closed {P : Program} {f : FuncId} {v : Value} (h : FnT P f [] [] fun r' o' => r' = .ret v ∧ o' = []) : FnOk P f ⟨namesA, fun a o => match a, o with
  | [], [] => .done (.ret v, [])
  | _, _ => .fail⟩ := by
  intro a o r' o' hr
  dsimp only at hr
  split at hr
  · cases hr; exact h
  · cases hr

/-- The same memory by new names. -/
theorem WR.named_anew {P : Program} {B : Nat → Prop} {w₀ w : World} {ρ : Ren} {m : Nat → Option VObj} (hfull : Full ρ) (hw : WR P B w₀ ρ m w) {bl : List (Nat × VObj)} (hbl : ∀ p ∈ bl, m p.1 = some p.2) {objs : List VObj} {k : Nat} (hk : ∀ x, x < k → ∃ r, ρ x = some r)
    (hkeep : keepOk k (bl.map (·.1)) 0 = true) (hnd : nodupB (bl.map (·.1)) = true) (hob : All2 (ON (idxN (bl.map (·.1)))) (bl.map (·.2)) objs) (hfew' : objs.length ≤ 262144) :
    ∃ ρ2 : Ren, Full ρ2 ∧ (∀ x, x < k → ρ2 x = ρ x) ∧ (∀ y i r, idxN (bl.map (·.1)) y = some i → ρ y = some r → ρ2 i = some r) ∧ WR P B w₀ ρ2 (memOf objs) w := by
  let σ : List Nat := bl.map (·.1)
  let ρ2 : Ren := fun x => match small x with
    | true => (σ[x]?).bind ρ
    | false => ρ x
  have hsm : ∀ x, small x = true → ρ2 x = (σ[x]?).bind ρ := fun x h => by show (match small x with | true => _ | false => _) = _; rw [h]
  have hgr : ∀ x, small x = false → ρ2 x = ρ x := fun x h => by show (match small x with | true => _ | false => _) = _; rw [h]
  have hlen : bl.length = objs.length := by have := hob.len; simpa using this
  have hfull2 : Full ρ2 := fun r => by
    obtain ⟨y, h1, h2⟩ := hfull r
    exact ⟨y, h1, by rw [hgr y h1]; exact h2⟩
  have hσsm : ∀ i y, σ[i]? = some y → small i = true := fun i y h => small_iff.2 (by
    have : i < σ.length := (List.getElem?_eq_some_iff.1 h).1
    have e : σ.length = bl.length := by simp [σ]
    have : (2 : Nat) ^ 18 = 262144 := rfl
    omega)
  have hσ : ∀ i y r, σ[i]? = some y → ρ y = some r → ρ2 i = some r := fun i y r h1 h2 => by rw [hsm i (hσsm i y h1), h1]; exact h2
  have hσ' : ∀ y i r, idxN σ y = some i → ρ y = some r → ρ2 i = some r := fun y i r h1 h2 => hσ i y r (idxN_some h1) h2
  refine ⟨ρ2, hfull2, fun x hx => ?_, hσ', ?_⟩
  · have := keepOk_get hkeep x hx
    rw [Nat.zero_add] at this
    obtain ⟨r, hr⟩ := hk x hx
    rw [hσ x x r this hr, hr]
  · have hbi : ∀ (i : Nat) (o : VObj), objs[i]? = some o → ∃ y ob, σ[i]? = some y ∧ m y = some ob ∧ ON (idxN σ) ob o := fun i o hi => by
      obtain ⟨ob, h1, h2⟩ := hob.get hi
      rw [List.getElem?_map] at h1
      cases hb : bl[i]? with
      | none => rw [hb] at h1; cases h1
      | some p =>
        rw [hb] at h1
        simp only [Option.map_some, Option.some.injEq] at h1
        subst h1
        exact ⟨p.1, p.2, by simp [σ, hb], hbl p (List.mem_of_getElem? hb), h2⟩
    refine hw.recast (fun x => match small x with
      | true => σ[x]?
      | false => none) (fun x o hx hne => ?_) (fun x y z hx hy => ?_) fun x hx => ?_
    · cases hs : small x with
      | false => rw [memOf_great hs] at hx; cases hx; exact absurd rfl hne
      | true =>
        rw [memOf_small hs] at hx
        obtain ⟨y, ob, h1, h2, h3⟩ := hbi x o hx
        refine ⟨y, ob, h1, h2, h3.ne hne, ?_, fun r hl => ⟨(h3.live hl).1, (h3.live hl).2, h3.or hσ' hl⟩, fun n size row e => ?_, fun el ro e => ?_⟩
        · rw [hsm x hs, h1]; rfl
        · subst e; cases h3; rfl
        · subst e
          cases h3 with
          | plain => rfl
          | cells c _ _ _ h =>
            cases c with
            | nil => rfl
            | cons v c => have := rnL_len h; simp at this
    · have key : ∀ q, (match small q with | true => σ[q]? | false => none) = some z → σ[q]? = some z := fun q hq => by
        cases hs : small q with
        | true => rw [hs] at hq; exact hq
        | false => rw [hs] at hq; cases hq
      exact nodupB_get hnd (key x hx) (key y hy)
    · cases hs : small x with
      | false => rw [memOf_great hs] at hx; cases hx
      | true =>
        rw [memOf_small hs] at hx
        rw [hsm x hs]
        have : σ[x]? = none := by
          rw [List.getElem?_eq_none_iff] at hx ⊢
          simp [σ]
          omega
        rw [this]
        rfl

/-- What a call leaves, without what nobody needs. -/
def trimT (k : Nat) (bs pl : List Nat) (r : CRes) (o : List VObj) : Option (CRes × List VObj × List (List Value)) := match getAll (fun x => o[x]?) bs with
  | none => none
  | some ob => match rnB pl (idxN bs) (bs.zip ob), backR (idxN bs) r, keepOk k bs 0 && nodupB bs && Nat.ble bs.length 262144 with
    | some (o', q), some r', true => some (r', o', q)
    | _, _, _ => none

theorem FnT.trim {P : Program} {f : FuncId} {args : List Value} {objs : List VObj} {Q Q' : CRes → List VObj → Prop} (h : FnT P f args objs Q)
    (ht : ∀ r o, Q r o → ∃ bs pl r' o' q, trimT objs.length bs pl r o = some (r', o', q) ∧ (∀ c ∈ q, c.all isScal = true) ∧ Q' r' o') : FnT P f args objs Q' := by
  intro B w₀ ρ w args' h1 h2 h3 h4
  refine (h B w₀ ρ w args' h1 h2 h3 h4).mono fun e w' he => ?_
  obtain ⟨r, o, ρ', hq, hcr, hfull, hw, hfew, hkeep⟩ := he
  obtain ⟨bs, pl, r', o', q, t1, t2, t3⟩ := ht r o hq
  unfold trimT at t1
  split at t1
  · cases t1
  · rename_i ob hob
    split at t1
    · rename_i o2 q2 r2 hr1 hr2 hc
      simp only [Option.some.injEq, Prod.mk.injEq] at t1
      obtain ⟨rfl, rfl, rfl⟩ := t1
      simp only [Bool.and_eq_true] at hc
      obtain ⟨⟨c1, c2⟩, c3⟩ := hc
      obtain ⟨g1, g2⟩ := getAll_ok hob
      have e1 : (bs.zip ob).map (·.1) = bs := by rw [List.map_fst_zip (by omega)]
      have hob2 := rnB_ok hr1 t2
      have hl : o2.length = bs.length := by rw [← hob2.len]; simp; omega
      have hsm : ∀ x ∈ bs, small x = true := fun x hx => by
        obtain ⟨i, hi⟩ := List.getElem?_of_mem hx
        obtain ⟨oo, _, h⟩ := g2 i x hi
        have : x < o.length := (List.getElem?_eq_some_iff.1 h).1
        exact small_iff.2 (by have : (2 : Nat) ^ 18 = 262144 := rfl; omega)
      obtain ⟨ρ2, k1, k2, k3, k4⟩ := WR.named_anew (bl := bs.zip ob) (objs := o2) (k := objs.length) hfull hw (fun p hp => by
        obtain ⟨i, hi⟩ := List.getElem?_of_mem hp
        rw [List.getElem?_zip_eq_some] at hi
        obtain ⟨oo, h5, h6⟩ := g2 i p.1 hi.1
        rw [hi.2] at h5
        cases h5
        rw [memOf_small (hsm p.1 (List.mem_of_getElem? hi.1))]
        exact h6) (fun x hx => by rw [hkeep x hx]; exact h2 x hx) (by rw [e1]; exact c1) (by rw [e1]; exact c2) (by rw [e1]; exact hob2) (by rw [hl]; exact Nat.le_of_ble_eq_true c3)
      rw [e1] at k3
      refine ⟨r2, o2, ρ2, t3, ?_, k1, k4, by rw [hl]; exact Nat.le_of_ble_eq_true c3, fun x hx => (k2 x hx).trans (hkeep x hx)⟩
      unfold backR at hr2
      split at hr2
      · rename_i v
        split at hr2
        · rename_i u hu
          cases hr2
          cases e with
          | returned v' => exact rnV_ok k3 6 v u v' hu hcr
          | panicked chain => cases hcr
          | outgrown => cases hcr
        · cases hr2
      · rename_i v
        split at hr2
        · rename_i hfl
          cases hr2
          cases e with
          | returned v' => cases hcr
          | panicked chain =>
            obtain ⟨v', h1, h2⟩ := hcr
            have := fl_inv hfl h2
            subst this
            exact ⟨v', h1, fl_refl hfl⟩
          | outgrown => cases hcr
        · cases hr2
    · cases t1

/-- The end of a function, trimmed. -/
def FinT (P : Program) (f : FuncId) (n k : Nat) (Q : CRes → List VObj → Prop) : VEx → Desc → Prop
  | .normal, d => ∃ vs l, (∀ u, (resV P (frU n u d.sl) (resC P f)).run (gt (vsOf d.objs).mem) = some (vs, l)) ∧ ∃ bs pl r' o' q, trimT k bs pl (.ret (resOf vs)) d.objs = some (r', o', q) ∧ (∀ c ∈ q, c.all isScal = true) ∧ Q r' o'
  | .ret, d => ∃ vs l, (∀ u, (resV P (frU n u d.sl) (resC P f)).run (gt (vsOf d.objs).mem) = some (vs, l)) ∧ ∃ bs pl r' o' q, trimT k bs pl (.ret (resOf vs)) d.objs = some (r', o', q) ∧ (∀ c ∈ q, c.all isScal = true) ∧ Q r' o'
  | _, _ => False
theorem FnT.ofT {P : Program} {f : FuncId} {n : Nat} {args : List Value} {objs : List VObj} {Q : CRes → List VObj → Prop}
    (hf : (((P.funcs[f]?).bind (·.body)).isSome && Nat.beq (slotsC P f) n && Nat.ble args.length n && Nat.ble n 1024 && Nat.ble objs.length 262144) = true)
    (h : TriL P n objs.length (flat2 (bodyC P f)) ⟨numb args 0, objs⟩ (FinT P f n objs.length Q)) : FnT P f args objs Q :=
  FnT.trim (Q := fun r o => ∃ bs pl r' o' q, trimT objs.length bs pl r o = some (r', o', q) ∧ (∀ c ∈ q, c.all isScal = true) ∧ Q r' o')
    (FnT.of hf (h.mono fun x d hx => by cases x <;> first | exact hx | exact hx.elim)) fun r o h => h
theorem FinT.ret {P : Program} {f n k : Nat} {Q : CRes → List VObj → Prop} {d : Desc} {vs : List Value} {l bs pl : List Nat} {r' : CRes} {o' : List VObj} {q : List (List Value)} (h : ∀ u, (resV P (frU n u d.sl) (resC P f)).run (gt (vsOf d.objs).mem) = some (vs, l))
    (ht : trimT k bs pl (.ret (resOf vs)) d.objs = some (r', o', q)) (hp : ∀ c ∈ q, c.all isScal = true) (hq : Q r' o') : FinT P f n k Q .ret d := ⟨vs, l, h, bs, pl, r', o', q, ht, hp, hq⟩
theorem FinT.normal {P : Program} {f n k : Nat} {Q : CRes → List VObj → Prop} {d : Desc} {vs : List Value} {l bs pl : List Nat} {r' : CRes} {o' : List VObj} {q : List (List Value)} (h : ∀ u, (resV P (frU n u d.sl) (resC P f)).run (gt (vsOf d.objs).mem) = some (vs, l))
    (ht : trimT k bs pl (.ret (resOf vs)) d.objs = some (r', o', q)) (hp : ∀ c ∈ q, c.all isScal = true) (hq : Q r' o') : FinT P f n k Q .normal d := ⟨vs, l, h, bs, pl, r', o', q, ht, hp, hq⟩
theorem pls_nil : ∀ c ∈ ([] : List (List Value)), c.all isScal = true := fun c h => by cases h
theorem pls_cons {c : List Value} {q : List (List Value)} (h : c.all isScal = true) (hq : ∀ c ∈ q, c.all isScal = true) : ∀ x ∈ c :: q, x.all isScal = true := fun x hx => by
  rcases List.mem_cons.1 hx with rfl | hx
  · exact h
  · exact hq x hx
end Go.Proofs.Ytgdpahojinknmaa.Vm

/- The small machine's logic, ninth text: tables of what is said of functions. -/
namespace Go.Proofs.Ytgdpahojinknmaa.Vm
open Go.RowKit
set_option linter.unusedVariables false
set_option linter.unusedSimpArgs false

attribute [simp] pl_bytes pl_strs pl_ints pl_u8 bytesC_length strsC_length intsC_length
@[simp] theorem pl_splice' {a b : List Value} {n : Nat} (ha : a.all isScal = true) (hb : b.all isScal = true) : (splice a n b).all isScal = true := pl_splice ha hb n
@[simp] theorem pl_take' {a : List Value} {n : Nat} (ha : a.all isScal = true) : (a.take n).all isScal = true := pl_take ha n
@[simp] theorem pl_drop' {a : List Value} {n : Nat} (ha : a.all isScal = true) : (a.drop n).all isScal = true := pl_drop ha n
@[simp] theorem one_bytes (b : ByteArray) : (bytesC b).all Value.oneCell' = true := one_of_plain (pl_bytes b)
@[simp] theorem one_strs (b : List ByteArray) : (strsC b).all Value.oneCell' = true := one_of_plain (pl_strs b)
@[simp] theorem one_ints (b : List Int) : (intsC b).all Value.oneCell' = true := one_of_plain (pl_ints b)
@[simp] theorem scal_i (k : IntKind) (x : Int) : isScal (.int k x) = true := rfl
@[simp] theorem scal_s (x : ByteArray) : isScal (.string x) = true := rfl
@[simp] theorem scal_b (x : Bool) : isScal (.bool x) = true := rfl
@[simp] theorem one_i (k : IntKind) (x : Int) : Value.oneCell' (.int k x) = true := rfl
@[simp] theorem one_s (x : ByteArray) : Value.oneCell' (.string x) = true := rfl
@[simp] theorem one_b (x : Bool) : Value.oneCell' (.bool x) = true := rfl
@[simp] theorem blt_t {a b : Nat} : Nat.blt a b = true ↔ a < b := blt_iff
@[simp] theorem blt_f {a b : Nat} : Nat.blt a b = false ↔ b ≤ a := by
  cases h : Nat.blt a b with
  | true => have := blt_iff.1 h; simp; omega
  | false => simp; exact Nat.le_of_not_lt fun h' => by rw [blt_iff.2 h'] at h; cases h
@[simp] theorem ble_t {a b : Nat} : Nat.ble a b = true ↔ a ≤ b := ⟨Nat.le_of_ble_eq_true, Nat.ble_eq_true_of_le⟩
@[simp] theorem ble_f {a b : Nat} : Nat.ble a b = false ↔ b < a := by
  cases h : Nat.ble a b with
  | true => have := Nat.le_of_ble_eq_true h; simp; omega
  | false => simp; exact Nat.lt_of_not_le fun h' => by rw [Nat.ble_eq_true_of_le h'] at h; cases h
@[simp] theorem beq_t {a b : Nat} : Nat.beq a b = true ↔ a = b := ⟨Nat.eq_of_beq_eq_true, fun h => by subst h; exact Nat.beq_refl a⟩
@[simp] theorem beq_f {a b : Nat} : Nat.beq a b = false ↔ a ≠ b := by
  cases h : Nat.beq a b with
  | true => have := Nat.eq_of_beq_eq_true h; simp; omega
  | false => simp; intro e; subst e; rw [Nat.beq_refl] at h; cases h
@[simp] theorem full_t {n c : Nat} : full n c = true ↔ c ≤ n := by
  unfold full
  cases c with
  | zero => simp
  | succ c => simp
@[simp] theorem full_f {n c : Nat} : full n c = false ↔ n < c := by
  unfold full
  cases c with
  | zero => simp
  | succ c => simp
theorem full_self (n : Nat) : full n n = true := full_t.2 (Nat.le_refl n)
def tblL : List (FuncId × Sum) → FuncId → Option Sum
  | [], _ => none
  | p :: l, f => match Nat.beq f p.1 with
    | true => some p.2
    | false => tblL l f
inductive TblOk (P : Program) : List (FuncId × Sum) → Prop where
  | nil : TblOk P []
  | cons {f : FuncId} {s : Sum} {l : List (FuncId × Sum)} (h : FnOk P f s) (t : TblOk P l) : TblOk P ((f, s) :: l)
theorem TblOk.app {P : Program} {l l' : List (FuncId × Sum)} (h : TblOk P l) (h' : TblOk P l') : TblOk P (l ++ l') := by
  induction h with
  | nil => exact h'
  | cons h _ ih => exact .cons h ih
theorem tblL_ok {P : Program} {l : List (FuncId × Sum)} (h : TblOk P l) : ∀ f s, tblL l f = some s → FnOk P f s := by
  induction h with
  | nil => intro f s h; cases h
  | cons h _ ih =>
    intro f s hf
    unfold tblL at hf
    split at hf
    · rename_i hb
      cases hf
      rw [Nat.eq_of_beq_eq_true hb]
      exact h
    · exact ih f s hf

/-- Said of calls by a function that may fail. -/
def Sum.of (g : List Value → List VObj → Option (Bool × CRes × List VObj)) : Sum := ⟨namesA, fun a o => match g a o with
  | some (c, r, o') => .must c (.done (r, o'))
  | none => .fail⟩
theorem FnOk.of {P : Program} {f : FuncId} {g : List Value → List VObj → Option (Bool × CRes × List VObj)} (h : ∀ a o r o', g a o = some (true, r, o') → FnT P f a o fun r' o'' => r' = r ∧ o'' = o') : FnOk P f (Sum.of g) := by
  intro a o r o' hr
  unfold Sum.of at hr
  dsimp only at hr
  split at hr
  · rename_i c r1 o1 hg
    obtain ⟨h1, h2⟩ := QT.run_must hr
    subst h1
    cases h2
    exact h _ _ _ _ hg
  · cases hr
end Go.Proofs.Ytgdpahojinknmaa.Vm

/- The small machine's logic, tenth text: a nil row as an empty one. -/
namespace Go.Proofs.Ytgdpahojinknmaa.Vm
open Go.RowKit
set_option linter.unusedVariables false
set_option linter.unusedSimpArgs false

theorem slotOf_nodup : ∀ {l : List (Nat × Value)}, nodupB (l.map (·.1)) = true → ∀ p ∈ l, slotOf l p.1 = some p.2
  | [], _, p, hp => by cases hp
  | q :: l, h, p, hp => by
    simp only [List.map_cons, nodupB, Bool.and_eq_true, Bool.not_eq_true', List.any_eq_false] at h
    obtain ⟨h1, h2⟩ := h
    unfold slotOf
    rcases List.mem_cons.1 hp with rfl | hp
    · have hn : slotOf l p.1 = none := by
        have key : ∀ l : List (Nat × Value), (∀ x ∈ l.map (·.1), ¬ Nat.beq p.1 x = true) → slotOf l p.1 = none := by
          intro l
          induction l with
          | nil => intro _; rfl
          | cons q l ih =>
            intro hx
            unfold slotOf
            rw [ih fun x hm => hx x (by simp at hm ⊢; exact .inr hm)]
            have := hx q.1 (by simp)
            cases hb : Nat.beq q.1 p.1 with
            | false => rfl
            | true => exact absurd (by rw [Nat.eq_of_beq_eq_true hb, Nat.beq_refl]) this
        exact key l h1
      rw [hn, Nat.beq_refl]
    · rw [slotOf_nodup h2 p hp]

/-- Slot i, nil so far, gets an empty row. -/
def nilRow (i : Nat) (el : TypeId) (d : Desc) : Desc :=
  ⟨d.sl.map fun p => bif Nat.beq p.1 i then (i, .slice (some ⟨d.objs.length, 0, none⟩) 0 0) else p, d.objs ++ [.cells [] el false]⟩

theorem Holds.nilAt {P : Program} {X : Ctx} {d : Desc} {a : Act} {w : World} (i : Nat) (el : TypeId) {s : Nat} (hz : szOf P el = some s) (hi : slotOf d.sl i = some (.slice none 0 0))
    (hc : (nodupB (d.sl.map (·.1)) && d.sl.all (fun p => Nat.blt p.1 X.n) && Nat.blt d.objs.length 262144 && Nat.ble X.k d.objs.length) = true) (h : Holds P X d a w) : Holds P X (nilRow i el d) a w := by
  obtain ⟨ρ, u, M, hd⟩ := h
  simp only [Bool.and_eq_true] at hc
  obtain ⟨⟨⟨c1, c2⟩, c3⟩, c4⟩ := hc
  have c3 := blt_iff.1 c3
  have c4 := Nat.le_of_ble_eq_true c4
  have hsk : small d.objs.length = true := small_iff.2 (by have : (2 : Nat) ^ 18 = 262144 := rfl; omega)
  have hnone : memOf d.objs d.objs.length = none := by rw [memOf_small hsk]; simp
  let r : Where := ⟨0, 0, s, 0⟩
  have hle : ρ.le (ρ.put d.objs.length r) := Ren.put_le (hd.mem.fresh _ hnone) r
  have hw := hd.mem.addDead hnone (o := .cells [] el false) (r := r) rfl (fun m sz row e => by cases e) (fun el' ro e k hk => by
    cases e
    rw [hz] at hk
    cases hk
    rfl)
  have hm : upd (memOf d.objs) d.objs.length (.cells [] el false) = memOf (d.objs ++ [.cells [] el false]) := by
    funext x
    by_cases hx : x = d.objs.length
    · subst hx
      rw [upd_same, memOf_small hsk]
      simp
    · rw [upd_other _ hx]
      cases hs : small x with
      | false => rw [memOf_great hs, memOf_great hs]
      | true =>
        rw [memOf_small hs, memOf_small hs]
        by_cases hl : x < d.objs.length
        · rw [List.getElem?_append_left hl]
        · rw [List.getElem?_eq_none (by omega), List.getElem?_eq_none (by simp; omega)]
  rw [hm] at hw
  have hnl : ((frU X.n u d.sl).rebase (M.map coll)).n = X.n := by show (valsU X.n u d.sl).length = _; unfold valsU; rw [foldset_len]; simp
  have hsz : a.tmps.size = X.n := by rw [hd.fr.size, hnl]
  have hn : X.n ≤ 1024 := by have := hd.fr.small; omega
  have hfull2 : Full (ρ.put d.objs.length r) := fun q => by
    obtain ⟨y, h1, h2⟩ := hd.full q
    exact ⟨y, h1, hle _ _ h2⟩
  obtain ⟨u', hu⟩ : ∃ u' : Nat → Value, FR (ρ.put d.objs.length r) ((frU X.n u' (nilRow i el d).sl).rebase (M.map coll)) a := by
    refine FR.make (b := M.map coll) hsz hn (hd.fr.none_left rfl) (fun j => ⟨_, (hd.fr.at_ j).mono hle⟩) fun p hp => ?_
    simp only [nilRow, List.mem_map] at hp
    obtain ⟨p0, hp0, rfl⟩ := hp
    have hp0n : p0.1 < X.n := blt_iff.1 (List.all_eq_true.1 c2 p0 hp0)
    have hat := hd.fr.at_ p0.1
    rw [Fr.at_rebase, frU_at hn hp0n (slotOf_nodup c1 p0 hp0)] at hat
    cases hb : Nat.beq p0.1 i with
    | false => exact ⟨hp0n, hat.mono hle⟩
    | true =>
      have e := Nat.eq_of_beq_eq_true hb
      subst e
      refine ⟨hp0n, ?_⟩
      have h2 := slotOf_nodup c1 p0 hp0
      rw [hi] at h2
      have h3 : p0.2 = .slice none 0 0 := (Option.some.inj h2).symm
      rw [h3] at hat
      show VR _ (.slice (some ⟨d.objs.length, 0, none⟩) 0 0) (a.tmps.getD p0.1 undef)
      rw [VR.scal_inv rfl hat]
      exact .slE _ _
  exact ⟨_, u', M, hfull2, fun x hx => by
    rw [← hd.kept x hx]
    show (if x = d.objs.length then some r else ρ x) = ρ x
    rw [if_neg (by omega)], hu, hw, by
    show Nat.le (d.objs ++ [VObj.cells [] el false]).length 262144
    simp; omega, hd.quiet, hd.once, hd.outside⟩

theorem TriL.nilAt {P : Program} {n k : Nat} {l : List Code} {d d' : Desc} {Q : VEx → Desc → Prop} (i : Nat) (el : TypeId) {s : Nat} (hz : szOf P el = some s) (hi : slotOf d.sl i = some (.slice none 0 0))
    (hc : (nodupB (d.sl.map (·.1)) && d.sl.all (fun p => Nat.blt p.1 n) && Nat.blt d.objs.length 262144 && Nat.ble k d.objs.length) = true) (hd : nilRow i el d = d') (h : TriL P n k l d' Q) : TriL P n k l d Q := by
  intro X hn hk a w hd0
  subst hd
  exact h X hn hk a w (hd0.nilAt i el hz hi (by rw [hn, hk]; exact hc))
end Go.Proofs.Ytgdpahojinknmaa.Vm

/- The small machine's logic, eleventh text: nil rows within structs as empty ones. -/
namespace Go.Proofs.Ytgdpahojinknmaa.Vm
open Go.RowKit
set_option linter.unusedVariables false
set_option linter.unusedSimpArgs false

theorem LR.nil_cell {ρ ρ1 : Ren} (hle : ρ.le ρ1) {c c' : List Value} {i : Nat} (a : Addr) (hi : c[i]? = some (.slice none 0 0)) (h : LR ρ c c') : LR ρ1 (c.set i (.slice (some a) 0 0)) c' := by
  have h1 : LR ρ1 c c' := ⟨h.len, fun k v v' x y => (h.at_ k v v' x y).mono hle⟩
  obtain ⟨v', h2, h3⟩ := h.get hi
  have := VR.scal_inv rfl h3
  subst this
  exact h1.set h2 (.slE _ _)
theorem VR.nil_cell {ρ ρ1 : Ren} (hle : ρ.le ρ1) {c : List Value} {i : Nat} {v' : Value} (a : Addr) (hi : c[i]? = some (.slice none 0 0)) (h : VR ρ (.agg c.toArray) v') : VR ρ1 (.agg (c.set i (.slice (some a) 0 0)).toArray) v' := by
  obtain ⟨c', rfl, h2⟩ := h.agg_inv
  exact VR.agg_iff (by simpa using LR.nil_cell hle a hi (by simpa using h2))

/-- A memory with one more row, an empty one. -/
theorem WR.addNil {P : Program} {B : Nat → Prop} {w₀ w : World} {ρ : Ren} {objs : List VObj} (h : WR P B w₀ ρ (memOf objs) w) {el : TypeId} {s : Nat} (hz : szOf P el = some s) (hl : objs.length < 262144) :
    ∃ ρ1, ρ.le ρ1 ∧ WR P B w₀ ρ1 (memOf (objs ++ [.cells [] el false])) w ∧ (∀ x, x ≠ objs.length → ρ1 x = ρ x) ∧ ∃ r, ρ1 objs.length = some r := by
  have hsk : small objs.length = true := small_iff.2 (by have : (2 : Nat) ^ 18 = 262144 := rfl; omega)
  have hnone : memOf objs objs.length = none := by rw [memOf_small hsk]; simp
  have hw := h.addDead hnone (o := .cells [] el false) (r := ⟨0, 0, s, 0⟩) rfl (fun m sz row e => by cases e) (fun el' ro e k hk => by
    cases e
    rw [hz] at hk
    cases hk
    rfl)
  have hm : upd (memOf objs) objs.length (.cells [] el false) = memOf (objs ++ [.cells [] el false]) := by
    funext x
    by_cases hx : x = objs.length
    · subst hx
      rw [upd_same, memOf_small hsk]
      simp
    · rw [upd_other _ hx]
      cases hs : small x with
      | false => rw [memOf_great hs, memOf_great hs]
      | true =>
        rw [memOf_small hs, memOf_small hs]
        by_cases hl : x < objs.length
        · rw [List.getElem?_append_left hl]
        · rw [List.getElem?_eq_none (by omega), List.getElem?_eq_none (by simp; omega)]
  rw [hm] at hw
  exact ⟨_, Ren.put_le (h.fresh _ hnone) _, hw, fun x hx => Ren.put_other ρ _ hx, _, Ren.put_same ρ _ _⟩

/-- An argument that holds a nil row. -/
theorem FnT.nilArg {P : Program} {f : FuncId} {v : Value} {c : List Value} {i : Nat} {objs : List VObj} {Q : CRes → List VObj → Prop} (el : TypeId) {s : Nat} (hz : szOf P el = some s) (hl : objs.length < 262144) (hi : c[i]? = some (.slice none 0 0))
    (h : FnT P f [v, .agg (c.set i (.slice (some ⟨objs.length, 0, none⟩) 0 0)).toArray] (objs ++ [.cells [] el false]) Q) : FnT P f [v, .agg c.toArray] objs Q := by
  intro B w₀ ρ w args' h1 h2 h3 h4
  obtain ⟨ρ1, g1, g2, g3, r0, g4⟩ := h4.addNil hz hl
  have hfull : Full ρ1 := fun q => by
    obtain ⟨y, a, b⟩ := h1 q
    exact ⟨y, a, g1 _ _ b⟩
  have hnm : ∀ x, x < (objs ++ [VObj.cells [] el false]).length → ∃ r, ρ1 x = some r := fun x hx => by
    by_cases e : x = objs.length
    · subst e; exact ⟨_, g4⟩
    · obtain ⟨r, hr⟩ := h2 x (by simp at hx; omega)
      exact ⟨r, g1 _ _ hr⟩
  obtain ⟨v', l2, e1, a1, a2⟩ := h3.inv_cons
  obtain ⟨u', l3, rfl, a3, a4⟩ := a2.inv_cons
  have hlr : LR ρ1 [v, .agg (c.set i (.slice (some ⟨objs.length, 0, none⟩) 0 0)).toArray] args'.toList := by
    rw [e1]
    rw [a4.inv_nil]
    exact LR.cons (a1.mono g1) (LR.cons (VR.nil_cell g1 _ hi a3) (LR.nil _))
  refine (h B w₀ ρ1 w args' hfull hnm hlr g2).mono fun e w' he => ?_
  obtain ⟨r, o', ρ', b1, b2, b3, b4, b5, b6⟩ := he
  exact ⟨r, o', ρ', b1, b2, b3, b4, b5, fun x hx => by rw [b6 x (by simp; omega), g3 x (by omega)]⟩

/-- Block i, a struct whose k-th cell is a nil row, gets an empty one. -/
def nilObj (i k : Nat) (el : TypeId) (d : Desc) : Desc :=
  ⟨d.sl, (match d.objs[i]? with
    | some (.cells c e ro) => d.objs.set i (.cells (c.set k (.slice (some ⟨d.objs.length, 0, none⟩) 0 0)) e ro)
    | _ => d.objs) ++ [.cells [] el false]⟩

theorem TriL.nilObj {P : Program} {n k : Nat} {l : List Code} {d d' : Desc} {Q : VEx → Desc → Prop} (i kk : Nat) (el : TypeId) {s : Nat} {c : List Value} {e : TypeId} (hz : szOf P el = some s) (hi : d.objs[i]? = some (.cells c e false)) (hc : c[kk]? = some (.slice none 0 0))
    (hb : (Nat.blt d.objs.length 262144 && Nat.ble k d.objs.length) = true) (hd : Go.Proofs.Ytgdpahojinknmaa.Vm.nilObj i kk el d = d') (h : TriL P n k l d' Q) : TriL P n k l d Q := by
  intro X hn hk a w hd0
  subst hd
  refine h X hn hk a w ?_
  obtain ⟨ρ, u, M, hd⟩ := hd0
  simp only [Bool.and_eq_true] at hb
  have c3 := blt_iff.1 hb.1
  have c4 := Nat.le_of_ble_eq_true hb.2
  obtain ⟨ρ1, g1, g2, g3, r0, g4⟩ := hd.mem.addNil hz c3
  have hil : i < d.objs.length := (List.getElem?_eq_some_iff.1 hi).1
  have hsi : small i = true := small_iff.2 (by have : (2 : Nat) ^ 18 = 262144 := rfl; omega)
  have hsm : ∀ x, x ≤ d.objs.length → small x = true := fun x hx => small_iff.2 (by have : (2 : Nat) ^ 18 = 262144 := rfl; omega)
  have hfull : Full ρ1 := fun q => by
    obtain ⟨y, a, b⟩ := hd.full q
    exact ⟨y, a, g1 _ _ b⟩
  have hobjs : (Go.Proofs.Ytgdpahojinknmaa.Vm.nilObj i kk el d).objs = d.objs.set i (.cells (c.set kk (.slice (some ⟨d.objs.length, 0, none⟩) 0 0)) e false) ++ [.cells [] el false] := by
    unfold Go.Proofs.Ytgdpahojinknmaa.Vm.nilObj
    rw [hi]
  have hne : c ≠ [] := by rintro rfl; simp at hc
  have hmem : ∀ x o, memOf (Go.Proofs.Ytgdpahojinknmaa.Vm.nilObj i kk el d).objs x = some o → (x ≠ i ∧ memOf (d.objs ++ [.cells [] el false]) x = some o) ∨ (x = i ∧ o = .cells (c.set kk (.slice (some ⟨d.objs.length, 0, none⟩) 0 0)) e false) := fun x o hx => by
    rw [hobjs] at hx
    cases hs : small x with
    | false =>
      refine .inl ⟨(fun e => by subst e; rw [hsi] at hs; cases hs), ?_⟩
      rw [memOf_great hs] at hx ⊢
      exact hx
    | true =>
      rw [memOf_small hs] at hx
      by_cases e0 : x = i
      · subst e0
        rw [List.getElem?_append_left (by simpa using hil), List.getElem?_set_self hil] at hx
        exact .inr ⟨rfl, (Option.some.inj hx).symm⟩
      · refine .inl ⟨e0, ?_⟩
        rw [memOf_small hs]
        by_cases hxl : x < d.objs.length
        · rw [List.getElem?_append_left (by simpa using hxl), List.getElem?_set_ne (Ne.symm e0)] at hx
          rw [List.getElem?_append_left hxl]
          exact hx
        · rw [List.getElem?_append_right (by simp; omega)] at hx
          rw [List.getElem?_append_right (by omega)]
          simpa using hx
  have hmi : memOf (d.objs ++ [.cells [] el false]) i = some (.cells c e false) := by
    rw [memOf_small hsi, List.getElem?_append_left hil]; exact hi
  have hlive : ∀ r, Live (.cells c e false) r = true := fun r => live_ne hne
  have hwr : WR P X.B X.w₀ ρ1 (memOf (Go.Proofs.Ytgdpahojinknmaa.Vm.nilObj i kk el d).objs) w :=
    { below := g2.below, size := g2.size
      live := by
        intro x o r hx hr hl
        rcases hmem x o hx with ⟨_, h2⟩ | ⟨rfl, rfl⟩
        · exact g2.live x o r h2 hr hl
        · obtain ⟨o', q1, q2, q3⟩ := g2.live x _ r hmi hr (hlive r)
          refine ⟨o', q1, ?_, fun _ => q3 rfl⟩
          cases q2 with
          | cells _ _ el' _ c' fr hp hs he hzz hf hcc =>
            refine .cells _ e el' false c' fr hp (by rw [List.length_set]; exact hs) he hzz hf fun j v hv => ?_
            by_cases ej : j = kk
            · subst ej
              have hjl : j < c.length := (List.getElem?_eq_some_iff.1 hc).1
              rw [List.getElem?_set_self hjl] at hv
              cases hv
              obtain ⟨v', q4, q5⟩ := hcc j _ hc
              have := VR.scal_inv rfl q5
              subst this
              exact ⟨_, q4, .slE _ _⟩
            · rw [List.getElem?_set_ne (Ne.symm ej)] at hv
              exact hcc j v hv
      inj := by
        intro x y ox oy rx ry hx hy hrx hry hlx hly hdd he
        have key : ∀ x o r, memOf (Go.Proofs.Ytgdpahojinknmaa.Vm.nilObj i kk el d).objs x = some o → Live o r = true → ∃ ob, memOf (d.objs ++ [.cells [] el false]) x = some ob ∧ Live ob r = true ∧ ob.ro = o.ro := fun x o r hx hl => by
          rcases hmem x o hx with ⟨_, h2⟩ | ⟨rfl, rfl⟩
          · exact ⟨o, h2, hl, rfl⟩
          · exact ⟨_, hmi, hlive r, rfl⟩
        obtain ⟨a, a1, a2, a3⟩ := key x ox rx hx hlx
        obtain ⟨b, b1, b2, b3⟩ := key y oy ry hy hly
        exact g2.inj x y a b rx ry a1 b1 hrx hry a2 b2 (hdd.imp (fun h => a3 ▸ h) (fun h => b3 ▸ h)) he
      fresh := by
        intro x hx
        refine g2.fresh x ?_
        rw [hobjs] at hx
        cases hs : small x with
        | false => rw [memOf_great hs] at hx; cases hx
        | true =>
          rw [memOf_small hs, List.getElem?_eq_none_iff] at hx
          rw [memOf_small hs, List.getElem?_eq_none_iff]
          simp at hx ⊢
          omega
      rows := by
        intro x m size row hx
        rcases hmem x _ hx with ⟨_, h2⟩ | ⟨rfl, h2⟩
        · exact g2.rows x m size row h2
        · cases h2
      nil := by
        intro x el' ro r hx hr
        rcases hmem x _ hx with ⟨_, h2⟩ | ⟨rfl, h2⟩
        · exact g2.nil x el' ro r h2 hr
        · exfalso
          simp only [VObj.cells.injEq] at h2
          have := congrArg List.length h2.1
          rw [List.length_set] at this
          exact hne (List.eq_nil_of_length_eq_zero this.symm)
      named := by
        intro x o hx hdead
        rcases hmem x o hx with ⟨_, h2⟩ | ⟨rfl, _⟩
        · exact g2.named x o h2 hdead
        · exact g2.named x _ hmi (by intro e; cases e) }
  refine ⟨ρ1, u, M, hfull, fun x hx => ?_, hd.fr.mono g1, hwr, ?_, hd.quiet, hd.once, hd.outside⟩
  · rw [← hd.kept x hx, g3 x (by omega)]
  · rw [hobjs]; simp; omega
end Go.Proofs.Ytgdpahojinknmaa.Vm

/- The small machine's logic, twelfth text: a slice of no length compared with nil; what is reached from arguments. -/
namespace Go.Proofs.Ytgdpahojinknmaa.Vm
open Go.RowKit
set_option linter.unusedVariables false
set_option linter.unusedSimpArgs false

/- Blocks that are reached from arguments, through blocks whose cells may bear addresses. -/
def reachN (P : Program) (g : Nat → Option VObj) : Nat → List Nat → List Nat
  | 0, l => l
  | d + 1, l => reachN P g d (dedup (l ++ (l.map fun x => match g x with
    | some (.cells c el _) => match scalT P el with
      | true => []
      | false => (c.map (blkV 6)).flatten
    | _ => []).flatten) [])
def namesR (P : Program) (args : List Value) (g : Nat → Option VObj) : Option (List Nat) := some (reachN P g 6 (dedup ((args.map (blkV 6)).flatten) []))
def Sum.ofR (P : Program) (g : List Value → List VObj → Option (Bool × CRes × List VObj)) : Sum := ⟨namesR P, (Sum.of g).spec⟩
theorem FnOk.ofR {P : Program} {f : FuncId} {g : List Value → List VObj → Option (Bool × CRes × List VObj)} (h : ∀ a o r o', g a o = some (true, r, o') → FnT P f a o fun r' o'' => r' = r ∧ o'' = o') : FnOk P f (Sum.ofR P g) :=
  fun a o r o' hs => FnOk.of h a o r o' hs

/-- Is a slice nil? -/
structure NilAsk where
  x : Nat
  d1 : Nat
  d2 : Nat
  ty : TypeId
def nilAsk : List Code → Option NilAsk
  | .region _ ops false :: _ => match ops.toList with
    | [o1, o2] => match o1.op, o1.dst, o1.guard, o2.op, o2.dst, o2.guard with
      | .move (.tmp x), some d1, none, .binOp .eql ty (.tmp y) (.const (.slice none 0 0)) _, some d2, none => match Nat.beq y d1 && !Nat.beq d1 d2 with
        | true => some ⟨x, d1, d2, ty⟩
        | false => none
      | _, _, _, _, _, _ => none
    | _ => none
  | _ => none

theorem nilAsk_some {l : List Code} {N : NilAsk} (h : nilAsk l = some N) : ∃ id o1 o2 rest yt, l = .region id #[o1, o2] false :: rest ∧ o1.op = .move (.tmp N.x) ∧ o1.dst = some N.d1 ∧ o1.guard = none ∧
    o2.op = .binOp .eql N.ty (.tmp N.d1) (.const (.slice none 0 0)) yt ∧ o2.dst = some N.d2 ∧ o2.guard = none ∧ N.d1 ≠ N.d2 := by
  unfold nilAsk at h
  split at h
  · rename_i id ops rest
    split at h
    · rename_i o1 o2 hops
      split at h
      · rename_i x d1 ty y yt d2 h1 h2 h3 h4 h5 h6
        split at h
        · rename_i hb
          cases h
          simp only [Bool.and_eq_true, Bool.not_eq_true'] at hb
          have hy := Nat.eq_of_beq_eq_true hb.1
          subst hy
          refine ⟨id, o1, o2, rest, yt, ?_, h1, h2, h3, h4, h5, h6, fun e => ?_⟩
          · rw [show ops = #[o1, o2] by rw [← Array.toArray_toList (xs := ops), hops]]
          · dsimp only at e; rw [e, Nat.beq_refl] at hb; cases hb.2
        · cases h
      · cases h
    · cases h
  · cases h

theorem VR.empty_inv {ρ : Ren} {a : Addr} {v : Value} (h : VR ρ (.slice (some a) 0 0) v) : ∃ a' c', v = .slice a' 0 c' := by
  cases h with
  | scal _ h => cases h
  | sl b off _ _ cap' r h hc => exact ⟨_, _, rfl⟩
  | slE _ a' => exact ⟨_, _, rfl⟩

theorem run_nilEq {P : Program} {ty el : TypeId} (ht : P.underlying ty = some (.slice el)) (a' : Option Addr) (c' : Nat) (x y : Operand) (w : World) :
    ∃ b, ((do eqGuard .eql ty x y (.slice a' 0 c') (.slice none 0 0); binOp .eql ty (.slice a' 0 c') (.slice none 0 0)) : Sem Value).run P w = .ok (.bool b) w := by
  cases a' with
  | none => exact ⟨true, by
      show (Sem.run P (do let r ← Op.equal ty (.slice none 0 c') (.slice none 0 0); (pure (Value.bool r) : Sem Value)) w) = _
      obtain ⟨dd, hdd⟩ : ∃ dd, Op.maxDepth = dd + 1 := ⟨_, rfl⟩
      unfold Op.equal
      rw [hdd]
      unfold Op.equalIn
      simp only [Sem.run_bind, Vm.run_underlying ht, Result.andThen_ok]
      rfl⟩
  | some a => exact ⟨false, by
      show (Sem.run P (do let r ← Op.equal ty (.slice (some a) 0 c') (.slice none 0 0); (pure (Value.bool r) : Sem Value)) w) = _
      obtain ⟨dd, hdd⟩ : ∃ dd, Op.maxDepth = dd + 1 := ⟨_, rfl⟩
      unfold Op.equal
      rw [hdd]
      unfold Op.equalIn
      simp only [Sem.run_bind, Vm.run_underlying ht, Result.andThen_ok]
      rfl⟩

theorem TriL.eqNil {P : Program} {n k : Nat} {l : List Code} {d : Desc} {Q : VEx → Desc → Prop} (N : NilAsk) (el : TypeId) (a : Addr) (hl : nilAsk l = some N) (ht : P.underlying N.ty = some (.slice el))
    (hx : slotOf d.sl N.x = some (.slice (some a) 0 0)) (hc : (nodupB (d.sl.map (·.1)) && d.sl.all (fun p => Nat.blt p.1 n && (!Nat.beq p.1 N.d1 && !Nat.beq p.1 N.d2)) && (Nat.blt N.d1 n && Nat.blt N.d2 n)) = true)
    (h : ∀ b, TriL P n k l.tail ⟨d.sl ++ [(N.d2, .bool b)], d.objs⟩ Q) : TriL P n k l d Q := by
  obtain ⟨id, o1, o2, rest, yt, rfl, h1, h2, h3, h4, h5, h6, h7⟩ := nilAsk_some hl
  simp only [Bool.and_eq_true] at hc
  obtain ⟨⟨c1, c2⟩, c3, c4⟩ := hc
  intro X hn hk ac w hd
  subst hn hk
  obtain ⟨ρ, u, M, hd⟩ := hd
  have hsz : ac.tmps.size = X.n := by have := hd.fr.size; rw [this]; show (valsU X.n u d.sl).length = _; unfold valsU; simp [foldset_len]
  have hsm : X.n ≤ 1024 := by have h0 : (valsU X.n u d.sl).length ≤ 1024 := hd.fr.small; unfold valsU at h0; simpa [foldset_len] using h0
  have hat : ∀ p ∈ d.sl, VR ρ p.2 (ac.tmps.getD p.1 undef) := fun p hp => by
    have h8 := hd.fr.at_ p.1
    have := List.all_eq_true.1 c2 p hp
    simp only [Bool.and_eq_true] at this
    rwa [Fr.at_rebase, frU_at hsm (blt_iff.1 this.1) (slotOf_nodup c1 p hp)] at h8
  have hxm : ∃ p ∈ d.sl, p.1 = N.x ∧ p.2 = .slice (some a) 0 0 := by
    have key : ∀ (l : List (Nat × Value)) (v : Value), slotOf l N.x = some v → ∃ p ∈ l, p.1 = N.x ∧ p.2 = v := by
      intro l
      induction l with
      | nil => intro v h; cases h
      | cons p l ih =>
        intro v h
        unfold slotOf at h
        split at h
        · rename_i v' hv
          cases h
          obtain ⟨q, h1, h2⟩ := ih _ hv
          exact ⟨q, List.mem_cons_of_mem _ h1, h2⟩
        · split at h
          · rename_i hb; cases h; exact ⟨p, List.mem_cons_self, Nat.eq_of_beq_eq_true hb, rfl⟩
          · cases h
    exact key _ _ hx
  obtain ⟨p, hp, hp1, hp2⟩ := hxm
  have hv := hat p hp
  rw [hp1, hp2] at hv
  obtain ⟨a', c', hv'⟩ := hv.empty_inv
  rw [hv'] at hv
  refine wp_region ?_
  show wpOps P #[o1, o2] _ [0, 1] ac w
  have w1 : ∀ t, Region.wanted o1 t = true := fun t => by unfold Region.wanted; rw [h3]
  have w2 : ∀ t, Region.wanted o2 t = true := fun t => by unfold Region.wanted; rw [h6]
  unfold wpOps
  simp only [List.getElem?_toArray, List.getElem?_cons_zero, w1, if_true]
  left
  unfold Oper.wp
  have e1 : (execOp ac.eval o1).run P w = .ok (.value (.slice a' 0 c')) w := by
    unfold execOp
    rw [h1]
    show Sem.run P (pure (Next.value (ac.eval (.tmp N.x))) : Sem Next) w = _
    rw [show ac.eval (.tmp N.x) = .slice a' 0 c' from hv']
    rfl
  rw [e1]
  show wpOps P #[o1, o2] _ [1] (ac.put o1.dst (.slice a' 0 c')) w
  unfold wpOps
  simp only [List.getElem?_toArray, List.getElem?_cons_succ, List.getElem?_cons_zero, w2, if_true]
  left
  unfold Oper.wp
  rw [h2]
  obtain ⟨b, hb⟩ := run_nilEq ht a' c' (.tmp N.d1) (.const (.slice none 0 0)) w
  have hd1 : N.d1 < ac.tmps.size := by rw [hsz]; exact blt_iff.1 c3
  have e2 : (execOp (ac.put (some N.d1) (.slice a' 0 c')).eval o2).run P w = .ok (.value (.bool b)) w := by
    unfold execOp
    rw [h4]
    have ev1 : (ac.put (some N.d1) (.slice a' 0 c')).eval (.tmp N.d1) = .slice a' 0 c' := by
      show (ac.tmps.setIfInBounds N.d1 (.slice a' 0 c')).getD N.d1 undef = _
      simp only [Array.getD_eq_getD_getElem?, Array.getElem?_setIfInBounds_self, hd1, if_true, Option.getD_some]
    have ev2 : (ac.put (some N.d1) (.slice a' 0 c')).eval (.const (.slice none 0 0)) = .slice none 0 0 := rfl
    simp only [ev1, ev2]
    rw [Sem.run_bind, hb]
    rfl
  rw [e2]
  have key : Holds P X ⟨d.sl ++ [(N.d2, .bool b)], d.objs⟩ ((ac.put (some N.d1) (.slice a' 0 c')).put o2.dst (.bool b)) w := ?_
  · exact h b X rfl rfl _ w key
  rw [h5]
  have hfr : ∃ u', FR ρ ((frU X.n u' (d.sl ++ [(N.d2, .bool b)])).rebase (M.map coll)) ((ac.put (some N.d1) (.slice a' 0 c')).put (some N.d2) (.bool b)) := by
    have hput1 : Vm.put ((frU X.n u d.sl).rebase (M.map coll)) (some N.d1) (.slice (some a) 0 0) = some { ((frU X.n u d.sl).rebase (M.map coll)) with t := (frU X.n u d.sl).t.set 10 N.d1 (.slice (some a) 0 0) } := by
      simp only [Vm.put, Fr.set_eq]
      have : Nat.blt N.d1 ((frU X.n u d.sl).rebase (M.map coll)).n = true := by
        have : ((frU X.n u d.sl).rebase (M.map coll)).n = X.n := by show (valsU X.n u d.sl).length = _; unfold valsU; simp [foldset_len]
        rw [this]; exact c3
      rw [this]
      rfl
    have f1 := hd.fr.put hv hput1
    have hput2 : Vm.put { ((frU X.n u d.sl).rebase (M.map coll)) with t := (frU X.n u d.sl).t.set 10 N.d1 (.slice (some a) 0 0) } (some N.d2) (.bool b) = some { ((frU X.n u d.sl).rebase (M.map coll)) with t := ((frU X.n u d.sl).t.set 10 N.d1 (.slice (some a) 0 0)).set 10 N.d2 (.bool b) } := by
      simp only [Vm.put, Fr.set_eq]
      have : Nat.blt N.d2 ((frU X.n u d.sl).rebase (M.map coll)).n = true := by
        have : ((frU X.n u d.sl).rebase (M.map coll)).n = X.n := by show (valsU X.n u d.sl).length = _; unfold valsU; simp [foldset_len]
        rw [this]; exact c4
      simp only [this]
    have f2 := f1.put (VR.scal (.bool b) rfl) hput2
    refine FR.make (b := M.map coll) (by rw [f2.size]; show (valsU X.n u d.sl).length = _; unfold valsU; simp [foldset_len]) hsm (f2.none_left rfl) (fun i => ⟨_, f2.at_ i⟩) fun q hq => ?_
    rcases List.mem_append.1 hq with hq | hq
    · have hc2 := List.all_eq_true.1 c2 q hq
      simp only [Bool.and_eq_true, Bool.not_eq_true'] at hc2
      obtain ⟨q1, q2, q3⟩ := hc2
      refine ⟨blt_iff.1 q1, ?_⟩
      have n1 : q.1 ≠ N.d1 := fun e => by rw [e, Nat.beq_refl] at q2; cases q2
      have n2 : q.1 ≠ N.d2 := fun e => by rw [e, Nat.beq_refl] at q3; cases q3
      have : ((ac.put (some N.d1) (.slice a' 0 c')).put (some N.d2) (.bool b)).tmps.getD q.1 undef = ac.tmps.getD q.1 undef := by
        show ((ac.tmps.setIfInBounds N.d1 _).setIfInBounds N.d2 _).getD q.1 undef = _
        rw [Array.getD_eq_getD_getElem?, Array.getElem?_setIfInBounds_ne (Ne.symm n2), Array.getElem?_setIfInBounds_ne (Ne.symm n1), ← Array.getD_eq_getD_getElem?]
      rw [this]
      exact hat q hq
    · simp only [List.mem_singleton] at hq
      subst hq
      refine ⟨blt_iff.1 c4, ?_⟩
      have : ((ac.put (some N.d1) (.slice a' 0 c')).put (some N.d2) (.bool b)).tmps.getD N.d2 undef = .bool b := by
        show ((ac.tmps.setIfInBounds N.d1 _).setIfInBounds N.d2 _).getD N.d2 undef = _
        have hd2 : N.d2 < (ac.tmps.setIfInBounds N.d1 (.slice a' 0 c')).size := by rw [Array.size_setIfInBounds, hsz]; exact blt_iff.1 c4
        simp only [Array.getD_eq_getD_getElem?, Array.getElem?_setIfInBounds_self, hd2, if_true, Option.getD_some]
      rw [this]
      exact .scal _ rfl
  obtain ⟨u', hu'⟩ := hfr
  exact ⟨ρ, u', M, hd.full, hd.kept, hu', hd.mem, hd.few, hd.quiet, hd.once, hd.outside⟩
end Go.Proofs.Ytgdpahojinknmaa.Vm

/- The small machine's logic, thirteenth text: loops whose rounds are told one by one; closed calls. -/
namespace Go.Proofs.Ytgdpahojinknmaa.Vm
open Go.RowKit
set_option linter.unusedVariables false
set_option linter.unusedSimpArgs false

/-- Round i of N: it goes on to the next, or leaves. -/
def QI (D : Nat → Desc) (i N : Nat) (Q : VEx → Desc → Prop) : VEx → Desc → Prop
  | .normal, d => i < N ∧ d = D (i + 1)
  | x, d => Q x d
theorem QI.next {D : Nat → Desc} {i N : Nat} {Q : VEx → Desc → Prop} {d : Desc} (h : i < N) (e : d = D (i + 1)) : QI D i N Q .normal d := ⟨h, e⟩
theorem QI.exit {D : Nat → Desc} {i N j : Nat} {Q : VEx → Desc → Prop} {d : Desc} (h : Q (.exit j) d) : QI D i N Q (.exit j) d := h
theorem QI.ret {D : Nat → Desc} {i N : Nat} {Q : VEx → Desc → Prop} {d : Desc} (h : Q .ret d) : QI D i N Q .ret d := h
theorem TriL.iters {P : Program} {n k : Nat} {l : List Code} {Q : VEx → Desc → Prop} (D : Nat → Desc) (N : Nat) (hl : isLoop l = true) (h : ∀ i, i ≤ N → TriL P n k (flat2 (inner l)) (D i) (QI D i N Q)) : TriL P n k l (D 0) Q :=
  TriL.loopAt D (fun i => N - i) (fun i => i ≤ N) 0 hl (Nat.zero_le N) fun i hi => (h i hi).mono fun x d' hq => by
    cases x with
    | normal => obtain ⟨h1, h2⟩ := hq; exact ⟨i + 1, h1, by show N - (i + 1) < N - i; omega, h2⟩
    | exit j => exact hq
    | ret => exact hq
    | panic v => exact hq

/- Are two values the same? (As far as it says so, they are.) -/
mutual
def sameV : Nat → Value → Value → Bool
  | _, .bool a, .bool b => a == b
  | _, .int k a, .int k' b => decide (k = k') && a == b
  | _, .string a, .string b => a.data.toList == b.data.toList
  | _, .nilFunc, .nilFunc => true
  | _, .nilIface, .nilIface => true
  | _, .pointer none, .pointer none => true
  | _, .pointer (some ⟨b, o, none⟩), .pointer (some ⟨b', o', none⟩) => Nat.beq b b' && Nat.beq o o'
  | _, .slice none n c, .slice none n' c' => Nat.beq n n' && Nat.beq c c'
  | _, .slice (some ⟨b, o, none⟩) n c, .slice (some ⟨b', o', none⟩) n' c' => Nat.beq b b' && Nat.beq o o' && Nat.beq n n' && Nat.beq c c'
  | _, .map none, .map none => true
  | _, .map (some a), .map (some b) => Nat.beq a b
  | d + 1, .iface t v, .iface t' v' => Nat.beq t t' && sameV d v v'
  | d + 1, .agg a, .agg b => sameL d a.toList b.toList
  | d + 1, .tuple a, .tuple b => sameL d a.toList b.toList
  | d + 1, .func (.func f) a b, .func (.func f') a' b' => Nat.beq f f' && sameL d a.toList a'.toList && sameL d b.toList b'.toList
  | _, _, _ => false
def sameL : Nat → List Value → List Value → Bool
  | _, [], [] => true
  | d, v :: l, v' :: l' => sameV d v v' && sameL d l l'
  | _, _, _ => false
end
mutual
theorem sameV_eq : ∀ (d : Nat) (v v' : Value), sameV d v v' = true → v = v'
  | d, v, v', h => by
    unfold sameV at h
    split at h <;> first
      | rfl
      | (cases h; done)
      | (have h := eq_of_beq h; rw [h]; done)
      | (have e := congrArg (fun l : List UInt8 => Value.string ⟨l.toArray⟩) (eq_of_beq h); simp only [Array.toArray_toList] at e; exact e)
      | (simp only [Bool.and_eq_true, decide_eq_true_eq, beq_iff_eq, beq_t] at h; obtain ⟨h1, h2⟩ := h; subst h1; subst h2; rfl)
      | (simp only [Bool.and_eq_true, beq_t] at h; obtain ⟨⟨⟨h1, h2⟩, h3⟩, h4⟩ := h; subst h1; subst h2; subst h3; subst h4; rfl)
      | (have h := Nat.eq_of_beq_eq_true h; rw [h]; done)
      | (simp only [Bool.and_eq_true, beq_t] at h; obtain ⟨h1, h2⟩ := h; have h2 := sameV_eq _ _ _ h2; subst h1; subst h2; rfl)
      | (have e1 := congrArg List.toArray (sameL_eq _ _ _ h); simp only [Array.toArray_toList] at e1; rw [e1]; done)
      | (simp only [Bool.and_eq_true, beq_t] at h; obtain ⟨⟨h1, h2⟩, h3⟩ := h; have e1 := congrArg List.toArray (sameL_eq _ _ _ h2); have e2 := congrArg List.toArray (sameL_eq _ _ _ h3); simp only [Array.toArray_toList] at e1 e2; rw [h1, e1, e2]; done)
theorem sameL_eq : ∀ (d : Nat) (l l' : List Value), sameL d l l' = true → l = l'
  | d, l, l', h => by
    unfold sameL at h
    split at h
    · rfl
    · simp only [Bool.and_eq_true] at h
      rw [sameV_eq _ _ _ h.1, sameL_eq _ _ _ h.2]
    · cases h
end
def sameO : VObj → VObj → Bool
  | .cells c el ro, .cells c' el' ro' => sameL 6 c c' && (Nat.beq el el' && (ro == ro'))
  | _, _ => false
theorem sameO_eq {o o' : VObj} (h : sameO o o' = true) : o = o' := by
  unfold sameO at h
  split at h
  · simp only [Bool.and_eq_true, beq_t, beq_iff_eq] at h
    obtain ⟨h1, h2, h3⟩ := h
    rw [sameL_eq _ _ _ h1, h2, h3]
  · cases h
def sameOs : List VObj → List VObj → Bool
  | [], [] => true
  | o :: l, o' :: l' => sameO o o' && sameOs l l'
  | _, _ => false
theorem sameOs_eq : ∀ {l l' : List VObj}, sameOs l l' = true → l = l'
  | [], [], _ => rfl
  | o :: l, o' :: l', h => by
    simp only [sameOs, Bool.and_eq_true] at h
    rw [sameO_eq h.1, sameOs_eq h.2]
  | [], _ :: _, h => by cases h
  | _ :: _, [], h => by cases h
/-- A closed call, and what it comes to. -/
structure Told1 where
  args : List Value
  objs : List VObj
  r : CRes
  out : List VObj
def toldSpec : List Told1 → List Value → List VObj → Option (Bool × CRes × List VObj)
  | [], _, _ => none
  | t :: l, a, o => match sameL 6 a t.args && sameOs o t.objs with
    | true => some (true, t.r, t.out)
    | false => toldSpec l a o
theorem FnOk.told {P : Program} {f : FuncId} {l : List Told1} (h : ∀ t ∈ l, FnT P f t.args t.objs fun r o => r = t.r ∧ o = t.out) : FnOk P f (Sum.ofR P (toldSpec l)) := FnOk.ofR fun a o r o' hs => by
  induction l with
  | nil => cases hs
  | cons t l ih =>
    unfold toldSpec at hs
    split at hs
    · rename_i he
      simp only [Bool.and_eq_true] at he
      simp only [Option.some.injEq, Prod.mk.injEq, true_and] at hs
      obtain ⟨rfl, rfl⟩ := hs
      rw [sameL_eq _ _ _ he.1, sameOs_eq he.2]
      exact h t List.mem_cons_self
    · exact ih (fun t ht => h t (List.mem_cons_of_mem _ ht)) hs
end Go.Proofs.Ytgdpahojinknmaa.Vm

/- Triples for the body of a range over a function, in whatever round. -/
namespace Go.Proofs.Ytgdpahojinknmaa.Vm
open Go.RowKit
set_option linter.unusedVariables false
set_option linter.unusedSimpArgs false

def wpLB (P : Program) (r : Option Nat) : List Code → (Exit → Act → World → Prop) → Act → World → Prop
  | [], Q, a, w => Q .normal a w
  | c :: l, Q, a, w => c.wpIn (FF r) 0 P (Exit.then (wpLB P r l Q) Q) a w

theorem wpLB_mono {P : Program} {r : Option Nat} : ∀ {l : List Code} {Q Q' : Exit → Act → World → Prop} {a : Act} {w : World}, wpLB P r l Q a w → (∀ e a w, Q e a w → Q' e a w) → wpLB P r l Q' a w
  | [], Q, Q', a, w, h, hq => hq _ _ _ h
  | c :: l, Q, Q', a, w, h, hq => wpIn_mono h fun e a w he => by
    cases e with
    | normal => exact wpLB_mono he hq
    | _ => exact hq _ _ _ he
theorem wpLB_append {P : Program} {r : Option Nat} : ∀ {l l' : List Code} {Q : Exit → Act → World → Prop} {a : Act} {w : World}, wpLB P r l (Exit.then (wpLB P r l' Q) Q) a w → wpLB P r (l ++ l') Q a w
  | [], l', Q, a, w, h => h
  | c :: l, l', Q, a, w, h => wpIn_mono h fun e a w he => by
    cases e with
    | normal => exact wpLB_append he
    | _ => exact he
theorem wpB_of_flat {P : Program} {r : Option Nat} : ∀ {c : Code} {Q : Exit → Act → World → Prop} {a : Act} {w : World}, wpLB P r (flat2 c) Q a w → c.wpIn (FF r) 0 P Q a w := by
  intro c
  induction c with
  | seq a b iha ihb =>
    intro Q t w h
    have h : wpLB P r (flat2 a ++ flat2 b) Q t w := h
    refine wpIn_seq (iha ?_)
    -- take apart what stands one behind the other
    have key : ∀ (l l' : List Code) (Q : Exit → Act → World → Prop) (t : Act) (w : World), wpLB P r (l ++ l') Q t w → wpLB P r l (Exit.then (wpLB P r l' Q) Q) t w := by
      intro l
      induction l with
      | nil => intro l' Q t w h; exact h
      | cons c l ih =>
        intro l' Q t w h
        refine wpIn_mono (show c.wpIn (FF r) 0 P (Exit.then (wpLB P r (l ++ l') Q) Q) t w from h) fun e t w he => ?_
        cases e with
        | normal => exact ih l' Q t w he
        | _ => exact he
    refine wpLB_mono (key _ _ _ _ _ h) fun e t w he => ?_
    cases e with
    | normal => exact ihb he
    | _ => exact he
  | _ =>
    intro Q t w h
    refine wpIn_mono (show Code.wpIn (FF r) 0 P _ (Exit.then (wpLB P r [] Q) Q) t w from h) fun e t w he => ?_
    cases e <;> exact he

theorem codesB_ok {P : Program} {r : Option Nat} (hP : plainNames P = true) (hmix : P.follows .mixedOrders = true) {call : CallF} (hc : CallOk P call) (lf : Nat) : ∀ {l : List Code} {t t1 : Fr} {S S1 : VS} {x : VEx}, codesV P call lf l t S = some (x, t1, S1) →
    ∀ {B : Nat → Prop} {w₀ : World} {ρ : Ren} {m : Nat → Option VObj} {w : World} {a : Act}, FR ρ t a → WR P B w₀ ρ m w → Agree S S1 m →
    ∀ {Q : Exit → Act → World → Prop}, (∀ (ρ' : Ren) (e : Exit) (a' : Act) (w' : World), ρ.le ρ' → XR ρ' x e → FR ρ' t1 a' → WR P B w₀ ρ' (post m S1) w' → Q e a' w') → wpLB P r l Q a w
  | [], t, t1, S, S1, x, h, B, w₀, ρ, m, w, a, ht, hw, hm, Q, hQ => by
    simp only [codesV, Option.some.injEq, Prod.mk.injEq] at h
    obtain ⟨rfl, rfl, rfl⟩ := h
    exact hQ ρ _ a w (Ren.le_refl ρ) .normal ht (by rw [post_self hm]; exact hw)
  | c :: l, t, t1, S, S1, x, h, B, w₀, ρ, m, w, a, ht, hw, hm, Q, hQ => by
    unfold codesV at h
    split at h
    · rename_i t2 S2 hx
      have e2 := codesV_ext hc lf h
      refine (codeV_ok hP hmix hc lf (r := r) (fun h => by cases h) c hx ht hw (hm.first e2) fun ρ' e a' w' hle hxr hfr hwr => ?_)
      cases hxr
      refine codesB_ok hP hmix hc lf h hfr hwr (hm.next (codeV_ext hc lf hx)) fun ρ2 e2' a2 w2 hle2 hx2 hfr2 hwr2 => ?_
      rw [post_post e2] at hwr2
      exact hQ ρ2 e2' a2 w2 (Ren.le_trans hle hle2) hx2 hfr2 hwr2
    · rename_i hne
      refine (codeV_ok hP hmix hc lf (r := r) (fun h => by cases h) c h ht hw hm fun ρ' e a' w' hle hxr hfr hwr => ?_)
      cases hxr with
      | normal => exact absurd h (hne _ _)
      | _ => exact hQ ρ' _ a' w' hle (by constructor <;> assumption) hfr hwr


/-- Triples in whatever round. -/
def TriB (P : Program) (n k : Nat) (l : List Code) (d : Desc) (Q : VEx → Desc → Prop) : Prop :=
  ∀ (X : Ctx), X.n = n → X.k = k → ∀ (r : Option Nat) (a : Act) (w : World), Holds P X d a w → wpLB P r l (fun e a' w' => ∃ x d', Q x d' ∧ XR (fun _ => none) x e ∧ Holds P X d' a' w') a w

theorem TriB.mono {P : Program} {n k : Nat} {l : List Code} {d : Desc} {Q Q' : VEx → Desc → Prop} (h : TriB P n k l d Q) (hq : ∀ x d', Q x d' → Q' x d') : TriB P n k l d Q' :=
  fun X hn hk r a w hd => wpLB_mono (h X hn hk r a w hd) fun e a w ⟨x, d', h1, h2, h3⟩ => ⟨x, d', hq x d' h1, h2, h3⟩

theorem TriB.nil {P : Program} {n k : Nat} {d : Desc} {Q : VEx → Desc → Prop} (h : Q .normal d) : TriB P n k [] d Q := fun X hn hk r a w hd => ⟨.normal, d, h, .normal, hd⟩

theorem TriB.block {P : Program} {n k id : Nat} {l : List Code} {d : Desc} {Q : VEx → Desc → Prop} (hl : isBlock l = some id) (h : TriB P n k (flat2 (inner l)) d (QB id (fun d' => TriB P n k l.tail d' Q) Q)) : TriB P n k l d Q := by
  intro X hn hk r a w hd
  unfold isBlock at hl
  split at hl
  · rename_i id' c l'
    cases hl
    refine wpIn_block (wpIn_mono (wpB_of_flat (h X hn hk r a w hd)) fun e a' w' he => ?_)
    obtain ⟨x, d', h1, h2, h3⟩ := he
    cases h2 with
    | normal => exact h1 X hn hk r a' w' h3
    | exit j =>
      by_cases hj : j = id
      · subst hj
        simp only [QB, Nat.beq_refl] at h1
        simp only [Exit.inBlock, if_true]
        exact h1 X hn hk r a' w' h3
      · have hb : Nat.beq j id = false := by
          cases hb : Nat.beq j id with
          | false => rfl
          | true => exact absurd (Nat.eq_of_beq_eq_true hb) hj
        simp only [QB, hb] at h1
        simp only [Exit.inBlock, hj, if_false]
        exact ⟨_, d', h1, .exit j, h3⟩
    | ret => exact ⟨_, d', h1, .ret, h3⟩
    | panic v v' hv => exact ⟨_, d', h1, .panic v v' hv, h3⟩
  · cases hl

/-- A loop: an invariant, and what falls. -/
theorem TriB.loop {P : Program} {n k : Nat} {l : List Code} {Q : VEx → Desc → Prop} {σ : Type} (I : σ → Desc) (μ : σ → Nat) (ok : σ → Prop) (hl : isLoop l = true)
    (h : ∀ s, ok s → TriB P n k (flat2 (inner l)) (I s) (fun x d' => match x with
      | .normal => ∃ s', ok s' ∧ μ s' < μ s ∧ d' = I s'
      | x => Q x d')) : ∀ s, ok s → TriB P n k l (I s) Q := by
  intro s hs X hn hk r a w hd
  unfold isLoop at hl
  split at hl
  · rename_i c l'
    have key : ∀ m s a w, ok s → μ s ≤ m → Holds P X (I s) a w → Code.roundsIn (FF r) 0 P c (Exit.then (wpLB P r l' fun e a' w' => ∃ x d', Q x d' ∧ XR (fun _ => none) x e ∧ Holds P X d' a' w') fun e a' w' => ∃ x d', Q x d' ∧ XR (fun _ => none) x e ∧ Holds P X d' a' w') (m + 1) a w := by
      intro m
      induction m with
      | zero =>
        intro s a w hs hm hd
        rw [roundsIn_succ]
        refine wpIn_mono (wpB_of_flat (h s hs X hn hk r a w hd)) fun e a' w' he => ?_
        obtain ⟨x, d', h1, h2, h3⟩ := he
        cases h2 with
        | normal => obtain ⟨s', _, hlt, _⟩ := h1; omega
        | exit j => exact ⟨_, d', h1, .exit j, h3⟩
        | ret => exact ⟨_, d', h1, .ret, h3⟩
        | panic v v' hv => exact ⟨_, d', h1, .panic v v' hv, h3⟩
      | succ m ih =>
        intro s a w hs hm hd
        rw [roundsIn_succ]
        refine wpIn_mono (wpB_of_flat (h s hs X hn hk r a w hd)) fun e a' w' he => ?_
        obtain ⟨x, d', h1, h2, h3⟩ := he
        cases h2 with
        | normal =>
          obtain ⟨s', hs', hlt, rfl⟩ := h1
          exact ih s' a' w' hs' (by omega) h3
        | exit j => exact ⟨_, d', h1, .exit j, h3⟩
        | ret => exact ⟨_, d', h1, .ret, h3⟩
        | panic v v' hv => exact ⟨_, d', h1, .panic v v' hv, h3⟩
    exact wpIn_loop_rounds _ (key _ s a w hs (Nat.le_refl _) hd)
  · cases hl

theorem TriB.cond {P : Program} {n k i : Nat} {l : List Code} {d : Desc} {Q : VEx → Desc → Prop} {b : Bool} (hl : isCond l = some i) (hi : Nat.blt i n = true) (hv : slotOf d.sl i = some (.bool b))
    (h : TriB P n k (flat2 (arm b l) ++ l.tail) d Q) : TriB P n k l d Q := by
  intro X hn hk r a w hd
  unfold isCond at hl
  split at hl
  · rename_i i' x y l'
    simp only [Option.some.injEq] at hl
    subst hl
    have h0 : wpLB P r (flat2 (if b then x else y) ++ l') _ a w := h X hn hk r a w hd
    obtain ⟨ρ, u, M, hd⟩ := hd
    subst hn
    have hsm := hd.fr.small
    have hnl : ((frU X.n u d.sl).rebase (M.map coll)).n = X.n := by show (valsU X.n u d.sl).length = _; unfold valsU; rw [foldset_len]; simp
    have hev : a.eval (.tmp i') = .bool b := hd.fr.evalBool (c := .tmp i') (frU_at (by omega) (blt_iff.1 hi) hv)
    have key : ∀ (l l' : List Code) (Q : Exit → Act → World → Prop) (t : Act) (w : World), wpLB P r (l ++ l') Q t w → wpLB P r l (Exit.then (wpLB P r l' Q) Q) t w := by
      intro l
      induction l with
      | nil => intro l' Q t w h; exact h
      | cons c l ih =>
        intro l' Q t w h
        refine wpIn_mono (show c.wpIn (FF r) 0 P (Exit.then (wpLB P r (l ++ l') Q) Q) t w from h) fun e t w he => ?_
        cases e with
        | normal => exact ih l' Q t w he
        | _ => exact he
    have h2 := wpB_of_flat (key _ _ _ _ _ h0)
    cases b with
    | true => exact wpIn_cond_true hev h2
    | false => exact wpIn_cond_false hev h2
  · cases hl
theorem TriB.tree {P : Program} (hP : plainNames P = true) (hmix : P.follows .mixedOrders = true) {cO : CallO} (hc : CallsOk P cO) {lf n k m : Nat} {l : List Code} {d : Desc} {s : ST} {T : Tree}
    (h : ∀ u, (codesO P cO lf (l.take m) (frU n u d.sl) (vsOf d.objs)).sym (leafT n k) s = some T) {Q : VEx → Desc → Prop}
    (hT : T.ok (fun x d' => match x with
      | .normal => TriB P n k (l.drop m) d' Q
      | x => Q x d')) : TriB P n k l d Q := by
  intro X hn hk r a w hd
  have hd0 := hd
  obtain ⟨ρ, u, M, hd⟩ := hd
  obtain ⟨p, sl, bs, pl, T', h1, h2, h3⟩ := DT.sym_ok (h u) hT
  obtain ⟨x, t1, S1⟩ := p
  dsimp only [leafT] at h2
  cases hbl : collectC bs S1 with
  | none => rw [hbl] at h2; cases h2
  | some bl =>
    rw [hbl] at h2
    dsimp only at h2
    split at h2
    · rename_i dl objs q hs hr
      split at h2
      · rename_i hcl
        cases h2
        obtain ⟨hq, hleaf⟩ := needs_ok h3
        have hnm := collectC_names hbl
        have hob := rnB_ok hr hq
        simp only [Bool.and_eq_true] at hcl
        obtain ⟨⟨⟨⟨⟨⟨c1, c2⟩, c3⟩, c4⟩, c5⟩, c6⟩, c7, c8⟩ := hcl
        have hlen : objs.length = bs.length := by rw [← hob.len, ← hnm]; simp
        subst hn hk
        obtain ⟨cV, hcV, hcO⟩ := hc.ex
        have hv := codesO_ok hcO lf h1
        have he := codesV_ext hcV lf hv
        have hsm := he.sm (fun x hx => by rcases hx with hx | hx <;> cases hx)
        have hag : Agree (vsOf d.objs) S1 (memOf d.objs) := fun x hx => by rw [memOf_small (hsm x hx), gt_vsOf hd.few]
        rw [← List.take_append_drop m l]
        have hqr := quiet_rows hd.quiet
        refine wpLB_append (codesB_ok hP hmix hcV lf (codesV_base (M.map coll) hv) hd.fr (hd.mem.reroot hqr) hag fun ρ' e a' w' hle hxr hfr hwr0 => ?_)
        have hwr := hwr0.unroot hd.mem.below hd.mem.size hqr
        have hh : Holds P X ⟨dl, objs⟩ a' w' := Holds.of_raw (bl := bl) (t := t1.rebase (M.map coll)) (M := M) hd.full hle hd.kept hfr (Nat.eq_of_beq_eq_true c6) (List.isEmpty_iff.1 c7) rfl (fun D hD => (hwr0.kept_block hD).trans (hd.quiet D hD)) hd.once hd.outside hwr rfl (fun p hp => by
          have hg := collectC_ok hbl p hp
          unfold post
          by_cases hx : p.1 ∈ S1.wr
          · rw [if_pos hx, hg]
          · rw [if_neg hx, memOf_small (small_of_gt hg), ← gt_vsOf hd.few, ← he.frame p.1 hx, hg]) (by rw [hnm]; exact c1) (by rw [hnm]; exact c2) (by rw [hnm]; exact hs) (by rw [hnm]; exact hob) c3 (Nat.ble_eq_true_of_le (by rw [hlen]; exact Nat.le_of_ble_eq_true c4))
        cases x with
        | normal => cases hxr; exact hleaf X rfl rfl r a' w' hh
        | exit id => cases hxr; exact ⟨.exit id, _, hleaf, .exit id, hh⟩
        | ret => cases hxr; exact ⟨.ret, _, hleaf, .ret, hh⟩
        | panic v =>
          cases hxr with
          | panic _ v' hv =>
            have := fl_inv c5 hv
            subst this
            exact ⟨.panic v', _, hleaf, .panic _ _ (fl_refl c5), hh⟩
      · cases h2
    · cases h2

theorem TriB.done {P : Program} {n k : Nat} {l : List Code} {d : Desc} {Q : VEx → Desc → Prop} (hl : l.isEmpty = true) (h : Q .normal d) : TriB P n k l d Q := by
  cases l with
  | nil => exact TriB.nil h
  | cons c l => cases hl
theorem TriB.blockAt {P : Program} {n k : Nat} {L : List Code} {d : Desc} {Q : VEx → Desc → Prop} (i id : Nat) (hl : isBlock (L.drop i) = some id)
    (h : TriB P n k (flat2 (inner (L.drop i))) d (QB id (fun d' => TriB P n k (L.drop (i + 1)) d' Q) Q)) : TriB P n k (L.drop i) d Q :=
  TriB.block hl (by rw [List.tail_drop]; exact h)
theorem TriB.condAt {P : Program} {n k : Nat} {L : List Code} {d : Desc} {Q : VEx → Desc → Prop} (i : Nat) {c : Nat} {b : Bool} (hl : isCond (L.drop i) = some c) (hi : Nat.blt c n = true) (hv : slotOf d.sl c = some (.bool b))
    (h : TriB P n k (flat2 (arm b (L.drop i)) ++ L.drop (i + 1)) d Q) : TriB P n k (L.drop i) d Q :=
  TriB.cond hl hi hv (by rw [List.tail_drop]; exact h)

theorem TriB.loopAt {P : Program} {n k : Nat} {l : List Code} {Q : VEx → Desc → Prop} {σ : Type} (I : σ → Desc) (μ : σ → Nat) (ok : σ → Prop) (s₀ : σ) (hl : isLoop l = true) (h₀ : ok s₀)
    (h : ∀ s, ok s → TriB P n k (flat2 (inner l)) (I s) (QL I μ ok s Q)) : TriB P n k l (I s₀) Q :=
  TriB.loop I μ ok hl (fun s hs => (h s hs).mono fun x d hx => by cases x <;> exact hx) s₀ h₀

end Go.Proofs.Ytgdpahojinknmaa.Vm

/- A range over a function, in the small machine's logic: the iterator's word, the body's triple. Conditions: the rounds all go on. -/
namespace Go.Proofs.Ytgdpahojinknmaa.Vm
open Go.RowKit
set_option linter.unusedVariables false
set_option linter.unusedSimpArgs false

/-- A world whose memory is O, by names that are ρ's beneath K. -/
def St (P : Program) (B : Nat → Prop) (w₀ : World) (ρ : Ren) (K : Nat) (O : List VObj) (W : World) : Prop := ∃ ρ' : Ren, Full ρ' ∧ (∀ x, x < K → ρ' x = ρ x) ∧ WR P B w₀ ρ' (memOf O) W

/-- An iterator's word: N rounds, O k the memory at the k-th one's head, X k what it is handed, Y k the blocks that are new there. -/
def IterV (P : Program) (gf : FuncId) (cap : List Value) (K : Nat) (O : Nat → List VObj) (N : Nat) (X : Nat → List Value) (Y : Nat → List VObj) : Prop :=
  ∀ (B : Nat → Prop) (w₀ : World) (ρ : Ren) (lb : Array Value) (l : Nat) (Ex : World → Prop) (W : World), LR ρ cap lb.toList → (∀ A A', Ex A → A.grownBy A' none → Ex A') → Full ρ →
    (∀ k W' (xs : Array Value), k < N → (∃ ρ' : Ren, Full ρ' ∧ (∀ x, x < K → ρ' x = ρ x) ∧ WR P B w₀ ρ' (memOf (O k ++ Y k)) W' ∧ LR ρ' (X k) xs.toList) → Ex W' →
      YieldAt Fence.wide 3 P l xs W' fun e W'' => e = .returned (.bool true) ∧ St P B w₀ ρ K (O (k + 1)) W'' ∧ Ex W'') →
    St P B w₀ ρ K (O 0) W → Ex W → CallsIn Fence.wide 4 P gf (#[.func (.yield l) #[] #[]] ++ lb) W fun e W' => (∃ v, e = .returned v) ∧ St P B w₀ ρ K (O N) W' ∧ Ex W'

def rangeOf : List Code → Option (Nat × List Nat)
  | .rangeFunc (.tmp g) ps _ _ :: _ => some (g, ps.toList)
  | _ => none
def rAsg : List Code → Code
  | .rangeFunc _ _ a _ :: _ => a
  | _ => .skip
def rBody : List Code → Code
  | .rangeFunc _ _ _ b :: _ => b
  | _ => .skip
def ltN (K : Nat) (x : Nat) : Option Nat := match Nat.blt x K with
  | true => some x
  | false => none
def aliveO : VObj → Bool
  | .dead => false
  | _ => true

theorem fset_size : ∀ (l : List (Nat × Value)) (t : Array Value), (l.foldl (fun t p => t.setIfInBounds p.1 p.2) t).size = t.size
  | [], t => rfl
  | p :: l, t => by rw [List.foldl_cons, fset_size l, Array.size_setIfInBounds]
theorem fset_other {i : Nat} : ∀ (l : List (Nat × Value)) (t : Array Value), (∀ p ∈ l, p.1 ≠ i) → (l.foldl (fun t p => t.setIfInBounds p.1 p.2) t).getD i undef = t.getD i undef
  | [], t, _ => rfl
  | p :: l, t, h => by
    rw [List.foldl_cons, fset_other l _ fun q hq => h q (List.mem_cons_of_mem _ hq)]
    rw [Array.getD_eq_getD_getElem?, Array.getElem?_setIfInBounds_ne (h p List.mem_cons_self), ← Array.getD_eq_getD_getElem?]
theorem fset_all {ρ : Ren} : ∀ (l : List (Nat × Value)) (t : Array Value), (∀ p ∈ l, ∃ u, VR ρ u p.2) → (∀ i, ∃ u, VR ρ u (t.getD i undef)) → ∀ i, ∃ u, VR ρ u ((l.foldl (fun t p => t.setIfInBounds p.1 p.2) t).getD i undef)
  | [], t, _, h, i => h i
  | p :: l, t, hl, h, i => by
    rw [List.foldl_cons]
    refine fset_all l _ (fun q hq => hl q (List.mem_cons_of_mem _ hq)) (fun j => ?_) i
    rw [Array.getD_eq_getD_getElem?]
    by_cases e : p.1 = j
    · subst e
      by_cases hj : p.1 < t.size
      · rw [Array.getElem?_setIfInBounds_self, if_pos hj]; exact hl p List.mem_cons_self
      · rw [Array.getElem?_eq_none (by rw [Array.size_setIfInBounds]; omega)]; exact ⟨_, VR.undef ρ⟩
    · rw [Array.getElem?_setIfInBounds_ne e, ← Array.getD_eq_getD_getElem?]; exact h j
theorem fset_at : ∀ (ps : List Nat) (xs : List Value) (t : Array Value), nodupB ps = true → ps.length = xs.length → ∀ (j i : Nat) (v : Value), ps[j]? = some i → xs[j]? = some v → i < t.size → ((ps.zip xs).foldl (fun t p => t.setIfInBounds p.1 p.2) t).getD i undef = v
  | [], _, t, _, _, j, i, v, h, _, _ => by simp at h
  | p :: ps, [], t, _, hl, j, i, v, _, _, _ => by simp at hl
  | p :: ps, x :: xs, t, hn, hl, j, i, v, hi, hv, hs => by
    rw [List.zip_cons_cons, List.foldl_cons]
    simp only [nodupB, Bool.and_eq_true, Bool.not_eq_true', List.any_eq_false] at hn
    cases j with
    | zero =>
      simp only [List.getElem?_cons_zero, Option.some.injEq] at hi hv
      subst hi hv
      rw [fset_other _ _ fun q hq e => ?_]
      · rw [Array.getD_eq_getD_getElem?, Array.getElem?_setIfInBounds_self, if_pos hs]; rfl
      · have := hn.1 q.1 (List.of_mem_zip hq).1
        rw [e, Nat.beq_refl] at this
        exact this rfl
    | succ j => exact fset_at ps xs _ hn.2 (by simpa using hl) j i v (by simpa using hi) (by simpa using hv) (by rw [Array.size_setIfInBounds]; exact hs)

theorem wpIn_any_n {P : Program} {r : Option Nat} {n m : Nat} {c : Code} {Q : Exit → Act → World → Prop} {a : Act} {w : World} (h : c.wpIn (FF r) n P Q a w) : c.wpIn (FF r) m P Q a w :=
  fun b k cs h1 h2 _ => h b k cs h1 h2 fun d hd => by cases hd
theorem WR.under' {P : Program} {B : Nat → Prop} {w₀ w w' : World} {ρ : Ren} {g : Nat → Option VObj} (h : WR P B w₀ ρ g w) (hb : w.grownBy w' none) : WR P B w₀ ρ g w' where
  below := h.below.trans ⟨hb.os, hb.tape, hb.output, hb.size, fun k hk => hb.block k (h.size k hk) (by intro e; cases e)⟩
  size := fun k hk => Nat.lt_of_lt_of_le (h.size k hk) hb.size
  live := fun x o r hx hr hl => by
    obtain ⟨o', h1, h2⟩ := h.live x o r hx hr hl
    exact ⟨o', (hb.block _ (Array.getElem?_eq_some_iff.1 h1).1 (by intro e; cases e)).trans h1, h2⟩
  inj := h.inj
  fresh := h.fresh
  rows := h.rows
  nil := h.nil
  named := h.named
theorem grown_block {w w' : World} (h : w.grownBy w' none) {D : Nat} {o : Obj} (hD : w.heap[D]? = some o) : w'.heap[D]? = some o :=
  (h.block D (Array.getElem?_eq_some_iff.1 hD).1 (by intro e; cases e)).trans hD

theorem TriL.range {P : Program} {n k g : Nat} {ps : List Nat} {L : List Code} {K N : Nat} {sl : List (Nat × Value)} {Q : VEx → Desc → Prop} {gf : FuncId} {cap : List Value} {O : Nat → List VObj} {X : Nat → List Value} {Y : Nat → List VObj}
    (hl : rangeOf L = some (g, ps)) (eg : ∀ args w, (callFunc gf args).run P w = .ok (.enter gf args) w) (hit : IterV P gf cap K O N X Y)
    (hg : slotOf sl g = some (.func (.func gf) #[] cap.toArray)) (hgn : Nat.blt g n = true) (hX : ∀ j, j < N → (X j).length = ps.length)
    (hsl : rnS (ltN K) (sl.map (·.1)) (sl.map (·.2)) = some sl)
    (hc : (nodupB (sl.map (·.1)) && sl.all (fun p => Nat.blt p.1 n && !(ps.any (Nat.beq p.1))) && nodupB ps && ps.all (fun p => Nat.blt p n) && Nat.ble k K && Nat.ble n 1024) = true)
    (hO : ∀ j, j ≤ N → (O j).length = K) (hY : ∀ j, j < N → K + (Y j).length ≤ 262144) (hal : (O 0).all aliveO = true)
    (hbody : ∀ j, j < N → TriB P n K (flat2 (rAsg L)) ⟨sl ++ ps.zip (X j), O j ++ Y j⟩ fun x d1 => x = .normal ∧ TriB P n K (flat2 (rBody L)) d1 fun x d2 => x = .normal ∧ d2.objs = O (j + 1))
    (hdone : TriL P n k L.tail ⟨sl, O N⟩ Q) : TriL P n k L ⟨sl, O 0⟩ Q := by
  intro Cx hn hk a w hd
  subst hn hk
  obtain ⟨ρ, u, M, hd⟩ := hd
  unfold rangeOf at hl
  split at hl
  · rename_i g' psA asg body rest
    simp only [Option.some.injEq, Prod.mk.injEq] at hl
    obtain ⟨rfl, rfl⟩ := hl
    simp only [Bool.and_eq_true] at hc
    obtain ⟨⟨⟨⟨⟨c1, c2⟩, c3⟩, c4⟩, c5⟩, c6⟩ := hc
    have c5 := Nat.le_of_ble_eq_true c5
    have c6 := Nat.le_of_ble_eq_true c6
    have hsz : a.tmps.size = Cx.n := by have := hd.fr.size; rw [this]; show (valsU Cx.n u sl).length = _; unfold valsU; simp [foldset_len]
    have hdef : a.defers = M.map coll := hd.fr.none_left rfl
    -- the slots
    have hat : ∀ q ∈ sl, VR ρ q.2 (a.tmps.getD q.1 undef) := fun q hq => by
      have h8 := hd.fr.at_ q.1
      have := List.all_eq_true.1 c2 q hq
      simp only [Bool.and_eq_true] at this
      rwa [Fr.at_rebase, frU_at c6 (blt_iff.1 this.1) (slotOf_nodup c1 q hq)] at h8
    have hat' : ∀ ρ' : Ren, (∀ x, x < K → ρ' x = ρ x) → ∀ q ∈ sl, VR ρ' q.2 (a.tmps.getD q.1 undef) := fun ρ' hρ q hq => by
      obtain ⟨j, v, h1, h2, h3⟩ := rnS_mem hsl q hq
      rw [List.getElem?_map] at h1 h2
      cases hj : sl[j]? with
      | none => rw [hj] at h1; cases h1
      | some q' =>
        rw [hj] at h1 h2
        simp only [Option.map_some, Option.some.injEq] at h1 h2
        have h4 := hat q' (List.mem_of_getElem? hj)
        rw [h1, h2] at h4
        refine rnV_ok (τ := ltN K) (ρ := ρ) (fun y i r hy hr => ?_) 6 _ _ _ h3 h4
        unfold ltN at hy
        split at hy
        · rename_i hb
          cases hy
          rw [hρ _ (blt_iff.1 hb)]; exact hr
        · cases hy
    -- the iterator
    obtain ⟨f', lb, hgv, hf', hlb⟩ : ∃ f' lb, a.eval (.tmp g') = .func (.func gf) f' lb ∧ LR ρ [] f'.toList ∧ LR ρ cap lb.toList := by
      have h8 := hd.fr.at_ g'
      rw [Fr.at_rebase, frU_at c6 (blt_iff.1 hgn) hg] at h8
      obtain ⟨f', c', e1, e2, e3⟩ := h8.func_inv
      exact ⟨f', c', e1, by simpa using e2, by simpa using e3⟩
    have hf0 : f' = #[] := by apply Array.ext'; rw [hf'.inv_nil]
    subst hf0
    have hOK : ∀ ρ' : Ren, Full ρ' → ∀ i, ∃ u, VR ρ' u (a.tmps.getD i undef) := fun ρ' hf i => (hd.fr.at_ i).full hf
    have hBs := hd.mem.size
    refine (wpIn_wide (n := 5)).1 (wpIn_rangeFunc fun fn hfn => ?_)
    obtain ⟨rec, hrec⟩ : ∃ rec : LoopState → Loop, rec = fun st => { state := st, pending := none, fn, tmps := a.tmps, params := psA, assign := asg, body, defers := w.heap.size } := ⟨_, rfl⟩
    obtain ⟨W1, hW1⟩ : ∃ W1, (w.alloc (.deferred (some []))).alloc (.loop (rec .ready)) = W1 := ⟨_, rfl⟩
    have hL1 : W1.heap[w.heap.size + 1]? = some (.loop (rec .ready)) := by
      rw [← hW1]
      have := World.alloc_heap_new (w.alloc (.deferred (some []))) (.loop (rec .ready))
      rwa [World.size_alloc] at this
    have hold : ∀ D, D < w.heap.size → W1.heap[D]? = w.heap[D]? := fun D hD => by
      rw [← hW1]
      exact (Below.heap_alloc _ _ _ (by simp; omega)).trans (Below.heap_alloc _ _ _ hD)
    have hK1 : W1.heap[w.heap.size]? = some (.deferred (some [])) := by
      rw [← hW1]; exact (Below.heap_alloc _ _ _ (by simp)).trans (World.alloc_heap_new w _)
    have hg1 : w.grownBy W1 none := by
      rw [← hW1]
      exact ⟨rfl, rfl, rfl, by simp; omega, fun D hD _ => by rw [hW1]; exact hold D hD⟩
    have hlt0 : ∀ D, Cx.B D → D < w.heap.size := hBs
    have nB : ¬ Cx.B (w.heap.size + 1) := fun h => by have := hlt0 _ h; omega
    have nB0 : ¬ Cx.B w.heap.size := fun h => by have := hlt0 _ h; omega
    have hMlt : ∀ D ∈ M, D < w.heap.size := fun D hD => (Array.getElem?_eq_some_iff.1 (hd.quiet D hD)).1
    -- what the rounds keep besides
    obtain ⟨Ex, hEx⟩ : ∃ Ex : World → Prop, Ex = fun W => W.heap[w.heap.size + 1]? = some (.loop (rec .ready)) ∧ W.heap[w.heap.size]? = some (.deferred (some [])) ∧ ∀ D ∈ M, W.heap[D]? = some (.deferred (some [])) := ⟨_, rfl⟩
    refine ⟨w.heap.size + 1, [coll w.heap.size], W1, { target := .fn (.func gf) lb, args := #[.func (.yield (w.heap.size + 1)) #[] #[]] }, W1, gf, #[.func (.yield (w.heap.size + 1)) #[] #[]] ++ lb, W1, ?_, ?_, ?_, ?_, fun _ => by omega, ?_⟩
    · rw [← hW1, hrec]; exact run_enterLoop_outer _ _ _ _ _
    · simp only [resolve, hgv]
      simp [go_sem]
    · intro f'' hf''; trivial
    · simp [invoke, go_sem, eg]
    · refine (hit Cx.B Cx.w₀ ρ lb (w.heap.size + 1) Ex W1 hlb ?_ hd.full ?_ ⟨ρ, hd.full, fun _ _ => rfl, hd.mem.under' hg1⟩ (by rw [hEx]; exact ⟨hL1, hK1, fun D hD => (hold D (hMlt D hD)).trans (hd.quiet D hD)⟩)).mono ?_
      · intro A A' hA hgr
        rw [hEx] at hA ⊢
        exact ⟨grown_block hgr hA.1, grown_block hgr hA.2.1, fun D hD => grown_block hgr (hA.2.2 D hD)⟩
      · rintro j W xs hj ⟨ρ1, hf1, hk1, hw1, hx1⟩ hE
        rw [hEx] at hE
        obtain ⟨hE1, hE2, hE3⟩ := hE
        have hxl : psA.toList.length = xs.toList.length := by rw [← hX j hj, hx1.len]
        have hy := run_yield (P := P) (args := xs) hE1 (by rw [hrec]; have := hxl; simp at this; exact this.symm)
        refine ⟨_, _, _, _, hy, roundIn_of_wpIn (by rw [hrec]; exact hfn) ?_⟩
        rw [hrec] at hE1 ⊢
        dsimp only
        -- the frame of a round
        obtain ⟨t1, ht1⟩ : ∃ t1, (psA.zip xs).foldl (fun tmps (x : Nat × Value) => tmps.setIfInBounds x.1 x.2) a.tmps = t1 := ⟨_, rfl⟩
        have ht2 : t1 = (psA.toList.zip xs.toList).foldl (fun t p => t.setIfInBounds p.1 p.2) a.tmps := by
          rw [← ht1, ← Array.foldl_toList, Array.toList_zip]
        have ht3 : (psA.zip xs).foldl (fun tmps (t, a) => tmps.setIfInBounds t a) a.tmps = t1 := ht1
        rw [ht3]
        have hM : ∀ V : World, V.heap[w.heap.size + 1]? = W.heap[w.heap.size + 1]? ∨ (∃ r, V.heap[w.heap.size + 1]? = some (.loop r)) → V.heap[w.heap.size]? = some (.deferred (some [])) → (∀ D ∈ M, V.heap[D]? = some (.deferred (some []))) →
            ∀ D ∈ (w.heap.size + 1) :: w.heap.size :: M, ∃ o, V.heap[D]? = some o ∧ noRow o = true := by
          intro V h1 h2 h3 D hD
          rcases List.mem_cons.1 hD with rfl | hD
          · rcases h1 with h1 | ⟨r, h1⟩
            · exact ⟨_, h1.trans hE1, rfl⟩
            · exact ⟨_, h1, rfl⟩
          · rcases List.mem_cons.1 hD with rfl | hD
            · exact ⟨_, h2, rfl⟩
            · exact ⟨_, h3 D hD, rfl⟩
        have hqW := hM W (.inl rfl) hE2 hE3
        have hnm : ∀ x, x < K → ∃ r, ρ1 x = some r := fun x hx => by
          rw [hk1 x hx]
          have hlen0 := hO 0 (Nat.zero_le _)
          have hxs : small x = true := small_iff.2 (by have := hY j hj; have : (2 : Nat) ^ 18 = 262144 := rfl; omega)
          have ho : (O 0)[x]? = some (O 0)[x] := List.getElem?_eq_getElem (by omega)
          refine hd.mem.named x (O 0)[x] (by rw [memOf_small hxs]; exact ho) fun e => ?_
          have := List.all_eq_true.1 hal _ (List.mem_of_getElem? ho)
          rw [e] at this
          cases this
        have hfew : (O j ++ Y j).length ≤ 262144 := by rw [List.length_append, hO j (by omega)]; exact hY j hj
        obtain ⟨u1, hu1⟩ : ∃ u1 : Nat → Value, FR ρ1 ((frU Cx.n u1 (sl ++ psA.toList.zip (X j))).rebase (([] : List Nat).map coll)) { tmps := t1, defers := [] } := by
          refine FR.make (b := []) (by rw [ht2]; show ((psA.toList.zip xs.toList).foldl _ a.tmps).size = _; rw [fset_size]; exact hsz) c6 rfl (fun i => ?_) fun q hq => ?_
          · show ∃ u, VR ρ1 u (t1.getD i undef)
            rw [ht2]
            refine fset_all _ _ (fun q hq => ?_) (hOK ρ1 hf1) i
            obtain ⟨i', hi'⟩ := List.getElem?_of_mem (List.of_mem_zip hq).2
            have hlt : i' < (X j).length := by rw [hx1.len]; exact (List.getElem?_eq_some_iff.1 hi').1
            exact ⟨_, hx1.at_ i' _ _ (List.getElem?_eq_getElem hlt) hi'⟩
          · show q.1 < Cx.n ∧ VR ρ1 q.2 (t1.getD q.1 undef)
            rcases List.mem_append.1 hq with hq | hq
            · have h2 := List.all_eq_true.1 c2 q hq
              simp only [Bool.and_eq_true, Bool.not_eq_true', List.any_eq_false] at h2
              refine ⟨blt_iff.1 h2.1, ?_⟩
              rw [ht2, fset_other _ _ fun q' hq' e => ?_]
              · exact hat' ρ1 hk1 q hq
              · have := h2.2 q'.1 (List.of_mem_zip hq').1
                rw [e, Nat.beq_refl] at this
                exact this rfl
            · obtain ⟨i', hi'⟩ := List.getElem?_of_mem hq
              have hz : psA.toList[i']? = some q.1 ∧ (X j)[i']? = some q.2 := by
                have := List.getElem?_zip_eq_some.1 hi'
                exact this
              have hp := List.all_eq_true.1 c4 q.1 (List.mem_of_getElem? hz.1)
              refine ⟨blt_iff.1 hp, ?_⟩
              obtain ⟨v', hv', hvr⟩ := hx1.get hz.2
              rw [ht2, fset_at _ _ _ c3 hxl i' q.1 v' hz.1 hv' (by rw [hsz]; exact blt_iff.1 hp)]
              exact hvr
        have hH1 : Holds P ⟨fun D => Cx.B D ∨ D ∈ (w.heap.size + 1) :: w.heap.size :: M, W, K, ρ1, Cx.n, hnm⟩ ⟨sl ++ psA.toList.zip (X j), O j ++ Y j⟩ { tmps := t1, defers := [] } W :=
          ⟨ρ1, u1, [], hf1, fun _ _ => rfl, hu1, hw1.reroot hqW, hfew, (fun D hD => by cases hD), .nil, fun D hD => by cases hD⟩
        have hB1 := hbody j hj ⟨fun D => Cx.B D ∨ D ∈ (w.heap.size + 1) :: w.heap.size :: M, W, K, ρ1, Cx.n, hnm⟩ rfl rfl (some (w.heap.size + 1)) _ W hH1
        refine wpIn_mono (wpIn_any_n (m := 3) (wpB_of_flat hB1)) fun e a2 W2 he => ?_
        obtain ⟨x, d1, ⟨rfl, hbody2⟩, hxr, ρ2, u2, M2, hd2⟩ := he
        cases hxr
        have kB : ∀ D, D ∈ (w.heap.size + 1) :: w.heap.size :: M → W2.heap[D]? = W.heap[D]? := fun D hD => hd2.mem.kept_block hD
        have hl2 : W2.heap[w.heap.size + 1]? = some (.loop { state := .ready, pending := none, fn, tmps := a.tmps, params := psA, assign := asg, body, defers := w.heap.size }) := (kB _ List.mem_cons_self).trans hE1
        refine ⟨_, run_beginRound hl2 rfl, ?_⟩
        obtain ⟨W3, hW3⟩ : ∃ W3, W2.putObj (w.heap.size + 1) (.loop { state := .busy, pending := none, fn, tmps := a.tmps, params := psA, assign := asg, body, defers := w.heap.size }) = W3 := ⟨_, rfl⟩
        have hw2 := hd2.mem.unroot hw1.below hw1.size hqW
        have hw3 : WR P Cx.B Cx.w₀ ρ2 (memOf d1.objs) W3 := by rw [← hW3]; exact hw2.putQuiet nB hl2 rfl _
        have hl3 : W3.heap[w.heap.size + 1]? = some (.loop { state := .busy, pending := none, fn, tmps := a.tmps, params := psA, assign := asg, body, defers := w.heap.size }) := by
          rw [← hW3]; exact World.putObj_heap_same (Array.getElem?_eq_some_iff.1 hl2).1
        have ho3 : ∀ D, D ≠ w.heap.size + 1 → W3.heap[D]? = W2.heap[D]? := fun D hD => by rw [← hW3]; exact World.putObj_heap_other hD
        have hd3 : W3.heap[w.heap.size]? = some (.deferred (some [])) := (ho3 _ (by omega)).trans ((kB _ (List.mem_cons_of_mem _ List.mem_cons_self)).trans hE2)
        have hm3 : ∀ D ∈ M, W3.heap[D]? = some (.deferred (some [])) := fun D hD => (ho3 _ (by have := hMlt D hD; omega)).trans ((kB _ (List.mem_cons_of_mem _ (List.mem_cons_of_mem _ hD))).trans (hE3 D hD))
        have hqW3 := hM W3 (.inr ⟨_, hl3⟩) hd3 hm3
        have hq2 : ∀ D ∈ M2, D ∉ (w.heap.size + 1) :: w.heap.size :: M := fun D hD hin => hd2.outside D hD (.inr hin)
        have hH3 : Holds P ⟨fun D => Cx.B D ∨ D ∈ (w.heap.size + 1) :: w.heap.size :: M, W3, K, ρ1, Cx.n, hnm⟩ d1 a2 W3 :=
          ⟨ρ2, u2, M2, hd2.full, hd2.kept, hd2.fr, hw3.reroot hqW3, hd2.few, fun D hD => (ho3 D (fun e => hq2 D hD (e ▸ List.mem_cons_self))).trans (hd2.quiet D hD), hd2.once, hd2.outside⟩
        have hB3 := hbody2 ⟨fun D => Cx.B D ∨ D ∈ (w.heap.size + 1) :: w.heap.size :: M, W3, K, ρ1, Cx.n, hnm⟩ rfl rfl (some (w.heap.size + 1)) a2 W3 hH3
        rw [hW3]
        refine wpIn_mono (wpIn_any_n (m := 3) (wpB_of_flat hB3)) fun e a3 W4 he => ?_
        obtain ⟨x, d2, ⟨rfl, hobj⟩, hxr, ρ4, u4, M4, hd4⟩ := he
        cases hxr
        have kB4 : ∀ D, D ∈ (w.heap.size + 1) :: w.heap.size :: M → W4.heap[D]? = W3.heap[D]? := fun D hD => hd4.mem.kept_block hD
        have hl4 := (kB4 _ List.mem_cons_self).trans hl3
        have hw4 := hd4.mem.unroot hw3.below hw3.size hqW3
        rw [hobj] at hw4
        refine ⟨_, _, run_endRound (P := P) none hl4, rfl, ⟨ρ4, hd4.full, fun x hx => (hd4.kept x hx).trans (hk1 x hx), hw4.putQuiet nB hl4 rfl _⟩, ?_⟩
        rw [hEx, hrec]
        refine ⟨World.putObj_heap_same (Array.getElem?_eq_some_iff.1 hl4).1, ?_, fun D hD => ?_⟩
        · exact (World.putObj_heap_other (by omega)).trans ((kB4 _ (List.mem_cons_of_mem _ List.mem_cons_self)).trans hd3)
        · exact (World.putObj_heap_other (by have := hMlt D hD; omega)).trans ((kB4 _ (List.mem_cons_of_mem _ (List.mem_cons_of_mem _ hD))).trans (hm3 D hD))
      · rintro e Wf ⟨⟨v, rfl⟩, ⟨ρf, hff, hkf, hwf⟩, hE⟩
        rw [hEx] at hE
        obtain ⟨hE1, hE2, hE3⟩ := hE
        have hend := run_endLoop (P := P) hE1 (by rw [hrec]; simp)
        rw [hrec] at hend
        refine ⟨none, _, hend, ?_⟩
        have hwe := hwf.putQuiet nB hE1 rfl (.loop { state := .exhausted, pending := none, fn, tmps := a.tmps, params := psA, assign := asg, body, defers := w.heap.size })
        obtain ⟨uf, huf⟩ : ∃ uf : Nat → Value, FR ρf ((frU Cx.n uf sl).rebase ((w.heap.size :: M).map coll)) { a with defers := [coll w.heap.size] ++ a.defers } := by
          refine FR.make (a := { a with defers := [coll w.heap.size] ++ a.defers }) (b := (w.heap.size :: M).map coll) hsz c6 (by show [coll w.heap.size] ++ a.defers = _; rw [hdef]; rfl) (hOK ρf hff) fun q hq => ?_
          have h2 := List.all_eq_true.1 c2 q hq
          simp only [Bool.and_eq_true] at h2
          exact ⟨blt_iff.1 h2.1, hat' ρf hkf q hq⟩
        refine hdone Cx rfl rfl _ _ ⟨ρf, uf, w.heap.size :: M, hff, fun x hx => (hkf x (by omega)).trans (hd.kept x hx), huf, hwe, ?_, fun D hD => ?_, ?_, fun D hD => ?_⟩
        · show (O N).length ≤ 262144
          rw [hO N (Nat.le_refl _), ← hO 0 (Nat.zero_le _)]
          exact hd.few
        · rcases List.mem_cons.1 hD with rfl | hD
          · exact (World.putObj_heap_other (by omega)).trans hE2
          · exact (World.putObj_heap_other (by have := hMlt D hD; omega)).trans (hE3 D hD)
        · exact List.nodup_cons.2 ⟨fun h => by have := hMlt _ h; omega, hd.once⟩
        · rcases List.mem_cons.1 hD with rfl | hD
          · exact nB0
          · exact hd.outside D hD
  · cases hl
end Go.Proofs.Ytgdpahojinknmaa.Vm

