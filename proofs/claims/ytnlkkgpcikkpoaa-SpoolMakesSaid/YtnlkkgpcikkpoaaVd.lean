/- Several texts as one: Hd7, Hd8, Hd9, Hd10, Hd11, Hd12, Hd13, HdB, HdC. -/
import Derived.Test.YtnlkkgpcikkpoaaVc
import Derived.LoopNIn
import Derived.RangeFuncNested
import Derived.RangeFuncCalls
import Derived.RangeFuncLeaves
namespace Go.Proofs.Ytnlkkgpcikkpoaa.Vm
open Go.RowKit
inductive Tree where
  | leaf (x : VEx) (d : Desc)
  | fork (c : Bool) (a b : Tree)
  | need (c : Bool) (v : Bool) (t : Tree)
def Tree.ok (R : VEx → Desc → Prop) : Tree → Prop
  | .leaf x d => R x d
  | .fork c a b => (c = true → a.ok R) ∧ (c = false → b.ok R)
  | .need c v t => c = v ∧ t.ok R
inductive ST where
  | leaf (sl bs pl : List Nat)
  | fork (n : Nat) (a b : ST)
  | need (n : Nat) (v : Bool) (a : ST)
def DT.sym {α : Type} (fin : List Nat → List Nat → List Nat → α → Option Tree) : DT α → ST → Option Tree
  | .done a, .leaf sl bs pl => fin sl bs pl a
  | .ask d k, .fork 0 s1 s2 => match (k true).sym fin s1 with
    | some x => match (k false).sym fin s2 with
      | some y => some (.fork d x y)
      | none => none
    | none => none
  | .ask d k, .need 0 v s => match v with
    | true => match (k true).sym fin s with
      | some x => some (.need d true x)
      | none => none
    | false => match (k false).sym fin s with
      | some x => some (.need d false x)
      | none => none
  | .ask d k, .fork (n + 1) s1 s2 => match d with
    | true => (k true).sym fin (.fork n s1 s2)
    | false => (k false).sym fin (.fork n s1 s2)
  | .ask d k, .need (n + 1) v s => match d with
    | true => (k true).sym fin (.need n v s)
    | false => (k false).sym fin (.need n v s)
  | .ask d k, .leaf sl bs pl => match d with
    | true => (k true).sym fin (.leaf sl bs pl)
    | false => (k false).sym fin (.leaf sl bs pl)
  | .alt p x y, .need 0 v s => match v with
    | true => x.sym fin s
    | false => y.sym fin s
  | .alt p x y, .need (n + 1) v s => match p with
    | true => x.sym fin (.need n v s)
    | false => y.sym fin (.need n v s)
  | .alt p x y, .fork (n + 1) s1 s2 => match p with
    | true => x.sym fin (.fork n s1 s2)
    | false => y.sym fin (.fork n s1 s2)
  | .alt p x y, .leaf sl bs pl => match p with
    | true => x.sym fin (.leaf sl bs pl)
    | false => y.sym fin (.leaf sl bs pl)
  | _, _ => none
theorem DT.sym_ok {α : Type} {fin : List Nat → List Nat → List Nat → α → Option Tree} {R : VEx → Desc → Prop} : ∀ {x : DT α} {s : ST} {T : Tree}, x.sym fin s = some T → T.ok R → ∃ a sl bs pl T', x.Has a ∧ fin sl bs pl a = some T' ∧ T'.ok R := by
  intro x
  induction x with
  | done a =>
    intro s T h ht
    cases s with
    | leaf sl bs pl => exact ⟨a, sl, bs, pl, T, .done a, h, ht⟩
    | fork n _ _ => cases n <;> cases h
    | need n _ _ => cases n <;> cases h
  | fail =>
    intro s T h ht
    unfold DT.sym at h
    cases s with
    | leaf => cases h
    | fork n _ _ => cases n <;> cases h
    | need n _ _ => cases n <;> cases h
  | ask d k ih =>
    intro s T h ht
    cases s with
    | leaf sl bs pl =>
      unfold DT.sym at h
      cases d with
      | true => obtain ⟨a, sl, bs, pl, T', h1, h2⟩ := ih true h ht; exact ⟨a, sl, bs, pl, T', .ask _ _ _ h1, h2⟩
      | false => obtain ⟨a, sl, bs, pl, T', h1, h2⟩ := ih false h ht; exact ⟨a, sl, bs, pl, T', .ask _ _ _ h1, h2⟩
    | fork n s1 s2 =>
      cases n with
      | zero =>
        unfold DT.sym at h
        split at h
        · rename_i x hx
          split at h
          · rename_i y hy
            cases h
            cases d with
            | true => obtain ⟨a, sl, bs, pl, T', h1, h2⟩ := ih true hx (ht.1 rfl); exact ⟨a, sl, bs, pl, T', .ask _ _ _ h1, h2⟩
            | false => obtain ⟨a, sl, bs, pl, T', h1, h2⟩ := ih false hy (ht.2 rfl); exact ⟨a, sl, bs, pl, T', .ask _ _ _ h1, h2⟩
          · cases h
        · cases h
      | succ n =>
        unfold DT.sym at h
        cases d with
        | true => obtain ⟨a, sl, bs, pl, T', h1, h2⟩ := ih true h ht; exact ⟨a, sl, bs, pl, T', .ask _ _ _ h1, h2⟩
        | false => obtain ⟨a, sl, bs, pl, T', h1, h2⟩ := ih false h ht; exact ⟨a, sl, bs, pl, T', .ask _ _ _ h1, h2⟩
    | need n v s =>
      cases n with
      | zero =>
        unfold DT.sym at h
        cases v with
        | true =>
          dsimp only at h
          split at h
          · rename_i x hx
            cases h
            obtain ⟨e, ht⟩ := ht
            subst e
            obtain ⟨a, sl, bs, pl, T', h1, h2⟩ := ih true hx ht
            exact ⟨a, sl, bs, pl, T', .ask _ _ _ h1, h2⟩
          · cases h
        | false =>
          dsimp only at h
          split at h
          · rename_i x hx
            cases h
            obtain ⟨e, ht⟩ := ht
            subst e
            obtain ⟨a, sl, bs, pl, T', h1, h2⟩ := ih false hx ht
            exact ⟨a, sl, bs, pl, T', .ask _ _ _ h1, h2⟩
          · cases h
      | succ n =>
        unfold DT.sym at h
        cases d with
        | true => obtain ⟨a, sl, bs, pl, T', h1, h2⟩ := ih true h ht; exact ⟨a, sl, bs, pl, T', .ask _ _ _ h1, h2⟩
        | false => obtain ⟨a, sl, bs, pl, T', h1, h2⟩ := ih false h ht; exact ⟨a, sl, bs, pl, T', .ask _ _ _ h1, h2⟩
  | alt p x y ihx ihy =>
    intro s T h ht
    have L : ∀ {s}, x.sym fin s = some T → ∃ a sl bs pl T', (DT.alt p x y).Has a ∧ fin sl bs pl a = some T' ∧ T'.ok R := fun h => by
      obtain ⟨a, sl, bs, pl, T', h1, h2⟩ := ihx h ht; exact ⟨a, sl, bs, pl, T', .left _ _ _ _ h1, h2⟩
    have M : ∀ {s}, y.sym fin s = some T → ∃ a sl bs pl T', (DT.alt p x y).Has a ∧ fin sl bs pl a = some T' ∧ T'.ok R := fun h => by
      obtain ⟨a, sl, bs, pl, T', h1, h2⟩ := ihy h ht; exact ⟨a, sl, bs, pl, T', .right _ _ _ _ h1, h2⟩
    cases s with
    | leaf sl bs pl =>
      unfold DT.sym at h
      cases p with
      | true => exact L h
      | false => exact M h
    | fork n s1 s2 =>
      cases n with
      | zero => unfold DT.sym at h; cases h
      | succ n =>
        unfold DT.sym at h
        cases p with
        | true => exact L h
        | false => exact M h
    | need n v s =>
      cases n with
      | zero =>
        unfold DT.sym at h
        cases v with
        | true => exact L h
        | false => exact M h
      | succ n =>
        unfold DT.sym at h
        cases p with
        | true => exact L h
        | false => exact M h
def rnB (pl : List Nat) (τ : Nat → Option Nat) : List (Nat × VObj) → Option (List VObj × List (List Value))
  | [] => some ([], [])
  | (b, o) :: l => match rnB pl τ l with
    | none => none
    | some (r, q) => match o with
      | .cells c el ro => match pl.any (Nat.beq b) with
        | true => some (.cells c el ro :: r, c :: q)
        | false => match rnL (rnV τ 6) c with
          | some c' => some (.cells c' el ro :: r, q)
          | none => none
      | .map es clock => match rnEs τ es with
        | some es' => some (.map es' clock :: r, q)
        | none => none
      | .siter s p => some (.siter s p :: r, q)
      | .rows n s f => some (.rows n s f :: r, q)
      | .dead => some (.dead :: r, q)
def needs : List (List Value) → Tree → Tree
  | [], t => t
  | c :: l, t => .need (c.all isScal) true (needs l t)
theorem needs_ok {R : VEx → Desc → Prop} {t : Tree} : ∀ {l : List (List Value)}, (needs l t).ok R → (∀ c ∈ l, c.all isScal = true) ∧ t.ok R
  | [], h => ⟨fun c hc => (by cases hc), h⟩
  | c :: l, h => by
    obtain ⟨h1, h2⟩ := h
    obtain ⟨h3, h4⟩ := needs_ok h2
    exact ⟨fun x hx => by
      rcases List.mem_cons.1 hx with rfl | hx
      · exact h1
      · exact h3 x hx, h4⟩
theorem rnB_ok {pl : List Nat} {τ : Nat → Option Nat} : ∀ {l : List (Nat × VObj)} {l' : List VObj} {q : List (List Value)}, rnB pl τ l = some (l', q) → (∀ c ∈ q, c.all isScal = true) → All2 (ON τ) (l.map (·.2)) l'
  | [], l', q, h, _ => by cases h; exact .nil
  | (b, o) :: l, l', q, h, hq => by
    unfold rnB at h
    split at h
    · cases h
    · rename_i r q' hr
      split at h
      · split at h
        · cases h
          exact .cons (.plain _ _ _ (hq _ List.mem_cons_self)) (rnB_ok hr fun c hc => hq c (List.mem_cons_of_mem _ hc))
        · split at h
          · rename_i hc
            cases h
            exact .cons (.cells _ _ _ _ hc) (rnB_ok hr hq)
          · cases h
      · split at h
        · rename_i he
          cases h
          exact .cons (.map _ _ _ he) (rnB_ok hr hq)
        · cases h
      · cases h; exact .cons (.siter _ _) (rnB_ok hr hq)
      · cases h; exact .cons (.rows _ _ _) (rnB_ok hr hq)
      · cases h; exact .cons (.dead _) (rnB_ok hr hq)
def leafT (n k : Nat) (sl bs pl : List Nat) : VEx × Fr × VS → Option Tree
  | (x, t, S) => match collectC bs S with
    | none => none
    | some bl => match rnS (idxN bs) sl (sl.map t.at), rnB pl (idxN bs) bl with
      | some d, some (objs, q) => match keepOk k bs 0 && nodupB bs && sl.all (fun i => Nat.blt i n) && Nat.ble bs.length 262144 && flatX x && Nat.beq t.n n && (t.ds.isEmpty && t.base.isEmpty) with
        | true => some (needs q (.leaf x ⟨d, objs⟩))
        | false => none
      | _, _ => none
theorem collectC_names : ∀ {bs : List Nat} {S : VS} {r : List (Nat × VObj)}, collectC bs S = some r → r.map (·.1) = bs
  | [], S, r, h => by simp only [collectC, Option.some.injEq] at h; subst h; rfl
  | x :: l, S, r, h => by
    unfold collectC at h
    split at h
    · rename_i o r' h1 h2
      simp only [Option.some.injEq] at h
      subst h
      simp [collectC_names h2]
    · cases h
theorem TriL.tree {P : Program} (hP : plainNames P = true) (hmix : P.follows .mixedOrders = true) {cO : CallO} (hc : CallsOk P cO) {lf n k m : Nat} {l : List Code} {d : Desc} {s : ST} {T : Tree}
    (h : ∀ u, (codesO P cO lf (l.take m) (frU n u d.sl) (vsOf d.objs)).sym (leafT n k) s = some T) {Q : VEx → Desc → Prop}
    (hT : T.ok (fun x d' => match x with
      | .normal => TriL P n k (l.drop m) d' Q
      | x => Q x d')) : TriL P n k l d Q := by
  intro X hn hk a w hd
  have hd0 := hd
  obtain ⟨ρ, u, M, hd⟩ := hd
  obtain ⟨p, sl, bs, pl, T', h1, h2, h3⟩ := DT.sym_ok (h u) hT
  obtain ⟨x, t1, S1⟩ := p
  dsimp only [leafT] at h2
  cases hbl : collectC bs S1 with
  | none => rw [hbl] at h2; cases h2
  | some bl =>
    rw [hbl] at h2
    dsimp only at h2
    split at h2
    · rename_i dl objs q hs hr
      split at h2
      · rename_i hcl
        cases h2
        obtain ⟨hq, hleaf⟩ := needs_ok h3
        have hnm := collectC_names hbl
        have hob := rnB_ok hr hq
        simp only [Bool.and_eq_true] at hcl
        obtain ⟨⟨⟨⟨⟨⟨c1, c2⟩, c3⟩, c4⟩, c5⟩, c6⟩, c7, c8⟩ := hcl
        have hlen : objs.length = bs.length := by rw [← hob.len, ← hnm]; simp
        subst hn hk
        obtain ⟨cV, hcV, hcO⟩ := hc.ex
        have hv := codesO_ok hcO lf h1
        have he := codesV_ext hcV lf hv
        have hsm := he.sm (fun x hx => by rcases hx with hx | hx <;> cases hx)
        have hag : Agree (vsOf d.objs) S1 (memOf d.objs) := fun x hx => by rw [memOf_small (hsm x hx), gt_vsOf hd.few]
        rw [← List.take_append_drop m l]
        have hqr := quiet_rows hd.quiet
        refine wpL_append (codesV_ok hP hmix hcV lf (codesV_base (M.map coll) hv) hd.fr (hd.mem.reroot hqr) hag fun ρ' e a' w' hle hxr hfr hwr0 => ?_)
        have hwr := hwr0.unroot hd.mem.env hd.mem.below hd.mem.size hqr
        have hh : Holds P X ⟨dl, objs⟩ a' w' := Holds.of_raw (bl := bl) (t := t1.rebase (M.map coll)) (M := M) hd.full hle hd.kept hfr (Nat.eq_of_beq_eq_true c6) (List.isEmpty_iff.1 c7) rfl (fun D hD => (hwr0.kept_block hD).trans (hd.quiet D hD)) hd.once hd.outside hwr rfl (fun p hp => by
          have hg := collectC_ok hbl p hp
          unfold post
          by_cases hx : p.1 ∈ S1.wr
          · rw [if_pos hx, hg]
          · rw [if_neg hx, memOf_small (small_of_gt hg), ← gt_vsOf hd.few, ← he.frame p.1 hx, hg]) (by rw [hnm]; exact c1) (by rw [hnm]; exact c2) (by rw [hnm]; exact hs) (by rw [hnm]; exact hob) c3 (Nat.ble_eq_true_of_le (by rw [hlen]; exact Nat.le_of_ble_eq_true c4))
        cases x with
        | normal => cases hxr; exact hleaf X rfl rfl a' w' hh
        | exit id => cases hxr; exact ⟨.exit id, _, hleaf, .exit id, hh⟩
        | ret => cases hxr; exact ⟨.ret, _, hleaf, .ret, hh⟩
        | panic v =>
          cases hxr with
          | panic _ v' hv =>
            have := fl_inv c5 hv
            subst this
            exact ⟨.panic v', _, hleaf, .panic _ _ (fl_refl c5), hh⟩
      · cases h2
    · cases h2
theorem Tree.mkFork {R : VEx → Desc → Prop} {c : Bool} {a b : Tree} (h1 : c = true → a.ok R) (h2 : c = false → b.ok R) : (Tree.fork c a b).ok R := ⟨h1, h2⟩
theorem Tree.mkNeed {R : VEx → Desc → Prop} {c v : Bool} {t : Tree} (h1 : c = v) (h2 : t.ok R) : (Tree.need c v t).ok R := ⟨h1, h2⟩
theorem Tree.mkLeaf {R : VEx → Desc → Prop} {x : VEx} {d : Desc} (h : R x d) : (Tree.leaf x d).ok R := h
end Go.Proofs.Ytnlkkgpcikkpoaa.Vm
namespace Go.Proofs.Ytnlkkgpcikkpoaa.Vm
open Go.RowKit
theorem TriL.blockAt {P : Program} {n k : Nat} {L : List Code} {d : Desc} {Q : VEx → Desc → Prop} (i id : Nat) (hl : isBlock (L.drop i) = some id)
    (h : TriL P n k (flat2 (inner (L.drop i))) d (QB id (fun d' => TriL P n k (L.drop (i + 1)) d' Q) Q)) : TriL P n k (L.drop i) d Q :=
  TriL.block hl (by rw [List.tail_drop]; exact h)
theorem TriL.condAt {P : Program} {n k : Nat} {L : List Code} {d : Desc} {Q : VEx → Desc → Prop} (i : Nat) {c : Nat} {b : Bool} (hl : isCond (L.drop i) = some c) (hi : Nat.blt c n = true) (hv : slotOf d.sl c = some (.bool b))
    (h : TriL P n k (flat2 (arm b (L.drop i)) ++ L.drop (i + 1)) d Q) : TriL P n k (L.drop i) d Q :=
  TriL.cond hl hi hv (by rw [List.tail_drop]; exact h)
def QL {σ : Type} (I : σ → Desc) (μ : σ → Nat) (ok : σ → Prop) (s : σ) (Q : VEx → Desc → Prop) : VEx → Desc → Prop
  | .normal, d => ∃ s', ok s' ∧ μ s' < μ s ∧ d = I s'
  | x, d => Q x d
theorem TriL.loopAt {P : Program} {n k : Nat} {l : List Code} {Q : VEx → Desc → Prop} {σ : Type} (I : σ → Desc) (μ : σ → Nat) (ok : σ → Prop) (s₀ : σ) (hl : isLoop l = true) (h₀ : ok s₀)
    (h : ∀ s, ok s → TriL P n k (flat2 (inner l)) (I s) (QL I μ ok s Q)) : TriL P n k l (I s₀) Q :=
  TriL.loop I μ ok hl (fun s hs => (h s hs).mono fun x d hx => by cases x <;> exact hx) s₀ h₀
theorem QL.ret {σ : Type} {I : σ → Desc} {μ : σ → Nat} {ok : σ → Prop} {s : σ} {Q : VEx → Desc → Prop} {d : Desc} (h : Q .ret d) : QL I μ ok s Q .ret d := h
theorem QL.exit {σ : Type} {I : σ → Desc} {μ : σ → Nat} {ok : σ → Prop} {s : σ} {Q : VEx → Desc → Prop} {d : Desc} {j : Nat} (h : Q (.exit j) d) : QL I μ ok s Q (.exit j) d := h
theorem QL.to {σ : Type} {I : σ → Desc} {μ : σ → Nat} {ok : σ → Prop} {s : σ} {Q : VEx → Desc → Prop} {d : Desc} (s' : σ) (h : ok s') (hm : μ s' < μ s) (e : d = I s') : QL I μ ok s Q .normal d := ⟨s', h, hm, e⟩
theorem QB.ret {id : Nat} {N : Desc → Prop} {Q : VEx → Desc → Prop} {d : Desc} (h : Q .ret d) : QB id N Q .ret d := h
theorem QB.normal {id : Nat} {N : Desc → Prop} {Q : VEx → Desc → Prop} {d : Desc} (h : N d) : QB id N Q .normal d := h
theorem QB.hit {id : Nat} {N : Desc → Prop} {Q : VEx → Desc → Prop} {d : Desc} (h : N d) : QB id N Q (.exit id) d := by
  unfold QB; dsimp only; rw [Nat.beq_refl]; exact h
theorem QB.miss {id j : Nat} {N : Desc → Prop} {Q : VEx → Desc → Prop} {d : Desc} (hj : Nat.beq j id = false) (h : Q (.exit j) d) : QB id N Q (.exit j) d := by
  unfold QB; dsimp only; rw [hj]; exact h
def blkV : Nat → Value → List Nat
  | _, .pointer (some ⟨b, _, _⟩) => [b]
  | _, .slice (some ⟨b, _, _⟩) _ _ => [b]
  | _, .map (some b) => [b]
  | d + 1, .iface _ v => blkV d v
  | d + 1, .agg c => (c.toList.map (blkV d)).flatten
  | d + 1, .tuple c => (c.toList.map (blkV d)).flatten
  | d + 1, .func _ f c => (f.toList.map (blkV d)).flatten ++ (c.toList.map (blkV d)).flatten
  | _, _ => []
def dedup : List Nat → List Nat → List Nat
  | [], _ => []
  | x :: l, seen => match seen.any (Nat.beq x) with
    | true => dedup l seen
    | false => x :: dedup l (x :: seen)
def namesA (args : List Value) (_ : Nat → Option VObj) : Option (List Nat) := some (dedup ((args.map (blkV 6)).flatten) [])
theorem FnOk.closed {P : Program} {f : FuncId} {v : Value} (h : FnT P f [] [] fun r' o' => r' = .ret v ∧ o' = []) : FnOk P f ⟨namesA, fun a o => match a, o with
  | [], [] => .done (.ret v, [])
  | _, _ => .fail⟩ := by
  intro a o r' o' hr
  dsimp only at hr
  split at hr
  · cases hr; exact h
  · cases hr
theorem WR.named_anew {P : Program} {B : Nat → Prop} {w₀ w : World} {ρ : Ren} {m : Nat → Option VObj} (hfull : Full ρ) (hw : WR P B w₀ ρ m w) {bl : List (Nat × VObj)} (hbl : ∀ p ∈ bl, m p.1 = some p.2) {objs : List VObj} {k : Nat} (hk : ∀ x, x < k → ∃ r, ρ x = some r)
    (hkeep : keepOk k (bl.map (·.1)) 0 = true) (hnd : nodupB (bl.map (·.1)) = true) (hob : All2 (ON (idxN (bl.map (·.1)))) (bl.map (·.2)) objs) (hfew' : objs.length ≤ 262144) :
    ∃ ρ2 : Ren, Full ρ2 ∧ (∀ x, x < k → ρ2 x = ρ x) ∧ (∀ y i r, idxN (bl.map (·.1)) y = some i → ρ y = some r → ρ2 i = some r) ∧ WR P B w₀ ρ2 (memOf objs) w := by
  let σ : List Nat := bl.map (·.1)
  let ρ2 : Ren := fun x => match small x with
    | true => (σ[x]?).bind ρ
    | false => ρ x
  have hsm : ∀ x, small x = true → ρ2 x = (σ[x]?).bind ρ := fun x h => by show (match small x with | true => _ | false => _) = _; rw [h]
  have hgr : ∀ x, small x = false → ρ2 x = ρ x := fun x h => by show (match small x with | true => _ | false => _) = _; rw [h]
  have hlen : bl.length = objs.length := by have := hob.len; simpa using this
  have hfull2 : Full ρ2 := fun r => by
    obtain ⟨y, h1, h2⟩ := hfull r
    exact ⟨y, h1, by rw [hgr y h1]; exact h2⟩
  have hσsm : ∀ i y, σ[i]? = some y → small i = true := fun i y h => small_iff.2 (by
    have : i < σ.length := (List.getElem?_eq_some_iff.1 h).1
    have e : σ.length = bl.length := by simp [σ]
    have : (2 : Nat) ^ 18 = 262144 := rfl
    omega)
  have hσ : ∀ i y r, σ[i]? = some y → ρ y = some r → ρ2 i = some r := fun i y r h1 h2 => by rw [hsm i (hσsm i y h1), h1]; exact h2
  have hσ' : ∀ y i r, idxN σ y = some i → ρ y = some r → ρ2 i = some r := fun y i r h1 h2 => hσ i y r (idxN_some h1) h2
  refine ⟨ρ2, hfull2, fun x hx => ?_, hσ', ?_⟩
  · have := keepOk_get hkeep x hx
    rw [Nat.zero_add] at this
    obtain ⟨r, hr⟩ := hk x hx
    rw [hσ x x r this hr, hr]
  · have hbi : ∀ (i : Nat) (o : VObj), objs[i]? = some o → ∃ y ob, σ[i]? = some y ∧ m y = some ob ∧ ON (idxN σ) ob o := fun i o hi => by
      obtain ⟨ob, h1, h2⟩ := hob.get hi
      rw [List.getElem?_map] at h1
      cases hb : bl[i]? with
      | none => rw [hb] at h1; cases h1
      | some p =>
        rw [hb] at h1
        simp only [Option.map_some, Option.some.injEq] at h1
        subst h1
        exact ⟨p.1, p.2, by simp [σ, hb], hbl p (List.mem_of_getElem? hb), h2⟩
    refine hw.recast (fun x => match small x with
      | true => σ[x]?
      | false => none) (fun x o hx hne => ?_) (fun x y z hx hy => ?_) fun x hx => ?_
    · cases hs : small x with
      | false => rw [memOf_great hs] at hx; cases hx; exact absurd rfl hne
      | true =>
        rw [memOf_small hs] at hx
        obtain ⟨y, ob, h1, h2, h3⟩ := hbi x o hx
        refine ⟨y, ob, h1, h2, h3.ne hne, ?_, fun r hl => ⟨(h3.live hl).1, (h3.live hl).2, h3.or hσ' hl⟩, fun n size row e => ?_, fun el ro e => ?_⟩
        · rw [hsm x hs, h1]; rfl
        · subst e; cases h3; rfl
        · subst e
          cases h3 with
          | plain => rfl
          | cells c _ _ _ h =>
            cases c with
            | nil => rfl
            | cons v c => have := rnL_len h; simp at this
    · have key : ∀ q, (match small q with | true => σ[q]? | false => none) = some z → σ[q]? = some z := fun q hq => by
        cases hs : small q with
        | true => rw [hs] at hq; exact hq
        | false => rw [hs] at hq; cases hq
      exact nodupB_get hnd (key x hx) (key y hy)
    · cases hs : small x with
      | false => rw [memOf_great hs] at hx; cases hx
      | true =>
        rw [memOf_small hs] at hx
        rw [hsm x hs]
        have : σ[x]? = none := by
          rw [List.getElem?_eq_none_iff] at hx ⊢
          simp [σ]
          omega
        rw [this]
        rfl
def trimT (k : Nat) (bs pl : List Nat) (r : CRes) (o : List VObj) : Option (CRes × List VObj × List (List Value)) := match getAll (fun x => o[x]?) bs with
  | none => none
  | some ob => match rnB pl (idxN bs) (bs.zip ob), backR (idxN bs) r, keepOk k bs 0 && nodupB bs && Nat.ble bs.length 262144 with
    | some (o', q), some r', true => some (r', o', q)
    | _, _, _ => none
theorem FnT.trim {P : Program} {f : FuncId} {args : List Value} {objs : List VObj} {Q Q' : CRes → List VObj → Prop} (h : FnT P f args objs Q)
    (ht : ∀ r o, Q r o → ∃ bs pl r' o' q, trimT objs.length bs pl r o = some (r', o', q) ∧ (∀ c ∈ q, c.all isScal = true) ∧ Q' r' o') : FnT P f args objs Q' := by
  intro B w₀ ρ w args' h1 h2 h3 h4
  refine (h B w₀ ρ w args' h1 h2 h3 h4).mono fun e w' he => ?_
  obtain ⟨r, o, ρ', hq, hcr, hfull, hw, hfew, hkeep⟩ := he
  obtain ⟨bs, pl, r', o', q, t1, t2, t3⟩ := ht r o hq
  unfold trimT at t1
  split at t1
  · cases t1
  · rename_i ob hob
    split at t1
    · rename_i o2 q2 r2 hr1 hr2 hc
      simp only [Option.some.injEq, Prod.mk.injEq] at t1
      obtain ⟨rfl, rfl, rfl⟩ := t1
      simp only [Bool.and_eq_true] at hc
      obtain ⟨⟨c1, c2⟩, c3⟩ := hc
      obtain ⟨g1, g2⟩ := getAll_ok hob
      have e1 : (bs.zip ob).map (·.1) = bs := by rw [List.map_fst_zip (by omega)]
      have hob2 := rnB_ok hr1 t2
      have hl : o2.length = bs.length := by rw [← hob2.len]; simp; omega
      have hsm : ∀ x ∈ bs, small x = true := fun x hx => by
        obtain ⟨i, hi⟩ := List.getElem?_of_mem hx
        obtain ⟨oo, _, h⟩ := g2 i x hi
        have : x < o.length := (List.getElem?_eq_some_iff.1 h).1
        exact small_iff.2 (by have : (2 : Nat) ^ 18 = 262144 := rfl; omega)
      obtain ⟨ρ2, k1, k2, k3, k4⟩ := WR.named_anew (bl := bs.zip ob) (objs := o2) (k := objs.length) hfull hw (fun p hp => by
        obtain ⟨i, hi⟩ := List.getElem?_of_mem hp
        rw [List.getElem?_zip_eq_some] at hi
        obtain ⟨oo, h5, h6⟩ := g2 i p.1 hi.1
        rw [hi.2] at h5
        cases h5
        rw [memOf_small (hsm p.1 (List.mem_of_getElem? hi.1))]
        exact h6) (fun x hx => by rw [hkeep x hx]; exact h2 x hx) (by rw [e1]; exact c1) (by rw [e1]; exact c2) (by rw [e1]; exact hob2) (by rw [hl]; exact Nat.le_of_ble_eq_true c3)
      rw [e1] at k3
      refine ⟨r2, o2, ρ2, t3, ?_, k1, k4, by rw [hl]; exact Nat.le_of_ble_eq_true c3, fun x hx => (k2 x hx).trans (hkeep x hx)⟩
      unfold backR at hr2
      split at hr2
      · rename_i v
        split at hr2
        · rename_i u hu
          cases hr2
          cases e with
          | returned v' => exact rnV_ok k3 6 v u v' hu hcr
          | panicked chain => cases hcr
          | outgrown => cases hcr
        · cases hr2
      · rename_i v
        split at hr2
        · rename_i hfl
          cases hr2
          cases e with
          | returned v' => cases hcr
          | panicked chain =>
            obtain ⟨v', h1, h2⟩ := hcr
            have := fl_inv hfl h2
            subst this
            exact ⟨v', h1, fl_refl hfl⟩
          | outgrown => cases hcr
        · cases hr2
    · cases t1
def FinT (P : Program) (f : FuncId) (n k : Nat) (Q : CRes → List VObj → Prop) : VEx → Desc → Prop
  | .normal, d => ∃ vs l, (∀ u, (resV P (frU n u d.sl) (resC P f)).run (gt (vsOf d.objs).mem) = some (vs, l)) ∧ ∃ bs pl r' o' q, trimT k bs pl (.ret (resOf vs)) d.objs = some (r', o', q) ∧ (∀ c ∈ q, c.all isScal = true) ∧ Q r' o'
  | .ret, d => ∃ vs l, (∀ u, (resV P (frU n u d.sl) (resC P f)).run (gt (vsOf d.objs).mem) = some (vs, l)) ∧ ∃ bs pl r' o' q, trimT k bs pl (.ret (resOf vs)) d.objs = some (r', o', q) ∧ (∀ c ∈ q, c.all isScal = true) ∧ Q r' o'
  | _, _ => False
theorem FnT.ofT {P : Program} {f : FuncId} {n : Nat} {args : List Value} {objs : List VObj} {Q : CRes → List VObj → Prop}
    (hf : (((P.funcs[f]?).bind (·.body)).isSome && Nat.beq (slotsC P f) n && Nat.ble args.length n && Nat.ble n 1024 && Nat.ble objs.length 262144) = true)
    (h : TriL P n objs.length (flat2 (bodyC P f)) ⟨numb args 0, objs⟩ (FinT P f n objs.length Q)) : FnT P f args objs Q :=
  FnT.trim (Q := fun r o => ∃ bs pl r' o' q, trimT objs.length bs pl r o = some (r', o', q) ∧ (∀ c ∈ q, c.all isScal = true) ∧ Q r' o')
    (FnT.of hf (h.mono fun x d hx => by cases x <;> first | exact hx | exact hx.elim)) fun r o h => h
theorem FinT.ret {P : Program} {f n k : Nat} {Q : CRes → List VObj → Prop} {d : Desc} {vs : List Value} {l bs pl : List Nat} {r' : CRes} {o' : List VObj} {q : List (List Value)} (h : ∀ u, (resV P (frU n u d.sl) (resC P f)).run (gt (vsOf d.objs).mem) = some (vs, l))
    (ht : trimT k bs pl (.ret (resOf vs)) d.objs = some (r', o', q)) (hp : ∀ c ∈ q, c.all isScal = true) (hq : Q r' o') : FinT P f n k Q .ret d := ⟨vs, l, h, bs, pl, r', o', q, ht, hp, hq⟩
theorem FinT.normal {P : Program} {f n k : Nat} {Q : CRes → List VObj → Prop} {d : Desc} {vs : List Value} {l bs pl : List Nat} {r' : CRes} {o' : List VObj} {q : List (List Value)} (h : ∀ u, (resV P (frU n u d.sl) (resC P f)).run (gt (vsOf d.objs).mem) = some (vs, l))
    (ht : trimT k bs pl (.ret (resOf vs)) d.objs = some (r', o', q)) (hp : ∀ c ∈ q, c.all isScal = true) (hq : Q r' o') : FinT P f n k Q .normal d := ⟨vs, l, h, bs, pl, r', o', q, ht, hp, hq⟩
theorem pls_nil : ∀ c ∈ ([] : List (List Value)), c.all isScal = true := fun c h => by cases h
theorem pls_cons {c : List Value} {q : List (List Value)} (h : c.all isScal = true) (hq : ∀ c ∈ q, c.all isScal = true) : ∀ x ∈ c :: q, x.all isScal = true := fun x hx => by
  rcases List.mem_cons.1 hx with rfl | hx
  · exact h
  · exact hq x hx
end Go.Proofs.Ytnlkkgpcikkpoaa.Vm
namespace Go.Proofs.Ytnlkkgpcikkpoaa.Vm
open Go.RowKit
attribute [simp] pl_bytes pl_strs pl_ints pl_u8 bytesC_length strsC_length intsC_length
@[simp] theorem pl_splice' {a b : List Value} {n : Nat} (ha : a.all isScal = true) (hb : b.all isScal = true) : (splice a n b).all isScal = true := pl_splice ha hb n
@[simp] theorem pl_take' {a : List Value} {n : Nat} (ha : a.all isScal = true) : (a.take n).all isScal = true := pl_take ha n
@[simp] theorem pl_drop' {a : List Value} {n : Nat} (ha : a.all isScal = true) : (a.drop n).all isScal = true := pl_drop ha n
@[simp] theorem one_bytes (b : ByteArray) : (bytesC b).all Value.oneCell' = true := one_of_plain (pl_bytes b)
@[simp] theorem one_strs (b : List ByteArray) : (strsC b).all Value.oneCell' = true := one_of_plain (pl_strs b)
@[simp] theorem one_ints (b : List Int) : (intsC b).all Value.oneCell' = true := one_of_plain (pl_ints b)
@[simp] theorem scal_i (k : IntKind) (x : Int) : isScal (.int k x) = true := rfl
@[simp] theorem scal_s (x : ByteArray) : isScal (.string x) = true := rfl
@[simp] theorem scal_b (x : Bool) : isScal (.bool x) = true := rfl
@[simp] theorem one_i (k : IntKind) (x : Int) : Value.oneCell' (.int k x) = true := rfl
@[simp] theorem one_s (x : ByteArray) : Value.oneCell' (.string x) = true := rfl
@[simp] theorem one_b (x : Bool) : Value.oneCell' (.bool x) = true := rfl
@[simp] theorem blt_t {a b : Nat} : Nat.blt a b = true ↔ a < b := blt_iff
@[simp] theorem blt_f {a b : Nat} : Nat.blt a b = false ↔ b ≤ a := by
  cases h : Nat.blt a b with
  | true => have := blt_iff.1 h; simp; omega
  | false => simp; exact Nat.le_of_not_lt fun h' => by rw [blt_iff.2 h'] at h; cases h
@[simp] theorem ble_t {a b : Nat} : Nat.ble a b = true ↔ a ≤ b := ⟨Nat.le_of_ble_eq_true, Nat.ble_eq_true_of_le⟩
@[simp] theorem ble_f {a b : Nat} : Nat.ble a b = false ↔ b < a := by
  cases h : Nat.ble a b with
  | true => have := Nat.le_of_ble_eq_true h; simp; omega
  | false => simp; exact Nat.lt_of_not_le fun h' => by rw [Nat.ble_eq_true_of_le h'] at h; cases h
@[simp] theorem beq_t {a b : Nat} : Nat.beq a b = true ↔ a = b := ⟨Nat.eq_of_beq_eq_true, fun h => by subst h; exact Nat.beq_refl a⟩
@[simp] theorem beq_f {a b : Nat} : Nat.beq a b = false ↔ a ≠ b := by
  cases h : Nat.beq a b with
  | true => have := Nat.eq_of_beq_eq_true h; simp; omega
  | false => simp; intro e; subst e; rw [Nat.beq_refl] at h; cases h
@[simp] theorem full_t {n c : Nat} : full n c = true ↔ c ≤ n := by
  unfold full
  cases c with
  | zero => simp
  | succ c => simp
@[simp] theorem full_f {n c : Nat} : full n c = false ↔ n < c := by
  unfold full
  cases c with
  | zero => simp
  | succ c => simp
def tblL : List (FuncId × Sum) → FuncId → Option Sum
  | [], _ => none
  | p :: l, f => match Nat.beq f p.1 with
    | true => some p.2
    | false => tblL l f
inductive TblOk (P : Program) : List (FuncId × Sum) → Prop where
  | nil : TblOk P []
  | cons {f : FuncId} {s : Sum} {l : List (FuncId × Sum)} (h : FnOk P f s) (t : TblOk P l) : TblOk P ((f, s) :: l)
theorem tblL_ok {P : Program} {l : List (FuncId × Sum)} (h : TblOk P l) : ∀ f s, tblL l f = some s → FnOk P f s := by
  induction h with
  | nil => intro f s h; cases h
  | cons h _ ih =>
    intro f s hf
    unfold tblL at hf
    split at hf
    · rename_i hb
      cases hf
      rw [Nat.eq_of_beq_eq_true hb]
      exact h
    · exact ih f s hf
def Sum.of (g : List Value → List VObj → Option (Bool × CRes × List VObj)) : Sum := ⟨namesA, fun a o => match g a o with
  | some (c, r, o') => .must c (.done (r, o'))
  | none => .fail⟩
theorem FnOk.of {P : Program} {f : FuncId} {g : List Value → List VObj → Option (Bool × CRes × List VObj)} (h : ∀ a o r o', g a o = some (true, r, o') → FnT P f a o fun r' o'' => r' = r ∧ o'' = o') : FnOk P f (Sum.of g) := by
  intro a o r o' hr
  unfold Sum.of at hr
  dsimp only at hr
  split at hr
  · rename_i c r1 o1 hg
    obtain ⟨h1, h2⟩ := QT.run_must hr
    subst h1
    cases h2
    exact h _ _ _ _ hg
  · cases hr
end Go.Proofs.Ytnlkkgpcikkpoaa.Vm
namespace Go.Proofs.Ytnlkkgpcikkpoaa.Vm
open Go.RowKit
theorem slotOf_nodup : ∀ {l : List (Nat × Value)}, nodupB (l.map (·.1)) = true → ∀ p ∈ l, slotOf l p.1 = some p.2
  | [], _, p, hp => by cases hp
  | q :: l, h, p, hp => by
    simp only [List.map_cons, nodupB, Bool.and_eq_true, Bool.not_eq_true', List.any_eq_false] at h
    obtain ⟨h1, h2⟩ := h
    unfold slotOf
    rcases List.mem_cons.1 hp with rfl | hp
    · have hn : slotOf l p.1 = none := by
        have key : ∀ l : List (Nat × Value), (∀ x ∈ l.map (·.1), ¬ Nat.beq p.1 x = true) → slotOf l p.1 = none := by
          intro l
          induction l with
          | nil => intro _; rfl
          | cons q l ih =>
            intro hx
            unfold slotOf
            rw [ih fun x hm => hx x (by simp at hm ⊢; exact .inr hm)]
            have := hx q.1 (by simp)
            cases hb : Nat.beq q.1 p.1 with
            | false => rfl
            | true => exact absurd (by rw [Nat.eq_of_beq_eq_true hb, Nat.beq_refl]) this
        exact key l h1
      rw [hn, Nat.beq_refl]
    · rw [slotOf_nodup h2 p hp]
end Go.Proofs.Ytnlkkgpcikkpoaa.Vm
namespace Go.Proofs.Ytnlkkgpcikkpoaa.Vm
open Go.RowKit
theorem WR.addNil {P : Program} {B : Nat → Prop} {w₀ w : World} {ρ : Ren} {objs : List VObj} (h : WR P B w₀ ρ (memOf objs) w) {el : TypeId} {s : Nat} (hz : szOf P el = some s) (hl : objs.length < 262144) :
    ∃ ρ1, ρ.le ρ1 ∧ WR P B w₀ ρ1 (memOf (objs ++ [.cells [] el false])) w ∧ (∀ x, x ≠ objs.length → ρ1 x = ρ x) ∧ ∃ r, ρ1 objs.length = some r := by
  have hsk : small objs.length = true := small_iff.2 (by have : (2 : Nat) ^ 18 = 262144 := rfl; omega)
  have hnone : memOf objs objs.length = none := by rw [memOf_small hsk]; simp
  have hw := h.addDead hnone (o := .cells [] el false) (r := ⟨0, 0, s, 0⟩) rfl (fun m sz row e => by cases e) (fun el' ro e k hk => by
    cases e
    rw [hz] at hk
    cases hk
    rfl)
  have hm : upd (memOf objs) objs.length (.cells [] el false) = memOf (objs ++ [.cells [] el false]) := by
    funext x
    by_cases hx : x = objs.length
    · subst hx
      rw [upd_same, memOf_small hsk]
      simp
    · rw [upd_other _ hx]
      cases hs : small x with
      | false => rw [memOf_great hs, memOf_great hs]
      | true =>
        rw [memOf_small hs, memOf_small hs]
        by_cases hl : x < objs.length
        · rw [List.getElem?_append_left hl]
        · rw [List.getElem?_eq_none (by omega), List.getElem?_eq_none (by simp; omega)]
  rw [hm] at hw
  exact ⟨_, Ren.put_le (h.fresh _ hnone) _, hw, fun x hx => Ren.put_other ρ _ hx, _, Ren.put_same ρ _ _⟩
end Go.Proofs.Ytnlkkgpcikkpoaa.Vm
namespace Go.Proofs.Ytnlkkgpcikkpoaa.Vm
open Go.RowKit
structure NilAsk where
  x : Nat
  d1 : Nat
  d2 : Nat
  ty : TypeId
def nilAsk : List Code → Option NilAsk
  | .region _ ops false :: _ => match ops.toList with
    | [o1, o2] => match o1.op, o1.dst, o1.guard, o2.op, o2.dst, o2.guard with
      | .move (.tmp x), some d1, none, .binOp .eql ty (.tmp y) (.const (.slice none 0 0)) _, some d2, none => match Nat.beq y d1 && !Nat.beq d1 d2 with
        | true => some ⟨x, d1, d2, ty⟩
        | false => none
      | _, _, _, _, _, _ => none
    | _ => none
  | _ => none
theorem nilAsk_some {l : List Code} {N : NilAsk} (h : nilAsk l = some N) : ∃ id o1 o2 rest yt, l = .region id #[o1, o2] false :: rest ∧ o1.op = .move (.tmp N.x) ∧ o1.dst = some N.d1 ∧ o1.guard = none ∧
    o2.op = .binOp .eql N.ty (.tmp N.d1) (.const (.slice none 0 0)) yt ∧ o2.dst = some N.d2 ∧ o2.guard = none ∧ N.d1 ≠ N.d2 := by
  unfold nilAsk at h
  split at h
  · rename_i id ops rest
    split at h
    · rename_i o1 o2 hops
      split at h
      · rename_i x d1 ty y yt d2 h1 h2 h3 h4 h5 h6
        split at h
        · rename_i hb
          cases h
          simp only [Bool.and_eq_true, Bool.not_eq_true'] at hb
          have hy := Nat.eq_of_beq_eq_true hb.1
          subst hy
          refine ⟨id, o1, o2, rest, yt, ?_, h1, h2, h3, h4, h5, h6, fun e => ?_⟩
          · rw [show ops = #[o1, o2] by rw [← Array.toArray_toList (xs := ops), hops]]
          · dsimp only at e; rw [e, Nat.beq_refl] at hb; cases hb.2
        · cases h
      · cases h
    · cases h
  · cases h
theorem VR.empty_inv {ρ : Ren} {a : Addr} {v : Value} (h : VR ρ (.slice (some a) 0 0) v) : ∃ a' c', v = .slice a' 0 c' := by
  cases h with
  | scal _ h => cases h
  | sl b off _ _ cap' r h hc => exact ⟨_, _, rfl⟩
  | slE _ a' => exact ⟨_, _, rfl⟩
theorem run_nilEq {P : Program} {ty el : TypeId} (ht : P.underlying ty = some (.slice el)) (a' : Option Addr) (c' : Nat) (x y : Operand) (w : World) :
    ∃ b, ((do eqGuard .eql ty x y (.slice a' 0 c') (.slice none 0 0); binOp .eql ty (.slice a' 0 c') (.slice none 0 0)) : Sem Value).run P w = .ok (.bool b) w := by
  cases a' with
  | none => exact ⟨true, by
      show (Sem.run P (do let r ← Op.equal ty (.slice none 0 c') (.slice none 0 0); (pure (Value.bool r) : Sem Value)) w) = _
      obtain ⟨dd, hdd⟩ : ∃ dd, Op.maxDepth = dd + 1 := ⟨_, rfl⟩
      unfold Op.equal
      rw [hdd]
      unfold Op.equalIn
      simp only [Sem.run_bind, Vm.run_underlying ht, Result.andThen_ok]
      rfl⟩
  | some a => exact ⟨false, by
      show (Sem.run P (do let r ← Op.equal ty (.slice (some a) 0 c') (.slice none 0 0); (pure (Value.bool r) : Sem Value)) w) = _
      obtain ⟨dd, hdd⟩ : ∃ dd, Op.maxDepth = dd + 1 := ⟨_, rfl⟩
      unfold Op.equal
      rw [hdd]
      unfold Op.equalIn
      simp only [Sem.run_bind, Vm.run_underlying ht, Result.andThen_ok]
      rfl⟩
theorem TriL.eqNil {P : Program} {n k : Nat} {l : List Code} {d : Desc} {Q : VEx → Desc → Prop} (N : NilAsk) (el : TypeId) (a : Addr) (hl : nilAsk l = some N) (ht : P.underlying N.ty = some (.slice el))
    (hx : slotOf d.sl N.x = some (.slice (some a) 0 0)) (hc : (nodupB (d.sl.map (·.1)) && d.sl.all (fun p => Nat.blt p.1 n && (!Nat.beq p.1 N.d1 && !Nat.beq p.1 N.d2)) && (Nat.blt N.d1 n && Nat.blt N.d2 n)) = true)
    (h : ∀ b, TriL P n k l.tail ⟨d.sl ++ [(N.d2, .bool b)], d.objs⟩ Q) : TriL P n k l d Q := by
  obtain ⟨id, o1, o2, rest, yt, rfl, h1, h2, h3, h4, h5, h6, h7⟩ := nilAsk_some hl
  simp only [Bool.and_eq_true] at hc
  obtain ⟨⟨c1, c2⟩, c3, c4⟩ := hc
  intro X hn hk ac w hd
  subst hn hk
  obtain ⟨ρ, u, M, hd⟩ := hd
  have hsz : ac.tmps.size = X.n := by have := hd.fr.size; rw [this]; show (valsU X.n u d.sl).length = _; unfold valsU; simp [foldset_len]
  have hsm : X.n ≤ 1024 := by have h0 : (valsU X.n u d.sl).length ≤ 1024 := hd.fr.small; unfold valsU at h0; simpa [foldset_len] using h0
  have hat : ∀ p ∈ d.sl, VR ρ p.2 (ac.tmps.getD p.1 undef) := fun p hp => by
    have h8 := hd.fr.at_ p.1
    have := List.all_eq_true.1 c2 p hp
    simp only [Bool.and_eq_true] at this
    rwa [Fr.at_rebase, frU_at hsm (blt_iff.1 this.1) (slotOf_nodup c1 p hp)] at h8
  have hxm : ∃ p ∈ d.sl, p.1 = N.x ∧ p.2 = .slice (some a) 0 0 := by
    have key : ∀ (l : List (Nat × Value)) (v : Value), slotOf l N.x = some v → ∃ p ∈ l, p.1 = N.x ∧ p.2 = v := by
      intro l
      induction l with
      | nil => intro v h; cases h
      | cons p l ih =>
        intro v h
        unfold slotOf at h
        split at h
        · rename_i v' hv
          cases h
          obtain ⟨q, h1, h2⟩ := ih _ hv
          exact ⟨q, List.mem_cons_of_mem _ h1, h2⟩
        · split at h
          · rename_i hb; cases h; exact ⟨p, List.mem_cons_self, Nat.eq_of_beq_eq_true hb, rfl⟩
          · cases h
    exact key _ _ hx
  obtain ⟨p, hp, hp1, hp2⟩ := hxm
  have hv := hat p hp
  rw [hp1, hp2] at hv
  obtain ⟨a', c', hv'⟩ := hv.empty_inv
  rw [hv'] at hv
  refine wp_region ?_
  show wpOps P #[o1, o2] _ [0, 1] ac w
  have w1 : ∀ t, Region.wanted o1 t = true := fun t => by unfold Region.wanted; rw [h3]
  have w2 : ∀ t, Region.wanted o2 t = true := fun t => by unfold Region.wanted; rw [h6]
  unfold wpOps
  simp only [List.getElem?_toArray, List.getElem?_cons_zero, w1, if_true]
  left
  unfold Oper.wp
  have e1 : (execOp ac.eval o1).run P w = .ok (.value (.slice a' 0 c')) w := by
    unfold execOp
    rw [h1]
    show Sem.run P (pure (Next.value (ac.eval (.tmp N.x))) : Sem Next) w = _
    rw [show ac.eval (.tmp N.x) = .slice a' 0 c' from hv']
    rfl
  rw [e1]
  show wpOps P #[o1, o2] _ [1] (ac.put o1.dst (.slice a' 0 c')) w
  unfold wpOps
  simp only [List.getElem?_toArray, List.getElem?_cons_succ, List.getElem?_cons_zero, w2, if_true]
  left
  unfold Oper.wp
  rw [h2]
  obtain ⟨b, hb⟩ := run_nilEq ht a' c' (.tmp N.d1) (.const (.slice none 0 0)) w
  have hd1 : N.d1 < ac.tmps.size := by rw [hsz]; exact blt_iff.1 c3
  have e2 : (execOp (ac.put (some N.d1) (.slice a' 0 c')).eval o2).run P w = .ok (.value (.bool b)) w := by
    unfold execOp
    rw [h4]
    have ev1 : (ac.put (some N.d1) (.slice a' 0 c')).eval (.tmp N.d1) = .slice a' 0 c' := by
      show (ac.tmps.setIfInBounds N.d1 (.slice a' 0 c')).getD N.d1 undef = _
      simp only [Array.getD_eq_getD_getElem?, Array.getElem?_setIfInBounds_self, hd1, if_true, Option.getD_some]
    have ev2 : (ac.put (some N.d1) (.slice a' 0 c')).eval (.const (.slice none 0 0)) = .slice none 0 0 := rfl
    simp only [ev1, ev2]
    rw [Sem.run_bind, hb]
    rfl
  rw [e2]
  have key : Holds P X ⟨d.sl ++ [(N.d2, .bool b)], d.objs⟩ ((ac.put (some N.d1) (.slice a' 0 c')).put o2.dst (.bool b)) w := ?_
  · exact h b X rfl rfl _ w key
  rw [h5]
  have hfr : ∃ u', FR ρ ((frU X.n u' (d.sl ++ [(N.d2, .bool b)])).rebase (M.map coll)) ((ac.put (some N.d1) (.slice a' 0 c')).put (some N.d2) (.bool b)) := by
    have hput1 : Vm.put ((frU X.n u d.sl).rebase (M.map coll)) (some N.d1) (.slice (some a) 0 0) = some { ((frU X.n u d.sl).rebase (M.map coll)) with t := (frU X.n u d.sl).t.set 10 N.d1 (.slice (some a) 0 0) } := by
      simp only [Vm.put, Fr.set_eq]
      have : Nat.blt N.d1 ((frU X.n u d.sl).rebase (M.map coll)).n = true := by
        have : ((frU X.n u d.sl).rebase (M.map coll)).n = X.n := by show (valsU X.n u d.sl).length = _; unfold valsU; simp [foldset_len]
        rw [this]; exact c3
      rw [this]
      rfl
    have f1 := hd.fr.put hv hput1
    have hput2 : Vm.put { ((frU X.n u d.sl).rebase (M.map coll)) with t := (frU X.n u d.sl).t.set 10 N.d1 (.slice (some a) 0 0) } (some N.d2) (.bool b) = some { ((frU X.n u d.sl).rebase (M.map coll)) with t := ((frU X.n u d.sl).t.set 10 N.d1 (.slice (some a) 0 0)).set 10 N.d2 (.bool b) } := by
      simp only [Vm.put, Fr.set_eq]
      have : Nat.blt N.d2 ((frU X.n u d.sl).rebase (M.map coll)).n = true := by
        have : ((frU X.n u d.sl).rebase (M.map coll)).n = X.n := by show (valsU X.n u d.sl).length = _; unfold valsU; simp [foldset_len]
        rw [this]; exact c4
      simp only [this]
    have f2 := f1.put (VR.scal (.bool b) rfl) hput2
    refine FR.make (b := M.map coll) (by rw [f2.size]; show (valsU X.n u d.sl).length = _; unfold valsU; simp [foldset_len]) hsm (f2.none_left rfl) (fun i => ⟨_, f2.at_ i⟩) fun q hq => ?_
    rcases List.mem_append.1 hq with hq | hq
    · have hc2 := List.all_eq_true.1 c2 q hq
      simp only [Bool.and_eq_true, Bool.not_eq_true'] at hc2
      obtain ⟨q1, q2, q3⟩ := hc2
      refine ⟨blt_iff.1 q1, ?_⟩
      have n1 : q.1 ≠ N.d1 := fun e => by rw [e, Nat.beq_refl] at q2; cases q2
      have n2 : q.1 ≠ N.d2 := fun e => by rw [e, Nat.beq_refl] at q3; cases q3
      have : ((ac.put (some N.d1) (.slice a' 0 c')).put (some N.d2) (.bool b)).tmps.getD q.1 undef = ac.tmps.getD q.1 undef := by
        show ((ac.tmps.setIfInBounds N.d1 _).setIfInBounds N.d2 _).getD q.1 undef = _
        rw [Array.getD_eq_getD_getElem?, Array.getElem?_setIfInBounds_ne (Ne.symm n2), Array.getElem?_setIfInBounds_ne (Ne.symm n1), ← Array.getD_eq_getD_getElem?]
      rw [this]
      exact hat q hq
    · simp only [List.mem_singleton] at hq
      subst hq
      refine ⟨blt_iff.1 c4, ?_⟩
      have : ((ac.put (some N.d1) (.slice a' 0 c')).put (some N.d2) (.bool b)).tmps.getD N.d2 undef = .bool b := by
        show ((ac.tmps.setIfInBounds N.d1 _).setIfInBounds N.d2 _).getD N.d2 undef = _
        have hd2 : N.d2 < (ac.tmps.setIfInBounds N.d1 (.slice a' 0 c')).size := by rw [Array.size_setIfInBounds, hsz]; exact blt_iff.1 c4
        simp only [Array.getD_eq_getD_getElem?, Array.getElem?_setIfInBounds_self, hd2, if_true, Option.getD_some]
      rw [this]
      exact .scal _ rfl
  obtain ⟨u', hu'⟩ := hfr
  exact ⟨ρ, u', M, hd.full, hd.kept, hu', hd.mem, hd.few, hd.quiet, hd.once, hd.outside⟩
end Go.Proofs.Ytnlkkgpcikkpoaa.Vm
namespace Go.Proofs.Ytnlkkgpcikkpoaa.Vm
open Go.RowKit
structure Told1 where
  args : List Value
  objs : List VObj
  r : CRes
  out : List VObj
end Go.Proofs.Ytnlkkgpcikkpoaa.Vm
namespace Go.Proofs.Ytnlkkgpcikkpoaa.Vm
open Go.RowKit
end Go.Proofs.Ytnlkkgpcikkpoaa.Vm
namespace Go.Proofs.Ytnlkkgpcikkpoaa.Vm
open Go.RowKit
end Go.Proofs.Ytnlkkgpcikkpoaa.Vm
