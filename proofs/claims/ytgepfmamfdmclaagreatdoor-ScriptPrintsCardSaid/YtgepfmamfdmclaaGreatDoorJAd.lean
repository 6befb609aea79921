/- Part of the proof: Vd, Abs, Shut0, Call0. -/
import Derived.Test.YtgepfmamfdmclaaGreatDoorJAc
import Derived.LoopNIn
import Derived.RangeFuncNested
import Derived.RangeFuncCalls
import Derived.RangeFuncLeaves
import Derived.Test.YtgepfmamfdmclaaGreatDoorChecked
import Derived.KernelRfl
import Derived.Test.YtgepfmamfdmclaaGreatDoorJAb
set_option linter.unusedVariables false
set_option linter.unusedSimpArgs false
set_option maxRecDepth 100000
namespace Go.Proofs.YtgepfmamfdmclaaGreatDoor.Vm
open Go.RowKit
inductive Tree where
 | leaf (x : VEx) (d : Desc)
 | fork (c : Bool) (a b : Tree)
 | need (c : Bool) (v : Bool) (t : Tree)
def Tree.ok (R : VEx → Desc → Prop) : Tree → Prop
 | .leaf x d => R x d
 | .fork c a b => (c = true → a.ok R) ∧ (c = false → b.ok R)
 | .need c v t => c = v ∧ t.ok R
inductive ST where
 | leaf (sl bs pl : List Nat)
 | fork (n : Nat) (a b : ST)
 | need (n : Nat) (v : Bool) (a : ST)
def DT.sym {α : Type} (fin : List Nat → List Nat → List Nat → α → Option Tree) : DT α → ST → Option Tree
 | .done a, .leaf sl bs pl => fin sl bs pl a
 | .ask d k, .fork 0 s1 s2 => match (k true).sym fin s1 with
  | some x => match (k false).sym fin s2 with
   | some y => some (.fork d x y)
   | none => none
  | none => none
 | .ask d k, .need 0 v s => match v with
  | true => match (k true).sym fin s with
   | some x => some (.need d true x)
   | none => none
  | false => match (k false).sym fin s with
   | some x => some (.need d false x)
   | none => none
 | .ask d k, .fork (n + 1) s1 s2 => match d with
  | true => (k true).sym fin (.fork n s1 s2)
  | false => (k false).sym fin (.fork n s1 s2)
 | .ask d k, .need (n + 1) v s => match d with
  | true => (k true).sym fin (.need n v s)
  | false => (k false).sym fin (.need n v s)
 | .ask d k, .leaf sl bs pl => match d with
  | true => (k true).sym fin (.leaf sl bs pl)
  | false => (k false).sym fin (.leaf sl bs pl)
 | .alt p x y, .need 0 v s => match v with
  | true => x.sym fin s
  | false => y.sym fin s
 | .alt p x y, .need (n + 1) v s => match p with
  | true => x.sym fin (.need n v s)
  | false => y.sym fin (.need n v s)
 | .alt p x y, .fork (n + 1) s1 s2 => match p with
  | true => x.sym fin (.fork n s1 s2)
  | false => y.sym fin (.fork n s1 s2)
 | .alt p x y, .leaf sl bs pl => match p with
  | true => x.sym fin (.leaf sl bs pl)
  | false => y.sym fin (.leaf sl bs pl)
 | _, _ => none
theorem DT.sym_ok {α : Type} {fin : List Nat → List Nat → List Nat → α → Option Tree} {R : VEx → Desc → Prop} : ∀ {x : DT α} {s : ST} {T : Tree}, x.sym fin s = some T → T.ok R → ∃ a sl bs pl T', x.Has a ∧ fin sl bs pl a = some T' ∧ T'.ok R := by
 intro x
 induction x with
 | done a =>
  intro s T h ht
  cases s with
  | leaf sl bs pl => exact ⟨a, sl, bs, pl, T, .done a, h, ht⟩
  | fork n _ _ => cases n <;> cases h
  | need n _ _ => cases n <;> cases h
 | fail =>
  intro s T h ht
  unfold DT.sym at h
  cases s with
  | leaf => cases h
  | fork n _ _ => cases n <;> cases h
  | need n _ _ => cases n <;> cases h
 | ask d k ih =>
  intro s T h ht
  cases s with
  | leaf sl bs pl =>
   unfold DT.sym at h
   cases d with
   | true => obtain ⟨a, sl, bs, pl, T', h1, h2⟩ := ih true h ht; exact ⟨a, sl, bs, pl, T', .ask _ _ _ h1, h2⟩
   | false => obtain ⟨a, sl, bs, pl, T', h1, h2⟩ := ih false h ht; exact ⟨a, sl, bs, pl, T', .ask _ _ _ h1, h2⟩
  | fork n s1 s2 =>
   cases n with
   | zero =>
    unfold DT.sym at h
    split at h
    ·rename_i x hx
     split at h
     ·rename_i y hy
      cases h
      cases d with
      | true => obtain ⟨a, sl, bs, pl, T', h1, h2⟩ := ih true hx (ht.1 rfl); exact ⟨a, sl, bs, pl, T', .ask _ _ _ h1, h2⟩
      | false => obtain ⟨a, sl, bs, pl, T', h1, h2⟩ := ih false hy (ht.2 rfl); exact ⟨a, sl, bs, pl, T', .ask _ _ _ h1, h2⟩
     ·cases h
    ·cases h
   | succ n =>
    unfold DT.sym at h
    cases d with
    | true => obtain ⟨a, sl, bs, pl, T', h1, h2⟩ := ih true h ht; exact ⟨a, sl, bs, pl, T', .ask _ _ _ h1, h2⟩
    | false => obtain ⟨a, sl, bs, pl, T', h1, h2⟩ := ih false h ht; exact ⟨a, sl, bs, pl, T', .ask _ _ _ h1, h2⟩
  | need n v s =>
   cases n with
   | zero =>
    unfold DT.sym at h
    cases v with
    | true =>
     dsimp only at h
     split at h
     ·rename_i x hx
      cases h
      obtain ⟨e, ht⟩ := ht
      subst e
      obtain ⟨a, sl, bs, pl, T', h1, h2⟩ := ih true hx ht
      exact ⟨a, sl, bs, pl, T', .ask _ _ _ h1, h2⟩
     ·cases h
    | false =>
     dsimp only at h
     split at h
     ·rename_i x hx
      cases h
      obtain ⟨e, ht⟩ := ht
      subst e
      obtain ⟨a, sl, bs, pl, T', h1, h2⟩ := ih false hx ht
      exact ⟨a, sl, bs, pl, T', .ask _ _ _ h1, h2⟩
     ·cases h
   | succ n =>
    unfold DT.sym at h
    cases d with
    | true => obtain ⟨a, sl, bs, pl, T', h1, h2⟩ := ih true h ht; exact ⟨a, sl, bs, pl, T', .ask _ _ _ h1, h2⟩
    | false => obtain ⟨a, sl, bs, pl, T', h1, h2⟩ := ih false h ht; exact ⟨a, sl, bs, pl, T', .ask _ _ _ h1, h2⟩
 | alt p x y ihx ihy =>
  intro s T h ht
  have L : ∀ {s}, x.sym fin s = some T → ∃ a sl bs pl T', (DT.alt p x y).Has a ∧ fin sl bs pl a = some T' ∧ T'.ok R := fun h => by
   obtain ⟨a, sl, bs, pl, T', h1, h2⟩ := ihx h ht; exact ⟨a, sl, bs, pl, T', .left _ _ _ _ h1, h2⟩
  have M : ∀ {s}, y.sym fin s = some T → ∃ a sl bs pl T', (DT.alt p x y).Has a ∧ fin sl bs pl a = some T' ∧ T'.ok R := fun h => by
   obtain ⟨a, sl, bs, pl, T', h1, h2⟩ := ihy h ht; exact ⟨a, sl, bs, pl, T', .right _ _ _ _ h1, h2⟩
  cases s with
  | leaf sl bs pl =>
   unfold DT.sym at h
   cases p with
   | true => exact L h
   | false => exact M h
  | fork n s1 s2 =>
   cases n with
   | zero => unfold DT.sym at h; cases h
   | succ n =>
    unfold DT.sym at h
    cases p with
    | true => exact L h
    | false => exact M h
  | need n v s =>
   cases n with
   | zero =>
    unfold DT.sym at h
    cases v with
    | true => exact L h
    | false => exact M h
   | succ n =>
    unfold DT.sym at h
    cases p with
    | true => exact L h
    | false => exact M h
def rnB (pl : List Nat) (τ : Nat → Option Nat) : List (Nat × VObj) → Option (List VObj × List (List Value))
 | [] => some ([], [])
 | (b, o) :: l => match rnB pl τ l with
  | none => none
  | some (r, q) => match o with
   | .cells c el ro => match pl.any (Nat.beq b) with
    | true => some (.cells c el ro :: r, c :: q)
    | false => match rnL (rnV τ 6) c with
     | some c' => some (.cells c' el ro :: r, q)
     | none => none
   | .map es clock => match pl.any (Nat.beq b) with
    | true => some (.map es clock :: r, es.map (stabE τ) :: q)
    | false => match rnEs τ es with
     | some es' => some (.map es' clock :: r, q)
     | none => none
   | .siter s p => some (.siter s p :: r, q)
   | .rows n s f => some (.rows n s f :: r, q)
   | .abs d => some (.abs d :: r, q)
   | .dead => some (.dead :: r, q)
def needs : List (List Value) → Tree → Tree
 | [], t => t
 | c :: l, t => .need (c.all isScal) true (needs l t)
theorem needs_ok {R : VEx → Desc → Prop} {t : Tree} : ∀ {l : List (List Value)}, (needs l t).ok R → (∀ c ∈ l, c.all isScal = true) ∧ t.ok R
 | [], h => ⟨fun c hc => (by cases hc), h⟩
 | c :: l, h => by
  obtain ⟨h1, h2⟩ := h
  obtain ⟨h3, h4⟩ := needs_ok h2
  exact ⟨fun x hx => by
   rcases List.mem_cons.1 hx with rfl | hx
   ·exact h1
   ·exact h3 x hx, h4⟩
theorem rnB_ok {pl : List Nat} {τ : Nat → Option Nat} : ∀ {l : List (Nat × VObj)} {l' : List VObj} {q : List (List Value)}, rnB pl τ l = some (l', q) → (∀ c ∈ q, c.all isScal = true) → All2 (ON τ) (l.map (·.2)) l'
 | [], l', q, h, _ => by cases h; exact .nil
 | (b, o) :: l, l', q, h, hq => by
  unfold rnB at h
  split at h
  ·cases h
  ·rename_i r q' hr
   split at h
   ·split at h
    ·cases h
     exact .cons (.plain _ _ _ (hq _ List.mem_cons_self)) (rnB_ok hr fun c hc => hq c (List.mem_cons_of_mem _ hc))
    ·split at h
     ·rename_i hc
      cases h
      exact .cons (.cells _ _ _ _ hc) (rnB_ok hr hq)
     ·cases h
   ·split at h
    ·cases h
     exact .cons (.map _ _ _ (stabEs_ok (hq _ List.mem_cons_self))) (rnB_ok hr fun c hc => hq c (List.mem_cons_of_mem _ hc))
    ·split at h
     ·rename_i he
      cases h
      exact .cons (.map _ _ _ he) (rnB_ok hr hq)
     ·cases h
   ·cases h; exact .cons (.siter _ _) (rnB_ok hr hq)
   ·cases h; exact .cons (.rows _ _ _) (rnB_ok hr hq)
   ·cases h; exact .cons (.abs _) (rnB_ok hr hq)
   ·cases h; exact .cons (.dead _) (rnB_ok hr hq)
def leafT (n k : Nat) (sl bs pl : List Nat) : VEx × Fr × VS → Option Tree
 | (x, t, S) => match collectC bs S with
  | none => none
  | some bl => match rnS (idxN bs) sl (sl.map t.at), rnB pl (idxN bs) bl with
   | some d, some (objs, q) => match keepOk k bs 0 && nodupB bs && sl.all (fun i => Nat.blt i n) && Nat.ble bs.length 262144 && flatX x && Nat.beq t.n n && (t.ds.isEmpty && t.base.isEmpty) with
    | true => some (needs q (.leaf x ⟨d, objs⟩))
    | false => none
   | _, _ => none
theorem collectC_names : ∀ {bs : List Nat} {S : VS} {r : List (Nat × VObj)}, collectC bs S = some r → r.map (·.1) = bs
 | [], S, r, h => by simp only [collectC, Option.some.injEq] at h; subst h; rfl
 | x :: l, S, r, h => by
  unfold collectC at h
  split at h
  ·rename_i o r' h1 h2
   simp only [Option.some.injEq] at h
   subst h
   simp [collectC_names h2]
  ·cases h
theorem TriL.tree {P : Program} (hP : plainNames P = true) (hmix : P.follows .mixedOrders = true) {cO : CallO} (hc : CallsOk P cO) {lf n k m : Nat} {l : List Code} {d : Desc} {s : ST} {T : Tree}
  (h : ∀ u, (codesO P cO lf (l.take m) (frU n u d.sl) (vsOf d.objs)).sym (leafT n k) s = some T) {Q : VEx → Desc → Prop}
  (hT : T.ok (fun x d' => match x with
   | .normal => TriL P n k (l.drop m) d' Q
   | x => Q x d')) : TriL P n k l d Q := by
 intro X hn hk a w hd
 have hd0 := hd
 obtain ⟨ρ, u, M, hd⟩ := hd
 obtain ⟨p, sl, bs, pl, T', h1, h2, h3⟩ := DT.sym_ok (h u) hT
 obtain ⟨x, t1, S1⟩ := p
 dsimp only [leafT] at h2
 cases hbl : collectC bs S1 with
 | none => rw [hbl] at h2; cases h2
 | some bl =>
  rw [hbl] at h2
  dsimp only at h2
  split at h2
  ·rename_i dl objs q hs hr
   split at h2
   ·rename_i hcl
    cases h2
    obtain ⟨hq, hleaf⟩ := needs_ok h3
    have hnm := collectC_names hbl
    have hob := rnB_ok hr hq
    simp only [Bool.and_eq_true] at hcl
    obtain ⟨⟨⟨⟨⟨⟨c1, c2⟩, c3⟩, c4⟩, c5⟩, c6⟩, c7, c8⟩ := hcl
    have hlen : objs.length = bs.length := by rw [← hob.len, ← hnm]; simp
    subst hn hk
    obtain ⟨cV, hcV, hcO⟩ := hc.ex
    have hv := codesO_ok hcO lf h1
    have he := codesV_ext hcV lf hv
    have hsm := he.sm (fun x hx => by rcases hx with hx | hx <;> cases hx)
    have hag : Agree (vsOf d.objs) S1 (memOf d.objs) := fun x hx => by rw [memOf_small (hsm x hx), gt_vsOf hd.few]
    rw [← List.take_append_drop m l]
    have hqr := quiet_rows hd.quiet
    refine wpL_append (codesV_ok hP hmix hcV lf (codesV_base (M.map coll) hv) hd.fr (hd.mem.reroot hqr) hag fun ρ' e a' w' hle hxr hfr hwr0 => ?_)
    have hwr := hwr0.unroot hd.mem.env hd.mem.below hd.mem.size hqr
    have hh : Holds P X ⟨dl, objs⟩ a' w' := Holds.of_raw (bl := bl) (t := t1.rebase (M.map coll)) (M := M) hd.full hle hd.kept hfr (Nat.eq_of_beq_eq_true c6) (List.isEmpty_iff.1 c7) rfl (fun D hD => (hwr0.kept_block hD).trans (hd.quiet D hD)) hd.once hd.outside hwr rfl (fun p hp => by
     have hg := collectC_ok hbl p hp
     unfold post
     by_cases hx : p.1 ∈ S1.wr
     ·rw [if_pos hx, hg]
     ·rw [if_neg hx, memOf_small (small_of_gt hg), ← gt_vsOf hd.few, ← he.frame p.1 hx, hg]) (by rw [hnm]; exact c1) (by rw [hnm]; exact c2) (by rw [hnm]; exact hs) (by rw [hnm]; exact hob) c3 (Nat.ble_eq_true_of_le (by rw [hlen]; exact Nat.le_of_ble_eq_true c4))
    cases x with
    | normal => cases hxr; exact hleaf X rfl rfl a' w' hh
    | exit id => cases hxr; exact ⟨.exit id, _, hleaf, .exit id, hh⟩
    | ret => cases hxr; exact ⟨.ret, _, hleaf, .ret, hh⟩
    | panic v =>
     cases hxr with
     | panic _ v' hv =>
      have := fl_inv c5 hv
      subst this
      exact ⟨.panic v', _, hleaf, .panic _ _ (fl_refl c5), hh⟩
   ·cases h2
  ·cases h2
theorem Tree.mkFork {R : VEx → Desc → Prop} {c : Bool} {a b : Tree} (h1 : c = true → a.ok R) (h2 : c = false → b.ok R) : (Tree.fork c a b).ok R := ⟨h1, h2⟩
theorem Tree.mkNeed {R : VEx → Desc → Prop} {c v : Bool} {t : Tree} (h1 : c = v) (h2 : t.ok R) : (Tree.need c v t).ok R := ⟨h1, h2⟩
theorem Tree.mkQ {R : VEx → Desc → Prop} {d : Desc} (h : R .normal d) : (Tree.leaf .normal d).ok R := h
theorem Tree.mkR {R : VEx → Desc → Prop} {d : Desc} (h : R .ret d) : (Tree.leaf .ret d).ok R := h
theorem Tree.mkE {R : VEx → Desc → Prop} (n : Nat) {d : Desc} (h : R (.exit n) d) : (Tree.leaf (.exit n) d).ok R := h
theorem Tree.mkLeaf {R : VEx → Desc → Prop} {x : VEx} {d : Desc} (h : R x d) : (Tree.leaf x d).ok R := h
theorem TriL.blockAt {P : Program} {n k : Nat} {L : List Code} {d : Desc} {Q : VEx → Desc → Prop} (i id : Nat) (hl : isBlock (L.drop i) = some id)
  (h : TriL P n k (flat2 (inner (L.drop i))) d (QB id (fun d' => TriL P n k (L.drop (i + 1)) d' Q) Q)) : TriL P n k (L.drop i) d Q :=
 TriL.block hl (by rw [List.tail_drop]; exact h)
def QL {σ : Type} (I : σ → Desc) (μ : σ → Nat) (ok : σ → Prop) (s : σ) (Q : VEx → Desc → Prop) : VEx → Desc → Prop
 | .normal, d => ∃ s', ok s' ∧ μ s' < μ s ∧ d = I s'
 | x, d => Q x d
theorem TriL.loopAt {P : Program} {n k : Nat} {l : List Code} {Q : VEx → Desc → Prop} {σ : Type} (I : σ → Desc) (μ : σ → Nat) (ok : σ → Prop) (s₀ : σ) (hl : isLoop l = true) (h₀ : ok s₀)
  (h : ∀ s, ok s → TriL P n k (flat2 (inner l)) (I s) (QL I μ ok s Q)) : TriL P n k l (I s₀) Q :=
 TriL.loop I μ ok hl (fun s hs => (h s hs).mono fun x d hx => by cases x <;> exact hx) s₀ h₀
theorem QL.ret {σ : Type} {I : σ → Desc} {μ : σ → Nat} {ok : σ → Prop} {s : σ} {Q : VEx → Desc → Prop} {d : Desc} (h : Q .ret d) : QL I μ ok s Q .ret d := h
theorem QL.exit {σ : Type} {I : σ → Desc} {μ : σ → Nat} {ok : σ → Prop} {s : σ} {Q : VEx → Desc → Prop} {d : Desc} {j : Nat} (h : Q (.exit j) d) : QL I μ ok s Q (.exit j) d := h
theorem QL.to {σ : Type} {I : σ → Desc} {μ : σ → Nat} {ok : σ → Prop} {s : σ} {Q : VEx → Desc → Prop} {d : Desc} (s' : σ) (h : ok s') (hm : μ s' < μ s) (e : d = I s') : QL I μ ok s Q .normal d := ⟨s', h, hm, e⟩
theorem QB.ret {id : Nat} {N : Desc → Prop} {Q : VEx → Desc → Prop} {d : Desc} (h : Q .ret d) : QB id N Q .ret d := h
theorem QB.normal {id : Nat} {N : Desc → Prop} {Q : VEx → Desc → Prop} {d : Desc} (h : N d) : QB id N Q .normal d := h
theorem QB.hit {id : Nat} {N : Desc → Prop} {Q : VEx → Desc → Prop} {d : Desc} (h : N d) : QB id N Q (.exit id) d := by
 unfold QB; dsimp only; rw [Nat.beq_refl]; exact h
theorem QB.miss {id j : Nat} {N : Desc → Prop} {Q : VEx → Desc → Prop} {d : Desc} (hj : Nat.beq j id = false) (h : Q (.exit j) d) : QB id N Q (.exit j) d := by
 unfold QB; dsimp only; rw [hj]; exact h
noncomputable def sameAO (a args : List Value) (o objs : List VObj) : Bool := @decide (a = args ∧ o = objs) (Classical.propDecidable _)
theorem sameAO_self {a args : List Value} {o objs : List VObj} (h1 : a = args) (h2 : o = objs) : sameAO a args o objs = true := by
 subst h1 h2
 simp [sameAO]
theorem sameAO_all (a : List Value) (o : List VObj) : sameAO a a o o = true := sameAO_self rfl rfl
noncomputable def Sum.one (names : List Value → (Nat → Option VObj) → Option (List Nat)) (args : List Value) (objs : List VObj) (r : CRes) (out : List VObj) : Sum where
 names := names
 spec a o := .must (sameAO a args o objs) (.done (r, out))
theorem FnOk.one {P : Program} {f : FuncId} {names : List Value → (Nat → Option VObj) → Option (List Nat)} {args : List Value} {objs : List VObj} {r : CRes} {out : List VObj} (h : FnT P f args objs fun r' o' => r' = r ∧ o' = out) :
  FnOk P f (Sum.one names args objs r out) := by
 intro a o r' o' hr
 obtain ⟨h1, h2⟩ := QT.run_must hr
 obtain ⟨rfl, rfl⟩ := @of_decide_eq_true _ (Classical.propDecidable _) h1
 cases h2
 exact h
def blkV : Nat → Value → List Nat
 | _, .pointer (some ⟨b, _, none⟩) => [b]
 | _, .slice (some ⟨b, _, none⟩) _ _ => [b]
 | _, .map (some b) => [b]
 | d + 1, .iface _ v => blkV d v
 | d + 1, .agg c => (c.toList.map (blkV d)).flatten
 | d + 1, .tuple c => (c.toList.map (blkV d)).flatten
 | d + 1, .func _ f c => (f.toList.map (blkV d)).flatten ++ (c.toList.map (blkV d)).flatten
 | _, _ => []
def dedup : List Nat → List Nat → List Nat
 | [], _ => []
 | x :: l, seen => match seen.any (Nat.beq x) with
  | true => dedup l seen
  | false => x :: dedup l (x :: seen)
def namesA (args : List Value) (_ : Nat → Option VObj) : Option (List Nat) := some (dedup ((args.map (blkV 6)).flatten) [])
theorem FnOk.closed {P : Program} {f : FuncId} {v : Value} (h : FnT P f [] [] fun r' o' => r' = .ret v ∧ o' = []) : FnOk P f ⟨namesA, fun a o => match a, o with
 | [], [] => .done (.ret v, [])
 | _, _ => .fail⟩ := by
 intro a o r' o' hr
 dsimp only at hr
 split at hr
 ·cases hr; exact h
 ·cases hr
theorem WR.named_anew {P : Program} {B : Nat → Prop} {w₀ w : World} {ρ : Ren} {m : Nat → Option VObj} (hfull : Full ρ) (hw : WR P B w₀ ρ m w) {bl : List (Nat × VObj)} (hbl : ∀ p ∈ bl, m p.1 = some p.2) {objs : List VObj} {k : Nat} (hk : ∀ x, x < k → ∃ r, ρ x = some r)
  (hkeep : keepOk k (bl.map (·.1)) 0 = true) (hnd : nodupB (bl.map (·.1)) = true) (hob : All2 (ON (idxN (bl.map (·.1)))) (bl.map (·.2)) objs) (hfew' : objs.length ≤ 262144) :
  ∃ ρ2 : Ren, Full ρ2 ∧ (∀ x, x < k → ρ2 x = ρ x) ∧ (∀ y i r, idxN (bl.map (·.1)) y = some i → ρ y = some r → ρ2 i = some r) ∧ WR P B w₀ ρ2 (memOf objs) w := by
 let σ : List Nat := bl.map (·.1)
 let ρ2 : Ren := fun x => match small x with
  | true => (σ[x]?).bind ρ
  | false => ρ x
 have hsm : ∀ x, small x = true → ρ2 x = (σ[x]?).bind ρ := fun x h => by show (match small x with | true => _ | false => _) = _; rw [h]
 have hgr : ∀ x, small x = false → ρ2 x = ρ x := fun x h => by show (match small x with | true => _ | false => _) = _; rw [h]
 have hlen : bl.length = objs.length := by have := hob.len; simpa using this
 have hfull2 : Full ρ2 := fun r => by
  obtain ⟨y, h1, h2⟩ := hfull r
  exact ⟨y, h1, by rw [hgr y h1]; exact h2⟩
 have hσsm : ∀ i y, σ[i]? = some y → small i = true := fun i y h => small_iff.2 (by
  have : i < σ.length := (List.getElem?_eq_some_iff.1 h).1
  have e : σ.length = bl.length := by simp [σ]
  have : (2 : Nat) ^ 18 = 262144 := rfl
  omega)
 have hσ : ∀ i y r, σ[i]? = some y → ρ y = some r → ρ2 i = some r := fun i y r h1 h2 => by rw [hsm i (hσsm i y h1), h1]; exact h2
 have hσ' : ∀ y i r, idxN σ y = some i → ρ y = some r → ρ2 i = some r := fun y i r h1 h2 => hσ i y r (idxN_some h1) h2
 refine ⟨ρ2, hfull2, fun x hx => ?_, hσ', ?_⟩
 ·have := keepOk_get hkeep x hx
  rw [Nat.zero_add] at this
  obtain ⟨r, hr⟩ := hk x hx
  rw [hσ x x r this hr, hr]
 ·have hbi : ∀ (i : Nat) (o : VObj), objs[i]? = some o → ∃ y ob, σ[i]? = some y ∧ m y = some ob ∧ ON (idxN σ) ob o := fun i o hi => by
   obtain ⟨ob, h1, h2⟩ := hob.get hi
   rw [List.getElem?_map] at h1
   cases hb : bl[i]? with
   | none => rw [hb] at h1; cases h1
   | some p =>
    rw [hb] at h1
    simp only [Option.map_some, Option.some.injEq] at h1
    subst h1
    exact ⟨p.1, p.2, by simp [σ, hb], hbl p (List.mem_of_getElem? hb), h2⟩
  refine hw.recast (fun x => match small x with
   | true => σ[x]?
   | false => none) (fun x o hx hne => ?_) (fun x y z hx hy => ?_) fun x hx => ?_
  ·cases hs : small x with
   | false => rw [memOf_great hs] at hx; cases hx; exact absurd rfl hne
   | true =>
    rw [memOf_small hs] at hx
    obtain ⟨y, ob, h1, h2, h3⟩ := hbi x o hx
    refine ⟨y, ob, h1, h2, h3.ne hne, ?_, fun r hl => ⟨(h3.live hl).1, (h3.live hl).2, h3.or hσ' hl⟩, fun n size row e => ?_, fun el ro e => ?_, fun d e => ?_⟩
    ·rw [hsm x hs, h1]; rfl
    ·subst e; cases h3; rfl
    ·subst e
     cases h3 with
     | plain => rfl
     | cells c _ _ _ h =>
      cases c with
      | nil => rfl
      | cons v c => have := rnL_len h; simp at this
    ·subst e; cases h3; rfl
  ·have key : ∀ q, (match small q with | true => σ[q]? | false => none) = some z → σ[q]? = some z := fun q hq => by
    cases hs : small q with
    | true => rw [hs] at hq; exact hq
    | false => rw [hs] at hq; cases hq
   exact nodupB_get hnd (key x hx) (key y hy)
  ·cases hs : small x with
   | false => rw [memOf_great hs] at hx; cases hx
   | true =>
    rw [memOf_small hs] at hx
    rw [hsm x hs]
    have : σ[x]? = none := by
     rw [List.getElem?_eq_none_iff] at hx ⊢
     simp [σ]
     omega
    rw [this]
    rfl
def trimT (k : Nat) (bs pl : List Nat) (r : CRes) (o : List VObj) : Option (CRes × List VObj × List (List Value)) := match getAll (fun x => o[x]?) bs with
 | none => none
 | some ob => match rnB pl (idxN bs) (bs.zip ob), backR (idxN bs) r, keepOk k bs 0 && nodupB bs && Nat.ble bs.length 262144 with
  | some (o', q), some r', true => some (r', o', q)
  | _, _, _ => none
theorem FnT.trim {P : Program} {f : FuncId} {args : List Value} {objs : List VObj} {Q Q' : CRes → List VObj → Prop} (h : FnT P f args objs Q)
  (ht : ∀ r o, Q r o → ∃ bs pl r' o' q, trimT objs.length bs pl r o = some (r', o', q) ∧ (∀ c ∈ q, c.all isScal = true) ∧ Q' r' o') : FnT P f args objs Q' := by
 intro B w₀ ρ w args' h1 h2 h3 h4
 refine (h B w₀ ρ w args' h1 h2 h3 h4).mono fun e w' he => ?_
 obtain ⟨r, o, ρ', hq, hcr, hfull, hw, hfew, hkeep⟩ := he
 obtain ⟨bs, pl, r', o', q, t1, t2, t3⟩ := ht r o hq
 unfold trimT at t1
 split at t1
 ·cases t1
 ·rename_i ob hob
  split at t1
  ·rename_i o2 q2 r2 hr1 hr2 hc
   simp only [Option.some.injEq, Prod.mk.injEq] at t1
   obtain ⟨rfl, rfl, rfl⟩ := t1
   simp only [Bool.and_eq_true] at hc
   obtain ⟨⟨c1, c2⟩, c3⟩ := hc
   obtain ⟨g1, g2⟩ := getAll_ok hob
   have e1 : (bs.zip ob).map (·.1) = bs := by rw [List.map_fst_zip (by omega)]
   have hob2 := rnB_ok hr1 t2
   have hl : o2.length = bs.length := by rw [← hob2.len]; simp; omega
   have hsm : ∀ x ∈ bs, small x = true := fun x hx => by
    obtain ⟨i, hi⟩ := List.getElem?_of_mem hx
    obtain ⟨oo, _, h⟩ := g2 i x hi
    have : x < o.length := (List.getElem?_eq_some_iff.1 h).1
    exact small_iff.2 (by have : (2 : Nat) ^ 18 = 262144 := rfl; omega)
   obtain ⟨ρ2, k1, k2, k3, k4⟩ := WR.named_anew (bl := bs.zip ob) (objs := o2) (k := objs.length) hfull hw (fun p hp => by
    obtain ⟨i, hi⟩ := List.getElem?_of_mem hp
    rw [List.getElem?_zip_eq_some] at hi
    obtain ⟨oo, h5, h6⟩ := g2 i p.1 hi.1
    rw [hi.2] at h5
    cases h5
    rw [memOf_small (hsm p.1 (List.mem_of_getElem? hi.1))]
    exact h6) (fun x hx => by rw [hkeep x hx]; exact h2 x hx) (by rw [e1]; exact c1) (by rw [e1]; exact c2) (by rw [e1]; exact hob2) (by rw [hl]; exact Nat.le_of_ble_eq_true c3)
   rw [e1] at k3
   refine ⟨r2, o2, ρ2, t3, ?_, k1, k4, by rw [hl]; exact Nat.le_of_ble_eq_true c3, fun x hx => (k2 x hx).trans (hkeep x hx)⟩
   unfold backR at hr2
   split at hr2
   ·rename_i v
    split at hr2
    ·rename_i u hu
     cases hr2
     cases e with
     | returned v' => exact rnV_ok k3 6 v u v' hu hcr
     | panicked chain => cases hcr
     | outgrown => cases hcr
    ·cases hr2
   ·rename_i v
    split at hr2
    ·rename_i hfl
     cases hr2
     cases e with
     | returned v' => cases hcr
     | panicked chain =>
      obtain ⟨v', h1, h2⟩ := hcr
      have := fl_inv hfl h2
      subst this
      exact ⟨v', h1, fl_refl hfl⟩
     | outgrown => cases hcr
    ·cases hr2
  ·cases t1
def FinT (P : Program) (f : FuncId) (n k : Nat) (Q : CRes → List VObj → Prop) : VEx → Desc → Prop
 | .normal, d => ∃ vs l, (∀ u, (resV P (frU n u d.sl) (resC P f)).run (gt (vsOf d.objs).mem) = some (vs, l)) ∧ ∃ bs pl r' o' q, trimT k bs pl (.ret (resOf vs)) d.objs = some (r', o', q) ∧ (∀ c ∈ q, c.all isScal = true) ∧ Q r' o'
 | .ret, d => ∃ vs l, (∀ u, (resV P (frU n u d.sl) (resC P f)).run (gt (vsOf d.objs).mem) = some (vs, l)) ∧ ∃ bs pl r' o' q, trimT k bs pl (.ret (resOf vs)) d.objs = some (r', o', q) ∧ (∀ c ∈ q, c.all isScal = true) ∧ Q r' o'
 | _, _ => False
theorem FnT.ofT {P : Program} {f : FuncId} {n : Nat} {args : List Value} {objs : List VObj} {Q : CRes → List VObj → Prop}
  (hf : (((P.funcs[f]?).bind (·.body)).isSome && Nat.beq (slotsC P f) n && Nat.ble args.length n && Nat.ble n 1024 && Nat.ble objs.length 262144) = true)
  (h : TriL P n objs.length (flat2 (bodyC P f)) ⟨numb args 0, objs⟩ (FinT P f n objs.length Q)) : FnT P f args objs Q :=
 FnT.trim (Q := fun r o => ∃ bs pl r' o' q, trimT objs.length bs pl r o = some (r', o', q) ∧ (∀ c ∈ q, c.all isScal = true) ∧ Q r' o')
  (FnT.of hf (h.mono fun x d hx => by cases x <;> first | exact hx | exact hx.elim)) fun r o h => h
theorem FinT.ret {P : Program} {f n k : Nat} {Q : CRes → List VObj → Prop} {d : Desc} {vs : List Value} {l bs pl : List Nat} {r' : CRes} {o' : List VObj} {q : List (List Value)} (h : ∀ u, (resV P (frU n u d.sl) (resC P f)).run (gt (vsOf d.objs).mem) = some (vs, l))
  (ht : trimT k bs pl (.ret (resOf vs)) d.objs = some (r', o', q)) (hp : ∀ c ∈ q, c.all isScal = true) (hq : Q r' o') : FinT P f n k Q .ret d := ⟨vs, l, h, bs, pl, r', o', q, ht, hp, hq⟩
theorem pls_nil : ∀ c ∈ ([] : List (List Value)), c.all isScal = true := fun c h => by cases h
theorem pls_cons {c : List Value} {q : List (List Value)} (h : c.all isScal = true) (hq : ∀ c ∈ q, c.all isScal = true) : ∀ x ∈ c :: q, x.all isScal = true := fun x hx => by
 rcases List.mem_cons.1 hx with rfl | hx
 ·exact h
 ·exact hq x hx
attribute [simp] pl_bytes pl_strs pl_ints pl_u8 bytesC_length strsC_length intsC_length
@[simp] theorem pl_splice' {a b : List Value} {n : Nat} (ha : a.all isScal = true) (hb : b.all isScal = true) : (splice a n b).all isScal = true := pl_splice ha hb n
@[simp] theorem pl_take' {a : List Value} {n : Nat} (ha : a.all isScal = true) : (a.take n).all isScal = true := pl_take ha n
@[simp] theorem pl_drop' {a : List Value} {n : Nat} (ha : a.all isScal = true) : (a.drop n).all isScal = true := pl_drop ha n
@[simp] theorem one_bytes (b : ByteArray) : (bytesC b).all Value.oneCell' = true := one_of_plain (pl_bytes b)
@[simp] theorem one_strs (b : List ByteArray) : (strsC b).all Value.oneCell' = true := one_of_plain (pl_strs b)
@[simp] theorem one_ints (b : List Int) : (intsC b).all Value.oneCell' = true := one_of_plain (pl_ints b)
@[simp] theorem scal_i (k : IntKind) (x : Int) : isScal (.int k x) = true := rfl
@[simp] theorem scal_s (x : ByteArray) : isScal (.string x) = true := rfl
@[simp] theorem scal_b (x : Bool) : isScal (.bool x) = true := rfl
@[simp] theorem one_i (k : IntKind) (x : Int) : Value.oneCell' (.int k x) = true := rfl
@[simp] theorem one_s (x : ByteArray) : Value.oneCell' (.string x) = true := rfl
@[simp] theorem one_b (x : Bool) : Value.oneCell' (.bool x) = true := rfl
@[simp] theorem blt_t {a b : Nat} : Nat.blt a b = true ↔ a < b := blt_iff
@[simp] theorem blt_f {a b : Nat} : Nat.blt a b = false ↔ b ≤ a := by
 cases h : Nat.blt a b with
 | true => have := blt_iff.1 h; simp; omega
 | false => simp; exact Nat.le_of_not_lt fun h' => by rw [blt_iff.2 h'] at h; cases h
@[simp] theorem ble_t {a b : Nat} : Nat.ble a b = true ↔ a ≤ b := ⟨Nat.le_of_ble_eq_true, Nat.ble_eq_true_of_le⟩
@[simp] theorem ble_f {a b : Nat} : Nat.ble a b = false ↔ b < a := by
 cases h : Nat.ble a b with
 | true => have := Nat.le_of_ble_eq_true h; simp; omega
 | false => simp; exact Nat.lt_of_not_le fun h' => by rw [Nat.ble_eq_true_of_le h'] at h; cases h
@[simp] theorem beq_t {a b : Nat} : Nat.beq a b = true ↔ a = b := ⟨Nat.eq_of_beq_eq_true, fun h => by subst h; exact Nat.beq_refl a⟩
@[simp] theorem beq_f {a b : Nat} : Nat.beq a b = false ↔ a ≠ b := by
 cases h : Nat.beq a b with
 | true => have := Nat.eq_of_beq_eq_true h; simp; omega
 | false => simp; intro e; subst e; rw [Nat.beq_refl] at h; cases h
@[simp] theorem full_t {n c : Nat} : full n c = true ↔ c ≤ n := by
 unfold full
 cases c with
 | zero => simp
 | succ c => simp
@[simp] theorem full_f {n c : Nat} : full n c = false ↔ n < c := by
 unfold full
 cases c with
 | zero => simp
 | succ c => simp
theorem full_self (n : Nat) : full n n = true := full_t.2 (Nat.le_refl n)
def tblL : List (FuncId × Sum) → FuncId → Option Sum
 | [], _ => none
 | p :: l, f => match Nat.beq f p.1 with
  | true => some p.2
  | false => tblL l f
inductive TblOk (P : Program) : List (FuncId × Sum) → Prop where
 | nil : TblOk P []
 | cons {f : FuncId} {s : Sum} {l : List (FuncId × Sum)} (h : FnOk P f s) (t : TblOk P l) : TblOk P ((f, s) :: l)
theorem tblL_ok {P : Program} {l : List (FuncId × Sum)} (h : TblOk P l) : ∀ f s, tblL l f = some s → FnOk P f s := by
 induction h with
 | nil => intro f s h; cases h
 | cons h _ ih =>
  intro f s hf
  unfold tblL at hf
  split at hf
  ·rename_i hb
   cases hf
   rw [Nat.eq_of_beq_eq_true hb]
   exact h
  ·exact ih f s hf
def Sum.of (g : List Value → List VObj → Option (Bool × CRes × List VObj)) : Sum := ⟨namesA, fun a o => match g a o with
 | some (c, r, o') => .must c (.done (r, o'))
 | none => .fail⟩
theorem FnOk.of {P : Program} {f : FuncId} {g : List Value → List VObj → Option (Bool × CRes × List VObj)} (h : ∀ a o r o', g a o = some (true, r, o') → FnT P f a o fun r' o'' => r' = r ∧ o'' = o') : FnOk P f (Sum.of g) := by
 intro a o r o' hr
 unfold Sum.of at hr
 dsimp only at hr
 split at hr
 ·rename_i c r1 o1 hg
  obtain ⟨h1, h2⟩ := QT.run_must hr
  subst h1
  cases h2
  exact h _ _ _ _ hg
 ·cases hr
theorem slotOf_nodup : ∀ {l : List (Nat × Value)}, nodupB (l.map (·.1)) = true → ∀ p ∈ l, slotOf l p.1 = some p.2
 | [], _, p, hp => by cases hp
 | q :: l, h, p, hp => by
  simp only [List.map_cons, nodupB, Bool.and_eq_true, Bool.not_eq_true', List.any_eq_false] at h
  obtain ⟨h1, h2⟩ := h
  unfold slotOf
  rcases List.mem_cons.1 hp with rfl | hp
  ·have hn : slotOf l p.1 = none := by
    have key : ∀ l : List (Nat × Value), (∀ x ∈ l.map (·.1), ¬ Nat.beq p.1 x = true) → slotOf l p.1 = none := by
     intro l
     induction l with
     | nil => intro _; rfl
     | cons q l ih =>
      intro hx
      unfold slotOf
      rw [ih fun x hm => hx x (by simp at hm ⊢; exact .inr hm)]
      have := hx q.1 (by simp)
      cases hb : Nat.beq q.1 p.1 with
      | false => rfl
      | true => exact absurd (by rw [Nat.eq_of_beq_eq_true hb, Nat.beq_refl]) this
    exact key l h1
   rw [hn, Nat.beq_refl]
  ·rw [slotOf_nodup h2 p hp]
def nilRow (i : Nat) (el : TypeId) (d : Desc) : Desc :=
 ⟨d.sl.map fun p => bif Nat.beq p.1 i then (i, .slice (some ⟨d.objs.length, 0, none⟩) 0 0) else p, d.objs ++ [.cells [] el false]⟩
theorem Holds.nilAt {P : Program} {X : Ctx} {d : Desc} {a : Act} {w : World} (i : Nat) (el : TypeId) {s : Nat} (hz : szOf P el = some s) (hi : slotOf d.sl i = some (.slice none 0 0))
  (hc : (nodupB (d.sl.map (·.1)) && d.sl.all (fun p => Nat.blt p.1 X.n) && Nat.blt d.objs.length 262144 && Nat.ble X.k d.objs.length) = true) (h : Holds P X d a w) : Holds P X (nilRow i el d) a w := by
 obtain ⟨ρ, u, M, hd⟩ := h
 simp only [Bool.and_eq_true] at hc
 obtain ⟨⟨⟨c1, c2⟩, c3⟩, c4⟩ := hc
 have c3 := blt_iff.1 c3
 have c4 := Nat.le_of_ble_eq_true c4
 have hsk : small d.objs.length = true := small_iff.2 (by have : (2 : Nat) ^ 18 = 262144 := rfl; omega)
 have hnone : memOf d.objs d.objs.length = none := by rw [memOf_small hsk]; simp
 let r : Where := ⟨0, 0, s, 0⟩
 have hle : ρ.le (ρ.put d.objs.length r) := Ren.put_le (hd.mem.fresh _ hnone) r
 have hw := hd.mem.addDead hnone (o := .cells [] el false) (r := r) rfl (fun m sz row e => by cases e) (fun el' ro e k hk => by
  cases e
  rw [hz] at hk
  cases hk
  rfl)
 have hm : upd (memOf d.objs) d.objs.length (.cells [] el false) = memOf (d.objs ++ [.cells [] el false]) := by
  funext x
  by_cases hx : x = d.objs.length
  ·subst hx
   rw [upd_same, memOf_small hsk]
   simp
  ·rw [upd_other _ hx]
   cases hs : small x with
   | false => rw [memOf_great hs, memOf_great hs]
   | true =>
    rw [memOf_small hs, memOf_small hs]
    by_cases hl : x < d.objs.length
    ·rw [List.getElem?_append_left hl]
    ·rw [List.getElem?_eq_none (by omega), List.getElem?_eq_none (by simp; omega)]
 rw [hm] at hw
 have hnl : ((frU X.n u d.sl).rebase (M.map coll)).n = X.n := by show (valsU X.n u d.sl).length = _; unfold valsU; rw [foldset_len]; simp
 have hsz : a.tmps.size = X.n := by rw [hd.fr.size, hnl]
 have hn : X.n ≤ 1024 := by have := hd.fr.small; omega
 have hfull2 : Full (ρ.put d.objs.length r) := fun q => by
  obtain ⟨y, h1, h2⟩ := hd.full q
  exact ⟨y, h1, hle _ _ h2⟩
 obtain ⟨u', hu⟩ : ∃ u' : Nat → Value, FR (ρ.put d.objs.length r) ((frU X.n u' (nilRow i el d).sl).rebase (M.map coll)) a := by
  refine FR.make (b := M.map coll) hsz hn (hd.fr.none_left rfl) (fun j => ⟨_, (hd.fr.at_ j).mono hle⟩) fun p hp => ?_
  simp only [nilRow, List.mem_map] at hp
  obtain ⟨p0, hp0, rfl⟩ := hp
  have hp0n : p0.1 < X.n := blt_iff.1 (List.all_eq_true.1 c2 p0 hp0)
  have hat := hd.fr.at_ p0.1
  rw [Fr.at_rebase, frU_at hn hp0n (slotOf_nodup c1 p0 hp0)] at hat
  cases hb : Nat.beq p0.1 i with
  | false => exact ⟨hp0n, hat.mono hle⟩
  | true =>
   have e := Nat.eq_of_beq_eq_true hb
   subst e
   refine ⟨hp0n, ?_⟩
   have h2 := slotOf_nodup c1 p0 hp0
   rw [hi] at h2
   have h3 : p0.2 = .slice none 0 0 := (Option.some.inj h2).symm
   rw [h3] at hat
   show VR _ (.slice (some ⟨d.objs.length, 0, none⟩) 0 0) (a.tmps.getD p0.1 undef)
   rw [VR.scal_inv rfl hat]
   exact .slE _ _
 exact ⟨_, u', M, hfull2, fun x hx => by
  rw [← hd.kept x hx]
  show (if x = d.objs.length then some r else ρ x) = ρ x
  rw [if_neg (by omega)], hu, hw, by
  show Nat.le (d.objs ++ [VObj.cells [] el false]).length 262144
  simp; omega, hd.quiet, hd.once, hd.outside⟩
theorem TriL.nilAt {P : Program} {n k : Nat} {l : List Code} {d d' : Desc} {Q : VEx → Desc → Prop} (i : Nat) (el : TypeId) {s : Nat} (hz : szOf P el = some s) (hi : slotOf d.sl i = some (.slice none 0 0))
  (hc : (nodupB (d.sl.map (·.1)) && d.sl.all (fun p => Nat.blt p.1 n) && Nat.blt d.objs.length 262144 && Nat.ble k d.objs.length) = true) (hd : nilRow i el d = d') (h : TriL P n k l d' Q) : TriL P n k l d Q := by
 intro X hn hk a w hd0
 subst hd
 exact h X hn hk a w (hd0.nilAt i el hz hi (by rw [hn, hk]; exact hc))
theorem WR.addNil {P : Program} {B : Nat → Prop} {w₀ w : World} {ρ : Ren} {objs : List VObj} (h : WR P B w₀ ρ (memOf objs) w) {el : TypeId} {s : Nat} (hz : szOf P el = some s) (hl : objs.length < 262144) :
  ∃ ρ1, ρ.le ρ1 ∧ WR P B w₀ ρ1 (memOf (objs ++ [.cells [] el false])) w ∧ (∀ x, x ≠ objs.length → ρ1 x = ρ x) ∧ ∃ r, ρ1 objs.length = some r := by
 have hsk : small objs.length = true := small_iff.2 (by have : (2 : Nat) ^ 18 = 262144 := rfl; omega)
 have hnone : memOf objs objs.length = none := by rw [memOf_small hsk]; simp
 have hw := h.addDead hnone (o := .cells [] el false) (r := ⟨0, 0, s, 0⟩) rfl (fun m sz row e => by cases e) (fun el' ro e k hk => by
  cases e
  rw [hz] at hk
  cases hk
  rfl)
 have hm : upd (memOf objs) objs.length (.cells [] el false) = memOf (objs ++ [.cells [] el false]) := by
  funext x
  by_cases hx : x = objs.length
  ·subst hx
   rw [upd_same, memOf_small hsk]
   simp
  ·rw [upd_other _ hx]
   cases hs : small x with
   | false => rw [memOf_great hs, memOf_great hs]
   | true =>
    rw [memOf_small hs, memOf_small hs]
    by_cases hl : x < objs.length
    ·rw [List.getElem?_append_left hl]
    ·rw [List.getElem?_eq_none (by omega), List.getElem?_eq_none (by simp; omega)]
 rw [hm] at hw
 exact ⟨_, Ren.put_le (h.fresh _ hnone) _, hw, fun x hx => Ren.put_other ρ _ hx, _, Ren.put_same ρ _ _⟩
def reachN (P : Program) (g : Nat → Option VObj) : Nat → List Nat → List Nat
 | 0, l => l
 | d + 1, l => reachN P g d (dedup (l ++ (l.map fun x => match g x with
  | some (.cells c el _) => match scalT P el with
   | true => []
   | false => (c.map (blkV 6)).flatten
  | _ => []).flatten) [])
def namesR (P : Program) (args : List Value) (g : Nat → Option VObj) : Option (List Nat) := some (reachN P g 6 (dedup ((args.map (blkV 6)).flatten) []))
def Sum.ofR (P : Program) (g : List Value → List VObj → Option (Bool × CRes × List VObj)) : Sum := ⟨namesR P, (Sum.of g).spec⟩
theorem FnOk.ofR {P : Program} {f : FuncId} {g : List Value → List VObj → Option (Bool × CRes × List VObj)} (h : ∀ a o r o', g a o = some (true, r, o') → FnT P f a o fun r' o'' => r' = r ∧ o'' = o') : FnOk P f (Sum.ofR P g) :=
 fun a o r o' hs => FnOk.of h a o r o' hs
structure NilAsk where
 x : Nat
 d1 : Nat
 d2 : Nat
 ty : TypeId
def nilAsk : List Code → Option NilAsk
 | .region _ ops false :: _ => match ops.toList with
  | [o1, o2] => match o1.op, o1.dst, o1.guard, o2.op, o2.dst, o2.guard with
   | .move (.tmp x), some d1, none, .binOp .eql ty (.tmp y) (.const (.slice none 0 0)) _, some d2, none => match Nat.beq y d1 && !Nat.beq d1 d2 with
    | true => some ⟨x, d1, d2, ty⟩
    | false => none
   | _, _, _, _, _, _ => none
  | _ => none
 | _ => none
theorem nilAsk_some {l : List Code} {N : NilAsk} (h : nilAsk l = some N) : ∃ id o1 o2 rest yt, l = .region id #[o1, o2] false :: rest ∧ o1.op = .move (.tmp N.x) ∧ o1.dst = some N.d1 ∧ o1.guard = none ∧
  o2.op = .binOp .eql N.ty (.tmp N.d1) (.const (.slice none 0 0)) yt ∧ o2.dst = some N.d2 ∧ o2.guard = none ∧ N.d1 ≠ N.d2 := by
 unfold nilAsk at h
 split at h
 ·rename_i id ops rest
  split at h
  ·rename_i o1 o2 hops
   split at h
   ·rename_i x d1 ty y yt d2 h1 h2 h3 h4 h5 h6
    split at h
    ·rename_i hb
     cases h
     simp only [Bool.and_eq_true, Bool.not_eq_true'] at hb
     have hy := Nat.eq_of_beq_eq_true hb.1
     subst hy
     refine ⟨id, o1, o2, rest, yt, ?_, h1, h2, h3, h4, h5, h6, fun e => ?_⟩
     ·rw [show ops = #[o1, o2] by rw [← Array.toArray_toList (xs := ops), hops]]
     ·dsimp only at e; rw [e, Nat.beq_refl] at hb; cases hb.2
    ·cases h
   ·cases h
  ·cases h
 ·cases h
theorem VR.empty_inv {ρ : Ren} {a : Addr} {v : Value} (h : VR ρ (.slice (some a) 0 0) v) : ∃ a' c', v = .slice a' 0 c' := by
 cases h with
 | scal _ h => cases h
 | sl b off _ _ cap' r h hc => exact ⟨_, _, rfl⟩
 | slE _ a' => exact ⟨_, _, rfl⟩
 | rawS => exact ⟨_, _, rfl⟩
theorem run_nilEq {P : Program} {ty el : TypeId} (ht : P.underlying ty = some (.slice el)) (a' : Option Addr) (c' : Nat) (x y : Operand) (w : World) :
  ∃ b, ((do eqGuard .eql ty x y (.slice a' 0 c') (.slice none 0 0); binOp .eql ty (.slice a' 0 c') (.slice none 0 0)) : Sem Value).run P w = .ok (.bool b) w := by
 cases a' with
 | none => exact ⟨true, by
   show (Sem.run P (do let r ← Op.equal ty (.slice none 0 c') (.slice none 0 0); (pure (Value.bool r) : Sem Value)) w) = _
   obtain ⟨dd, hdd⟩ : ∃ dd, Op.maxDepth = dd + 1 := ⟨_, rfl⟩
   unfold Op.equal
   rw [hdd]
   unfold Op.equalIn
   simp only [Sem.run_bind, Vm.run_underlying ht, Result.andThen_ok]
   rfl⟩
 | some a => exact ⟨false, by
   show (Sem.run P (do let r ← Op.equal ty (.slice (some a) 0 c') (.slice none 0 0); (pure (Value.bool r) : Sem Value)) w) = _
   obtain ⟨dd, hdd⟩ : ∃ dd, Op.maxDepth = dd + 1 := ⟨_, rfl⟩
   unfold Op.equal
   rw [hdd]
   unfold Op.equalIn
   simp only [Sem.run_bind, Vm.run_underlying ht, Result.andThen_ok]
   rfl⟩
theorem TriL.eqNil {P : Program} {n k : Nat} {l : List Code} {d : Desc} {Q : VEx → Desc → Prop} (N : NilAsk) (el : TypeId) (a : Addr) (hl : nilAsk l = some N) (ht : P.underlying N.ty = some (.slice el))
  (hx : slotOf d.sl N.x = some (.slice (some a) 0 0)) (hc : (nodupB (d.sl.map (·.1)) && d.sl.all (fun p => Nat.blt p.1 n && (!Nat.beq p.1 N.d1 && !Nat.beq p.1 N.d2)) && (Nat.blt N.d1 n && Nat.blt N.d2 n)) = true)
  (h : ∀ b, TriL P n k l.tail ⟨d.sl ++ [(N.d2, .bool b)], d.objs⟩ Q) : TriL P n k l d Q := by
 obtain ⟨id, o1, o2, rest, yt, rfl, h1, h2, h3, h4, h5, h6, h7⟩ := nilAsk_some hl
 simp only [Bool.and_eq_true] at hc
 obtain ⟨⟨c1, c2⟩, c3, c4⟩ := hc
 intro X hn hk ac w hd
 subst hn hk
 obtain ⟨ρ, u, M, hd⟩ := hd
 have hsz : ac.tmps.size = X.n := by have := hd.fr.size; rw [this]; show (valsU X.n u d.sl).length = _; unfold valsU; simp [foldset_len]
 have hsm : X.n ≤ 1024 := by have h0 : (valsU X.n u d.sl).length ≤ 1024 := hd.fr.small; unfold valsU at h0; simpa [foldset_len] using h0
 have hat : ∀ p ∈ d.sl, VR ρ p.2 (ac.tmps.getD p.1 undef) := fun p hp => by
  have h8 := hd.fr.at_ p.1
  have := List.all_eq_true.1 c2 p hp
  simp only [Bool.and_eq_true] at this
  rwa [Fr.at_rebase, frU_at hsm (blt_iff.1 this.1) (slotOf_nodup c1 p hp)] at h8
 have hxm : ∃ p ∈ d.sl, p.1 = N.x ∧ p.2 = .slice (some a) 0 0 := by
  have key : ∀ (l : List (Nat × Value)) (v : Value), slotOf l N.x = some v → ∃ p ∈ l, p.1 = N.x ∧ p.2 = v := by
   intro l
   induction l with
   | nil => intro v h; cases h
   | cons p l ih =>
    intro v h
    unfold slotOf at h
    split at h
    ·rename_i v' hv
     cases h
     obtain ⟨q, h1, h2⟩ := ih _ hv
     exact ⟨q, List.mem_cons_of_mem _ h1, h2⟩
    ·split at h
     ·rename_i hb; cases h; exact ⟨p, List.mem_cons_self, Nat.eq_of_beq_eq_true hb, rfl⟩
     ·cases h
  exact key _ _ hx
 obtain ⟨p, hp, hp1, hp2⟩ := hxm
 have hv := hat p hp
 rw [hp1, hp2] at hv
 obtain ⟨a', c', hv'⟩ := hv.empty_inv
 rw [hv'] at hv
 refine wp_region ?_
 show wpOps P #[o1, o2] _ [0, 1] ac w
 have w1 : ∀ t, Region.wanted o1 t = true := fun t => by unfold Region.wanted; rw [h3]
 have w2 : ∀ t, Region.wanted o2 t = true := fun t => by unfold Region.wanted; rw [h6]
 unfold wpOps
 simp only [List.getElem?_toArray, List.getElem?_cons_zero, w1, if_true]
 left
 unfold Oper.wp
 have e1 : (execOp ac.eval o1).run P w = .ok (.value (.slice a' 0 c')) w := by
  unfold execOp
  rw [h1]
  show Sem.run P (pure (Next.value (ac.eval (.tmp N.x))) : Sem Next) w = _
  rw [show ac.eval (.tmp N.x) = .slice a' 0 c' from hv']
  rfl
 rw [e1]
 show wpOps P #[o1, o2] _ [1] (ac.put o1.dst (.slice a' 0 c')) w
 unfold wpOps
 simp only [List.getElem?_toArray, List.getElem?_cons_succ, List.getElem?_cons_zero, w2, if_true]
 left
 unfold Oper.wp
 rw [h2]
 obtain ⟨b, hb⟩ := run_nilEq ht a' c' (.tmp N.d1) (.const (.slice none 0 0)) w
 have hd1 : N.d1 < ac.tmps.size := by rw [hsz]; exact blt_iff.1 c3
 have e2 : (execOp (ac.put (some N.d1) (.slice a' 0 c')).eval o2).run P w = .ok (.value (.bool b)) w := by
  unfold execOp
  rw [h4]
  have ev1 : (ac.put (some N.d1) (.slice a' 0 c')).eval (.tmp N.d1) = .slice a' 0 c' := by
   show (ac.tmps.setIfInBounds N.d1 (.slice a' 0 c')).getD N.d1 undef = _
   simp only [Array.getD_eq_getD_getElem?, Array.getElem?_setIfInBounds_self, hd1, if_true, Option.getD_some]
  have ev2 : (ac.put (some N.d1) (.slice a' 0 c')).eval (.const (.slice none 0 0)) = .slice none 0 0 := rfl
  simp only [ev1, ev2]
  rw [Sem.run_bind, hb]
  rfl
 rw [e2]
 have key : Holds P X ⟨d.sl ++ [(N.d2, .bool b)], d.objs⟩ ((ac.put (some N.d1) (.slice a' 0 c')).put o2.dst (.bool b)) w := ?_
 ·exact h b X rfl rfl _ w key
 rw [h5]
 have hfr : ∃ u', FR ρ ((frU X.n u' (d.sl ++ [(N.d2, .bool b)])).rebase (M.map coll)) ((ac.put (some N.d1) (.slice a' 0 c')).put (some N.d2) (.bool b)) := by
  have hput1 : Vm.put ((frU X.n u d.sl).rebase (M.map coll)) (some N.d1) (.slice (some a) 0 0) = some { ((frU X.n u d.sl).rebase (M.map coll)) with t := (frU X.n u d.sl).t.set 10 N.d1 (.slice (some a) 0 0) } := by
   simp only [Vm.put, Fr.set_eq]
   have : Nat.blt N.d1 ((frU X.n u d.sl).rebase (M.map coll)).n = true := by
    have : ((frU X.n u d.sl).rebase (M.map coll)).n = X.n := by show (valsU X.n u d.sl).length = _; unfold valsU; simp [foldset_len]
    rw [this]; exact c3
   rw [this]
   rfl
  have f1 := hd.fr.put hv hput1
  have hput2 : Vm.put { ((frU X.n u d.sl).rebase (M.map coll)) with t := (frU X.n u d.sl).t.set 10 N.d1 (.slice (some a) 0 0) } (some N.d2) (.bool b) = some { ((frU X.n u d.sl).rebase (M.map coll)) with t := ((frU X.n u d.sl).t.set 10 N.d1 (.slice (some a) 0 0)).set 10 N.d2 (.bool b) } := by
   simp only [Vm.put, Fr.set_eq]
   have : Nat.blt N.d2 ((frU X.n u d.sl).rebase (M.map coll)).n = true := by
    have : ((frU X.n u d.sl).rebase (M.map coll)).n = X.n := by show (valsU X.n u d.sl).length = _; unfold valsU; simp [foldset_len]
    rw [this]; exact c4
   simp only [this]
  have f2 := f1.put (VR.scal (.bool b) rfl) hput2
  refine FR.make (b := M.map coll) (by rw [f2.size]; show (valsU X.n u d.sl).length = _; unfold valsU; simp [foldset_len]) hsm (f2.none_left rfl) (fun i => ⟨_, f2.at_ i⟩) fun q hq => ?_
  rcases List.mem_append.1 hq with hq | hq
  ·have hc2 := List.all_eq_true.1 c2 q hq
   simp only [Bool.and_eq_true, Bool.not_eq_true'] at hc2
   obtain ⟨q1, q2, q3⟩ := hc2
   refine ⟨blt_iff.1 q1, ?_⟩
   have n1 : q.1 ≠ N.d1 := fun e => by rw [e, Nat.beq_refl] at q2; cases q2
   have n2 : q.1 ≠ N.d2 := fun e => by rw [e, Nat.beq_refl] at q3; cases q3
   have : ((ac.put (some N.d1) (.slice a' 0 c')).put (some N.d2) (.bool b)).tmps.getD q.1 undef = ac.tmps.getD q.1 undef := by
    show ((ac.tmps.setIfInBounds N.d1 _).setIfInBounds N.d2 _).getD q.1 undef = _
    rw [Array.getD_eq_getD_getElem?, Array.getElem?_setIfInBounds_ne (Ne.symm n2), Array.getElem?_setIfInBounds_ne (Ne.symm n1), ← Array.getD_eq_getD_getElem?]
   rw [this]
   exact hat q hq
  ·simp only [List.mem_singleton] at hq
   subst hq
   refine ⟨blt_iff.1 c4, ?_⟩
   have : ((ac.put (some N.d1) (.slice a' 0 c')).put (some N.d2) (.bool b)).tmps.getD N.d2 undef = .bool b := by
    show ((ac.tmps.setIfInBounds N.d1 _).setIfInBounds N.d2 _).getD N.d2 undef = _
    have hd2 : N.d2 < (ac.tmps.setIfInBounds N.d1 (.slice a' 0 c')).size := by rw [Array.size_setIfInBounds, hsz]; exact blt_iff.1 c4
    simp only [Array.getD_eq_getD_getElem?, Array.getElem?_setIfInBounds_self, hd2, if_true, Option.getD_some]
   rw [this]
   exact .scal _ rfl
 obtain ⟨u', hu'⟩ := hfr
 exact ⟨ρ, u', M, hd.full, hd.kept, hu', hd.mem, hd.few, hd.quiet, hd.once, hd.outside⟩
def QI (D : Nat → Desc) (i N : Nat) (Q : VEx → Desc → Prop) : VEx → Desc → Prop
 | .normal, d => i < N ∧ d = D (i + 1)
 | x, d => Q x d
theorem QI.next {D : Nat → Desc} {i N : Nat} {Q : VEx → Desc → Prop} {d : Desc} (h : i < N) (e : d = D (i + 1)) : QI D i N Q .normal d := ⟨h, e⟩
theorem QI.exit {D : Nat → Desc} {i N j : Nat} {Q : VEx → Desc → Prop} {d : Desc} (h : Q (.exit j) d) : QI D i N Q (.exit j) d := h
theorem TriL.iters {P : Program} {n k : Nat} {l : List Code} {Q : VEx → Desc → Prop} (D : Nat → Desc) (N : Nat) (hl : isLoop l = true) (h : ∀ i, i ≤ N → TriL P n k (flat2 (inner l)) (D i) (QI D i N Q)) : TriL P n k l (D 0) Q :=
 TriL.loopAt D (fun i => N - i) (fun i => i ≤ N) 0 hl (Nat.zero_le N) fun i hi => (h i hi).mono fun x d' hq => by
  cases x with
  | normal => obtain ⟨h1, h2⟩ := hq; exact ⟨i + 1, h1, by show N - (i + 1) < N - i; omega, h2⟩
  | exit j => exact hq
  | ret => exact hq
  | panic v => exact hq
mutual
def sameV : Nat → Value → Value → Bool
 | _, .bool a, .bool b => a == b
 | _, .int k a, .int k' b => decide (k = k') && a == b
 | _, .string a, .string b => a.data.toList == b.data.toList
 | _, .nilFunc, .nilFunc => true
 | _, .nilIface, .nilIface => true
 | _, .pointer none, .pointer none => true
 | _, .pointer (some ⟨b, o, none⟩), .pointer (some ⟨b', o', none⟩) => Nat.beq b b' && Nat.beq o o'
 | _, .slice none n c, .slice none n' c' => Nat.beq n n' && Nat.beq c c'
 | _, .slice (some ⟨b, o, none⟩) n c, .slice (some ⟨b', o', none⟩) n' c' => Nat.beq b b' && Nat.beq o o' && Nat.beq n n' && Nat.beq c c'
 | _, .map none, .map none => true
 | _, .map (some a), .map (some b) => Nat.beq a b
 | d + 1, .iface t v, .iface t' v' => Nat.beq t t' && sameV d v v'
 | d + 1, .agg a, .agg b => sameL d a.toList b.toList
 | d + 1, .tuple a, .tuple b => sameL d a.toList b.toList
 | d + 1, .func (.func f) a b, .func (.func f') a' b' => Nat.beq f f' && sameL d a.toList a'.toList && sameL d b.toList b'.toList
 | _, _, _ => false
def sameL : Nat → List Value → List Value → Bool
 | _, [], [] => true
 | d, v :: l, v' :: l' => sameV d v v' && sameL d l l'
 | _, _, _ => false
end
mutual
theorem sameV_eq : ∀ (d : Nat) (v v' : Value), sameV d v v' = true → v = v'
 | d, v, v', h => by
  unfold sameV at h
  split at h <;> first
   | rfl
   | (cases h; done)
   | (have h := eq_of_beq h; rw [h]; done)
   | (have e := congrArg (fun l : List UInt8 => Value.string ⟨l.toArray⟩) (eq_of_beq h); simp only [Array.toArray_toList] at e; exact e)
   | (simp only [Bool.and_eq_true, decide_eq_true_eq, beq_iff_eq, beq_t] at h; obtain ⟨h1, h2⟩ := h; subst h1; subst h2; rfl)
   | (simp only [Bool.and_eq_true, beq_t] at h; obtain ⟨⟨⟨h1, h2⟩, h3⟩, h4⟩ := h; subst h1; subst h2; subst h3; subst h4; rfl)
   | (have h := Nat.eq_of_beq_eq_true h; rw [h]; done)
   | (simp only [Bool.and_eq_true, beq_t] at h; obtain ⟨h1, h2⟩ := h; have h2 := sameV_eq _ _ _ h2; subst h1; subst h2; rfl)
   | (have e1 := congrArg List.toArray (sameL_eq _ _ _ h); simp only [Array.toArray_toList] at e1; rw [e1]; done)
   | (simp only [Bool.and_eq_true, beq_t] at h; obtain ⟨⟨h1, h2⟩, h3⟩ := h; have e1 := congrArg List.toArray (sameL_eq _ _ _ h2); have e2 := congrArg List.toArray (sameL_eq _ _ _ h3); simp only [Array.toArray_toList] at e1 e2; rw [h1, e1, e2]; done)
theorem sameL_eq : ∀ (d : Nat) (l l' : List Value), sameL d l l' = true → l = l'
 | d, l, l', h => by
  unfold sameL at h
  split at h
  ·rfl
  ·simp only [Bool.and_eq_true] at h
   rw [sameV_eq _ _ _ h.1, sameL_eq _ _ _ h.2]
  ·cases h
end
def sameO : VObj → VObj → Bool
 | .cells c el ro, .cells c' el' ro' => sameL 6 c c' && (Nat.beq el el' && (ro == ro'))
 | _, _ => false
theorem sameO_eq {o o' : VObj} (h : sameO o o' = true) : o = o' := by
 unfold sameO at h
 split at h
 ·simp only [Bool.and_eq_true, beq_t, beq_iff_eq] at h
  obtain ⟨h1, h2, h3⟩ := h
  rw [sameL_eq _ _ _ h1, h2, h3]
 ·cases h
def sameOs : List VObj → List VObj → Bool
 | [], [] => true
 | o :: l, o' :: l' => sameO o o' && sameOs l l'
 | _, _ => false
theorem sameOs_eq : ∀ {l l' : List VObj}, sameOs l l' = true → l = l'
 | [], [], _ => rfl
 | o :: l, o' :: l', h => by
  simp only [sameOs, Bool.and_eq_true] at h
  rw [sameO_eq h.1, sameOs_eq h.2]
 | [], _ :: _, h => by cases h
 | _ :: _, [], h => by cases h
structure Told1 where
 args : List Value
 objs : List VObj
 r : CRes
 out : List VObj
def toldSpec : List Told1 → List Value → List VObj → Option (Bool × CRes × List VObj)
 | [], _, _ => none
 | t :: l, a, o => match sameL 6 a t.args && sameOs o t.objs with
  | true => some (true, t.r, t.out)
  | false => toldSpec l a o
theorem FnOk.told {P : Program} {f : FuncId} {l : List Told1} (h : ∀ t ∈ l, FnT P f t.args t.objs fun r o => r = t.r ∧ o = t.out) : FnOk P f (Sum.ofR P (toldSpec l)) := FnOk.ofR fun a o r o' hs => by
 induction l with
 | nil => cases hs
 | cons t l ih =>
  unfold toldSpec at hs
  split at hs
  ·rename_i he
   simp only [Bool.and_eq_true] at he
   simp only [Option.some.injEq, Prod.mk.injEq, true_and] at hs
   obtain ⟨rfl, rfl⟩ := hs
   rw [sameL_eq _ _ _ he.1, sameOs_eq he.2]
   exact h t List.mem_cons_self
  ·exact ih (fun t ht => h t (List.mem_cons_of_mem _ ht)) hs
structure OpenOk (P : Program) (w : World) (ρ : Ren) (g : Nat → Option VObj) (x : Nat) (r : Where) (L : List (Nat × CO)) (Z : Nat → Option (Where × VObj)) : Prop where
 root : ∃ o, Z x = some (r, o)
 new : ∀ y p, y ≠ x → Z y = some p → g y = none
 own : ∀ y q o, Z y = some (q, o) → o.ro = false ∧ (∀ d, o ≠ .abs d)
 nil : ∀ y q el ro, Z y = some (q, .cells [] el ro) → ∀ n, szOf P el = some n → q.sz = n
 live : ∀ y q o, Z y = some (q, o) → Live o q = true → q.blk ∈ L.map (·.1) ∧ ∃ o', w.heap[q.blk]? = some o' ∧ OR P (fun y => match Z y with | some p => some p.1 | none => ρ y) q o o'
 inj : ∀ y z q s o u, Z y = some (q, o) → Z z = some (s, u) → Live o q = true → Live u s = true → q.blk = s.blk → y = z
def openR (ρ : Ren) (Z : Nat → Option (Where × VObj)) : Ren := fun y => match Z y with | some p => some p.1 | none => ρ y
def openG (g : Nat → Option VObj) (Z : Nat → Option (Where × VObj)) : Nat → Option VObj := fun y => match Z y with | some p => some p.2 | none => g y
def openB (B : Nat → Prop) (L : List (Nat × CO)) (Z : Nat → Option (Where × VObj)) : Nat → Prop := fun k => B k ∨ k ∈ L.map (·.1) ∧ ∀ y q o, Z y = some (q, o) → Live o q = true → q.blk ≠ k
theorem openR_some {ρ : Ren} {Z : Nat → Option (Where × VObj)} {y : Nat} {p : Where × VObj} (h : Z y = some p) : openR ρ Z y = some p.1 := by unfold openR; rw [h]
theorem openR_none {ρ : Ren} {Z : Nat → Option (Where × VObj)} {y : Nat} (h : Z y = none) : openR ρ Z y = ρ y := by unfold openR; rw [h]
theorem openG_some {g : Nat → Option VObj} {Z : Nat → Option (Where × VObj)} {y : Nat} {p : Where × VObj} (h : Z y = some p) : openG g Z y = some p.2 := by unfold openG; rw [h]
theorem openG_none {g : Nat → Option VObj} {Z : Nat → Option (Where × VObj)} {y : Nat} (h : Z y = none) : openG g Z y = g y := by unfold openG; rw [h]
theorem WR.openAbs {P : Program} {B : Nat → Prop} {w₀ w : World} {ρ : Ren} {g : Nat → Option VObj} (h : WR P B w₀ ρ g w) {x : Nat} {d : AbsD} (hx : g x = some (.abs d)) :
    ∃ r S L, ρ x = some r ∧ shapeD d r.blk r.sh r.sz r.phys L ∧ AbsL w r.blk S L ∧ (∀ k, S k → k < w.heap.size ∧ ¬ B k ∧ ∀ y o q, g y = some o → ρ y = some q → Live o q = true → q.blk ≠ k) ∧
      ∀ Z, OpenOk P w ρ g x r L Z → WR P (openB B L Z) w (openR ρ Z) (openG g Z) w := by
  obtain ⟨F, fa, fb, fc⟩ := h.abs
  obtain ⟨r, S, hr, ⟨L, hsh, hL⟩, hf⟩ := fa x d hx
  refine ⟨r, S, L, hr, hsh, hL, fun k hk => (fb x k (hf k hk)).2, fun Z hZ => ?_⟩
  have inS : ∀ k, k ∈ L.map (·.1) → F x k := fun k hk => hf k ((hL.all k).2 hk)
  have oldS : ∀ y o q k, g y = some o → ρ y = some q → Live o q = true → k ∈ L.map (·.1) → q.blk ≠ k := fun y o q k a b c e => (fb x k (inS k e)).2.2.2 y o q a b c
  have hle : ρ.le (openR ρ Z) := fun y q hy => by
    cases hz : Z y with
    | none => rw [openR_none hz]; exact hy
    | some p =>
      rw [openR_some hz]
      by_cases e : y = x
      · subst e
        obtain ⟨o, ho⟩ := hZ.root
        rw [ho] at hz; cases hz
        rw [hr] at hy; cases hy; rfl
      · rw [h.fresh y (hZ.new y p e hz)] at hy; cases hy
  have hBm : ∀ b, B b → openB B L Z b ∧ w.heap[b]? = w₀.heap[b]? := fun b hb => ⟨.inl hb, h.below.block b hb⟩
  exact
  { below := BelowK.refl _ _
    env := h.env.next h.below fun k hk => .inl hk
    size := fun k hk => by
      rcases hk with hk | hk
      · exact h.size k hk
      · exact (fb x k (inS k hk.1)).2.1
    live := by
      intro y o q hy hq hl
      cases hz : Z y with
      | some p =>
        rw [openG_some hz] at hy; rw [openR_some hz] at hq
        cases hy; cases hq
        obtain ⟨a, o', b, c⟩ := hZ.live y p.1 p.2 hz hl
        exact ⟨o', b, c, fun _ hk => by
          rcases hk with hk | hk
          · exact (fb x _ (inS _ a)).2.2.1 hk
          · exact hk.2 y p.1 p.2 hz hl rfl⟩
      | none =>
        rw [openG_none hz] at hy; rw [openR_none hz] at hq
        obtain ⟨o', a, b, c⟩ := h.live y o q hy hq hl
        exact ⟨o', a, b.mono hle, fun hro hk => by
          rcases hk with hk | hk
          · exact c hro hk
          · exact oldS y o q _ hy hq hl hk.1 rfl⟩
    inj := by
      intro y z oy oz ry rz hy hz hry hrz hly hlz hd e
      cases hZy : Z y with
      | some p =>
        rw [openG_some hZy] at hy; rw [openR_some hZy] at hry
        cases hy; cases hry
        cases hZz : Z z with
        | some q =>
          rw [openG_some hZz] at hz; rw [openR_some hZz] at hrz
          cases hz; cases hrz
          exact hZ.inj y z p.1 q.1 p.2 q.2 hZy hZz hly hlz e
        | none =>
          rw [openG_none hZz] at hz; rw [openR_none hZz] at hrz
          exact absurd e.symm (oldS z oz rz _ hz hrz hlz (hZ.live y p.1 p.2 hZy hly).1)
      | none =>
        rw [openG_none hZy] at hy; rw [openR_none hZy] at hry
        cases hZz : Z z with
        | some q =>
          rw [openG_some hZz] at hz; rw [openR_some hZz] at hrz
          cases hz; cases hrz
          exact absurd e (oldS y oy ry _ hy hry hly (hZ.live z q.1 q.2 hZz hlz).1)
        | none =>
          rw [openG_none hZz] at hz; rw [openR_none hZz] at hrz
          exact h.inj y z oy oz ry rz hy hz hry hrz hly hlz hd e
    fresh := by
      intro y hy
      cases hz : Z y with
      | some p => rw [openG_some hz] at hy; cases hy
      | none => rw [openG_none hz] at hy; rw [openR_none hz]; exact h.fresh y hy
    rows := by
      intro y n size row hy
      cases hz : Z y with
      | some p => rw [openG_some hz] at hy; obtain ⟨p1, p2⟩ := p; cases hy; cases (hZ.own y p1 _ hz).1
      | none =>
        rw [openG_none hz] at hy; rw [openR_none hz]
        obtain ⟨q, a, b⟩ := h.rows y n size row hy
        exact ⟨q, a, fun hn => (b hn).mono hBm⟩
    nil := by
      intro y el ro q hy hq
      cases hz : Z y with
      | some p => rw [openG_some hz] at hy; rw [openR_some hz] at hq; cases hq; obtain ⟨p1, p2⟩ := p; cases hy; exact hZ.nil y p1 el ro hz
      | none => rw [openG_none hz] at hy; rw [openR_none hz] at hq; exact h.nil y el ro q hy hq
    named := by
      intro y o hy hne
      cases hz : Z y with
      | some p => exact ⟨_, openR_some hz⟩
      | none => rw [openG_none hz] at hy; rw [openR_none hz]; exact h.named y o hy hne
    abs := by
      have old : ∀ y d', openG g Z y = some (.abs d') → y ≠ x ∧ Z y = none ∧ g y = some (.abs d') := fun y d' hy => by
        cases hz : Z y with
        | some p => rw [openG_some hz] at hy; obtain ⟨p1, p2⟩ := p; cases hy; exact absurd rfl ((hZ.own y p1 _ hz).2 d')
        | none =>
          refine ⟨fun e => ?_, rfl, by rw [openG_none hz] at hy; exact hy⟩
          subst e
          obtain ⟨o, ho⟩ := hZ.root
          rw [ho] at hz; cases hz
      refine ⟨fun y k => F y k ∧ ∃ d', openG g Z y = some (.abs d'), fun y d' hy => ?_, fun y k hk => ?_, fun y z k a b => fc y z k a.1 b.1⟩
      · obtain ⟨_, hz, hg⟩ := old y d' hy
        obtain ⟨q, S', a, b, c⟩ := fa y d' hg
        exact ⟨q, S', by rw [openR_none hz]; exact a, b, fun k hk => ⟨c k hk, d', hy⟩⟩
      · obtain ⟨hF, d', hy⟩ := hk
        obtain ⟨hne, hz, hg⟩ := old y d' hy
        obtain ⟨_, b2, b3, b4⟩ := fb y k hF
        refine ⟨⟨d', hy⟩, b2, fun hk => ?_, fun z o q hz' hq hl => ?_⟩
        · rcases hk with hk | hk
          · exact b3 hk
          · exact hne (fc y x k hF (inS k hk.1))
        · cases hZz : Z z with
          | some p =>
            rw [openG_some hZz] at hz'; rw [openR_some hZz] at hq
            cases hz'; cases hq
            intro e
            exact hne (fc y x k hF (inS k (e ▸ (hZ.live z p.1 p.2 hZz hl).1)))
          | none =>
            rw [openG_none hZz] at hz'; rw [openR_none hZz] at hq
            exact b4 z o q hz' hq hl }
theorem WR.closeAbs {P : Program} {B B' : Nat → Prop} {w₀ w w2 : World} {ρ ρ2 : Ren} {g g2 : Nat → Option VObj} (h : WR P B w₀ ρ g w) (h2 : WR P B' w ρ2 g2 w2) (hBB : ∀ k, B k → B' k)
    (hB' : ∀ k, B' k → ¬ B k → ∀ y o q, g y = some o → ρ y = some q → Live o q = true → q.blk ≠ k)
    {x : Nat} {r : Where} (hr : ρ2 x = some r) {d : AbsD} {S : Nat → Prop} (hat : AbsAt w2 r d S) (C : Nat → Bool) (hx : C x = true)
    (hS : ∀ k, S k → (B' k ∧ ¬ B k) ∨ ∃ y o q, C y = true ∧ g2 y = some o ∧ ρ2 y = some q ∧ Live o q = true ∧ q.blk = k ∧ o.ro = false)
    (hro : ∀ y o, C y = false → g2 y = some o → o.ro = true → g y = some o ∧ ρ2 y = ρ y) :
    WR P B w₀ ρ2 (fun y => if y = x then some (.abs d) else match C y with | true => (g2 y).map fun _ => .dead | false => g2 y) w2 := by
  obtain ⟨F, fa, fb, fc⟩ := h2.abs
  let g3 : Nat → Option VObj := fun y => if y = x then some (.abs d) else match C y with | true => (g2 y).map fun _ => .dead | false => g2 y
  have old : ∀ y o, g3 y = some o → (∀ d', o ≠ .abs d') → o ≠ .dead → C y = false ∧ g2 y = some o := fun y o hy hd hne => by
    have hy : (if y = x then some (.abs d) else match C y with | true => (g2 y).map fun _ => VObj.dead | false => g2 y) = some o := hy
    split at hy
    · cases hy; exact absurd rfl (hd d)
    · cases hc : C y with
      | true =>
        rw [hc] at hy
        cases hg : g2 y with
        | none => rw [hg] at hy; cases hy
        | some o' => rw [hg] at hy; cases hy; exact absurd rfl hne
      | false => rw [hc] at hy; exact ⟨rfl, hy⟩
  have oldL : ∀ y o q, g3 y = some o → Live o q = true → C y = false ∧ g2 y = some o := fun y o q hy hl => old y o hy (fun d' e => by subst e; cases hl) (fun e => by subst e; cases hl)
  have oldA : ∀ y d', y ≠ x → g3 y = some (.abs d') → C y = false ∧ g2 y = some (.abs d') := fun y d' hne hy => by
    have hy : (if y = x then some (.abs d) else match C y with | true => (g2 y).map fun _ => VObj.dead | false => g2 y) = some (.abs d') := hy
    rw [if_neg hne] at hy
    cases hc : C y with
    | true =>
      rw [hc] at hy
      cases hg : g2 y with
      | none => rw [hg] at hy; cases hy
      | some o' => rw [hg] at hy; cases hy
    | false => rw [hc] at hy; exact ⟨rfl, hy⟩
  have hSk : ∀ k, S k → k < w2.heap.size ∧ ¬ B k ∧ (∀ y o q, g3 y = some o → ρ2 y = some q → Live o q = true → q.blk ≠ k) ∧ ∀ y, F y k → False := fun k hk => by
    rcases hS k hk with ⟨a, b⟩ | ⟨y, o, q, a, b, c, e, rfl, f⟩
    · refine ⟨h2.size k a, b, fun y o q hy hq hl => ?_, fun y hF => (fb y k hF).2.2.1 a⟩
      obtain ⟨c1, c2⟩ := oldL y o q hy hl
      cases hro' : o.ro with
      | false =>
        obtain ⟨_, _, _, c3⟩ := h2.live y o q c2 hq hl
        intro e
        exact c3 hro' (e ▸ a)
      | true =>
        obtain ⟨c3, c4⟩ := hro y o c1 c2 hro'
        exact hB' k a b y o q c3 (c4 ▸ hq) hl
    · obtain ⟨o', l1, l2, l3⟩ := h2.live y o q b c e
      refine ⟨(Array.getElem?_eq_some_iff.1 l1).1, fun hk => l3 f (hBB _ hk), fun z u s hz hs hl he => ?_, fun z hF => (fb z _ hF).2.2.2 y o q b c e rfl⟩
      obtain ⟨c1, c2⟩ := oldL z u s hz hl
      have := h2.inj z y u o s q c2 b hs c hl e (.inr f) he
      subst this
      rw [a] at c1; cases c1
  exact
  { below := h.below.trans ⟨h2.below.os, h2.below.tape, h2.below.output, h2.below.size, fun k hk => h2.below.block k (hBB k hk)⟩
    env := h.env
    size := fun k hk => Nat.lt_of_lt_of_le (h.size k hk) h2.below.size
    live := by
      intro y o q hy hq hl
      obtain ⟨_, c2⟩ := oldL y o q hy hl
      obtain ⟨o', l1, l2, l3⟩ := h2.live y o q c2 hq hl
      exact ⟨o', l1, l2, fun e hk => l3 e (hBB _ hk)⟩
    inj := by
      intro y z oy oz ry rz hy hz hry hrz hly hlz
      exact h2.inj y z oy oz ry rz (oldL y oy ry hy hly).2 (oldL z oz rz hz hlz).2 hry hrz hly hlz
    fresh := by
      intro y hy
      have hy : (if y = x then some (.abs d) else match C y with | true => (g2 y).map fun _ => VObj.dead | false => g2 y) = none := hy
      split at hy
      · cases hy
      · refine h2.fresh y ?_
        cases hc : C y with
        | true => rw [hc] at hy; simpa using hy
        | false => rw [hc] at hy; exact hy
    rows := by
      intro y n size row hy
      obtain ⟨c1, c2⟩ := old y _ hy (fun d' e => by cases e) (fun e => by cases e)
      obtain ⟨c3, c4⟩ := hro y _ c1 c2 rfl
      obtain ⟨q, a, b⟩ := h.rows y n size row c3
      exact ⟨q, by rw [c4]; exact a, b⟩
    nil := by
      intro y el ro q hy hq
      exact h2.nil y el ro q (old y _ hy (fun d' e => by cases e) (fun e => by cases e)).2 hq
    named := by
      intro y o hy hne
      by_cases e : y = x
      · subst e; exact ⟨r, hr⟩
      · cases hd : o with
        | abs d' => subst hd; exact h2.named y _ (oldA y d' e hy).2 hne
        | _ => subst hd; exact h2.named y _ (old y _ hy (fun d' e => by cases e) hne).2 hne
    abs := by
      refine ⟨fun y k => (y = x ∧ S k) ∨ (y ≠ x ∧ F y k ∧ ∃ d', g3 y = some (.abs d')), fun y d' hy => ?_, fun y k hk => ?_, fun y z k a b => ?_⟩
      · by_cases e : y = x
        · subst e
          have : d' = d := by
            have hy : (if y = y then some (.abs d) else match C y with | true => (g2 y).map fun _ => VObj.dead | false => g2 y) = some (.abs d') := hy
            rw [if_pos rfl] at hy; cases hy; rfl
          subst this
          exact ⟨r, S, hr, hat, fun k hk => .inl ⟨rfl, hk⟩⟩
        · obtain ⟨q, T, a, b, c⟩ := fa y d' (oldA y d' e hy).2
          exact ⟨q, T, a, b, fun k hk => .inr ⟨e, c k hk, d', hy⟩⟩
      · rcases hk with ⟨rfl, hk⟩ | ⟨e, hF, d', hy⟩
        · obtain ⟨a, b, c, _⟩ := hSk k hk
          exact ⟨⟨d, if_pos rfl⟩, a, b, c⟩
        · obtain ⟨_, b2, b3, b4⟩ := fb y k hF
          exact ⟨⟨d', hy⟩, b2, fun hk => b3 (hBB k hk), fun z o q hz hq hl => b4 z o q (oldL z o q hz hl).2 hq hl⟩
      · rcases a with ⟨rfl, a⟩ | ⟨e, a, _⟩ <;> rcases b with ⟨rfl, b⟩ | ⟨e', b, _⟩
        · rfl
        · exact ((hSk k a).2.2.2 z b).elim
        · exact ((hSk k b).2.2.2 y a).elim
        · exact fc y z k a b }
theorem WR.coat {P : Program} {B : Nat → Prop} {w₀ w : World} {ρ : Ren} {g : Nat → Option VObj} (h : WR P B w₀ ρ g w) {x : Nat} {c : List Value} {el : TypeId} (hx : g x = some (.cells c el false)) {q : Where} (hq : ρ x = some q) (hl : Live (.cells c el false) q = true) :
  ∃ c', LR ρ c c' ∧ COat w q.blk (.cells c' el q.sh q.phys) := by
 obtain ⟨o', h1, h2, _⟩ := h.live x _ q hx hq hl
 cases h2 with
 | cells _ _ el' _ a fr hx hp hs he hz hf hc =>
  have hla : a.toList.length = q.phys := by rw [Array.length_toList]; exact hp
  refine ⟨(a.toList.drop q.sh).take c.length, ⟨?_, fun i v v' h3 h4 => ?_⟩, a, fr, ?_, hp, ?_, hf rfl, fun i v hi => ?_⟩
  ·rw [List.length_take, List.length_drop, hla]; omega
  ·obtain ⟨u, h5, h6⟩ := hc i v h3
   rw [List.getElem?_take, List.getElem?_drop] at h4
   split at h4
   ·rw [Array.getElem?_toList, h5] at h4; cases h4; exact h6
   ·cases h4
  ·rw [h1, he rfl]
  ·rw [List.length_take, List.length_drop, hla]; omega
  ·rw [List.getElem?_take, List.getElem?_drop] at hi
   split at hi
   ·rw [Array.getElem?_toList] at hi; exact hi
   ·cases hi
theorem COat.or {P : Program} {w : World} {ρ : Ren} {q : Where} {c c' : List Value} {el : TypeId} (h : COat w q.blk (.cells c' el q.sh q.phys)) (hz : ∀ n, szOf P el = some n → q.sz = n) (hl : LR ρ c c') (hx : selfP P el = true → q.sh = 0) : ∃ o', w.heap[q.blk]? = some o' ∧ OR P ρ q (.cells c el false) o' := by
 obtain ⟨a, fr, h1, h2, h3, h4, h5⟩ := h
 refine ⟨_, h1, .cells c el el false a fr (fun _ => hx) h2 (by rw [hl.len]; exact h3) (fun _ => rfl) hz (fun _ => h4) fun i v hi => ?_⟩
 obtain ⟨v', h6, h7⟩ := hl.get hi
 exact ⟨v', h5 i v' h6, h7⟩
def zF (r : Where) (o0 : VObj) (n : Nat) (zs : List (Where × VObj)) : Nat → Option (Where × VObj) := fun y => if y = 0 then some (r, o0) else if y < n then none else zs[y - n]?
def closed (d : AbsD) (C : List Nat) (o : List VObj) : List VObj := o.mapIdx fun i ob => if i = 0 then .abs d else if C.contains i then .dead else ob
structure ZOk (P : Program) (w : World) (L : List (Nat × CO)) (r : Where) (o0 : VObj) (n : Nat) (zs : List (Where × VObj)) : Prop where
 own : ∀ p ∈ (r, o0) :: zs, p.2.ro = false ∧ (∀ d, p.2 ≠ .abs d)
 nil : ∀ p ∈ (r, o0) :: zs, ∀ el ro, p.2 = .cells [] el ro → ∀ n, szOf P el = some n → p.1.sz = n
 live : ∀ ρ : Ren, ρ 0 = some r → (∀ i p, zs[i]? = some p → ρ (n + i) = some p.1) → ∀ p ∈ (r, o0) :: zs, Live p.2 p.1 = true → p.1.blk ∈ L.map (·.1) ∧ ∃ o', w.heap[p.1.blk]? = some o' ∧ OR P ρ p.1 p.2 o'
 inj : ((r, o0) :: zs).Pairwise fun p q => Live p.2 p.1 = true → Live q.2 q.1 = true → p.1.blk ≠ q.1.blk
theorem pairwise_idx {α : Type} {R : α → α → Prop} {l : List α} (h : l.Pairwise R) {i j : Nat} {a b : α} (ha : l[i]? = some a) (hb : l[j]? = some b) (h1 : ¬ R a b) (h2 : ¬ R b a) : i = j := by
 obtain ⟨hi, rfl⟩ := List.getElem?_eq_some_iff.1 ha
 obtain ⟨hj, rfl⟩ := List.getElem?_eq_some_iff.1 hb
 rcases Nat.lt_trichotomy i j with hlt | rfl | hlt
 ·exact absurd (List.pairwise_iff_getElem.1 h i j hi hj hlt) h1
 ·rfl
 ·exact absurd (List.pairwise_iff_getElem.1 h j i hj hi hlt) h2
theorem zF_cases {r : Where} {o0 : VObj} {n : Nat} {zs : List (Where × VObj)} (hn : 0 < n) {y : Nat} {p : Where × VObj} (h : zF r o0 n zs y = some p) : (y = 0 ∧ p = (r, o0)) ∨ (y ≠ 0 ∧ n ≤ y ∧ zs[y - n]? = some p) := by
 unfold zF at h
 split at h
 ·rename_i e; cases h; exact .inl ⟨e, rfl⟩
 ·rename_i e
  split at h
  ·cases h
  ·exact .inr ⟨e, by omega, h⟩
theorem zF_idx {r : Where} {o0 : VObj} {n : Nat} {zs : List (Where × VObj)} (hn : 0 < n) {y : Nat} {p : Where × VObj} (h : zF r o0 n zs y = some p) : ((r, o0) :: zs)[if y = 0 then 0 else y - n + 1]? = some p := by
 rcases zF_cases hn h with ⟨rfl, rfl⟩ | ⟨h1, h2, h3⟩
 ·rfl
 ·rw [if_neg h1]; exact h3
theorem FnT.openAbs {P : Program} {f : FuncId} {args : List Value} {d : AbsD} {rest : List VObj} {Q : CRes → List VObj → Prop}
    (h : ∀ (w : World) (r : Where) (S : Nat → Prop) (L : List (Nat × CO)), Gam w → shapeD d r.blk r.sh r.sz r.phys L → AbsL w r.blk S L → ∃ (o0 : VObj) (zs : List (Where × VObj)) (Q1 : CRes → List VObj → Prop),
      ZOk P w L r o0 (1 + rest.length) zs ∧ 1 + rest.length + zs.length ≤ 262144 ∧ FnT P f args (o0 :: rest ++ zs.map (·.2)) Q1 ∧
      ∀ (v : CRes) (o' : List VObj), Q1 v o' → ∀ (B : Nat → Prop) (ρ : Ren) (w' : World), WR P B w ρ (memOf o') w' → ρ 0 = some r → (∀ i p, zs[i]? = some p → ρ (1 + rest.length + i) = some p.1) →
        (∀ k ∈ L.map (·.1), (∀ p ∈ (r, o0) :: zs, Live p.2 p.1 = true → p.1.blk ≠ k) → B k ∧ w'.heap[k]? = w.heap[k]?) →
        ∃ (d' : AbsD) (S' : Nat → Prop) (C : List Nat), AbsAt w' r d' S' ∧
          (∀ k, S' k → (k ∈ L.map (·.1) ∧ ∀ p ∈ (r, o0) :: zs, Live p.2 p.1 = true → p.1.blk ≠ k) ∨ ∃ y o q, (y = 0 ∨ C.contains y = true) ∧ o'[y]? = some o ∧ ρ y = some q ∧ Live o q = true ∧ q.blk = k ∧ o.ro = false) ∧
          (∀ y o, y ≠ 0 → C.contains y = false → o'[y]? = some o → o.ro = true → 1 ≤ y ∧ rest[y - 1]? = some o) ∧ Q v (closed d' C o')) :
    FnT P f args (.abs d :: rest) Q := by
  intro B w₀ ρ w args' hfull hnames ha hw
  obtain ⟨r, S, L, hr, hsh, hL, hSk, hopen⟩ := hw.openAbs (x := 0) (d := d) rfl
  obtain ⟨o0, zs, Q1, hZ, hfew, hf, hclose⟩ := h w r S L (hw.env w hw.below) hsh hL
  have hn : 0 < 1 + rest.length := by omega
  let Z := zF r o0 (1 + rest.length) zs
  have hmem0 : ∀ y, small y = true → memOf (.abs d :: rest) y = (VObj.abs d :: rest)[y]? := fun y hy => memOf_small hy
  have hsm : ∀ y, y < 1 + rest.length + zs.length → small y = true := fun y hy => small_iff.2 (by have : (2 : Nat) ^ 18 = 262144 := rfl; omega)
  have hZlt : ∀ y p, Z y = some p → y < 1 + rest.length + zs.length := fun y p hy => by
    rcases zF_cases hn hy with ⟨rfl, _⟩ | ⟨_, h2, h3⟩
    · omega
    · have := (List.getElem?_eq_some_iff.1 h3).1; omega
  have hρ0 : openR ρ Z 0 = some r := openR_some (p := (r, o0)) (by show zF r o0 _ zs 0 = _; unfold zF; rw [if_pos rfl])
  have hρi : ∀ i p, zs[i]? = some p → openR ρ Z (1 + rest.length + i) = some p.1 := fun i p hi => openR_some (by
    show zF r o0 _ zs _ = _
    unfold zF
    rw [if_neg (by omega), if_neg (by omega), show 1 + rest.length + i - (1 + rest.length) = i by omega]; exact hi)
  have hop : OpenOk P w ρ (memOf (.abs d :: rest)) 0 r L Z :=
  { root := ⟨o0, by show zF r o0 _ zs 0 = _; unfold zF; rw [if_pos rfl]⟩
    new := fun y p hy hz => by
      rcases zF_cases hn hz with ⟨e, _⟩ | ⟨_, h2, h3⟩
      · exact absurd e hy
      · rw [memOf_small (hsm y (hZlt y p hz)), List.getElem?_eq_none]
        rw [List.length_cons]; omega
    own := fun y q o hz => hZ.own (q, o) (List.mem_of_getElem? (zF_idx hn hz))
    nil := fun y q el ro hz => hZ.nil _ (List.mem_of_getElem? (zF_idx hn hz)) el ro rfl
    live := fun y q o hz hl => hZ.live (openR ρ Z) hρ0 hρi (q, o) (List.mem_of_getElem? (zF_idx hn hz)) hl
    inj := fun y z q s o u hy hz hl hl' e => by
      have := pairwise_idx hZ.inj (zF_idx hn hy) (zF_idx hn hz) (fun h => h hl hl' e) (fun h => h hl' hl e.symm)
      rcases zF_cases hn hy with ⟨e1, _⟩ | ⟨e1, h2, h3⟩ <;> rcases zF_cases hn hz with ⟨e2, _⟩ | ⟨e2, h2', h3'⟩
      · omega
      · rw [if_pos e1, if_neg e2] at this; omega
      · rw [if_neg e1, if_pos e2] at this; omega
      · rw [if_neg e1, if_neg e2] at this; omega }
  have hw1 := hopen Z hop
  have hle : ρ.le (openR ρ Z) := fun y q hy => by
    cases hz : Z y with
    | none => rw [openR_none hz]; exact hy
    | some p =>
      rcases zF_cases hn hz with ⟨rfl, rfl⟩ | ⟨e, _, _⟩
      · rw [openR_some hz]; rw [hr] at hy; cases hy; rfl
      · rw [hw.fresh y (hop.new y p e hz)] at hy; cases hy
  have hmemE : openG (memOf (.abs d :: rest)) Z = memOf (o0 :: rest ++ zs.map (·.2)) := by
    funext y
    cases hz : Z y with
    | some p =>
      rw [openG_some hz, memOf_small (hsm y (hZlt y p hz))]
      rcases zF_cases hn hz with ⟨rfl, rfl⟩ | ⟨e, h2, h3⟩
      · rfl
      · rw [List.getElem?_append_right (by rw [List.length_cons]; omega), List.getElem?_map, List.length_cons, show y - (rest.length + 1) = y - (1 + rest.length) by omega, h3]; rfl
    | none =>
      rw [openG_none hz]
      have hz : zF r o0 (1 + rest.length) zs y = none := hz
      unfold zF at hz
      split at hz
      · cases hz
      · rename_i e
        cases hs : small y with
        | false => rw [memOf_great hs, memOf_great hs]
        | true =>
          rw [memOf_small hs, memOf_small hs]
          by_cases hlt : y < 1 + rest.length
          · rw [List.getElem?_append_left (by rw [List.length_cons]; omega)]
            obtain ⟨k, rfl⟩ : ∃ k, y = k + 1 := ⟨y - 1, by omega⟩
            rfl
          · rw [if_neg hlt, List.getElem?_eq_none_iff] at hz
            rw [List.getElem?_eq_none (by rw [List.length_cons]; omega), List.getElem?_eq_none (by rw [List.length_append, List.length_cons, List.length_map]; omega)]
  rw [hmemE] at hw1
  have hlen : (o0 :: rest ++ zs.map (·.2)).length = 1 + rest.length + zs.length := by rw [List.length_append, List.length_cons, List.length_map]; omega
  refine (hf (openB B L Z) w (openR ρ Z) w args' ?_ ?_ (ha.mono hle) hw1).mono fun e w' he => ?_
  · intro q
    obtain ⟨y, h1, h2⟩ := hfull q
    exact ⟨y, h1, hle _ _ h2⟩
  · intro x hx
    rw [hlen] at hx
    by_cases h1 : x < 1 + rest.length
    · obtain ⟨q, hq⟩ := hnames x (by rw [List.length_cons]; omega)
      exact ⟨q, hle _ _ hq⟩
    · have h2 : x - (1 + rest.length) < zs.length := by omega
      have := hρi (x - (1 + rest.length)) _ (List.getElem?_eq_getElem h2)
      rw [show 1 + rest.length + (x - (1 + rest.length)) = x by omega] at this
      exact ⟨_, this⟩
  obtain ⟨v, o', ρ', hq, hcr, hfull', hw', hfew', hkeep⟩ := he
  have hk0 : ρ' 0 = some r := by rw [hkeep 0 (by rw [hlen]; omega)]; exact hρ0
  have hkold : ∀ x, x < 1 + rest.length → ρ' x = ρ x := fun x hx => by
    rw [hkeep x (by rw [hlen]; omega)]
    by_cases e : x = 0
    · subst e; rw [hρ0, hr]
    · refine openR_none ?_
      show zF r o0 _ zs x = none
      unfold zF
      rw [if_neg e, if_pos hx]
  obtain ⟨d', S', C, hat, hS', hro, hQ⟩ := hclose v o' hq (openB B L Z) ρ' w' hw' hk0 (fun i p hi => by rw [hkeep _ (by rw [hlen]; have := (List.getElem?_eq_some_iff.1 hi).1; omega)]; exact hρi i p hi) (fun k hk hfar => have hB : openB B L Z k := .inr ⟨hk, fun y q o hz hl => hfar (q, o) (List.mem_of_getElem? (zF_idx hn hz)) hl⟩; ⟨hB, hw'.below.block k hB⟩)
  have hcl := hw.closeAbs hw' (fun k hk => .inl hk) (fun k hk hB => by
    rcases hk with hk | hk
    · exact absurd hk hB
    · exact (hSk k ((hL.all k).2 hk.1)).2.2) hk0 hat (fun y => y == 0 || C.contains y) rfl (fun k hk => by
      rcases hS' k hk with ⟨a, b⟩ | ⟨y, o, q, a, b, c, e, f, g⟩
      · exact .inl ⟨.inr ⟨a, fun y q o hz hl => b (q, o) (List.mem_of_getElem? (zF_idx hn hz)) hl⟩, (hSk k ((hL.all k).2 a)).2.1⟩
      · refine .inr ⟨y, o, q, ?_, ?_, c, e, f, g⟩
        · rcases a with rfl | a
          · rfl
          · rw [a, Bool.or_true]
        · rw [memOf_small]
          · exact b
          · exact small_iff.2 (by have := (List.getElem?_eq_some_iff.1 b).1; have : (2 : Nat) ^ 18 = 262144 := rfl; omega)) (fun y o hC hy hr' => by
      rw [Bool.or_eq_false_iff] at hC
      have hy0 : y ≠ 0 := by intro e; subst e; cases hC.1
      cases hs : small y with
      | false => rw [memOf_great hs] at hy; cases hy; cases hr'
      | true =>
        rw [memOf_small hs] at hy
        obtain ⟨a, b⟩ := hro y o hy0 hC.2 hy hr'
        have hlt := (List.getElem?_eq_some_iff.1 b).1
        refine ⟨?_, hkold y (by omega)⟩
        rw [memOf_small hs]
        obtain ⟨k, rfl⟩ : ∃ k, y = k + 1 := ⟨y - 1, by omega⟩
        exact b)
  refine ⟨v, closed d' C o', ρ', hQ, hcr, hfull', ?_, by unfold closed; rw [List.length_mapIdx]; exact hfew', fun x hx => hkold x (by rw [List.length_cons] at hx; omega)⟩
  have : memOf (closed d' C o') = (fun y => if y = 0 then some (.abs d') else match (y == 0 || C.contains y) with | true => (memOf o' y).map fun _ => .dead | false => memOf o' y) := by
    funext y
    cases hs : small y with
    | false =>
      have hy0 : y ≠ 0 := by intro e; subst e; cases hs
      rw [memOf_great hs, if_neg hy0, memOf_great hs]
      cases (y == 0 || C.contains y) <;> rfl
    | true =>
      rw [memOf_small hs, memOf_small hs]
      unfold closed
      rw [List.getElem?_mapIdx]
      by_cases hy0 : y = 0
      · subst hy0
        rw [if_pos rfl]
        cases o' with
        | nil =>
          exfalso
          have := hw'.fresh 0 (by rw [memOf_small hs]; rfl)
          rw [hk0] at this; cases this
        | cons a l => rfl
      · rw [if_neg hy0]
        have : (y == 0) = false := by simpa using hy0
        rw [this, Bool.false_or]
        cases hc : C.contains y with
        | true => cases o'[y]? <;> simp [hy0, hc]; 
        | false => cases o'[y]? <;> simp [hy0, hc]
  rw [this]
  exact hcl
end Go.Proofs.YtgepfmamfdmclaaGreatDoor.Vm
namespace Go.Proofs.YtgepfmamfdmclaaGreatDoor
theorem plainN : Vm.plainNames Tryz.prog = true := by kernel_rfl
theorem mixed : Tryz.prog.follows .mixedOrders = true := by kernel_rfl
end Go.Proofs.YtgepfmamfdmclaaGreatDoor
namespace Go.Proofs.YtgepfmamfdmclaaGreatDoor
open Go Vm Go.RowKit
def tbl0 : FuncId → Option Sum := fun _ => none
theorem calls0 : CallsOk Tryz.prog (callT Tryz.prog tbl0 50 40) := callT_ok plainN mixed (fun f s h => by cases h) 50 40
end Go.Proofs.YtgepfmamfdmclaaGreatDoor
