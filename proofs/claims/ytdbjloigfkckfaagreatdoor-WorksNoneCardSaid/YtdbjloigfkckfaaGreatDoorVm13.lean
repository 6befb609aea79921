/- The small machine, its thirteenth text: what an operation looks at; a region whose order is open, in plain terms. -/
import Derived.Test.YtdbjloigfkckfaaGreatDoorVm12
namespace Go.Proofs.YtdbjloigfkckfaaGreatDoor.Vm
open Go.RowKit
set_option linter.unusedVariables false
set_option linter.unusedSimpArgs false

section
variable {P : Program} {B : Nat → Prop} {w₀ : World}

theorem map_congr_e {e e' : Operand → Value} {l : List Operand} (h : ∀ x ∈ l, e x = e' x) : l.map e = l.map e' := List.map_congr_left h
theorem pairs_congr {e e' : Operand → Value} {l : List (Nat × Operand)} (h : ∀ x ∈ l, e x.2 = e' x.2) : (l.map fun (i, x) => (i, e x)) = l.map fun (i, x) => (i, e' x) :=
  List.map_congr_left fun x hx => by obtain ⟨i, y⟩ := x; exact congrArg (Prod.mk i) (h _ hx)
theorem opt_congr {e e' : Operand → Value} {o : Option Operand} (h : ∀ x, o = some x → e x = e' x) : o.map e = o.map e' := by
  cases o with
  | none => rfl
  | some x => simp [h x rfl]

theorem ev_congr {e e' : Operand → Value} {n : Nat} {o : Oper} (h : ∀ x ∈ o.op.operands, e x = e' x) : ev P e n o = ev P e' n o := by
  obtain ⟨dst, op, type, pos, after, guard⟩ := o
  cases op <;> simp only [Op.operands] at h <;> simp only [ev, evK]
  case move x => rw [h x (by simp)]
  case assign x => rw [h x (by simp)]
  case pick c a b => rw [h c (by simp), h a (by simp), h b (by simp)]
  case box t x => rw [h x (by simp)]
  case build t parts => rw [pairs_congr fun x hx => h x.2 (by simp only [List.mem_toArray, List.mem_map]; exact ⟨x, hx, rfl⟩)]
  case buildSlice t len parts => rw [pairs_congr fun x hx => h x.2 (by simp only [List.mem_toArray, List.mem_map]; exact ⟨x, hx, rfl⟩)]
  case insert t m k x => rw [h m (by simp), h k (by simp), h x (by simp)]
  case load t a => rw [h a (by simp)]
  case store t a x => rw [h a (by simp), h x (by simp)]
  case nilCheck x => rw [h x (by simp)]
  case binOp op t x y yt => rw [h x (by simp), h y (by simp)]
  case unOp op t x => rw [h x (by simp)]
  case convert src dst x => rw [h x (by simp)]
  case makeInterface t x => rw [h x (by simp)]
  case makeFunc fn first captured =>
    rw [map_congr_e (l := first.toList) fun x hx => h x (Array.mem_append.2 (.inl (Array.mem_toList_iff.1 hx))), map_congr_e (l := captured.toList) fun x hx => h x (Array.mem_append.2 (.inr (Array.mem_toList_iff.1 hx)))]
  case makeMap t r => rw [opt_congr fun y hy => h y (by subst hy; simp)]
  case makeSlice t a b => rw [h a (by simp), h b (by simp)]
  case slice t x lo hi mx => rw [h x (by simp), opt_congr (o := lo) fun y hy => h y (by subst hy; simp), opt_congr (o := hi) fun y hy => h y (by subst hy; simp), opt_congr (o := mx) fun y hy => h y (by subst hy; simp)]
  case fieldAddr s x i => rw [h x (by simp)]
  case field s x i => rw [h x (by simp)]
  case indexAddr t x i => rw [h x (by simp), h i (by simp)]
  case index t x i => rw [h x (by simp), h i (by simp)]
  case lookup t x k ok => rw [h x (by simp), h k (by simp)]
  case mapUpdate t m k x => rw [h m (by simp), h k (by simp), h x (by simp)]
  case typeAssert x xt at_ ok => rw [h x (by simp)]
  case extract t i => rw [h t (by simp)]
  case panic x => rw [h x (by simp)]
  case call c =>
    have ha : c.args.toList.map e = c.args.toList.map e' := map_congr_e fun x hx => h x (by unfold Call.operands; exact Array.mem_append.2 (.inr (Array.mem_toList_iff.1 hx)))
    unfold callV
    rw [ha]
    split
    · rfl
    · rename_i recv name hb; rw [h recv (by unfold Call.operands; rw [hb]; simp)]
    · rename_i f hb; rw [h f (by unfold Call.operands; rw [hb]; simp)]

/-- The slots that an operation looks at. -/
theorem looks_op {ops : Array Oper} {o : Oper} {t : Nat} (h : Operand.tmp t ∈ o.op.operands) : t ∈ o.looksAt ops := by
  unfold Oper.looksAt
  refine List.mem_append_left _ (List.mem_filterMap.2 ⟨.tmp t, Array.mem_toList_iff.2 h, rfl⟩)

theorem stepOp_congr {t t' : Fr} {S : VS} {o : Oper} {ops : Array Oper} (h : ∀ s ∈ o.looksAt ops, t'.at s = t.at s) : stepOp P t' S o = stepOp P t S o := by
  have hev : ∀ x ∈ o.op.operands, evalL t' x = evalL t x := fun x hx => by
    cases x with
    | tmp s => exact h s (looks_op hx)
    | _ => rfl
  have hv : viewOf P t' S o = viewOf P t S o := by
    unfold viewOf
    cases hop : o.op with
    | indexAddr ty x i =>
      dsimp only
      rw [hev x (by rw [hop]; simp [Op.operands]), hev i (by rw [hop]; simp [Op.operands])]
    | _ => rfl
  unfold stepOp
  rw [hv]
  split
  · rfl
  unfold stepOp0
  rw [ev_congr (e := evalL t') (e' := evalL t) fun x hx => by
    cases x with
    | tmp s => exact h s (looks_op hx)
    | _ => rfl]

theorem wanted_congr {t t' : Fr} {o : Oper} {ops : Array Oper} (h : ∀ s ∈ o.looksAt ops, t'.at s = t.at s) : Region.wanted o (yieldedL ops.toList t') = Region.wanted o (yieldedL ops.toList t) := by
  unfold Region.wanted
  cases hg : o.guard with
  | none => rfl
  | some p =>
    obtain ⟨j, b⟩ := p
    have : yieldedL ops.toList t' j = yieldedL ops.toList t j := by
      unfold yieldedL
      rw [Array.getElem?_toList]
      cases hd : (ops[j]?).bind (·.dst) with
      | none => rfl
      | some d =>
        have : d ∈ o.looksAt ops := by
          unfold Oper.looksAt
          refine List.mem_append_right _ ?_
          rw [hg]
          show d ∈ ((ops[j]?).bind (·.dst)).toList
          rw [hd]; simp
        dsimp only
        rw [h d this]
    simp only [this]

theorem put_congr {t t' t1 : Fr} {d : Option Tmp} {v : Value} (hn : t'.n = t.n) (h : Vm.put t d v = some t1) : ∃ t1', Vm.put t' d v = some t1' := by
  cases d with
  | none => exact ⟨t', rfl⟩
  | some d =>
    simp only [Vm.put, Fr.set_eq] at h ⊢
    rw [hn]
    split at h
    · rename_i hlt; first | exact ⟨_, rfl⟩ | (rw [hlt]; exact ⟨_, rfl⟩)
    · cases h

theorem opV_congr {call : CallF} {ops : Array Oper} {o : Oper} {t t' t1 : Fr} {S S1 : VS} (h : opV P call ops.toList o t S = some (none, t1, S1)) (hl : ∀ s ∈ o.looksAt ops, t'.at s = t.at s) (hn : t'.n = t.n) :
    ∃ v t1', Vm.put t o.dst v = some t1 ∧ Vm.put t' o.dst v = some t1' ∧ opV P call ops.toList o t' S = some (none, t1', S1) := by
  unfold opV at h ⊢
  rw [wanted_congr hl, stepOp_congr hl]
  split at h
  · rename_i hw
    simp only [Option.map_eq_some_iff, Prod.mk.injEq] at h
    obtain ⟨t2, hp, _, rfl, rfl⟩ := h
    obtain ⟨t1', hp'⟩ := put_congr hn hp
    exact ⟨_, t1', hp, hp', by simp only [hp', Option.map_some]⟩
  · rename_i hw
    cases hs : stepOp P t S o with
    | none => rw [hs] at h; cases h
    | some q =>
      obtain ⟨r, S2⟩ := q
      rw [hs] at h
      simp only [] at h ⊢
      cases r with
      | val v =>
        simp only [Option.map_eq_some_iff, Prod.mk.injEq] at h
        obtain ⟨t2, hp, _, rfl, rfl⟩ := h
        obtain ⟨t1', hp'⟩ := put_congr hn hp
        exact ⟨_, t1', hp, hp', by simp only [hp', Option.map_some]⟩
      | skip =>
        simp only [Option.map_eq_some_iff, Prod.mk.injEq] at h
        obtain ⟨t2, hp, _, rfl, rfl⟩ := h
        obtain ⟨t1', hp'⟩ := put_congr hn hp
        exact ⟨_, t1', hp, hp', by simp only [hp', Option.map_some]⟩
      | panic v => simp at h
      | defer d => cases h
      | enter f args =>
        simp only [] at h ⊢
        cases hc : call f args S2 with
        | none => rw [hc] at h; cases h
        | some q2 =>
          obtain ⟨cr, S3⟩ := q2
          rw [hc] at h
          cases cr with
          | ret v =>
            simp only [Option.map_eq_some_iff, Prod.mk.injEq] at h
            obtain ⟨t2, hp, _, rfl, rfl⟩ := h
            obtain ⟨t1', hp'⟩ := put_congr hn hp
            exact ⟨_, t1', hp, hp', by simp only [hp', Option.map_some]⟩
          | panic v => simp at h

theorem put_at {t t1 : Fr} {d : Option Tmp} {v : Value} (hs : t.n ≤ 1024) (h : Vm.put t d v = some t1) : t1.n = t.n ∧ ∀ s, t1.at s = if d = some s then v else t.at s := by
  cases d with
  | none => cases h; exact ⟨rfl, fun s => by simp⟩
  | some d =>
    simp only [Vm.put, Fr.set_eq] at h
    split at h
    · rename_i hlt
      cases h
      have hlt := blt_iff.1 hlt
      refine ⟨rfl, fun s => ?_⟩
      unfold Fr.at
      dsimp only
      by_cases hsn : s < t.n
      · rw [blt_iff.2 hsn]
        dsimp only
        have h10 : (2 : Nat) ^ 10 = 1024 := rfl
        rw [Tr.get_set 10 _ _ _ _ (by omega) (by omega)]
        by_cases hsd : s = d
        · subst hsd; simp
        · have : ¬ (some d = some s) := fun e => hsd (by cases e; rfl)
          rw [if_neg hsd, if_neg this]
      · have hb : Nat.blt s t.n = false := by cases hb : Nat.blt s t.n with
          | false => rfl
          | true => exact absurd (blt_iff.1 hb) hsn
        rw [hb]
        dsimp only
        have : ¬ (some d = some s) := fun e => hsn (by cases e; exact hlt)
        rw [if_neg this]
    · cases h
end

/- The last one that wrote. -/
section
variable {X V : Type}
def st (W : Nat → X → Option V) (init : X → V) (D : Nat → Bool) : Nat → X → V
  | 0, x => init x
  | k + 1, x => if D k then (W k x).getD (st W init D k x) else st W init D k x

theorem st_succ (W : Nat → X → Option V) (init : X → V) (D : Nat → Bool) (k : Nat) (x : X) : st W init D (k + 1) x = if D k then (W k x).getD (st W init D k x) else st W init D k x := rfl

theorem st_before {W : Nat → X → Option V} {init : X → V} {D : Nat → Bool} {i n : Nat} {x : X} (hin : i ≤ n) (hi : D i = false)
    (h1 : ∀ k, k < i → D k = false → W k x = none) (h2 : ∀ k, i < k → k < n → D k = true → W k x = none) : st W init D n x = st W init (fun _ => true) i x := by
  have a : ∀ k, k ≤ i → st W init D k x = st W init (fun _ => true) k x := by
    intro k
    induction k with
    | zero => intro _; rfl
    | succ k ih =>
      intro hk
      rw [st_succ, st_succ, ih (by omega)]
      cases hd : D k with
      | true => rfl
      | false => rw [h1 k (by omega) hd]; simp
  have b : ∀ k, i ≤ k → k ≤ n → st W init D k x = st W init D i x := by
    intro k
    induction k with
    | zero => intro h _; have : i = 0 := by omega
              subst this; rfl
    | succ k ih =>
      intro hk hn
      by_cases e : i = k + 1
      · subst e; rfl
      · rw [st_succ, ih (by omega) (by omega)]
        cases hd : D k with
        | false => simp
        | true =>
          by_cases ek : k = i
          · subst ek; rw [hi] at hd; cases hd
          · rw [h2 k (by omega) (by omega) hd]; simp
  rw [b n hin (Nat.le_refl n), a i (Nat.le_refl i)]

theorem st_after {W : Nat → X → Option V} {init : X → V} {D : Nat → Bool} {i n : Nat} {x : X} (hin : i < n) (hi : D i = false)
    (h2 : ∀ k, i < k → k < n → D k = true → W i x ≠ none → W k x = none) : st W init (fun k => D k || decide (k = i)) n x = (W i x).getD (st W init D n x) := by
  have a : ∀ k, k ≤ i → st W init (fun k => D k || decide (k = i)) k x = st W init D k x := by
    intro k
    induction k with
    | zero => intro _; rfl
    | succ k ih =>
      intro hk
      have : decide (k = i) = false := by simp; omega
      rw [st_succ, st_succ, ih (by omega), this, Bool.or_false]
  cases hw : W i x with
  | none =>
    have b : ∀ k, i ≤ k → st W init (fun k => D k || decide (k = i)) k x = st W init D k x := by
      intro k
      induction k with
      | zero => intro h; exact a 0 (by omega)
      | succ k ih =>
        intro hk
        by_cases e : i = k + 1
        · exact a (k + 1) (by omega)
        · have e1 := st_succ W init (fun k => D k || decide (k = i)) k x
          have e2 := st_succ W init D k x
          rw [e1, e2, ih (by omega)]
          by_cases ek : k = i
          · subst ek; rw [hw, hi]; simp
          · have : decide (k = i) = false := by simp [ek]
            rw [this, Bool.or_false]
    rw [b n (by omega)]; rfl
  | some v =>
    have b : ∀ k, i < k → k ≤ n → st W init (fun k => D k || decide (k = i)) k x = v := by
      intro k
      induction k with
      | zero => intro h; omega
      | succ k ih =>
        intro hk hn
        rw [st_succ]
        by_cases ek : k = i
        · subst ek; rw [hw]; simp
        · have hd : decide (k = i) = false := by simp [ek]
          rw [ih (by omega) (by omega), hd, Bool.or_false]
          cases hdk : D k with
          | false => simp
          | true => rw [h2 k (by omega) (by omega) hdk (by rw [hw]; simp)]; simp
    rw [b n hin (Nat.le_refl n)]; rfl
end

/- The sets of those that come first. -/
theorem bit_iff (m k : Nat) : Nat.beq (Nat.land (Nat.shiftRight m k) 1) 1 = m.testBit k := by
  have h1 : Nat.land (Nat.shiftRight m k) 1 = (m >>> k) % 2 := Nat.and_one_is_mod (m >>> k)
  rw [h1]
  have h2 : m.testBit k = ((m >>> k) % 2 == 1) := by
    rw [Nat.testBit, Nat.one_and_eq_mod_two]
    have : (m >>> k) % 2 = 0 ∨ (m >>> k) % 2 = 1 := by omega
    rcases this with h | h <;> rw [h] <;> rfl
  rw [h2]
  have : (m >>> k) % 2 = 0 ∨ (m >>> k) % 2 = 1 := by omega
  rcases this with h | h <;> rw [h] <;> rfl

theorem edgeBits_spec : ∀ {l : List Edge} {i : Nat}, (edgeBits l).testBit i = true → ∃ e ∈ l, Region.binds .any e = true ∧ e.on = i
  | [], i, h => by simp [edgeBits] at h
  | e :: l, i, h => by
    unfold edgeBits at h
    split at h
    · rename_i hb
      have : Nat.lor (Nat.shiftLeft 1 e.on) (edgeBits l) = (1 <<< e.on) ||| edgeBits l := rfl
      rw [this, Nat.testBit_or, Bool.or_eq_true] at h
      rcases h with h | h
      · refine ⟨e, by simp, hb, ?_⟩
        rw [Nat.one_shiftLeft, Nat.testBit_two_pow] at h
        simpa using h
      · obtain ⟨e', h1, h2, h3⟩ := edgeBits_spec h
        exact ⟨e', by simp [h1], h2, h3⟩
    · obtain ⟨e', h1, h2, h3⟩ := edgeBits_spec h
      exact ⟨e', by simp [h1], h2, h3⟩

theorem closeBits_spec (m : Nat) : ∀ {k : Nat} {bs : List Nat} {i : Nat}, bs.length = k → (closeBits m k bs).testBit i = true → ∃ q b, q < k ∧ m.testBit q = true ∧ bs[k - 1 - q]? = some b ∧ b.testBit i = true
  | 0, bs, i, hl, h => by simp [closeBits] at h
  | k + 1, [], i, hl, h => by simp at hl
  | k + 1, b :: bs, i, hl, h => by
    have hl' : bs.length = k := by simpa using hl
    unfold closeBits at h
    have rest : (closeBits m k bs).testBit i = true → ∃ q b', q < k + 1 ∧ m.testBit q = true ∧ (b :: bs)[k + 1 - 1 - q]? = some b' ∧ b'.testBit i = true := by
      intro h
      obtain ⟨q, b', h1, h2, h3, h4⟩ := closeBits_spec m hl' h
      exact ⟨q, b', by omega, h2, by rw [show k + 1 - 1 - q = (k - 1 - q) + 1 by omega]; simpa using h3, h4⟩
    split at h
    · rename_i hb
      rw [bit_iff] at hb
      have : Nat.lor b (closeBits m k bs) = b ||| closeBits m k bs := rfl
      rw [this, Nat.testBit_or, Bool.or_eq_true] at h
      rcases h with h | h
      · exact ⟨k, b, by omega, hb, by simp, h⟩
      · exact rest h
    · exact rest h

/-- Closed under what comes first. -/
def Cl (ops : List Oper) (D : Nat → Bool) : Prop := ∀ (j : Nat) (o : Oper), ops[j]? = some o → D j = true → ∀ e ∈ o.after, Region.binds .any e = true → D e.on = true

theorem masksFrom_spec {all : List Oper} {D : Nat → Bool} (hD : Cl all D) : ∀ {l : List Oper} {k : Nat} {bs : List Nat}, bs.length = k → all.drop k = l →
    (∀ (q b : Nat) (o : Oper), q < k → bs[k - 1 - q]? = some b → all[q]? = some o → (∀ e ∈ o.after, Region.binds .any e = true → D e.on = true) → ∀ i, b.testBit i = true → D i = true) →
    ∀ (j m : Nat) (o : Oper), (masksFrom k bs l)[j]? = some m → all[k + j]? = some o → (∀ e ∈ o.after, Region.binds .any e = true → D e.on = true) → ∀ i, m.testBit i = true → D i = true
  | [], k, bs, hk, hl, hb, j, m, o, h, _, _, _, _ => by simp [masksFrom] at h
  | o1 :: l, k, bs, hk, hl, hb, j, m, o, h, ho, he, i, hi => by
    have ho1 : all[k]? = some o1 := by
      have := congrArg (fun l => l[0]?) hl
      simpa using this
    have key : ∀ (o : Oper), all[k]? = some o → (∀ e ∈ o.after, Region.binds .any e = true → D e.on = true) → ∀ i, (Nat.lor (edgeBits o1.after.toList) (closeBits (edgeBits o1.after.toList) k bs)).testBit i = true → D i = true := by
      intro o ho he i hi
      rw [ho1] at ho
      cases ho
      have : Nat.lor (edgeBits o1.after.toList) (closeBits (edgeBits o1.after.toList) k bs) = edgeBits o1.after.toList ||| closeBits (edgeBits o1.after.toList) k bs := rfl
      rw [this, Nat.testBit_or, Bool.or_eq_true] at hi
      have direct : ∀ q, (edgeBits o1.after.toList).testBit q = true → D q = true := by
        intro q hq
        obtain ⟨e, h1, h2, h3⟩ := edgeBits_spec hq
        have := he e (Array.mem_toList_iff.1 h1) h2
        rwa [h3] at this
      rcases hi with hi | hi
      · exact direct i hi
      · obtain ⟨q, b, h1, h2, h3, h4⟩ := closeBits_spec _ hk hi
        have hql : q < all.length := by
          have : k < all.length := (List.getElem?_eq_some_iff.1 ho1).1
          omega
        exact hb q b _ h1 h3 (List.getElem?_eq_getElem hql) (hD q _ (List.getElem?_eq_getElem hql) (direct q h2)) i h4
    have e0 : masksFrom k bs (o1 :: l) = Nat.lor (edgeBits o1.after.toList) (closeBits (edgeBits o1.after.toList) k bs) :: masksFrom (k + 1) (Nat.lor (edgeBits o1.after.toList) (closeBits (edgeBits o1.after.toList) k bs) :: bs) l := rfl
    rw [e0] at h
    cases j with
    | zero =>
      simp only [List.getElem?_cons_zero, Option.some.injEq] at h
      subst h
      exact key o (by simpa using ho) he i hi
    | succ j =>
      simp only [List.getElem?_cons_succ] at h
      refine masksFrom_spec hD (l := l) (k := k + 1) (by simp [hk]) ?_ ?_ j m o h (by rw [show k + 1 + j = k + (j + 1) by omega]; exact ho) he i hi
      · have := congrArg List.tail hl
        simpa [List.tail_drop] using this
      · intro q b o hq hbq hoq heq i hi
        by_cases e : q = k
        · subst e
          simp at hbq
          subst hbq
          exact key o hoq heq i hi
        · rw [show k + 1 - 1 - q = (k - 1 - q) + 1 by omega] at hbq
          simp only [List.getElem?_cons_succ] at hbq
          exact hb q b o (by omega) hbq hoq heq i hi

theorem masks_spec {ops : Array Oper} {D : Nat → Bool} (hD : Cl ops.toList D) {j m : Nat} {o : Oper} (h : (masks ops)[j]? = some m) (ho : ops.toList[j]? = some o)
    (he : ∀ e ∈ o.after, Region.binds .any e = true → D e.on = true) {i : Nat} (hi : m.testBit i = true) : D i = true :=
  masksFrom_spec hD (l := ops.toList) (k := 0) (bs := []) rfl rfl (fun q b o hq => by omega) j m o h (by simpa using ho) he i hi
end Go.Proofs.YtdbjloigfkckfaaGreatDoor.Vm
