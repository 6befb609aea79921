/-
  A law of the walk for a region that draws its order, over any program: if each operation, begun where what it hangs on is done, keeps the prover's word, then the region does, whatever the order.
  Conditions: the table of what each operation hangs on (D), of the effects (c), and of the phases (R) meets the closed check regOk.
-/
import Derived.Orders
import Derived.Tactics2
import Derived.Laws.World
namespace Go.Proofs.Ytgdpahojinknmaa

def fillT (x : Nat → Value) : List Oper → Nat → Array Value → Array Value
  | [], _, t => t
  | o :: l, i, t => fillT x l (i + 1) (match o.dst with | some d => t.setIfInBounds d (x i) | none => t)

def updX (x : Nat → Value) (i : Nat) (v : Value) : Nat → Value := fun j => if j = i then v else x j

theorem fillT_upd (x : Nat → Value) (j : Nat) (v : Value) : ∀ (l : List Oper) (i : Nat) (t : Array Value), j < i → fillT (updX x j v) l i t = fillT x l i t
  | [], _, _, _ => rfl
  | o :: l, i, t, h => by
    unfold fillT
    rw [fillT_upd x j v l (i + 1) _ (by omega)]
    have : updX x j v i = x i := by unfold updX; rw [if_neg (by omega)]
    rw [this]

def dstsOk : List Oper → Bool
  | [] => true
  | o :: l => (match o.dst with | some d => l.all (fun p => !(p.dst == some d)) | none => true) && dstsOk l

theorem fillT_set (x : Nat → Value) (d : Nat) (v : Value) : ∀ (l : List Oper) (i : Nat) (t : Array Value), (l.all fun p => !(p.dst == some d)) = true →
    fillT x l i (t.setIfInBounds d v) = (fillT x l i t).setIfInBounds d v
  | [], _, _, _ => rfl
  | o :: l, i, t, h => by
    simp only [List.all_cons, Bool.and_eq_true] at h
    unfold fillT
    cases ho : o.dst with
    | none => exact fillT_set x d v l (i + 1) t h.2
    | some e =>
      have hne : d ≠ e := by rintro rfl; simp [ho] at h
      show fillT x l (i + 1) ((t.setIfInBounds d v).setIfInBounds e (x i)) = _
      rw [Array.setIfInBounds_comm _ _ hne, fillT_set x d v l (i + 1) _ h.2]

theorem set_set (t : Array Value) (d : Nat) (u v : Value) : (t.setIfInBounds d u).setIfInBounds d v = t.setIfInBounds d v := by
  apply Array.ext_getElem?
  intro i
  by_cases h : d = i
  · subst h; by_cases hd : d < t.size
    · simp [hd]
    · simp [hd]
  · simp [Array.getElem?_setIfInBounds_ne h]

theorem fillT_put (x : Nat → Value) (v : Value) : ∀ (l : List Oper) (i k : Nat) (t : Array Value) (o : Oper), dstsOk l = true → l[k]? = some o →
    fillT (updX x (i + k) v) l i t = (match o.dst with | some d => (fillT x l i t).setIfInBounds d v | none => fillT x l i t)
  | [], _, _, _, _, _, h => by simp at h
  | p :: l, i, 0, t, o, hd, h => by
    simp only [List.getElem?_cons_zero, Option.some.injEq] at h
    subst h
    unfold dstsOk at hd
    simp only [Bool.and_eq_true] at hd
    have hx : updX x (i + 0) v i = v := by simp [updX]
    unfold fillT
    rw [hx, fillT_upd x (i + 0) v l (i + 1) _ (by omega)]
    cases ho : p.dst with
    | none => rfl
    | some d =>
      rw [ho] at hd
      show fillT x l (i + 1) (t.setIfInBounds d v) = (fillT x l (i + 1) (t.setIfInBounds d (x i))).setIfInBounds d v
      rw [← fillT_set x d v l (i + 1) _ hd.1, set_set]
  | p :: l, i, k + 1, t, o, hd, h => by
    simp only [List.getElem?_cons_succ] at h
    unfold dstsOk at hd
    simp only [Bool.and_eq_true] at hd
    unfold fillT
    have hx : updX x (i + (k + 1)) v i = x i := by unfold updX; rw [if_neg (by omega)]
    rw [hx, show i + (k + 1) = (i + 1) + k by omega]
    exact fillT_put x v l (i + 1) k _ o hd.2 h

def iniX (l : List Oper) (t : Array Value) : Nat → Value := fun i => match l[i]? with | some o => (match o.dst with | some d => t.getD d undef | none => undef) | none => undef

theorem set_self (t : Array Value) (d : Nat) : t.setIfInBounds d (t.getD d undef) = t := by
  apply Array.ext_getElem?
  intro i
  by_cases h : d = i
  · subst h; by_cases hd : d < t.size
    · simp [hd]
    · simp [hd]
  · simp [Array.getElem?_setIfInBounds_ne h]

theorem fillT_ini (t : Array Value) : ∀ (l : List Oper) (i : Nat) (x : Nat → Value), (∀ k o d, l[k]? = some o → o.dst = some d → x (i + k) = t.getD d undef) → fillT x l i t = t
  | [], _, _, _ => rfl
  | o :: l, i, x, h => by
    unfold fillT
    have hs : (match o.dst with | some d => t.setIfInBounds d (x i) | none => t) = t := by
      cases ho : o.dst with
      | none => rfl
      | some d =>
        have := h 0 o d rfl ho
        simp only [Nat.add_zero] at this
        show t.setIfInBounds d (x i) = t
        rw [this]; exact set_self t d
    rw [hs]
    exact fillT_ini t l (i + 1) x fun k o' d hk ho => by
      have := h (k + 1) o' d hk ho
      rwa [show i + (k + 1) = (i + 1) + k by omega] at this

def fillA (l : List Oper) (a : Act) (x : Nat → Value) : Act := { a with tmps := fillT x l 0 a.tmps }

theorem fillA_put {l : List Oper} (hd : dstsOk l = true) (a : Act) (x : Nat → Value) (k : Nat) (o : Oper) (v : Value) (h : l[k]? = some o) :
    (fillA l a x).put o.dst v = fillA l a (updX x k v) := by
  have := fillT_put x v l 0 k a.tmps o hd h
  simp only [Nat.zero_add] at this
  unfold fillA
  rw [this]
  cases o.dst <;> rfl

theorem fillA_ini (l : List Oper) (a : Act) : fillA l a (iniX l a.tmps) = a := by
  unfold fillA
  rw [fillT_ini a.tmps l 0 (iniX l a.tmps) (fun k o d hk ho => by simp [iniX, hk, ho])]

/-- How many effects are done. -/
def cntL (n : Nat) (c : List Bool) (p : Nat → Bool) : Nat := (List.range n).countP fun k => c.getD k false && p k

def regOk (ops : List Oper) (D : List (List Nat)) (c : List Bool) (R : List (List Nat)) : Bool :=
  dstsOk ops && (List.range ops.length).all fun i =>
    (match ops[i]? with
      | some o => (o.after.all fun e => !Region.binds .any e || decide (e.on < i)) &&
          ((D.getD i []).all fun j => o.after.any fun e => Region.binds .any e && (e.on == j || (D.getD e.on []).contains j))
      | none => true) &&
    (List.range (cntL ops.length c (fun k => !(k == i) && !(D.getD k []).contains i) + 1)).all fun p =>
      decide (p < cntL ops.length c (fun k => (D.getD i []).contains k)) || (R.getD i []).contains p

def regPost (Q : Exit → Act → World → Prop) (good : Act → World → Prop) : Exit → Act → World → Prop
  | .normal, a, w => good a w
  | e, a, w => Q e a w

structure GoodAt (V : Value → World → Prop) (E : World → World → Prop) (S : World → Prop) (dst : Option Tmp) (a : Act) (w : World) (a' : Act) (w' : World) : Prop where
  v : ∃ v, a' = a.put dst v ∧ V v w'
  e : E w w'
  s : S w'
theorem wpOp_last {P : Program} {ops : Array Oper} {Q : Exit → Act → World → Prop} {K : Act → World → Prop} {i : Nat} {o : Oper} {a : Act} {w : World}
    (hi : ops[i]? = some o) (hK : ∀ a w, Q .normal a w → K a w) (h : wpList P ops Q [o] a w) : wpOp P ops Q i K a w := by
  unfold wpOp
  simp only [hi]
  unfold wpList at h
  split
  · rename_i hw
    rw [if_pos hw] at h
    exact h.imp (Oper.wp_mono hK) id
  · rename_i hw
    rw [if_neg hw] at h
    exact hK _ _ h

theorem wp_of_regPost {P : Program} {o : Oper} {a : Act} {w : World} {Q : Exit → Act → World → Prop} {good K K' : Act → World → Prop} (hK : ∀ a w, K' a w → K a w)
    (hh : o.wp P a w K' (regPost Q good)) : o.wp P a w K Q := by
  unfold Oper.wp at *
  generalize (execOp a.eval o).run P w = r at *
  cases r with
  | ok n w' =>
    cases n <;> simp only [Oper.upon] at hh ⊢ <;>
      first
        | exact hK _ _ hh
        | exact Calls.mono hh (fun e w'' he => by cases e <;> first | exact hK _ _ he | exact he)
        | exact Rows.mono hh (fun _ _ he => hK _ _ he)
  | halt x w' => cases x <;> simp only [Oper.upon] at hh ⊢ <;> exact hh

theorem wpOp_of_list {P : Program} {ops : Array Oper} {Q : Exit → Act → World → Prop} {good : Act → World → Prop} {K : Act → World → Prop} {i : Nat} {o : Oper} {a : Act} {w : World}
    (hi : ops[i]? = some o) (hK : ∀ a w, good a w → K a w) (h : wpList P ops (regPost Q good) [o] a w) : wpOp P ops Q i K a w := by
  unfold wpOp
  simp only [hi]
  unfold wpList at h
  split
  · rename_i hw
    rw [if_pos hw] at h
    rcases h with h | h
    · exact .inl (wp_of_regPost hK h)
    · exact .inr h
  · rename_i hw
    rw [if_neg hw] at h
    exact hK _ _ h

section
variable {P : Program} {l : List Oper} {Q : Exit → Act → World → Prop} {a : Act}

theorem region_aux (D : List (List Nat)) (c : List Bool) (R : List (List Nat)) (hok : regOk l D c R = true)
    (V : Nat → Value → World → Prop) (E : World → World → Prop) (S : Nat → World → Prop) (hE : ∀ i v w w', E w w' → V i v w → V i v w')
    (hstep : ∀ i o, l[i]? = some o → ∀ p ∈ R.getD i [], ∀ x w, S p w → (∀ j ∈ D.getD i [], V j (x j) w) →
      wpList P l.toArray (regPost Q (GoodAt (V i) E (S (p + if c.getD i false then 1 else 0)) o.dst (fillA l a x) w)) [o] (fillA l a x) w ∨
      ((∀ k, k < l.length → k ≠ i → k ∈ D.getD i []) ∧ wpList P l.toArray Q [o] (fillA l a x) w))
    (hend : ∀ x w, S (cntL l.length c fun _ => true) w → (∀ i, i < l.length → V i (x i) w) → Q .normal (fillA l a x) w) :
    ∀ (fuel : Nat) (listed : Array Bool) (x : Nat → Value) (w : World), listed.size = l.length → (cntL l.length (listed.toList.map (!·)) fun _ => true) ≤ fuel →
      (∀ i o, l[i]? = some o → listed.getD i false = true → ∀ e ∈ o.after, Region.binds .any e = true → listed.getD e.on false = true) →
      (∀ i, listed.getD i false = true → V i (x i) w) → S (cntL l.length c fun k => listed.getD k false) w →
      wpAny P .any l.toArray Q fuel listed (fillA l a x) w := by
  unfold regOk at hok
  simp only [Bool.and_eq_true, List.all_eq_true, List.mem_range] at hok
  obtain ⟨hd, hok⟩ := hok
  -- what is done is closed
  have hclosed : ∀ (listed : Array Bool), (∀ i o, l[i]? = some o → listed.getD i false = true → ∀ e ∈ o.after, Region.binds .any e = true → listed.getD e.on false = true) →
      ∀ n i o, i ≤ n → l[i]? = some o → (∀ e ∈ o.after, Region.binds .any e = true → listed.getD e.on false = true) → ∀ j ∈ D.getD i [], listed.getD j false = true := by
    intro listed hl n
    induction n with
    | zero =>
      intro i o hi ho hdir j hj
      obtain rfl : i = 0 := by omega
      have h0 := (hok 0 (by have := (List.getElem?_eq_some_iff.1 ho).1; omega)).1
      rw [ho] at h0
      simp only [Bool.and_eq_true, List.all_eq_true, Array.all_eq_true_iff_forall_mem, Bool.or_eq_true, Bool.not_eq_true', decide_eq_true_eq] at h0
      have := h0.2 j hj
      rw [Array.any_eq_true'] at this
      obtain ⟨e, he, hb⟩ := this
      simp only [Bool.and_eq_true] at hb
      have := h0.1 e he
      simp [hb.1] at this
    | succ n ih =>
      intro i o hi ho hdir j hj
      have hin := (List.getElem?_eq_some_iff.1 ho).1
      have h0 := (hok i hin).1
      rw [ho] at h0
      simp only [Bool.and_eq_true, List.all_eq_true, Array.all_eq_true_iff_forall_mem, Bool.or_eq_true, Bool.not_eq_true', decide_eq_true_eq] at h0
      have := h0.2 j hj
      rw [Array.any_eq_true'] at this
      obtain ⟨e, he, hb⟩ := this
      simp only [Bool.and_eq_true, Bool.or_eq_true, beq_iff_eq] at hb
      obtain ⟨hb, hj'⟩ := hb
      have hlt : e.on < i := (h0.1 e he).resolve_left (by simp [hb])
      have hon := hdir e he hb
      rcases hj' with rfl | hj'
      · exact hon
      · have hel : e.on < l.length := by omega
        exact ih e.on l[e.on] (by omega) (List.getElem?_eq_getElem hel) (hl e.on _ (List.getElem?_eq_getElem hel) hon) j (by simpa using hj')
  have hall : ∀ (listed : Array Bool), Region.ready .any l.toArray listed = [] → listed.size = l.length → ∀ n i, i < n → i < l.length → listed.getD i false = true := by
    intro listed hr hs n
    induction n with
    | zero => intro i hi; omega
    | succ n ih =>
      intro i hi hil
      have ho : l[i]? = some l[i] := List.getElem?_eq_getElem hil
      have h0 := (hok i hil).1
      rw [ho] at h0
      simp only [Bool.and_eq_true, Array.all_eq_true_iff_forall_mem, Bool.or_eq_true, Bool.not_eq_true', decide_eq_true_eq] at h0
      cases hg : listed.getD i false with
      | true => rfl
      | false =>
        exfalso
        have hm : i ∈ Region.ready .any l.toArray listed := by
          rw [mem_ready]
          refine ⟨?_, l[i], by simp [hil], fun e he hb => ?_⟩
          · have hi2 : i < listed.size := by omega
            simp [hi2] at hg ⊢
            exact hg
          · have hlt := (h0.1 e he).resolve_left (by simp [hb])
            exact ih e.on (by omega) (by omega)
        rw [hr] at hm
        simp at hm
  have hdone : ∀ (listed : Array Bool) (x : Nat → Value) (w : World), listed.size = l.length → Region.ready .any l.toArray listed = [] →
      (∀ i, listed.getD i false = true → V i (x i) w) → S (cntL l.length c fun k => listed.getD k false) w → Q .normal (fillA l a x) w := by
    intro listed x w hs hr hv hS
    have ha := hall listed hr hs l.length
    refine hend x w ?_ fun i hi => hv i (ha i hi hi)
    have : cntL l.length c (fun k => listed.getD k false) = cntL l.length c fun _ => true := by
      unfold cntL
      refine List.countP_congr fun k hk => ?_
      have hk' := List.mem_range.1 hk
      have := ha k hk' hk'
      simp only [this]
    rwa [this] at hS
  intro fuel
  induction fuel with
  | zero =>
    intro listed x w hs hf hcl hv hS
    have hall' : ∀ i, i < l.length → listed.getD i false = true := by
      intro i hi
      have hc0 : (cntL l.length (listed.toList.map (!·)) fun _ => true) = 0 := by omega
      unfold cntL at hc0
      rw [List.countP_eq_zero] at hc0
      have := hc0 i (List.mem_range.2 hi)
      have hi2 : i < listed.size := by omega
      simp [hi2, List.getD] at this
      simpa [hi2] using this
    have hr : Region.ready .any l.toArray listed = [] := by
      apply List.eq_nil_iff_forall_not_mem.2
      intro i hi
      obtain ⟨h1, o, ho, _⟩ := mem_ready.1 hi
      have hil : i < l.length := by
        have := (Array.getElem?_eq_some_iff.1 ho).1; simpa using this
      have := hall' i hil
      have hi2 : i < listed.size := by omega
      simp [hi2] at h1 this
      rw [h1] at this; exact absurd this (by simp)
    exact ⟨hr, hdone listed x w hs hr hv hS⟩
  | succ fuel ih =>
    intro listed x w hs hf hcl hv hS
    refine ⟨fun hr => hdone listed x w hs hr hv hS, fun i hi => ?_⟩
    obtain ⟨hnl, o, ho', hdir⟩ := mem_ready.1 hi
    have ho : l[i]? = some o := by simpa using ho'
    have hil : i < l.length := (List.getElem?_eq_some_iff.1 ho).1
    have hi2 : i < listed.size := by omega
    have hnl' : listed.getD i false = false := by simp [hi2] at hnl ⊢; exact hnl
    have hD := hclosed listed hcl i i o (Nat.le_refl _) ho hdir
    -- the phase
    have hp : cntL l.length c (fun k => listed.getD k false) ∈ R.getD i [] := by
      have h0 := (hok i hil).2 (cntL l.length c fun k => listed.getD k false) (by
        refine Nat.lt_succ_of_le (List.countP_mono_left fun k hk hh => ?_)
        simp only [Bool.and_eq_true, Bool.not_eq_true', beq_eq_false_iff_ne, ne_eq] at hh ⊢
        refine ⟨hh.1, ?_, ?_⟩
        · rintro rfl; rw [hnl'] at hh; exact absurd hh.2 (by simp)
        · have hkl : k < l.length := List.mem_range.1 hk
          have := hclosed listed hcl k k l[k] (Nat.le_refl _) (List.getElem?_eq_getElem hkl) (hcl k _ (List.getElem?_eq_getElem hkl) hh.2)
          cases hci : (D.getD k []).contains i with
          | false => rfl
          | true =>
            have := this i (by simpa using hci)
            rw [hnl'] at this; exact absurd this (by simp))
      simp only [Bool.or_eq_true, decide_eq_true_eq] at h0
      rcases h0 with h0 | h0
      · exfalso
        have : cntL l.length c (fun k => (D.getD i []).contains k) ≤ cntL l.length c fun k => listed.getD k false :=
          List.countP_mono_left fun k _ hh => by
            simp only [Bool.and_eq_true] at hh ⊢
            exact ⟨hh.1, hD k (by simpa using hh.2)⟩
        omega
      · simpa using h0
    rcases hstep i o ho _ hp x w hS fun j hj => hv j (hD j hj) with hst | ⟨hlast, hst⟩
    case inr =>
      refine wpOp_last ho' (fun a' w' hq => wpAny_done ?_ hq _) hst
      apply List.eq_nil_iff_forall_not_mem.2
      intro k hk
      obtain ⟨h1, ok, hok', _⟩ := mem_ready.1 hk
      have hkl : k < l.length := by
        have := (Array.getElem?_eq_some_iff.1 hok').1; simpa using this
      by_cases hki : k = i
      · subst hki; simp [hi2] at h1
      · have := hD k (hlast k hkl hki)
        rw [getD_set_ne true (Ne.symm hki)] at h1
        have hk2 : k < listed.size := by omega
        simp [hk2] at h1 this
        rw [h1] at this; exact absurd this (by simp)
    refine wpOp_of_list ho' (fun a' w' hg => ?_) hst
    obtain ⟨⟨v, rfl, hVi⟩, hE', hS'⟩ := hg
    rw [fillA_put hd a x i o v ho]
    have hget : ∀ k, (listed.setIfInBounds i true).getD k false = if k = i then true else listed.getD k false := by
      intro k
      by_cases hk : k = i
      · subst hk; simp [hi2]
      · rw [if_neg hk, getD_set_ne false (Ne.symm hk)]
    refine ih (listed.setIfInBounds i true) (updX x i v) w' (by simpa using hs) ?_ ?_ ?_ ?_
    · -- fewer are left
      have hle : (cntL l.length ((listed.setIfInBounds i true).toList.map (!·)) fun _ => true) < cntL l.length (listed.toList.map (!·)) fun _ => true := by
        unfold cntL
        have hm : i ∈ List.range l.length := List.mem_range.2 hil
        obtain ⟨s, t, hst⟩ := List.append_of_mem hm
        rw [hst, List.countP_append, List.countP_append, List.countP_cons, List.countP_cons]
        have e1 : ∀ (u : List Nat), (∀ k ∈ u, k < l.length) → u.countP (fun k => ((listed.setIfInBounds i true).toList.map (!·)).getD k false && true) ≤ u.countP (fun k => (listed.toList.map (!·)).getD k false && true) := by
          intro u hu
          refine List.countP_mono_left fun k hk hh => ?_
          have hkl := hu k hk
          have hk2 : k < listed.size := by omega
          have g := hget k
          by_cases hki : k = i
          · subst hki; simp [List.getD, hk2] at hh
          · simp [List.getD, hk2, Ne.symm hki] at hh ⊢
            exact hh
        have hs1 := e1 s (fun k hk => List.mem_range.1 (hst ▸ List.mem_append_left _ hk))
        have ht1 := e1 t (fun k hk => List.mem_range.1 (hst ▸ List.mem_append_right _ (List.mem_cons_of_mem _ hk)))
        have hi0 : ((listed.toList.map (!·)).getD i false && true) = true := by
          simp [hi2] at hnl'
          simp [List.getD, hi2, hnl']
        have hi1 : (((listed.setIfInBounds i true).toList.map (!·)).getD i false && true) = false := by
          simp [List.getD, hi2]
        rw [hi0, hi1]
        simp only [if_true, Bool.false_eq_true, if_false]
        omega
      omega
    · intro k ok hk hlk e he hb
      rw [hget] at hlk ⊢
      split
      · rfl
      · by_cases hki : k = i
        · subst hki
          rw [ho] at hk
          cases hk
          exact hdir e he hb
        · rw [if_neg hki] at hlk
          exact hcl k ok hk hlk e he hb
    · intro k hk
      rw [hget] at hk
      by_cases hki : k = i
      · subst hki; simpa [updX] using hVi
      · rw [if_neg hki] at hk
        have := hE k _ _ _ hE' (hv k hk)
        simpa [updX, hki] using this
    · have : cntL l.length c (fun k => (listed.setIfInBounds i true).getD k false) = cntL l.length c (fun k => listed.getD k false) + if c.getD i false then 1 else 0 := by
        unfold cntL
        have hm : i ∈ List.range l.length := List.mem_range.2 hil
        obtain ⟨s, t, hst⟩ := List.append_of_mem hm
        have hnd : (s ++ i :: t).Nodup := hst ▸ List.nodup_range
        have hns : ∀ k ∈ s, k ≠ i := fun k hk => by
          rintro rfl
          exact (List.nodup_append.1 hnd).2.2 k hk k (by simp) rfl
        have hnt : ∀ k ∈ t, k ≠ i := fun k hk => by
          rintro rfl
          exact (List.nodup_cons.1 (List.nodup_append.1 hnd).2.1).1 hk
        rw [hst, List.countP_append, List.countP_append, List.countP_cons, List.countP_cons]
        have e1 : ∀ (u : List Nat), (∀ k ∈ u, k ≠ i) → u.countP (fun k => c.getD k false && (listed.setIfInBounds i true).getD k false) = u.countP (fun k => c.getD k false && listed.getD k false) := by
          intro u hu
          refine List.countP_congr fun k hk => ?_
          rw [hget, if_neg (hu k hk)]
        have hgi := hget i
        rw [if_pos rfl] at hgi
        rw [e1 s hns, e1 t hnt]
        simp only [hgi, hnl']
        cases c.getD i false <;> simp <;> omega
      rw [this]
      exact hS'

end

/-- A word on an operation's value that every later world keeps. -/
structure StV (E : World → World → Prop) where
  V : Value → World → Prop
  h : ∀ v w w', E w w' → V v w → V v w'
def StV.any {E : World → World → Prop} : StV E := ⟨fun _ _ => True, fun _ _ _ _ _ => trivial⟩
/-- It is this value. -/
def eqv {E : World → World → Prop} (c : Value) : StV E := ⟨fun v _ => v = c, fun _ _ _ _ h => h⟩

/-- THE LAW, with phases. -/
theorem wp_region_all {P : Program} {id : Nat} {l : List Oper} {Q : Exit → Act → World → Prop} {a : Act} {w : World} (hm : P.follows .mixedOrders = true)
    (D : List (List Nat)) (c : List Bool) (R : List (List Nat)) (hok : regOk l D c R = true)
    (E : World → World → Prop) (Vs : List (StV E)) (S : Nat → World → Prop) (h0 : S 0 w.drew)
    (hstep : ∀ i o, l[i]? = some o → ∀ p ∈ R.getD i [], ∀ x w, S p w → (∀ j ∈ D.getD i [], (Vs.getD j StV.any).V (x j) w) →
      wpList P l.toArray (regPost Q (GoodAt (Vs.getD i StV.any).V E (S (p + if c.getD i false then 1 else 0)) o.dst (fillA l a x) w)) [o] (fillA l a x) w ∨
      ((∀ k, k < l.length → k ≠ i → k ∈ D.getD i []) ∧ wpList P l.toArray Q [o] (fillA l a x) w))
    (hend : ∀ x w, S (cntL l.length c fun _ => true) w → (∀ i, i < l.length → (Vs.getD i StV.any).V (x i) w) → Q .normal (fillA l a x) w) :
    (Code.region id l.toArray true).wp P Q a w := by
  refine Go.wp_region_any hm ?_
  have hinit : fillA l a (iniX l a.tmps) = a := fillA_ini l a
  rw [← hinit]
  have hrep : ∀ k, (Array.replicate l.toArray.size false).getD k false = false := by
    intro k
    by_cases hk : k < l.length <;> simp [hk]
  have hz : cntL l.length c (fun k => (Array.replicate l.toArray.size false).getD k false) = 0 := by
    unfold cntL
    rw [List.countP_eq_zero]
    intro k _
    have := hrep k
    simp only [this]; simp
  refine region_aux D c R hok (fun j => (Vs.getD j StV.any).V) E S (fun i v w w' he hv => (Vs.getD i StV.any).h v w w' he hv) hstep hend _ _ _ _ (by simp) ?_ ?_ ?_ ?_
  · unfold cntL
    refine Nat.le_trans (List.countP_le_length) ?_
    simp
  · intro i o _ h; rw [hrep] at h; simp at h
  · intro i h; rw [hrep] at h; simp at h
  · rw [hz]; exact h0

/-- The steps, one by one. -/
def StepsAll (F : Nat → Oper → Prop) : Nat → List Oper → Prop
  | _, [] => True
  | i, o :: l => F i o ∧ StepsAll F (i + 1) l
theorem StepsAll.at {F : Nat → Oper → Prop} : ∀ {l : List Oper} {k : Nat}, StepsAll F k l → ∀ i o, l[i]? = some o → F (k + i) o
  | [], _, _, i, o, h => by simp at h
  | p :: l, k, hs, 0, o, h => by simp at h; subst h; exact hs.1
  | p :: l, k, hs, i + 1, o, h => by
    have := StepsAll.at hs.2 i o (by simpa using h)
    rwa [show k + 1 + i = k + (i + 1) by omega] at this

/-- All that is known of the values. -/
def VsAll {E : World → World → Prop} : List (StV E) → (Nat → Value) → Nat → World → Prop
  | [], _, _, _ => True
  | V :: l, x, i, w => V.V (x i) w ∧ VsAll l x (i + 1) w
theorem VsAll.of {E : World → World → Prop} {x : Nat → Value} {w : World} : ∀ (n k : Nat) (Vs : List (StV E)), (∀ j, j < n → (Vs.getD j StV.any).V (x (k + j)) w) → VsAll (Vs.take n) x k w
  | 0, _, _, _ => by simp [VsAll]
  | _ + 1, _, [], _ => by simp [VsAll]
  | n + 1, k, V :: Vs, h => by
    rw [List.take_succ_cons]
    refine ⟨h 0 (by omega), VsAll.of n (k + 1) Vs fun j hj => ?_⟩
    have := h (j + 1) (by omega)
    rwa [show k + (j + 1) = k + 1 + j by omega] at this

/-- What one operation owes, where no effect is among them: J before, J behind. -/
def NeuStep (P : Program) (l : List Oper) (Q : Exit → Act → World → Prop) (a : Act) (D : List (List Nat)) (E : World → World → Prop) (Vs : List (StV E)) (J : World → Prop) (i : Nat) (o : Oper) : Prop :=
  ∀ x w, J w → (∀ j ∈ D.getD i [], (Vs.getD j StV.any).V (x j) w) →
    wpList P l.toArray (regPost Q (GoodAt (Vs.getD i StV.any).V E J o.dst (fillA l a x) w)) [o] (fillA l a x) w

theorem wp_region_neu {P : Program} {id : Nat} {l : List Oper} {Q : Exit → Act → World → Prop} {a : Act} {w : World}
    (D : List (List Nat)) (E : World → World → Prop) (Vs : List (StV E)) (J : World → Prop) (hm : P.follows .mixedOrders = true) (hok : regOk l D [] (l.map fun _ => [0]) = true) (h0 : J w.drew)
    (hstep : StepsAll (NeuStep P l Q a D E Vs J) 0 l)
    (hend : ∀ x w, J w → VsAll (Vs.take l.length) x 0 w → Q .normal (fillA l a x) w) :
    (Code.region id l.toArray true).wp P Q a w := by
  refine wp_region_all hm D [] (l.map fun _ => [0]) hok E Vs (fun _ => J) h0 (fun i o ho p _ x w hS hd => .inl ?_) (fun x w hJ h => hend x w hJ (VsAll.of _ 0 Vs fun j hj => by rw [Nat.zero_add]; exact h j hj))
  have := hstep.at i o ho
  rw [Nat.zero_add] at this
  exact this x w hS hd

/-- The steps, one by one, the last one apart. -/
def StepsLast (F G : Nat → Oper → Prop) : Nat → List Oper → Prop
  | _, [] => True
  | i, [o] => G i o
  | i, o :: l => F i o ∧ StepsLast F G (i + 1) l
theorem StepsLast.at {F G : Nat → Oper → Prop} : ∀ {l : List Oper} {k : Nat}, StepsLast F G k l → ∀ i o, l[i]? = some o → (i + 1 < l.length → F (k + i) o) ∧ (i + 1 = l.length → G (k + i) o)
  | [], _, _, i, o, h => by simp at h
  | [p], k, hs, 0, o, h => by simp at h; subst h; exact ⟨fun h => by simp at h, fun _ => hs⟩
  | [p], k, hs, i + 1, o, h => by simp at h
  | p :: q :: l, k, hs, 0, o, h => by simp at h; subst h; exact ⟨fun _ => hs.1, fun h => by simp at h⟩
  | p :: q :: l, k, hs, i + 1, o, h => by
    have := StepsLast.at (l := q :: l) hs.2 i o (by simpa using h)
    rw [show k + 1 + i = k + (i + 1) by omega] at this
    exact ⟨fun h => this.1 (by simp at h ⊢; omega), fun h => this.2 (by simp at h ⊢; omega)⟩

/-- What the last operation owes, which has all others ahead of it, and may do what it will. -/
def LastStep (P : Program) (l : List Oper) (Q : Exit → Act → World → Prop) (a : Act) (E : World → World → Prop) (Vs : List (StV E)) (J : World → Prop) (n : Nat) (o : Oper) : Prop :=
  ∀ x w, J w → VsAll (Vs.take n) x 0 w → wpList P l.toArray Q [o] (fillA l a x) w

def lastOk (l : List Oper) (D : List (List Nat)) : Bool :=
  regOk l D (List.replicate (l.length - 1) false ++ [true]) (l.map fun _ => [0]) && decide (0 < l.length) && (List.range (l.length - 1)).all fun k => (D.getD (l.length - 1) []).contains k

theorem wp_region_last {P : Program} {id : Nat} {l : List Oper} {Q : Exit → Act → World → Prop} {a : Act} {w : World}
    (D : List (List Nat)) (E : World → World → Prop) (Vs : List (StV E)) (J : World → Prop) (hm : P.follows .mixedOrders = true) (hok : lastOk l D = true) (h0 : J w.drew)
    (hstep : StepsLast (NeuStep P l Q a D E Vs J) (LastStep P l Q a E Vs J) 0 l) :
    (Code.region id l.toArray true).wp P Q a w := by
  unfold lastOk at hok
  simp only [Bool.and_eq_true, decide_eq_true_eq, List.all_eq_true, List.mem_range] at hok
  obtain ⟨⟨hok, hpos⟩, hl⟩ := hok
  refine wp_region_all hm D _ (l.map fun _ => [0]) hok E Vs (fun p w => p = 0 ∧ J w) ⟨rfl, h0⟩ (fun i o ho p hp x w hS hd => ?_) ?_
  · obtain ⟨rfl, hJ⟩ := hS
    have hil : i < l.length := (List.getElem?_eq_some_iff.1 ho).1
    have hs := hstep.at i o ho
    rw [Nat.zero_add] at hs
    by_cases hi : i + 1 = l.length
    · have hin : ∀ j, j < i → j ∈ D.getD i [] := fun j hj => by
        have := hl j (by omega)
        rw [← show i = l.length - 1 by omega] at this
        simpa using this
      exact .inr ⟨fun k hk hki => hin k (by omega), hs.2 hi x w hJ (VsAll.of _ 0 Vs fun j hj => by rw [Nat.zero_add]; exact hd j (hin j hj))⟩
    · refine .inl ?_
      have hc : (List.replicate (l.length - 1) false ++ [true]).getD i false = false := by
        simp [List.getD, List.getElem?_append_left, show i < l.length - 1 by omega]
      rw [hc]
      have := hs.1 (by omega) x w hJ hd
      simpa using this
  · rintro x w ⟨h, _⟩
    exfalso
    unfold cntL at h
    rw [List.countP_eq_zero] at h
    have := h (l.length - 1) (List.mem_range.2 (by omega))
    simp [List.getD] at this
#print axioms wp_region_neu
#print axioms wp_region_last
end Go.Proofs.Ytgdpahojinknmaa
