/-
  The law of XReg once more, wider: an operation's word may speak of the values of the operations it hangs on, and of the phase.
  Conditions: the closed checks regOk and ph3Ok.
-/
import Derived.Test.YtgdpahojinknmaaReg2
namespace Go.Proofs.Ytgdpahojinknmaa

section
variable {P : Program} {l : List Oper} {Q : Exit → Act → World → Prop} {a : Act}

theorem region_aux3 (D : List (List Nat)) (c : List Bool) (R : List (List Nat)) (hok : regOk l D c R = true)
    (V : Nat → Nat → (Nat → Value) → World → Prop) (E : Nat → Nat → World → World → Prop) (S : Nat → World → Prop) (hE : ∀ i p q x w w', E p q w w' → V i p x w → V i q x w')
    (hloc : ∀ i p x y w, (∀ j, j ∈ D.getD i [] ∨ j = i → x j = y j) → V i p x w → V i p y w)
    (hstep : ∀ i o, l[i]? = some o → ∀ p ∈ R.getD i [], ∀ x w, S p w → (∀ j ∈ D.getD i [], V j p x w) →
      wpList P l.toArray (regPost Q (GoodAt (fun v => V i (p + if c.getD i false then 1 else 0) (updX x i v)) (E p (p + if c.getD i false then 1 else 0)) (S (p + if c.getD i false then 1 else 0)) o.dst (fillA l a x) w)) [o] (fillA l a x) w ∨
      ((∀ k, k < l.length → k ≠ i → k ∈ D.getD i []) ∧ wpList P l.toArray Q [o] (fillA l a x) w))
    (hend : ∀ x w, S (cntL l.length c fun _ => true) w → (∀ i, i < l.length → V i (cntL l.length c fun _ => true) x w) → Q .normal (fillA l a x) w) :
    ∀ (fuel : Nat) (listed : Array Bool) (x : Nat → Value) (w : World), listed.size = l.length → (cntL l.length (listed.toList.map (!·)) fun _ => true) ≤ fuel →
      (∀ i o, l[i]? = some o → listed.getD i false = true → ∀ e ∈ o.after, Region.binds .any e = true → listed.getD e.on false = true) →
      (∀ i, listed.getD i false = true → V i (cntL l.length c fun k => listed.getD k false) x w) → S (cntL l.length c fun k => listed.getD k false) w →
      wpAny P .any l.toArray Q fuel listed (fillA l a x) w := by
  unfold regOk at hok
  simp only [Bool.and_eq_true, List.all_eq_true, List.mem_range] at hok
  obtain ⟨hd, hok⟩ := hok
  -- what is done is closed
  have hclosed : ∀ (listed : Array Bool), (∀ i o, l[i]? = some o → listed.getD i false = true → ∀ e ∈ o.after, Region.binds .any e = true → listed.getD e.on false = true) →
      ∀ n i o, i ≤ n → l[i]? = some o → (∀ e ∈ o.after, Region.binds .any e = true → listed.getD e.on false = true) → ∀ j ∈ D.getD i [], listed.getD j false = true := by
    intro listed hl n
    induction n with
    | zero =>
      intro i o hi ho hdir j hj
      obtain rfl : i = 0 := by omega
      have h0 := (hok 0 (by have := (List.getElem?_eq_some_iff.1 ho).1; omega)).1
      rw [ho] at h0
      simp only [Bool.and_eq_true, List.all_eq_true, Array.all_eq_true_iff_forall_mem, Bool.or_eq_true, Bool.not_eq_true', decide_eq_true_eq] at h0
      have := h0.2 j hj
      rw [Array.any_eq_true'] at this
      obtain ⟨e, he, hb⟩ := this
      simp only [Bool.and_eq_true] at hb
      have := h0.1 e he
      simp [hb.1] at this
    | succ n ih =>
      intro i o hi ho hdir j hj
      have hin := (List.getElem?_eq_some_iff.1 ho).1
      have h0 := (hok i hin).1
      rw [ho] at h0
      simp only [Bool.and_eq_true, List.all_eq_true, Array.all_eq_true_iff_forall_mem, Bool.or_eq_true, Bool.not_eq_true', decide_eq_true_eq] at h0
      have := h0.2 j hj
      rw [Array.any_eq_true'] at this
      obtain ⟨e, he, hb⟩ := this
      simp only [Bool.and_eq_true, Bool.or_eq_true, beq_iff_eq] at hb
      obtain ⟨hb, hj'⟩ := hb
      have hlt : e.on < i := (h0.1 e he).resolve_left (by simp [hb])
      have hon := hdir e he hb
      rcases hj' with rfl | hj'
      · exact hon
      · have hel : e.on < l.length := by omega
        exact ih e.on l[e.on] (by omega) (List.getElem?_eq_getElem hel) (hl e.on _ (List.getElem?_eq_getElem hel) hon) j (by simpa using hj')
  have hall : ∀ (listed : Array Bool), Region.ready .any l.toArray listed = [] → listed.size = l.length → ∀ n i, i < n → i < l.length → listed.getD i false = true := by
    intro listed hr hs n
    induction n with
    | zero => intro i hi; omega
    | succ n ih =>
      intro i hi hil
      have ho : l[i]? = some l[i] := List.getElem?_eq_getElem hil
      have h0 := (hok i hil).1
      rw [ho] at h0
      simp only [Bool.and_eq_true, Array.all_eq_true_iff_forall_mem, Bool.or_eq_true, Bool.not_eq_true', decide_eq_true_eq] at h0
      cases hg : listed.getD i false with
      | true => rfl
      | false =>
        exfalso
        have hm : i ∈ Region.ready .any l.toArray listed := by
          rw [mem_ready]
          refine ⟨?_, l[i], by simp [hil], fun e he hb => ?_⟩
          · have hi2 : i < listed.size := by omega
            simp [hi2] at hg ⊢
            exact hg
          · have hlt := (h0.1 e he).resolve_left (by simp [hb])
            exact ih e.on (by omega) (by omega)
        rw [hr] at hm
        simp at hm
  have hdone : ∀ (listed : Array Bool) (x : Nat → Value) (w : World), listed.size = l.length → Region.ready .any l.toArray listed = [] →
      (∀ i, listed.getD i false = true → V i (cntL l.length c fun k => listed.getD k false) x w) → S (cntL l.length c fun k => listed.getD k false) w → Q .normal (fillA l a x) w := by
    intro listed x w hs hr hv hS
    have ha := hall listed hr hs l.length
    have : cntL l.length c (fun k => listed.getD k false) = cntL l.length c fun _ => true := by
      unfold cntL
      refine List.countP_congr fun k hk => ?_
      have hk' := List.mem_range.1 hk
      have := ha k hk' hk'
      simp only [this]
    rw [this] at hS hv
    exact hend x w hS fun i hi => hv i (ha i hi hi)
  intro fuel
  induction fuel with
  | zero =>
    intro listed x w hs hf hcl hv hS
    have hall' : ∀ i, i < l.length → listed.getD i false = true := by
      intro i hi
      have hc0 : (cntL l.length (listed.toList.map (!·)) fun _ => true) = 0 := by omega
      unfold cntL at hc0
      rw [List.countP_eq_zero] at hc0
      have := hc0 i (List.mem_range.2 hi)
      have hi2 : i < listed.size := by omega
      simp [hi2, List.getD] at this
      simpa [hi2] using this
    have hr : Region.ready .any l.toArray listed = [] := by
      apply List.eq_nil_iff_forall_not_mem.2
      intro i hi
      obtain ⟨h1, o, ho, _⟩ := mem_ready.1 hi
      have hil : i < l.length := by
        have := (Array.getElem?_eq_some_iff.1 ho).1; simpa using this
      have := hall' i hil
      have hi2 : i < listed.size := by omega
      simp [hi2] at h1 this
      rw [h1] at this; exact absurd this (by simp)
    exact ⟨hr, hdone listed x w hs hr hv hS⟩
  | succ fuel ih =>
    intro listed x w hs hf hcl hv hS
    refine ⟨fun hr => hdone listed x w hs hr hv hS, fun i hi => ?_⟩
    obtain ⟨hnl, o, ho', hdir⟩ := mem_ready.1 hi
    have ho : l[i]? = some o := by simpa using ho'
    have hil : i < l.length := (List.getElem?_eq_some_iff.1 ho).1
    have hi2 : i < listed.size := by omega
    have hnl' : listed.getD i false = false := by simp [hi2] at hnl ⊢; exact hnl
    have hD := hclosed listed hcl i i o (Nat.le_refl _) ho hdir
    -- the phase
    have hp : cntL l.length c (fun k => listed.getD k false) ∈ R.getD i [] := by
      have h0 := (hok i hil).2 (cntL l.length c fun k => listed.getD k false) (by
        refine Nat.lt_succ_of_le (List.countP_mono_left fun k hk hh => ?_)
        simp only [Bool.and_eq_true, Bool.not_eq_true', beq_eq_false_iff_ne, ne_eq] at hh ⊢
        refine ⟨hh.1, ?_, ?_⟩
        · rintro rfl; rw [hnl'] at hh; exact absurd hh.2 (by simp)
        · have hkl : k < l.length := List.mem_range.1 hk
          have := hclosed listed hcl k k l[k] (Nat.le_refl _) (List.getElem?_eq_getElem hkl) (hcl k _ (List.getElem?_eq_getElem hkl) hh.2)
          cases hci : (D.getD k []).contains i with
          | false => rfl
          | true =>
            have := this i (by simpa using hci)
            rw [hnl'] at this; exact absurd this (by simp))
      simp only [Bool.or_eq_true, decide_eq_true_eq] at h0
      rcases h0 with h0 | h0
      · exfalso
        have : cntL l.length c (fun k => (D.getD i []).contains k) ≤ cntL l.length c fun k => listed.getD k false :=
          List.countP_mono_left fun k _ hh => by
            simp only [Bool.and_eq_true] at hh ⊢
            exact ⟨hh.1, hD k (by simpa using hh.2)⟩
        omega
      · simpa using h0
    rcases hstep i o ho _ hp x w hS fun j hj => hv j (hD j hj) with hst | ⟨hlast, hst⟩
    case inr =>
      refine wpOp_last ho' (fun a' w' hq => wpAny_done ?_ hq _) hst
      apply List.eq_nil_iff_forall_not_mem.2
      intro k hk
      obtain ⟨h1, ok, hok', _⟩ := mem_ready.1 hk
      have hkl : k < l.length := by
        have := (Array.getElem?_eq_some_iff.1 hok').1; simpa using this
      by_cases hki : k = i
      · subst hki; simp [hi2] at h1
      · have := hD k (hlast k hkl hki)
        rw [getD_set_ne true (Ne.symm hki)] at h1
        have hk2 : k < listed.size := by omega
        simp [hk2] at h1 this
        rw [h1] at this; exact absurd this (by simp)
    refine wpOp_of_list ho' (fun a' w' hg => ?_) hst
    obtain ⟨⟨v, rfl, hVi⟩, hE', hS'⟩ := hg
    rw [fillA_put hd a x i o v ho]
    have hget : ∀ k, (listed.setIfInBounds i true).getD k false = if k = i then true else listed.getD k false := by
      intro k
      by_cases hk : k = i
      · subst hk; simp [hi2]
      · rw [if_neg hk, getD_set_ne false (Ne.symm hk)]
    have hcnt : cntL l.length c (fun k => (listed.setIfInBounds i true).getD k false) = cntL l.length c (fun k => listed.getD k false) + if c.getD i false then 1 else 0 := by
      unfold cntL
      have hm : i ∈ List.range l.length := List.mem_range.2 hil
      obtain ⟨s, t, hst⟩ := List.append_of_mem hm
      have hnd : (s ++ i :: t).Nodup := hst ▸ List.nodup_range
      have hns : ∀ k ∈ s, k ≠ i := fun k hk => by
        rintro rfl
        exact (List.nodup_append.1 hnd).2.2 k hk k (by simp) rfl
      have hnt : ∀ k ∈ t, k ≠ i := fun k hk => by
        rintro rfl
        exact (List.nodup_cons.1 (List.nodup_append.1 hnd).2.1).1 hk
      rw [hst, List.countP_append, List.countP_append, List.countP_cons, List.countP_cons]
      have e1 : ∀ (u : List Nat), (∀ k ∈ u, k ≠ i) → u.countP (fun k => c.getD k false && (listed.setIfInBounds i true).getD k false) = u.countP (fun k => c.getD k false && listed.getD k false) := by
        intro u hu
        refine List.countP_congr fun k hk => ?_
        rw [hget, if_neg (hu k hk)]
      have hgi := hget i
      rw [if_pos rfl] at hgi
      rw [e1 s hns, e1 t hnt]
      simp only [hgi, hnl']
      cases c.getD i false <;> simp <;> omega
    refine ih (listed.setIfInBounds i true) (updX x i v) w' (by simpa using hs) ?_ ?_ ?_ ?_
    · -- fewer are left
      have hle : (cntL l.length ((listed.setIfInBounds i true).toList.map (!·)) fun _ => true) < cntL l.length (listed.toList.map (!·)) fun _ => true := by
        unfold cntL
        have hm : i ∈ List.range l.length := List.mem_range.2 hil
        obtain ⟨s, t, hst⟩ := List.append_of_mem hm
        rw [hst, List.countP_append, List.countP_append, List.countP_cons, List.countP_cons]
        have e1 : ∀ (u : List Nat), (∀ k ∈ u, k < l.length) → u.countP (fun k => ((listed.setIfInBounds i true).toList.map (!·)).getD k false && true) ≤ u.countP (fun k => (listed.toList.map (!·)).getD k false && true) := by
          intro u hu
          refine List.countP_mono_left fun k hk hh => ?_
          have hkl := hu k hk
          have hk2 : k < listed.size := by omega
          have g := hget k
          by_cases hki : k = i
          · subst hki; simp [List.getD, hk2] at hh
          · simp [List.getD, hk2, Ne.symm hki] at hh ⊢
            exact hh
        have hs1 := e1 s (fun k hk => List.mem_range.1 (hst ▸ List.mem_append_left _ hk))
        have ht1 := e1 t (fun k hk => List.mem_range.1 (hst ▸ List.mem_append_right _ (List.mem_cons_of_mem _ hk)))
        have hi0 : ((listed.toList.map (!·)).getD i false && true) = true := by
          simp [hi2] at hnl'
          simp [List.getD, hi2, hnl']
        have hi1 : (((listed.setIfInBounds i true).toList.map (!·)).getD i false && true) = false := by
          simp [List.getD, hi2]
        rw [hi0, hi1]
        simp only [if_true, Bool.false_eq_true, if_false]
        omega
      omega
    · intro k ok hk hlk e he hb
      rw [hget] at hlk ⊢
      split
      · rfl
      · by_cases hki : k = i
        · subst hki
          rw [ho] at hk
          cases hk
          exact hdir e he hb
        · rw [if_neg hki] at hlk
          exact hcl k ok hk hlk e he hb
    · intro k hk
      rw [hget] at hk
      by_cases hki : k = i
      · subst hki; rw [hcnt]; exact hVi
      · rw [if_neg hki] at hk
        have := hE k _ _ _ _ _ hE' (hv k hk)
        rw [hcnt]
        refine hloc k _ _ _ _ (fun j hj => ?_) this
        have hji : j ≠ i := by
          rintro rfl
          rcases hj with hj | hj
          · have hkl : k < l.length := by
              apply Nat.lt_of_not_le
              intro hge
              have : listed.size ≤ k := by omega
              simp [this] at hk
            have := hclosed listed hcl k k l[k] (Nat.le_refl _) (List.getElem?_eq_getElem hkl) (hcl k _ (List.getElem?_eq_getElem hkl) hk) j hj
            rw [hnl'] at this; exact absurd this (by simp)
          · exact hki hj.symm
        simp [updX, hji]
    · rw [hcnt]
      exact hS'

end

/-- A word on an operation's value, which every later world keeps; it may speak of other values (refs), and of the phase. -/
structure StR (E : Nat → Nat → World → World → Prop) where
  refs : List Nat
  V : Nat → Value → List Value → World → Prop
  h : ∀ p q v r w w', E p q w w' → V p v r w → V q v r w'
def StR.any {E : Nat → Nat → World → World → Prop} : StR E := ⟨[], fun _ _ _ _ => True, fun _ _ _ _ _ _ _ _ => trivial⟩
def eqr {E : Nat → Nat → World → World → Prop} (c : Value) : StR E := ⟨[], fun _ v _ _ => v = c, fun _ _ _ _ _ _ _ h => h⟩
def StR.on {E : Nat → Nat → World → World → Prop} (s : StR E) (x : Nat → Value) (i p : Nat) (w : World) : Prop := s.V p (x i) (s.refs.map x) w

def RsAll {E : Nat → Nat → World → World → Prop} : List (StR E) → (Nat → Value) → Nat → Nat → World → Prop
  | [], _, _, _, _ => True
  | V :: l, x, i, p, w => V.V p (x i) (V.refs.map x) w ∧ RsAll l x (i + 1) p w
theorem RsAll.of {E : Nat → Nat → World → World → Prop} {x : Nat → Value} {p : Nat} {w : World} : ∀ (n k : Nat) (Vs : List (StR E)), (∀ j, j < n → (Vs.getD j StR.any).on x (k + j) p w) → RsAll (Vs.take n) x k p w
  | 0, _, _, _ => by simp [RsAll]
  | _ + 1, _, [], _ => by simp [RsAll]
  | n + 1, k, V :: Vs, h => by
    rw [List.take_succ_cons]
    refine ⟨h 0 (by omega), RsAll.of n (k + 1) Vs fun j hj => ?_⟩
    have := h (j + 1) (by omega)
    rwa [show k + (j + 1) = k + 1 + j by omega] at this

def R3Step (P : Program) (l : List Oper) (Q : Exit → Act → World → Prop) (a : Act) (D : List (List Nat)) (c : List Bool) (R : List (List Nat)) (E : Nat → Nat → World → World → Prop) (Vs : List (StR E)) (S : Nat → World → Prop) (i : Nat) (o : Oper) : Prop :=
  ∀ p ∈ R.getD i [], ∀ x w, S p w → (∀ j ∈ D.getD i [], (Vs.getD j StR.any).V p (x j) ((Vs.getD j StR.any).refs.map x) w) →
    wpList P l.toArray (regPost Q (GoodAt (fun v => (Vs.getD i StR.any).V (p + if c.getD i false then 1 else 0) v ((Vs.getD i StR.any).refs.map x)) (E p (p + if c.getD i false then 1 else 0)) (S (p + if c.getD i false then 1 else 0)) o.dst (fillA l a x) w)) [o] (fillA l a x) w

def R3Last (P : Program) (l : List Oper) (Q : Exit → Act → World → Prop) (a : Act) (E : Nat → Nat → World → World → Prop) (Vs : List (StR E)) (tot : Nat) (J : World → Prop) (n : Nat) (o : Oper) : Prop :=
  ∀ x w, J w → RsAll (Vs.take n) x 0 tot w → wpList P l.toArray Q [o] (fillA l a x) w

def r3Ok (l : List Oper) (D : List (List Nat)) (c : List Bool) (R : List (List Nat)) (Rf : List (List Nat)) (tot : Nat) : Bool :=
  regOk l D c R && decide (0 < l.length) && ((List.range (l.length - 1)).all fun k => (D.getD (l.length - 1) []).contains k) &&
    (R.getD (l.length - 1) [] == [tot]) && decide (cntL l.length c (fun _ => true) = tot + 1) &&
    ((List.range (l.length - 1)).all fun i => (R.getD i []).all fun p => decide (p + (if c.getD i false then 1 else 0) ≤ tot)) &&
    ((List.range Rf.length).all fun i => (Rf.getD i []).all fun j => (D.getD i []).contains j && decide (j < i))

theorem wp_region_3 {P : Program} {id : Nat} {l : List Oper} {Q : Exit → Act → World → Prop} {a : Act} {w : World}
    (D : List (List Nat)) (c : List Bool) (R : List (List Nat)) (tot : Nat) (E : Nat → Nat → World → World → Prop) (Vs : List (StR E)) (S : Nat → World → Prop) (hm : P.follows .mixedOrders = true) (Rf : List (List Nat)) (hrf : Vs.map StR.refs = Rf) (hok : r3Ok l D c R Rf tot = true) (h0 : S 0 w.drew)
    (hstep : StepsLast (R3Step P l Q a D c R E Vs S) (R3Last P l Q a E Vs tot (S tot)) 0 l) :
    (Code.region id l.toArray true).wp P Q a w := by
  unfold r3Ok at hok
  simp only [Bool.and_eq_true, decide_eq_true_eq, List.all_eq_true, List.mem_range, beq_iff_eq] at hok
  obtain ⟨⟨⟨⟨⟨⟨hok, hpos⟩, hl⟩, hR⟩, hc⟩, hle⟩, hrefs⟩ := hok
  have href : ∀ i, ∀ j ∈ (Vs.getD i StR.any).refs, j ∈ D.getD i [] ∧ j < i := by
    intro i j hj
    by_cases hi : i < Vs.length
    · have h1 : Rf.getD i [] = (Vs.getD i StR.any).refs := by rw [← hrf]; simp [List.getD, hi]
      have h2 := hrefs i (by rw [← hrf]; simpa using hi)
      rw [h1] at h2
      simpa using h2 j hj
    · have : Vs.getD i StR.any = StR.any := by simp [List.getD, List.getElem?_eq_none (Nat.le_of_not_lt hi)]
      rw [this] at hj
      simp [StR.any] at hj
  refine Go.wp_region_any hm ?_
  have hinit : fillA l a (iniX l a.tmps) = a := fillA_ini l a
  rw [← hinit]
  have hrep : ∀ k, (Array.replicate l.toArray.size false).getD k false = false := by
    intro k
    by_cases hk : k < l.length <;> simp [hk]
  have hz : cntL l.length c (fun k => (Array.replicate l.toArray.size false).getD k false) = 0 := by
    unfold cntL
    rw [List.countP_eq_zero]
    intro k _
    have := hrep k
    simp only [this]; simp
  refine region_aux3 D c R hok (fun i p x w => (Vs.getD i StR.any).on x i p w) E (fun p w => p ≤ tot ∧ S p w) (fun i p q x w w' he hv => (Vs.getD i StR.any).h _ _ _ _ w w' he hv) ?_ (fun i o ho p hp x w hS hd => ?_) ?_ _ _ _ _ (by simp) ?_ ?_ ?_ ?_
  · intro i p x y w hxy hv
    unfold StR.on at hv ⊢
    have h1 := hxy i (.inr rfl)
    have h2 : (Vs.getD i StR.any).refs.map x = (Vs.getD i StR.any).refs.map y := List.map_congr_left fun j hj => hxy j (.inl (href i j hj).1)
    rw [← h1, ← h2]
    exact hv
  · obtain ⟨_, hJ⟩ := hS
    have hil : i < l.length := (List.getElem?_eq_some_iff.1 ho).1
    have hs := hstep.at i o ho
    rw [Nat.zero_add] at hs
    by_cases hi : i + 1 = l.length
    · have hin : ∀ j, j < i → j ∈ D.getD i [] := fun j hj => by
        have := hl j (by omega)
        rw [← show i = l.length - 1 by omega] at this
        simpa using this
      rw [← show i = l.length - 1 by omega] at hR
      rw [hR] at hp
      obtain rfl : p = tot := by simpa using hp
      exact .inr ⟨fun k hk hki => hin k (by omega), hs.2 hi x w hJ (RsAll.of _ 0 Vs fun j hj => by rw [Nat.zero_add]; exact hd j (hin j hj))⟩
    · refine .inl ?_
      have h2 := hs.1 (by omega) p hp x w hJ hd
      have h3 := hle i (by omega) p hp
      refine wp_region_ph.wpList_good ?_ h2
      rintro a' w' ⟨⟨v, ha, hv⟩, he, hs'⟩
      refine ⟨⟨v, ha, ?_⟩, he, h3, hs'⟩
      unfold StR.on
      have e1 : updX x i v i = v := by simp [updX]
      have e2 : (Vs.getD i StR.any).refs.map (updX x i v) = (Vs.getD i StR.any).refs.map x := List.map_congr_left fun j hj => by
        have := (href i j hj).2
        simp [updX, show j ≠ i by omega]
      rw [e1, e2]
      exact hv
  · rintro x w ⟨h, _⟩
    omega
  · unfold cntL
    refine Nat.le_trans (List.countP_le_length) ?_
    simp
  · intro i o _ h; rw [hrep] at h; simp at h
  · intro i h; rw [hrep] at h; simp at h
  · rw [hz]; exact ⟨Nat.zero_le _, h0⟩
#print axioms wp_region_3
end Go.Proofs.Ytgdpahojinknmaa
