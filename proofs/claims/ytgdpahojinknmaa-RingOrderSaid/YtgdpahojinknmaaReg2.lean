/-
  The law of XReg for a region with effects on the way: phases; the last operation may do what it will.
  Conditions: the closed check phOk.
-/
import Derived.Test.YtgdpahojinknmaaReg
namespace Go.Proofs.Ytgdpahojinknmaa

def PhStep (P : Program) (l : List Oper) (Q : Exit → Act → World → Prop) (a : Act) (D : List (List Nat)) (c : List Bool) (R : List (List Nat)) (E : World → World → Prop) (Vs : List (StV E)) (S : Nat → World → Prop) (i : Nat) (o : Oper) : Prop :=
  ∀ p ∈ R.getD i [], ∀ x w, S p w → (∀ j ∈ D.getD i [], (Vs.getD j StV.any).V (x j) w) →
    wpList P l.toArray (regPost Q (GoodAt (Vs.getD i StV.any).V E (S (p + if c.getD i false then 1 else 0)) o.dst (fillA l a x) w)) [o] (fillA l a x) w

def PhLast (P : Program) (l : List Oper) (Q : Exit → Act → World → Prop) (a : Act) (E : World → World → Prop) (Vs : List (StV E)) (J : World → Prop) (n : Nat) (o : Oper) : Prop :=
  ∀ x w, J w → VsAll (Vs.take n) x 0 w → wpList P l.toArray Q [o] (fillA l a x) w

def phOk (l : List Oper) (D : List (List Nat)) (c : List Bool) (R : List (List Nat)) (tot : Nat) : Bool :=
  regOk l D c R && decide (0 < l.length) && ((List.range (l.length - 1)).all fun k => (D.getD (l.length - 1) []).contains k) &&
    (R.getD (l.length - 1) [] == [tot]) && decide (cntL l.length c (fun _ => true) = tot + 1) &&
    ((List.range (l.length - 1)).all fun i => (R.getD i []).all fun p => decide (p + (if c.getD i false then 1 else 0) ≤ tot))

theorem wp_region_ph {P : Program} {id : Nat} {l : List Oper} {Q : Exit → Act → World → Prop} {a : Act} {w : World}
    (D : List (List Nat)) (c : List Bool) (R : List (List Nat)) (tot : Nat) (E : World → World → Prop) (Vs : List (StV E)) (S : Nat → World → Prop) (hm : P.follows .mixedOrders = true) (hok : phOk l D c R tot = true) (h0 : S 0 w.drew)
    (hstep : StepsLast (PhStep P l Q a D c R E Vs S) (PhLast P l Q a E Vs (S tot)) 0 l) :
    (Code.region id l.toArray true).wp P Q a w := by
  unfold phOk at hok
  simp only [Bool.and_eq_true, decide_eq_true_eq, List.all_eq_true, List.mem_range, beq_iff_eq] at hok
  obtain ⟨⟨⟨⟨⟨hok, hpos⟩, hl⟩, hR⟩, hc⟩, hle⟩ := hok
  refine wp_region_all hm D c R hok E Vs (fun p w => p ≤ tot ∧ S p w) ⟨Nat.zero_le _, h0⟩ (fun i o ho p hp x w hS hd => ?_) ?_
  · obtain ⟨_, hJ⟩ := hS
    have hil : i < l.length := (List.getElem?_eq_some_iff.1 ho).1
    have hs := hstep.at i o ho
    rw [Nat.zero_add] at hs
    by_cases hi : i + 1 = l.length
    · have hin : ∀ j, j < i → j ∈ D.getD i [] := fun j hj => by
        have := hl j (by omega)
        rw [← show i = l.length - 1 by omega] at this
        simpa using this
      rw [← show i = l.length - 1 by omega] at hR
      rw [hR] at hp
      obtain rfl : p = tot := by simpa using hp
      exact .inr ⟨fun k hk hki => hin k (by omega), hs.2 hi x w hJ (VsAll.of _ 0 Vs fun j hj => by rw [Nat.zero_add]; exact hd j (hin j hj))⟩
    · refine .inl ?_
      have h2 := hs.1 (by omega) p hp x w hJ hd
      have h3 := hle i (by omega) p hp
      refine wpList_good ?_ h2
      rintro a' w' ⟨hv, he, hs'⟩
      exact ⟨hv, he, h3, hs'⟩
  · rintro x w ⟨h, _⟩
    omega
where
  wpList_good {P : Program} {ops : Array Oper} {Q : Exit → Act → World → Prop} {g g' : Act → World → Prop} {o : Oper} {a : Act} {w : World} (hg : ∀ a w, g a w → g' a w)
      (h : wpList P ops (regPost Q g) [o] a w) : wpList P ops (regPost Q g') [o] a w := by
    unfold wpList at h ⊢
    split
    · rename_i hw
      rw [if_pos hw] at h
      rcases h with h | h
      · refine .inl ?_
        unfold Oper.wp at *
        generalize (execOp a.eval o).run P w = r at *
        cases r with
        | ok n w' =>
          cases n <;> simp only [Oper.upon] at h ⊢ <;>
            first
              | exact hg _ _ h
              | exact Calls.mono h (fun e w'' he => by cases e <;> first | exact hg _ _ he | exact he)
              | exact Rows.mono h (fun _ _ he => hg _ _ he)
        | halt x w' => cases x <;> simp only [Oper.upon] at h ⊢ <;> exact h
      · exact .inr h
    · rename_i hw
      rw [if_neg hw] at h
      exact hg _ _ h
#print axioms wp_region_ph
end Go.Proofs.Ytgdpahojinknmaa
