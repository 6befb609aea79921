/- The small machine's logic, twelfth text: a slice of no length compared with nil; what is reached from arguments. -/
import Derived.Test.YtdbjloigfkckfaaGreatDoorHd11
namespace Go.Proofs.YtdbjloigfkckfaaGreatDoor.Vm
open Go.RowKit
set_option linter.unusedVariables false
set_option linter.unusedSimpArgs false

/- Blocks that are reached from arguments, through blocks whose cells may bear addresses. -/
def reachN (P : Program) (g : Nat → Option VObj) : Nat → List Nat → List Nat
  | 0, l => l
  | d + 1, l => reachN P g d (dedup (l ++ (l.map fun x => match g x with
    | some (.cells c el _) => match scalT P el with
      | true => []
      | false => (c.map (blkV 6)).flatten
    | _ => []).flatten) [])
def namesR (P : Program) (args : List Value) (g : Nat → Option VObj) : Option (List Nat) := some (reachN P g 6 (dedup ((args.map (blkV 6)).flatten) []))
def Sum.ofR (P : Program) (g : List Value → List VObj → Option (Bool × CRes × List VObj)) : Sum := ⟨namesR P, (Sum.of g).spec⟩
theorem FnOk.ofR {P : Program} {f : FuncId} {g : List Value → List VObj → Option (Bool × CRes × List VObj)} (h : ∀ a o r o', g a o = some (true, r, o') → FnT P f a o fun r' o'' => r' = r ∧ o'' = o') : FnOk P f (Sum.ofR P g) :=
  fun a o r o' hs => FnOk.of h a o r o' hs

/-- Is a slice nil? -/
structure NilAsk where
  x : Nat
  d1 : Nat
  d2 : Nat
  ty : TypeId
def nilAsk : List Code → Option NilAsk
  | .region _ ops false :: _ => match ops.toList with
    | [o1, o2] => match o1.op, o1.dst, o1.guard, o2.op, o2.dst, o2.guard with
      | .move (.tmp x), some d1, none, .binOp .eql ty (.tmp y) (.const (.slice none 0 0)) _, some d2, none => match Nat.beq y d1 && !Nat.beq d1 d2 with
        | true => some ⟨x, d1, d2, ty⟩
        | false => none
      | _, _, _, _, _, _ => none
    | _ => none
  | _ => none

theorem nilAsk_some {l : List Code} {N : NilAsk} (h : nilAsk l = some N) : ∃ id o1 o2 rest yt, l = .region id #[o1, o2] false :: rest ∧ o1.op = .move (.tmp N.x) ∧ o1.dst = some N.d1 ∧ o1.guard = none ∧
    o2.op = .binOp .eql N.ty (.tmp N.d1) (.const (.slice none 0 0)) yt ∧ o2.dst = some N.d2 ∧ o2.guard = none ∧ N.d1 ≠ N.d2 := by
  unfold nilAsk at h
  split at h
  · rename_i id ops rest
    split at h
    · rename_i o1 o2 hops
      split at h
      · rename_i x d1 ty y yt d2 h1 h2 h3 h4 h5 h6
        split at h
        · rename_i hb
          cases h
          simp only [Bool.and_eq_true, Bool.not_eq_true'] at hb
          have hy := Nat.eq_of_beq_eq_true hb.1
          subst hy
          refine ⟨id, o1, o2, rest, yt, ?_, h1, h2, h3, h4, h5, h6, fun e => ?_⟩
          · rw [show ops = #[o1, o2] by rw [← Array.toArray_toList (xs := ops), hops]]
          · dsimp only at e; rw [e, Nat.beq_refl] at hb; cases hb.2
        · cases h
      · cases h
    · cases h
  · cases h

theorem VR.empty_inv {ρ : Ren} {a : Addr} {v : Value} (h : VR ρ (.slice (some a) 0 0) v) : ∃ a' c', v = .slice a' 0 c' := by
  cases h with
  | scal _ h => cases h
  | sl b off _ _ cap' r h hc => exact ⟨_, _, rfl⟩
  | slE _ a' => exact ⟨_, _, rfl⟩

theorem run_nilEq {P : Program} {ty el : TypeId} (ht : P.underlying ty = some (.slice el)) (a' : Option Addr) (c' : Nat) (x y : Operand) (w : World) :
    ∃ b, ((do eqGuard .eql ty x y (.slice a' 0 c') (.slice none 0 0); binOp .eql ty (.slice a' 0 c') (.slice none 0 0)) : Sem Value).run P w = .ok (.bool b) w := by
  cases a' with
  | none => exact ⟨true, by
      show (Sem.run P (do let r ← Op.equal ty (.slice none 0 c') (.slice none 0 0); (pure (Value.bool r) : Sem Value)) w) = _
      obtain ⟨dd, hdd⟩ : ∃ dd, Op.maxDepth = dd + 1 := ⟨_, rfl⟩
      unfold Op.equal
      rw [hdd]
      unfold Op.equalIn
      simp only [Sem.run_bind, Vm.run_underlying ht, Result.andThen_ok]
      rfl⟩
  | some a => exact ⟨false, by
      show (Sem.run P (do let r ← Op.equal ty (.slice (some a) 0 c') (.slice none 0 0); (pure (Value.bool r) : Sem Value)) w) = _
      obtain ⟨dd, hdd⟩ : ∃ dd, Op.maxDepth = dd + 1 := ⟨_, rfl⟩
      unfold Op.equal
      rw [hdd]
      unfold Op.equalIn
      simp only [Sem.run_bind, Vm.run_underlying ht, Result.andThen_ok]
      rfl⟩

theorem TriL.eqNil {P : Program} {n k : Nat} {l : List Code} {d : Desc} {Q : VEx → Desc → Prop} (N : NilAsk) (el : TypeId) (a : Addr) (hl : nilAsk l = some N) (ht : P.underlying N.ty = some (.slice el))
    (hx : slotOf d.sl N.x = some (.slice (some a) 0 0)) (hc : (nodupB (d.sl.map (·.1)) && d.sl.all (fun p => Nat.blt p.1 n && (!Nat.beq p.1 N.d1 && !Nat.beq p.1 N.d2)) && (Nat.blt N.d1 n && Nat.blt N.d2 n)) = true)
    (h : ∀ b, TriL P n k l.tail ⟨d.sl ++ [(N.d2, .bool b)], d.objs⟩ Q) : TriL P n k l d Q := by
  obtain ⟨id, o1, o2, rest, yt, rfl, h1, h2, h3, h4, h5, h6, h7⟩ := nilAsk_some hl
  simp only [Bool.and_eq_true] at hc
  obtain ⟨⟨c1, c2⟩, c3, c4⟩ := hc
  intro X hn hk ac w hd
  subst hn hk
  obtain ⟨ρ, u, hd⟩ := hd
  have hsz : ac.tmps.size = X.n := by have := hd.fr.size; rw [this]; unfold frU valsU; simp [foldset_len]
  have hsm : X.n ≤ 1024 := by have := hd.fr.small; unfold frU valsU at this; simpa [foldset_len] using this
  have hat : ∀ p ∈ d.sl, VR ρ p.2 (ac.tmps.getD p.1 undef) := fun p hp => by
    have h8 := hd.fr.at_ p.1
    have := List.all_eq_true.1 c2 p hp
    simp only [Bool.and_eq_true] at this
    rwa [frU_at hsm (blt_iff.1 this.1) (slotOf_nodup c1 p hp)] at h8
  have hxm : ∃ p ∈ d.sl, p.1 = N.x ∧ p.2 = .slice (some a) 0 0 := by
    have key : ∀ (l : List (Nat × Value)) (v : Value), slotOf l N.x = some v → ∃ p ∈ l, p.1 = N.x ∧ p.2 = v := by
      intro l
      induction l with
      | nil => intro v h; cases h
      | cons p l ih =>
        intro v h
        unfold slotOf at h
        split at h
        · rename_i v' hv
          cases h
          obtain ⟨q, h1, h2⟩ := ih _ hv
          exact ⟨q, List.mem_cons_of_mem _ h1, h2⟩
        · split at h
          · rename_i hb; cases h; exact ⟨p, List.mem_cons_self, Nat.eq_of_beq_eq_true hb, rfl⟩
          · cases h
    exact key _ _ hx
  obtain ⟨p, hp, hp1, hp2⟩ := hxm
  have hv := hat p hp
  rw [hp1, hp2] at hv
  obtain ⟨a', c', hv'⟩ := hv.empty_inv
  rw [hv'] at hv
  refine wp_region ?_
  show wpOps P #[o1, o2] _ [0, 1] ac w
  have w1 : ∀ t, Region.wanted o1 t = true := fun t => by unfold Region.wanted; rw [h3]
  have w2 : ∀ t, Region.wanted o2 t = true := fun t => by unfold Region.wanted; rw [h6]
  unfold wpOps
  simp only [List.getElem?_toArray, List.getElem?_cons_zero, w1, if_true]
  left
  unfold Oper.wp
  have e1 : (execOp ac.eval o1).run P w = .ok (.value (.slice a' 0 c')) w := by
    unfold execOp
    rw [h1]
    show Sem.run P (pure (Next.value (ac.eval (.tmp N.x))) : Sem Next) w = _
    rw [show ac.eval (.tmp N.x) = .slice a' 0 c' from hv']
    rfl
  rw [e1]
  show wpOps P #[o1, o2] _ [1] (ac.put o1.dst (.slice a' 0 c')) w
  unfold wpOps
  simp only [List.getElem?_toArray, List.getElem?_cons_succ, List.getElem?_cons_zero, w2, if_true]
  left
  unfold Oper.wp
  rw [h2]
  obtain ⟨b, hb⟩ := run_nilEq ht a' c' (.tmp N.d1) (.const (.slice none 0 0)) w
  have hd1 : N.d1 < ac.tmps.size := by rw [hsz]; exact blt_iff.1 c3
  have e2 : (execOp (ac.put (some N.d1) (.slice a' 0 c')).eval o2).run P w = .ok (.value (.bool b)) w := by
    unfold execOp
    rw [h4]
    have ev1 : (ac.put (some N.d1) (.slice a' 0 c')).eval (.tmp N.d1) = .slice a' 0 c' := by
      show (ac.tmps.setIfInBounds N.d1 (.slice a' 0 c')).getD N.d1 undef = _
      simp only [Array.getD_eq_getD_getElem?, Array.getElem?_setIfInBounds_self, hd1, if_true, Option.getD_some]
    have ev2 : (ac.put (some N.d1) (.slice a' 0 c')).eval (.const (.slice none 0 0)) = .slice none 0 0 := rfl
    simp only [ev1, ev2]
    rw [Sem.run_bind, hb]
    rfl
  rw [e2]
  have key : Holds P X ⟨d.sl ++ [(N.d2, .bool b)], d.objs⟩ ((ac.put (some N.d1) (.slice a' 0 c')).put o2.dst (.bool b)) w := ?_
  · exact h b X rfl rfl _ w key
  rw [h5]
  have hfr : ∃ u', FR ρ (frU X.n u' (d.sl ++ [(N.d2, .bool b)])) ((ac.put (some N.d1) (.slice a' 0 c')).put (some N.d2) (.bool b)) := by
    have hput1 : Vm.put (frU X.n u d.sl) (some N.d1) (.slice (some a) 0 0) = some { (frU X.n u d.sl) with t := (frU X.n u d.sl).t.set 10 N.d1 (.slice (some a) 0 0) } := by
      simp only [Vm.put, Fr.set_eq]
      have : Nat.blt N.d1 (frU X.n u d.sl).n = true := by
        have : (frU X.n u d.sl).n = X.n := by unfold frU valsU; simp [foldset_len]
        rw [this]; exact c3
      rw [this]
    have f1 := hd.fr.put hv hput1
    have hput2 : Vm.put { (frU X.n u d.sl) with t := (frU X.n u d.sl).t.set 10 N.d1 (.slice (some a) 0 0) } (some N.d2) (.bool b) = some { (frU X.n u d.sl) with t := ((frU X.n u d.sl).t.set 10 N.d1 (.slice (some a) 0 0)).set 10 N.d2 (.bool b) } := by
      simp only [Vm.put, Fr.set_eq]
      have : Nat.blt N.d2 (frU X.n u d.sl).n = true := by
        have : (frU X.n u d.sl).n = X.n := by unfold frU valsU; simp [foldset_len]
        rw [this]; exact c4
      simp only [this]
    have f2 := f1.put (VR.scal (.bool b) rfl) hput2
    refine FR.make (by rw [f2.size]; unfold frU valsU; simp [foldset_len]) hsm (f2.none_left rfl) (fun i => ⟨_, f2.at_ i⟩) fun q hq => ?_
    rcases List.mem_append.1 hq with hq | hq
    · have hc2 := List.all_eq_true.1 c2 q hq
      simp only [Bool.and_eq_true, Bool.not_eq_true'] at hc2
      obtain ⟨q1, q2, q3⟩ := hc2
      refine ⟨blt_iff.1 q1, ?_⟩
      have n1 : q.1 ≠ N.d1 := fun e => by rw [e, Nat.beq_refl] at q2; cases q2
      have n2 : q.1 ≠ N.d2 := fun e => by rw [e, Nat.beq_refl] at q3; cases q3
      have : ((ac.put (some N.d1) (.slice a' 0 c')).put (some N.d2) (.bool b)).tmps.getD q.1 undef = ac.tmps.getD q.1 undef := by
        show ((ac.tmps.setIfInBounds N.d1 _).setIfInBounds N.d2 _).getD q.1 undef = _
        rw [Array.getD_eq_getD_getElem?, Array.getElem?_setIfInBounds_ne (Ne.symm n2), Array.getElem?_setIfInBounds_ne (Ne.symm n1), ← Array.getD_eq_getD_getElem?]
      rw [this]
      exact hat q hq
    · simp only [List.mem_singleton] at hq
      subst hq
      refine ⟨blt_iff.1 c4, ?_⟩
      have : ((ac.put (some N.d1) (.slice a' 0 c')).put (some N.d2) (.bool b)).tmps.getD N.d2 undef = .bool b := by
        show ((ac.tmps.setIfInBounds N.d1 _).setIfInBounds N.d2 _).getD N.d2 undef = _
        have hd2 : N.d2 < (ac.tmps.setIfInBounds N.d1 (.slice a' 0 c')).size := by rw [Array.size_setIfInBounds, hsz]; exact blt_iff.1 c4
        simp only [Array.getD_eq_getD_getElem?, Array.getElem?_setIfInBounds_self, hd2, if_true, Option.getD_some]
      rw [this]
      exact .scal _ rfl
  obtain ⟨u', hu'⟩ := hfr
  exact ⟨ρ, u', hd.full, hd.kept, hu', hd.mem, hd.few⟩
end Go.Proofs.YtdbjloigfkckfaaGreatDoor.Vm
