/-
  A law of the walk for a range over a function whose iterator hands over fresh memory: the rounds all go on.
  Conditions: the iterator's word (IterGives), the caller's invariant speaks of cells alone.
-/
import Derived.RangeFuncFrom
import Derived.RangeFuncCalls
import Derived.RangeFuncLeaves
import Derived.OwnWalkIn
import Derived.TacticsInMore
import Derived.Test.YtgdpahojinknmaaMem2
namespace Go.Proofs.Ytgdpahojinknmaa
open Go.RowKit

variable {F : Fence} {n : Nat} {P : Program}

/-- What an iterator value owes: called at the yield of any loop, with any invariant that new blocks leave alone, it goes through N rounds, each begun with values xs of which X is known, and returns. -/
def IterGives (F : Fence) (n : Nat) (P : Program) (g : Nat) (lb : Array Value) (N : Nat) (X : Nat → Array Value → World → Prop) (Kp : World → Prop) : Prop :=
  ∀ (l : Nat) (J : Nat → World → Prop) (W : World), Kp W →
    (∀ k A B, J k A → A.grownBy B none → J k B) →
    (∀ k xs W1, k < N → J k W1 → X k xs W1 → Kp W1 → YieldAt F (n - 1) P l xs W1 fun e W' => e = .returned (.bool true) ∧ J (k + 1) W' ∧ Kp W') →
    J 0 W →
    CallsIn F n P g (#[.func (.yield l) #[] #[]] ++ lb) W fun e W' => (∃ v, e = .returned v) ∧ J N W'

/-- How the body of a round is left: it goes on. -/
def onlyOn (Kp : World → Prop) (I : Nat → World → Prop) (k : Nat) (W : World) : Exit → Act → World → Prop
  | .normal, _, W' => KeepsOthers W W' ∧ Kp W' ∧ I k W'
  | _, _, _ => False

theorem wpIn_range_fresh {g : Operand} {ps : Array Tmp} {assign body : Code} {Q : Exit → Act → World → Prop} {a : Act} {w : World}
    (hro : F.round = none) (h1 : 1 ≤ n) {gf : Nat} {lb : Array Value} (hg : a.eval g = .func (.func gf) #[] lb) (hFg : F.fn gf) (eg : ∀ args w, (callFunc gf args).run P w = .ok (.enter gf args) w)
    {N : Nat} {X : Nat → Array Value → World → Prop} {Kp : World → Prop} (hseq : IterGives F (n - 1) P gf lb N X Kp) (hb0 : Kp w) (hKp : OwnFrom w.heap.size (fun (_ : Unit) => Kp))
    (hps : ∀ k xs W, X k xs W → xs.size = ps.size) (hX : ∀ k, OwnFrom w.heap.size (X k))
    (I : Nat → World → Prop) (hI : OwnFrom w.heap.size I) (h0 : I 0 w) (a₁ : Array Value → Act)
    (hassign : ∀ (l k : Nat) (xs : Array Value) (W : World) (K : Act → World → Prop), X k xs W → K (a₁ xs) W →
      assign.wpIn (F.inRound l) (n - 1 - 1) P (Exit.then K (fun _ _ _ => False)) { tmps := (ps.zip xs).foldl (fun t (p, v) => t.setIfInBounds p v) a.tmps, defers := [] } W)
    (hbody : ∀ (l k : Nat) (xs : Array Value) (W : World), w.heap.size < l → (∃ r, W.heap[l]? = some (.loop r)) → (∃ d, W.heap[w.heap.size]? = some (.deferred d)) → k < N → I k W → X k xs W → Kp W → body.wpIn (F.inRound l) (n - 1 - 1) P (onlyOn Kp I (k + 1) W) (a₁ xs) W)
    (hdone : ∀ (D : Nat) (W : World), w.heap.size ≤ D → I N W → Kp W → W.heap[D]? = some (.deferred (some [])) → Q .normal { a with defers := { target := .collected D, args := #[] } :: a.defers } W) :
    (Code.rangeFunc g ps assign body).wpIn F n P Q a w := by
  refine wpIn_rangeFunc ?_
  intro fn hfn
  rw [hro]
  obtain ⟨rec, hrec⟩ : ∃ rec : LoopState → Loop, rec = fun st => { state := st, pending := none, fn, tmps := a.tmps, params := ps, assign, body, defers := w.heap.size } := ⟨_, rfl⟩
  have hrp : ∀ st, (rec st).pending = none := fun st => by rw [hrec]
  have hrs : ∀ st, (rec st).state = st := fun st => by rw [hrec]
  have hrpar : ∀ st, (rec st).params = ps := fun st => by rw [hrec]
  obtain ⟨W1, hW1⟩ : ∃ W1, (w.alloc (.deferred (some []))).alloc (.loop (rec .ready)) = W1 := ⟨_, rfl⟩
  have hL1 : W1.heap[w.heap.size + 1]? = some (.loop (rec .ready)) := by
    rw [← hW1]
    have := World.alloc_heap_new (w.alloc (.deferred (some []))) (.loop (rec .ready))
    rwa [World.size_alloc] at this
  have hK1 : W1.heap[w.heap.size]? = some (.deferred (some [])) := by
    rw [← hW1]; exact (Below.heap_alloc _ _ _ (by simp)).trans (World.alloc_heap_new w _)
  have hI1 : I 0 W1 := by rw [← hW1]; exact hI.alloc _ (hI.alloc _ h0)
  have hb1 : Kp W1 := by rw [← hW1]; exact hKp.alloc (s := ()) _ (hKp.alloc (s := ()) _ hb0)
  refine ⟨w.heap.size + 1, [{ target := .collected w.heap.size, args := #[] }], W1, { target := .fn (.func gf) lb, args := #[.func (.yield (w.heap.size + 1)) #[] #[]] }, W1, gf,
    #[.func (.yield (w.heap.size + 1)) #[] #[]] ++ lb, W1, ?_, ?_, ?_, ?_, fun _ => h1, ?_⟩
  · rw [← hW1, hrec]; exact run_enterLoop_outer _ _ _ _ _
  · simp only [resolve, hg]
    simp [go_sem]
  · intro f' hf'
    simp [Target.leads] at hf'
    subst hf'; exact hFg
  · simp [invoke, go_sem, eg]
  · refine (hseq (w.heap.size + 1)
      (fun k W => I k W ∧ Kp W ∧ W.heap[w.heap.size + 1]? = some (.loop (rec .ready)) ∧ W.heap[w.heap.size]? = some (.deferred (some []))) W1 hb1 ?_ ?_ ⟨hI1, hb1, hL1, hK1⟩).mono ?_
    · rintro k A B ⟨hi, hb, hl, hk⟩ hg'
      have hlt := (Array.getElem?_eq_some_iff.1 hl).1
      refine ⟨hI k A B none hi hg' (fun r e => by cases e), hKp () A B none hb hg' (fun r e => by cases e), (hg'.block _ hlt (by simp)).trans hl, (hg'.block _ (by omega) (by simp)).trans hk⟩
    · rintro k xs W hkN ⟨hi, hb, hl, hk⟩ hx _
      have hlt : w.heap.size + 1 < W.heap.size := (Array.getElem?_eq_some_iff.1 hl).1
      have hy := run_yield (P := P) (args := xs) hl (by rw [hrpar]; exact hps k xs W hx)
      refine ⟨_, _, _, _, hy, roundIn_of_wpIn (by rw [hrec]; exact hfn) ?_⟩
      rw [hrec] at hl ⊢
      dsimp only
      refine hassign _ k xs W _ hx ⟨_, run_beginRound hl rfl, ?_⟩
      obtain ⟨W2, hW2⟩ : ∃ W2, W.putObj (w.heap.size + 1) (.loop { state := .busy, pending := none, fn, tmps := a.tmps, params := ps, assign, body, defers := w.heap.size }) = W2 := ⟨_, rfl⟩
      have hl2 : W2.heap[w.heap.size + 1]? = some (.loop { state := .busy, pending := none, fn, tmps := a.tmps, params := ps, assign, body, defers := w.heap.size }) := by rw [← hW2]; exact World.putObj_heap_same hlt
      have hk2 : W2.heap[w.heap.size]? = some (.deferred (some [])) := by rw [← hW2]; exact (World.putObj_heap_other (by omega)).trans hk
      have hi2 : I k W2 := by rw [← hW2]; exact hI.putObj _ hi (by omega) hl rfl
      have hx2 : X k xs W2 := by rw [← hW2]; exact (hX k).putObj _ hx (by omega) hl rfl
      have hb2 : Kp W2 := by rw [← hW2]; exact hKp.putObj (s := ()) _ hb (by omega) hl rfl
      rw [hW2]
      refine wpIn_mono (hbody _ k xs W2 (by omega) ⟨_, hl2⟩ ⟨_, hk2⟩ hkN hi2 hx2 hb2) ?_
      rintro e a3 W3 hp
      cases e with
      | normal =>
        obtain ⟨hk3, hb3, hi3⟩ := hp
        have hl3 := hk3.same _ _ hl2 rfl
        have hd3 := hk3.same _ _ hk2 rfl
        refine ⟨_, _, run_endRound (P := P) none hl3, rfl, ⟨hI.putObj _ hi3 (by omega) hl3 rfl, ?_, ?_, ?_⟩, ?_⟩
        · exact hKp.putObj (s := ()) _ hb3 (by omega) hl3 rfl
        · exact World.putObj_heap_same (Array.getElem?_eq_some_iff.1 hl3).1
        · exact (World.putObj_heap_other (by omega)).trans hd3
        · exact hKp.putObj (s := ()) _ hb3 (by omega) hl3 rfl
      | ret => exact hp.elim
      | exit id => exact hp.elim
      | goto t => exact hp.elim
      | panic ch => exact hp.elim
      | outgrown => exact hp.elim
    · rintro e W2 ⟨⟨v, rfl⟩, hi, hb, hl, hk⟩
      have hend := run_endLoop (P := P) hl (by rw [hrs]; simp)
      rw [hrp] at hend
      refine ⟨none, _, hend, ?_⟩
      refine hdone _ _ (Nat.le_refl _) (hI.putObj _ hi (by omega) hl rfl) ?_ ((World.putObj_heap_other (by omega)).trans hk)
      exact hKp.putObj (s := ()) _ hb (by omega) hl rfl
#print axioms wpIn_range_fresh

/-- '[]byte(s)' of a string, under the wide fence, in a plain frame. -/
theorem wpListIn_sb {P : Program} {ops : Array Oper} {rest : List Oper} {o : Oper} {a : Act} {w : World} {Q : Exit → Act → World → Prop} (hgd : o.guard = none) (src dst e : TypeId) (x : Operand)
    (ho : o.op = .convert src dst x) (s : ByteArray) (hx : a.eval x = .string s) {u : TypeDesc} (hs : P.underlying src = some u) (hd : P.underlying dst = some (.slice e)) (he : P.underlying e = some (.int .u8))
    (h : ∀ cap w', BytesNew w.heap.size w' (.slice (some ⟨w.heap.size, 0, none⟩) s.size cap) s → Below w.heap.size w w' → w.grownBy w' none → w'.heap.size = w.heap.size + 1 →
      wpListIn Fence.wide n P ops Q rest (a.put o.dst (.slice (some ⟨w.heap.size, 0, none⟩) s.size cap)) w') : wpListIn Fence.wide n P ops Q (o :: rest) a w :=
  wpListIn_plain hgd fun K hK => by
    refine ⟨fun _ _ => trivial, ?_⟩
    have hsem : o.semAt Fence.wide.round a.eval = execOp a.eval o := rfl
    rw [hsem]
    unfold execOp
    simp only [ho, hx]
    have hr := Lib.run_convert_string_bytes (P := P) w src dst e s hs hd he
    simp only [Sem.run_bind, Functor.map, hr, Result.andThen_ok]
    have hB : Below w.heap.size w (Lib.bytesWorld w e s) := ⟨rfl, rfl, rfl, by rw [Lib.bytesWorld_size]; omega, fun k hk => Lib.bytesWorld_at_old w e s k hk⟩
    refine hK _ _ (h _ _ ?_ hB ⟨rfl, rfl, rfl, hB.size, fun k hk _ => hB.block k hk⟩ (Lib.bytesWorld_size w e s))
    refine ⟨w.heap.size, _, rfl, Nat.le_refl _, by rw [Lib.bytesWorld_size]; omega, fun i hi => ⟨?_, ?_⟩⟩
    · rw [Lib.bytesWorld_cell w e s i hi, nb_getD]
    · have := Lib.bytesWorld_at_new w e s
      simp only [World.frozen?, this]
      have hsz : s.size ≤ (Lib.bytesCells w e s).size := by unfold Lib.bytesCells; rw [Array.size_append, Array.size_map]; exact Nat.le_add_right _ _
      simp; omega
def fstV (xs : Array Value) : Value := xs.getD 0 undef
def sndV (xs : Array Value) : Value := xs.getD 1 undef
theorem fstV_mk (a b : Value) : fstV #[a, b] = a := rfl
theorem sndV_mk (a b : Value) : sndV #[a, b] = b := rfl
end Go.Proofs.Ytgdpahojinknmaa
