/- Several texts as one: Range, RingM, RingW, RingA, RpB. -/
import Derived.RangeFuncFrom
import Derived.RangeFuncCalls
import Derived.RangeFuncLeaves
import Derived.OwnWalkIn
import Derived.TacticsInMore
import Derived.Test.YtgdpahojinknmaaMem2
import Derived.Test.YtgdpahojinknmaaChecked
import Derived.WalkKit
import Derived.WalkLawsBesides
import Derived.WalkSpells
import Derived.RegionTactic
import Derived.ChangeAlike
import Derived.Outline
import Derived.Below
import Derived.Lib.Hide
import Derived.OwnWalk
import Derived.Deep.QuietTactic
import Derived.BigQuiet
import Derived.StillTailTactics
import Derived.Deep.RegionHeld3
import Derived.Laws.Rows
import Derived.Test.YtgdpahojinknmaaReg
import Derived.Test.YtgdpahojinknmaaMem
import Derived.Lib.SlBytesConst
import Derived.RangeFuncNested
import Derived.RangeFuncBound
import Derived.Shelf.Abstract
import Derived.Shelf.RegionOpen
import Derived.LoopNIn
import Derived.LoopIn
/-
  A law of the walk for a range over a function whose iterator hands over fresh memory: the rounds all go on.
  Conditions: the iterator's word (IterGives), the caller's invariant speaks of cells alone.
-/
namespace Go.Proofs.Ytgdpahojinknmaa
open Go.RowKit

variable {F : Fence} {n : Nat} {P : Program}

/-- What an iterator value owes: called at the yield of any loop, with any invariant that new blocks leave alone, it goes through N rounds, each begun with values xs of which X is known, and returns. -/
def IterGives (F : Fence) (n : Nat) (P : Program) (g : Nat) (lb : Array Value) (N : Nat) (X : Nat → Array Value → World → Prop) (Kp : World → Prop) : Prop :=
  ∀ (l : Nat) (J : Nat → World → Prop) (W : World), Kp W →
    (∀ k A B, J k A → A.grownBy B none → J k B) →
    (∀ k xs W1, k < N → J k W1 → X k xs W1 → Kp W1 → YieldAt F (n - 1) P l xs W1 fun e W' => e = .returned (.bool true) ∧ J (k + 1) W' ∧ Kp W') →
    J 0 W →
    CallsIn F n P g (#[.func (.yield l) #[] #[]] ++ lb) W fun e W' => (∃ v, e = .returned v) ∧ J N W'

/-- How the body of a round is left: it goes on. -/
def onlyOn (Kp : World → Prop) (I : Nat → World → Prop) (k : Nat) (W : World) : Exit → Act → World → Prop
  | .normal, _, W' => KeepsOthers W W' ∧ Kp W' ∧ I k W'
  | _, _, _ => False

theorem wpIn_range_fresh {g : Operand} {ps : Array Tmp} {assign body : Code} {Q : Exit → Act → World → Prop} {a : Act} {w : World}
    (hro : F.round = none) (h1 : 1 ≤ n) {gf : Nat} {lb : Array Value} (hg : a.eval g = .func (.func gf) #[] lb) (hFg : F.fn gf) (eg : ∀ args w, (callFunc gf args).run P w = .ok (.enter gf args) w)
    {N : Nat} {X : Nat → Array Value → World → Prop} {Kp : World → Prop} (hseq : IterGives F (n - 1) P gf lb N X Kp) (hb0 : Kp w) (hKp : OwnFrom w.heap.size (fun (_ : Unit) => Kp))
    (hps : ∀ k xs W, X k xs W → xs.size = ps.size) (hX : ∀ k, OwnFrom w.heap.size (X k))
    (I : Nat → World → Prop) (hI : OwnFrom w.heap.size I) (h0 : I 0 w) (a₁ : Array Value → Act)
    (hassign : ∀ (l k : Nat) (xs : Array Value) (W : World) (K : Act → World → Prop), X k xs W → K (a₁ xs) W →
      assign.wpIn (F.inRound l) (n - 1 - 1) P (Exit.then K (fun _ _ _ => False)) { tmps := (ps.zip xs).foldl (fun t (p, v) => t.setIfInBounds p v) a.tmps, defers := [] } W)
    (hbody : ∀ (l k : Nat) (xs : Array Value) (W : World), w.heap.size < l → (∃ r, W.heap[l]? = some (.loop r)) → (∃ d, W.heap[w.heap.size]? = some (.deferred d)) → k < N → I k W → X k xs W → Kp W → body.wpIn (F.inRound l) (n - 1 - 1) P (onlyOn Kp I (k + 1) W) (a₁ xs) W)
    (hdone : ∀ (D : Nat) (W : World), w.heap.size ≤ D → I N W → Kp W → W.heap[D]? = some (.deferred (some [])) → Q .normal { a with defers := { target := .collected D, args := #[] } :: a.defers } W) :
    (Code.rangeFunc g ps assign body).wpIn F n P Q a w := by
  refine wpIn_rangeFunc ?_
  intro fn hfn
  rw [hro]
  obtain ⟨rec, hrec⟩ : ∃ rec : LoopState → Loop, rec = fun st => { state := st, pending := none, fn, tmps := a.tmps, params := ps, assign, body, defers := w.heap.size } := ⟨_, rfl⟩
  have hrp : ∀ st, (rec st).pending = none := fun st => by rw [hrec]
  have hrs : ∀ st, (rec st).state = st := fun st => by rw [hrec]
  have hrpar : ∀ st, (rec st).params = ps := fun st => by rw [hrec]
  obtain ⟨W1, hW1⟩ : ∃ W1, (w.alloc (.deferred (some []))).alloc (.loop (rec .ready)) = W1 := ⟨_, rfl⟩
  have hL1 : W1.heap[w.heap.size + 1]? = some (.loop (rec .ready)) := by
    rw [← hW1]
    have := World.alloc_heap_new (w.alloc (.deferred (some []))) (.loop (rec .ready))
    rwa [World.size_alloc] at this
  have hK1 : W1.heap[w.heap.size]? = some (.deferred (some [])) := by
    rw [← hW1]; exact (Below.heap_alloc _ _ _ (by simp)).trans (World.alloc_heap_new w _)
  have hI1 : I 0 W1 := by rw [← hW1]; exact hI.alloc _ (hI.alloc _ h0)
  have hb1 : Kp W1 := by rw [← hW1]; exact hKp.alloc (s := ()) _ (hKp.alloc (s := ()) _ hb0)
  refine ⟨w.heap.size + 1, [{ target := .collected w.heap.size, args := #[] }], W1, { target := .fn (.func gf) lb, args := #[.func (.yield (w.heap.size + 1)) #[] #[]] }, W1, gf,
    #[.func (.yield (w.heap.size + 1)) #[] #[]] ++ lb, W1, ?_, ?_, ?_, ?_, fun _ => h1, ?_⟩
  · rw [← hW1, hrec]; exact run_enterLoop_outer _ _ _ _ _
  · simp only [resolve, hg]
    simp [go_sem]
  · intro f' hf'
    simp [Target.leads] at hf'
    subst hf'; exact hFg
  · simp [invoke, go_sem, eg]
  · refine (hseq (w.heap.size + 1)
      (fun k W => I k W ∧ Kp W ∧ W.heap[w.heap.size + 1]? = some (.loop (rec .ready)) ∧ W.heap[w.heap.size]? = some (.deferred (some []))) W1 hb1 ?_ ?_ ⟨hI1, hb1, hL1, hK1⟩).mono ?_
    · rintro k A B ⟨hi, hb, hl, hk⟩ hg'
      have hlt := (Array.getElem?_eq_some_iff.1 hl).1
      refine ⟨hI k A B none hi hg' (fun r e => by cases e), hKp () A B none hb hg' (fun r e => by cases e), (hg'.block _ hlt (by simp)).trans hl, (hg'.block _ (by omega) (by simp)).trans hk⟩
    · rintro k xs W hkN ⟨hi, hb, hl, hk⟩ hx _
      have hlt : w.heap.size + 1 < W.heap.size := (Array.getElem?_eq_some_iff.1 hl).1
      have hy := run_yield (P := P) (args := xs) hl (by rw [hrpar]; exact hps k xs W hx)
      refine ⟨_, _, _, _, hy, roundIn_of_wpIn (by rw [hrec]; exact hfn) ?_⟩
      rw [hrec] at hl ⊢
      dsimp only
      refine hassign _ k xs W _ hx ⟨_, run_beginRound hl rfl, ?_⟩
      obtain ⟨W2, hW2⟩ : ∃ W2, W.putObj (w.heap.size + 1) (.loop { state := .busy, pending := none, fn, tmps := a.tmps, params := ps, assign, body, defers := w.heap.size }) = W2 := ⟨_, rfl⟩
      have hl2 : W2.heap[w.heap.size + 1]? = some (.loop { state := .busy, pending := none, fn, tmps := a.tmps, params := ps, assign, body, defers := w.heap.size }) := by rw [← hW2]; exact World.putObj_heap_same hlt
      have hk2 : W2.heap[w.heap.size]? = some (.deferred (some [])) := by rw [← hW2]; exact (World.putObj_heap_other (by omega)).trans hk
      have hi2 : I k W2 := by rw [← hW2]; exact hI.putObj _ hi (by omega) hl rfl
      have hx2 : X k xs W2 := by rw [← hW2]; exact (hX k).putObj _ hx (by omega) hl rfl
      have hb2 : Kp W2 := by rw [← hW2]; exact hKp.putObj (s := ()) _ hb (by omega) hl rfl
      rw [hW2]
      refine wpIn_mono (hbody _ k xs W2 (by omega) ⟨_, hl2⟩ ⟨_, hk2⟩ hkN hi2 hx2 hb2) ?_
      rintro e a3 W3 hp
      cases e with
      | normal =>
        obtain ⟨hk3, hb3, hi3⟩ := hp
        have hl3 := hk3.same _ _ hl2 rfl
        have hd3 := hk3.same _ _ hk2 rfl
        refine ⟨_, _, run_endRound (P := P) none hl3, rfl, ⟨hI.putObj _ hi3 (by omega) hl3 rfl, ?_, ?_, ?_⟩, ?_⟩
        · exact hKp.putObj (s := ()) _ hb3 (by omega) hl3 rfl
        · exact World.putObj_heap_same (Array.getElem?_eq_some_iff.1 hl3).1
        · exact (World.putObj_heap_other (by omega)).trans hd3
        · exact hKp.putObj (s := ()) _ hb3 (by omega) hl3 rfl
      | ret => exact hp.elim
      | exit id => exact hp.elim
      | goto t => exact hp.elim
      | panic ch => exact hp.elim
      | outgrown => exact hp.elim
    · rintro e W2 ⟨⟨v, rfl⟩, hi, hb, hl, hk⟩
      have hend := run_endLoop (P := P) hl (by rw [hrs]; simp)
      rw [hrp] at hend
      refine ⟨none, _, hend, ?_⟩
      refine hdone _ _ (Nat.le_refl _) (hI.putObj _ hi (by omega) hl rfl) ?_ ((World.putObj_heap_other (by omega)).trans hk)
      exact hKp.putObj (s := ()) _ hb (by omega) hl rfl
#print axioms wpIn_range_fresh

/-- '[]byte(s)' of a string, under the wide fence, in a plain frame. -/
theorem wpListIn_sb {P : Program} {ops : Array Oper} {rest : List Oper} {o : Oper} {a : Act} {w : World} {Q : Exit → Act → World → Prop} (hgd : o.guard = none) (src dst e : TypeId) (x : Operand)
    (ho : o.op = .convert src dst x) (s : ByteArray) (hx : a.eval x = .string s) {u : TypeDesc} (hs : P.underlying src = some u) (hd : P.underlying dst = some (.slice e)) (he : P.underlying e = some (.int .u8))
    (h : ∀ cap w', BytesNew w.heap.size w' (.slice (some ⟨w.heap.size, 0, none⟩) s.size cap) s → Below w.heap.size w w' → w.grownBy w' none → w'.heap.size = w.heap.size + 1 →
      wpListIn Fence.wide n P ops Q rest (a.put o.dst (.slice (some ⟨w.heap.size, 0, none⟩) s.size cap)) w') : wpListIn Fence.wide n P ops Q (o :: rest) a w :=
  wpListIn_plain hgd fun K hK => by
    refine ⟨fun _ _ => trivial, ?_⟩
    have hsem : o.semAt Fence.wide.round a.eval = execOp a.eval o := rfl
    rw [hsem]
    unfold execOp
    simp only [ho, hx]
    have hr := Lib.run_convert_string_bytes (P := P) w src dst e s hs hd he
    simp only [Sem.run_bind, Functor.map, hr, Result.andThen_ok]
    have hB : Below w.heap.size w (Lib.bytesWorld w e s) := ⟨rfl, rfl, rfl, by rw [Lib.bytesWorld_size]; omega, fun k hk => Lib.bytesWorld_at_old w e s k hk⟩
    refine hK _ _ (h _ _ ?_ hB ⟨rfl, rfl, rfl, hB.size, fun k hk _ => hB.block k hk⟩ (Lib.bytesWorld_size w e s))
    refine ⟨w.heap.size, _, rfl, Nat.le_refl _, by rw [Lib.bytesWorld_size]; omega, fun i hi => ⟨?_, ?_⟩⟩
    · rw [Lib.bytesWorld_cell w e s i hi, nb_getD]
    · have := Lib.bytesWorld_at_new w e s
      simp only [World.frozen?, this]
      have hsz : s.size ≤ (Lib.bytesCells w e s).size := by unfold Lib.bytesCells; rw [Array.size_append, Array.size_map]; exact Nat.le_add_right _ _
      simp; omega
def fstV (xs : Array Value) : Value := xs.getD 0 undef
def sndV (xs : Array Value) : Value := xs.getD 1 undef
theorem fstV_mk (a b : Value) : fstV #[a, b] = a := rfl
theorem sndV_mk (a b : Value) : sndV #[a, b] = b := rfl
end Go.Proofs.Ytgdpahojinknmaa


/- The plain law of a ring: what its cells come to. Conditions: as each theorem says. -/
namespace Go.Proofs.Ytgdpahojinknmaa

/-- The chunks of a ring of eight cells. -/
def cont (c : List ByteArray) (f n : Nat) : List ByteArray := (List.range n).map fun i => c.getD ((f + i) % 8) ByteArray.empty

theorem cont_length (c : List ByteArray) (f n : Nat) : (cont c f n).length = n := by simp [cont]

theorem cont_push (c : List ByteArray) (f n : Nat) (b : ByteArray) (hc : c.length = 8) (hn : n < 8) : cont (c.set ((f + n) % 8) b) f (n + 1) = cont c f n ++ [b] := by
  unfold cont
  rw [List.range_succ, List.map_append]
  congr 1
  · refine List.map_congr_left fun i hi => ?_
    have hi' := List.mem_range.1 hi
    simp only [List.getD_eq_getElem?_getD]
    rw [List.getElem?_set_ne (by omega)]
  · simp only [List.map_cons, List.map_nil, List.getD_eq_getElem?_getD]
    rw [List.getElem?_set_self (by omega)]
    rfl

theorem cont_pop (c : List ByteArray) (f m : Nat) (e : ByteArray) (hf : f < 8) (hm : m < 8) : cont c f (m + 1) = c.getD f ByteArray.empty :: cont (c.set f e) ((f + 1) % 8) m := by
  unfold cont
  rw [List.range_succ_eq_map, List.map_cons, List.map_map]
  congr 1
  · rw [Nat.add_zero, Nat.mod_eq_of_lt hf]
  · refine List.map_congr_left fun i hi => ?_
    have hi' := List.mem_range.1 hi
    simp only [Function.comp, List.getD_eq_getElem?_getD]
    rw [List.getElem?_set_ne (by omega)]
    congr 2
    omega

/-- What the calls come to. -/
def mPush (l : List ByteArray) (k : Nat) (b : ByteArray) : List ByteArray × Int :=
  if k = 0 ∨ b.size < 1 ∨ 32 < b.size then (l, 1) else if l.length = k then (l, 2) else (l ++ [b], 0)
def mPop (l : List ByteArray) : List ByteArray × ByteArray × Int := match l with
  | [] => ([], ByteArray.empty, 3)
  | b :: r => (r, b, 0)
def mGrow (k : Nat) : Nat × Int := if k = 0 then (k, 1) else if k = 8 then (k, 2) else (k + 1, 0)
def mNew (k : Int) : Nat × Int := if k < 1 ∨ 8 < k then (0, 16) else (k.toNat, 0)
end Go.Proofs.Ytgdpahojinknmaa

/- Walks over the ring's functions. -/
namespace Go.Proofs.Ytgdpahojinknmaa
open Go.RowKit
set_option linter.unusedSimpArgs false

/-- A ring, as a value: eight cells, the first one's place, how many, the capacity. -/
abbrev rg (s0 s1 s2 s3 s4 s5 s6 s7 : ByteArray) (f n k : Int) : Value :=
  .agg #[.string s0, .string s1, .string s2, .string s3, .string s4, .string s5, .string s6, .string s7, .int .i64 f, .int .i64 n, .int .i64 k]

/-- A value that is a ring of capacity k with the chunks l. -/
def RingV (v : Value) (l : List ByteArray) (k : Nat) : Prop :=
  ∃ (s0 s1 s2 s3 s4 s5 s6 s7 : ByteArray) (f n : Nat), v = rg s0 s1 s2 s3 s4 s5 s6 s7 f n k ∧ f < 8 ∧ n ≤ k ∧ k ≤ 8 ∧ l = cont [s0, s1, s2, s3, s4, s5, s6, s7] f n

theorem RingV.len {v : Value} {l : List ByteArray} {k : Nat} (h : RingV v l k) : l.length ≤ k ∧ k ≤ 8 := by
  obtain ⟨s0, s1, s2, s3, s4, s5, s6, s7, f, n, rfl, _, h1, h2, rfl⟩ := h
  rw [cont_length]; exact ⟨h1, h2⟩

theorem at_any (s0 s1 s2 s3 s4 s5 s6 s7 : ByteArray) (f n k i : Int) (w : World) (hf : 0 ≤ f) (hf' : f ≤ 8) (hi : 0 ≤ i) (hi' : i ≤ 8) :
    Calls Try.prog 45 #[rg s0 s1 s2 s3 s4 s5 s6 s7 f n k, .int .i64 i] w fun e w' =>
      e = .returned (.int .i64 ((f + i) % 8)) ∧ Below w.heap.size w w' := by
  go_enter Try.func45, Try.ntmps45
  go_wp2
  go_ret
  exact ⟨rfl, (Below.refl _ _).alloc (Nat.le_refl _) _⟩

theorem len_any (v : Value) (l : List ByteArray) (k : Nat) (w : World) (hv : RingV v l k) :
    Calls Try.prog 18 #[v] w fun e w' => e = .returned (.int .i64 l.length) ∧ Below w.heap.size w w' := by
  obtain ⟨s0, s1, s2, s3, s4, s5, s6, s7, f, n, rfl, _, h1, h2, rfl⟩ := hv
  rw [cont_length]
  go_enter Try.func18, Try.ntmps18
  go_wp2
  go_ret
  exact ⟨rfl, (Below.refl _ _).alloc (Nat.le_refl _) _⟩

theorem cap_any (v : Value) (l : List ByteArray) (k : Nat) (w : World) (hv : RingV v l k) :
    Calls Try.prog 19 #[v] w fun e w' => e = .returned (.int .i64 k) ∧ Below w.heap.size w w' := by
  obtain ⟨s0, s1, s2, s3, s4, s5, s6, s7, f, n, rfl, _, h1, h2, rfl⟩ := hv
  go_enter Try.func19, Try.ntmps19
  go_wp2
  go_ret
  exact ⟨rfl, (Below.refl _ _).alloc (Nat.le_refl _) _⟩

abbrev rg0 (k : Int) : Value := rg ⟨#[]⟩ ⟨#[]⟩ ⟨#[]⟩ ⟨#[]⟩ ⟨#[]⟩ ⟨#[]⟩ ⟨#[]⟩ ⟨#[]⟩ 0 0 k
theorem ringV_new (k : Nat) (hk : k ≤ 8) : RingV (rg0 k) [] k := ⟨_, _, _, _, _, _, _, _, 0, 0, rfl, by omega, by omega, hk, rfl⟩

theorem clear_any (v : Value) (l : List ByteArray) (k : Nat) (w : World) (hv : RingV v l k) :
    Calls Try.prog 47 #[v] w fun e w' => e = .returned (rg0 k) ∧ Below w.heap.size w w' := by
  obtain ⟨s0, s1, s2, s3, s4, s5, s6, s7, f, n, rfl, _, h1, h2, rfl⟩ := hv
  go_enter Try.func47, Try.ntmps47
  go_wp2
  refine bodyPost_ret (v := rg0 k) ?_ rfl ⟨rfl, ?_⟩
  · simp [results, Try.results47, go_sem]
  · exact ((Below.refl _ _).alloc (Nat.le_refl _) _).alloc (by simp) _

theorem new_any (k : Int) (w : World) :
    Calls Try.prog 10 #[.int .i64 k] w fun e w' => e = .returned (.tuple #[rg0 (mNew k).1, .int .i64 (mNew k).2]) ∧ Below w.heap.size w w' := by
  have fin : ∀ k', (k < 1 ∨ 8 < k → k' = (0 : Int)) → (¬ (k < 1 ∨ 8 < k) → k' = k) → (((mNew k).1 : Nat) : Int) = k' ∧ (mNew k).2 = if k < 1 ∨ 8 < k then 16 else 0 := by
    intro k' h1 h2
    unfold mNew
    by_cases h : k < 1 ∨ 8 < k
    · simp [h, h1 h]
    · simp [h, h2 h]; omega
  by_cases h : k < 1 ∨ 8 < k
  · obtain ⟨e1, e2⟩ := fin 0 (fun _ => rfl) (fun h' => absurd h h')
    rw [e1, e2, if_pos h]
    clear fin e1 e2
    rcases h with h | h
    · go_enter Try.func10, Try.ntmps10
      go_wp2
      refine bodyPost_ret (v := .tuple #[rg0 0, .int .i64 16]) ?_ rfl ⟨rfl, ?_⟩
      · simp [results, Try.results10, go_sem]
      · exact (Below.refl _ _).alloc (Nat.le_refl _) _
    · have h1 : decide (k < 1) = false := by simp; omega
      go_enter Try.func10, Try.ntmps10
      go_wp2
      refine bodyPost_ret (v := .tuple #[rg0 0, .int .i64 16]) ?_ rfl ⟨rfl, ?_⟩
      · simp [results, Try.results10, go_sem]
      · exact (Below.refl _ _).alloc (Nat.le_refl _) _
  · obtain ⟨e1, e2⟩ := fin k (fun h' => absurd h' h) (fun _ => rfl)
    rw [e1, e2, if_neg h]
    clear fin e1 e2
    have h1 : decide (k < 1) = false := by simp; omega
    have h2 : decide (8 < k) = false := by simp; omega
    clear h
    go_enter Try.func10, Try.ntmps10
    go_wp2
    refine bodyPost_ret (v := .tuple #[rg0 k, .int .i64 0]) ?_ rfl ⟨rfl, ?_⟩
    · simp [results, Try.results10, go_sem]
    · exact (Below.refl _ _).alloc (Nat.le_refl _) _

theorem grow_any (v : Value) (l : List ByteArray) (k : Nat) (w : World) (hv : RingV v l k) :
    Calls Try.prog 15 #[v] w fun e w' => ∃ v', e = .returned (.tuple #[v', .int .i64 (mGrow k).2]) ∧ RingV v' l (mGrow k).1 ∧ Below w.heap.size w w' := by
  have hv0 := hv
  obtain ⟨s0, s1, s2, s3, s4, s5, s6, s7, f, n, rfl, hf, h1, h2, rfl⟩ := hv
  unfold mGrow
  by_cases hk : k = 0
  · subst hk
    go_enter Try.func15, Try.ntmps15
    go_wp2
    refine bodyPost_ret (v := .tuple #[rg s0 s1 s2 s3 s4 s5 s6 s7 f n 0, .int .i64 1]) ?_ rfl ⟨_, rfl, hv0, ?_⟩
    · simp [results, Try.results15, go_sem]
    · exact ((Below.refl _ _).alloc (Nat.le_refl _) _).alloc (by simp) _
  · by_cases h8 : k = 8
    · subst h8
      go_enter Try.func15, Try.ntmps15
      go_wp2
      refine bodyPost_ret (v := .tuple #[rg s0 s1 s2 s3 s4 s5 s6 s7 f n 8, .int .i64 2]) ?_ rfl ⟨_, rfl, hv0, ?_⟩
      · simp [results, Try.results15, go_sem]
      · exact ((Below.refl _ _).alloc (Nat.le_refl _) _).alloc (by simp) _
    · rw [if_neg hk, if_neg h8]
      have hk0 : ((k : Int) == 0) = false := by simp; omega
      have hk8 : ((k : Int) == 8) = false := by simp; omega
      go_enter Try.func15, Try.ntmps15
      go_wp2
      refine bodyPost_ret (v := .tuple #[rg s0 s1 s2 s3 s4 s5 s6 s7 f n ((k + 1 : Nat) : Int), .int .i64 0]) ?_ rfl ⟨_, rfl, ⟨s0, s1, s2, s3, s4, s5, s6, s7, f, n, rfl, hf, by omega, by omega, rfl⟩, ?_⟩
      · simp [results, Try.results15, go_sem]
      · exact ((Below.refl _ _).alloc (Nat.le_refl _) _).alloc (by simp) _

end Go.Proofs.Ytgdpahojinknmaa

/- The ring's iterator. -/
namespace Go.Proofs.Ytgdpahojinknmaa
open Go.RowKit Go.Shelf
set_option linter.unusedSimpArgs false
set_option linter.unusedVariables false
attribute [local go_sem] Oper.semAt_some

/-- What a round of the ring's All is handed. -/
def AllX (B0 : Nat) (l : List ByteArray) (i : Nat) (xs : Array Value) (W : World) : Prop :=
  ∃ v, xs = #[.int .i64 i, v] ∧ BytesNew B0 W v (l.getD i ByteArray.empty)

theorem AllX.from (B0 : Nat) (l : List ByteArray) (k B : Nat) : OwnFrom B (AllX B0 l k) := by
  rintro xs W W' row ⟨v, rfl, b, cap, rfl, hB, hlt, hc⟩ hg hr
  refine ⟨_, rfl, b, cap, rfl, hB, Nat.lt_of_lt_of_le hlt hg.size, fun i hi => ?_⟩
  have hne : some b ≠ row := by
    rintro rfl
    obtain ⟨o, ho, hcell⟩ := (hr b rfl).2
    have := (hc i hi).1
    simp only [World.cell?, ho] at this
    cases o <;> simp [Obj.isCells] at hcell this
  have hb := hg.block b hlt hne
  exact ⟨(World.cell?_of_block (a := ⟨b, i, none⟩) hb).trans (hc i hi).1, (World.frozen?_of_block (a := ⟨b, i, none⟩) hb).trans (hc i hi).2⟩

theorem all_any (v : Value) (w : World) (s0 s1 s2 s3 s4 s5 s6 s7 : ByteArray) (f m k : Nat) (n : Nat) :
    CallsIn Fence.wide n Try.prog 46 #[rg s0 s1 s2 s3 s4 s5 s6 s7 f m k] w fun e w' => e = .returned (.func (.func 71) #[] #[.pointer (some ⟨w.heap.size, 0, none⟩)]) ∧
      w' = w.alloc (.cells #[.string s0, .string s1, .string s2, .string s3, .string s4, .string s5, .string s6, .string s7, .int .i64 f, .int .i64 m, .int .i64 k] 25) := by
  refine callsIn_of_wp Try.func46 rfl trivial ?_ rfl
  simp only [Try.ntmps46, List.size_toArray, List.length_cons, List.length_nil, Nat.reduceAdd, Nat.reduceSub, Array.replicate_succ, Array.replicate_zero, List.push_toArray, List.append_toArray, List.nil_append, List.cons_append]
  gi_wp2
  go_ret
  exact ⟨rfl, rfl⟩

/-- What the rounds keep: the iterator's own copy; and that there are so many blocks. -/
def AllK (B0 B : Nat) (c : Array Value) (W : World) : Prop := W.heap[B]? = some (.cells c 25 (0, 0)) ∧ B0 ≤ W.heap.size
theorem AllK.row {B0 B : Nat} {c : Array Value} {W : World} (h : AllK B0 B c W) : Row W B c := ⟨_, h.1⟩
/-- A slice's own row of another type is not the iterator's copy. -/
theorem AllK.not_row {B0 B : Nat} {c : Array Value} {W : World} (h : AllK B0 B c W) {e : TypeId} (hne : 25 ≠ e) {base size k : Nat} {v : Value} {xs : List Value} (hr : W.ownsRow base e size v k xs) : some B ≠ v.ownBlock := by
  rcases hr.2 with ⟨rfl, _⟩ | ⟨g, cap, cur, rfl, _, hgb, _⟩
  · simp [Value.ownBlock]
  · intro e'
    obtain rfl : B = g := by simpa [Value.ownBlock] using e'
    rw [h.1] at hgb
    cases hgb
    exact hne rfl
theorem AllK.from (B0 B : Nat) (c : Array Value) (n : Nat) : OwnFrom n (fun (_ : Unit) => AllK B0 B c) := by
  rintro _ W W' row ⟨h, hs⟩ hg hr
  have hlt := (Array.getElem?_eq_some_iff.1 h).1
  refine ⟨(hg.block B hlt ?_).trans h, Nat.le_trans hs hg.size⟩
  rintro rfl
  obtain ⟨o, ho, hc⟩ := (hr B rfl).2
  rw [h] at ho; cases ho; cases hc

set_option maxRecDepth 100000 in
set_option maxHeartbeats 2000000 in
theorem all1_gives (B0 B : Nat) (s0 s1 s2 s3 s4 s5 s6 s7 : ByteArray) (f m k : Nat) (hf : f < 8) (hm : m ≤ 8) (n : Nat) (hn : 2 ≤ n)
    (hBB : B < B0) :
    IterGives Fence.wide n Try.prog 71 #[.pointer (some ⟨B, 0, none⟩)] m (AllX B0 (cont [s0, s1, s2, s3, s4, s5, s6, s7] f m))
      (AllK B0 B #[.string s0, .string s1, .string s2, .string s3, .string s4, .string s5, .string s6, .string s7, .int .i64 f, .int .i64 m, .int .i64 k]) := by
  intro l J W hW hJ hY h0
  refine callsIn_of_wp Try.func71 rfl trivial ?_ rfl
  simp only [Try.ntmps71, List.size_toArray, List.length_cons, List.length_nil, Nat.reduceAdd, Nat.reduceSub, Array.replicate_succ, Array.replicate_zero, List.push_toArray, List.append_toArray, List.nil_append, List.cons_append]
  have hc := hW.row.cell
  have g9 := hc 9
  have g8 := hc 8
  gi_wp2
  gi_loopw [6] (fun i wr => ∃ k' : Nat, k' ≤ m ∧ i = .int .i64 k' ∧ J k' wr ∧ AllK B0 B #[.string s0, .string s1, .string s2, .string s3, .string s4, .string s5, .string s6, .string s7, .int .i64 f, .int .i64 m, .int .i64 k] wr) (fun i _ => m - (intOf i).toNat)
  case atStart => exact ⟨0, Nat.zero_le _, rfl, h0, hW⟩
  case round =>
    obtain ⟨i, hi, rfl, hJi, hBi⟩ := hrel
    have hrow := hBi.row
    have hrowt := hBi.1
    have hBs := hBi.2
    clear hc g9 g8
    by_cases him : i < m
    · have hs : ∃ b, [s0, s1, s2, s3, s4, s5, s6, s7].getD ((f + i) % 8) ByteArray.empty = b ∧ (cont [s0, s1, s2, s3, s4, s5, s6, s7] f m).getD i ByteArray.empty = b := by
        refine ⟨_, rfl, ?_⟩
        unfold cont
        simp [List.getD, him]
      obtain ⟨b, hb1, hb2⟩ := hs
      have hcell : wr.cell? ⟨B, (f + i) % 8, none⟩ = some (.string b) := by
        rw [hrow.cell]
        have h8 : (f + i) % 8 < 8 := by omega
        generalize (f + i) % 8 = q at hb1 h8
        have : q = 0 ∨ q = 1 ∨ q = 2 ∨ q = 3 ∨ q = 4 ∨ q = 5 ∨ q = 6 ∨ q = 7 := by omega
        rcases this with rfl | rfl | rfl | rfl | rfl | rfl | rfl | rfl <;> (subst hb1; rfl)
      replace hb1 := Lib.hid hb1
      replace hb2 := Lib.hid hb2
      have c := hrow.cell
      have hi0 : ((f : Int) + i) % 8 < 8 := by omega
      replace hrowt := Lib.hid hrowt
      gi_wp2_with fail
      refine ⟨trivial, fun _ => by omega, ?_⟩
      refine (callsIn_wide.2 (at_any s0 s1 s2 s3 s4 s5 s6 s7 f m k i _ (by omega) (by omega) (by omega) (by omega))).mono ?_
      rintro e w1 ⟨rfl, hb⟩
      have hcell1 : w1.cell? ⟨B, (f + i) % 8, none⟩ = some (.string b) := (hb.cell (p := ⟨B, (f + i) % 8, none⟩) hrow.lt).trans hcell
      clear c hcell
      gi_wp2_with (refine wpListIn_sb rfl 9 32 5 _ rfl _ rfl Try.underlying9 Try.underlying32 Try.underlying5 ?_; intro cap w2 hbn hbw hg2 hz2; obtain ⟨fn, tmps, assign, body, hy, hR⟩ := hY i #[.int .i64 i, .slice (some ⟨w1.heap.size, 0, none⟩) b.size cap] w2 him (hJ i _ _ (hJ i _ _ hJi ⟨hb.os, hb.tape, hb.output, hb.size, fun k hk _ => hb.block k hk⟩) hg2) ⟨_, rfl, by rw [hb2.out]; exact hbn.mono (Nat.le_trans hBs hb.size)⟩ ⟨blk_kept (blk_kept hrowt.out hb hrow.lt) hbw (Nat.lt_of_lt_of_le hrow.lt hb.size), Nat.le_trans (Nat.le_trans hBs hb.size) hbw.size⟩)
      refine ⟨fun _ => by omega, ?_⟩
      refine hR.mono ?_
      rintro e w3 ⟨rfl, hJ3, hB3⟩
      gi_wp2
      go_roundw
      case rel => exact ⟨i + 1, by omega, by go_num, hJ3, hB3⟩
      case measure => simp [intOf]; omega
    · obtain rfl : i = m := by omega
      gi_wp2
      go_end0
      exact ⟨⟨_, rfl⟩, hJi⟩
end Go.Proofs.Ytgdpahojinknmaa

/- The walk of a ring's Bytes. -/
namespace Go.Proofs.Ytgdpahojinknmaa
open Go.RowKit Go.Shelf
set_option linter.unusedSimpArgs false
set_option linter.unusedVariables false
attribute [local go_sem] Oper.semAt_some

def sumTo (l : List ByteArray) (k : Nat) : Nat := ((l.take k).map fun b => b.size).sum
theorem sumTo_succ {l : List ByteArray} {k : Nat} (h : k < l.length) : sumTo l (k + 1) = sumTo l k + (l.getD k ByteArray.empty).size := by
  unfold sumTo
  rw [List.take_succ_eq_append_getElem h, List.map_append, List.sum_append]
  simp [List.getD, h]
theorem sumTo_le (l : List ByteArray) (k : Nat) : sumTo l k ≤ sumTo l l.length := by
  unfold sumTo
  rw [List.take_length]
  have := congrArg (fun x => (x.map fun b : ByteArray => b.size).sum) (List.take_append_drop k l)
  simp only [List.map_append, List.sum_append] at this
  omega
set_option maxRecDepth 100000 in
set_option maxHeartbeats 2000000 in
theorem bytes_any (v : Value) (l : List ByteArray) (k : Nat) (w : World) (hv : RingV v l k) (hs : sumTo l l.length ≤ 1000000) :
    Calls Try.prog 48 #[v] w fun e w' => e = .returned (.int .i64 (sumTo l l.length)) ∧ Below w.heap.size w w' := by
  obtain ⟨s0, s1, s2, s3, s4, s5, s6, s7, f, m, rfl, hf, h1, h2, rfl⟩ := hv
  refine (callsIn_wide (n := 5)).1 ?_
  refine callsIn_of_wp_marks Try.func48 rfl trivial ?_ rfl
  simp only [Try.ntmps48, List.size_toArray, List.length_cons, List.length_nil, Nat.reduceAdd, Nat.reduceSub, Array.replicate_succ, Array.replicate_zero, List.push_toArray, List.append_toArray, List.nil_append, List.cons_append]
  gi_wp2_with ((first | (refine ⟨trivial, fun _ => by omega, ?_⟩; gi_at_call 46) | (refine ⟨trivial, ?_⟩; gi_at_call 46) | (refine ⟨fun _ => by omega, ?_⟩; gi_at_call 46) | gi_at_call 46); refine (all_any (.agg #[]) _ s0 s1 s2 s3 s4 s5 s6 s7 f m k _).mono ?_; rintro e w1 ⟨rfl, rfl⟩)
  have HX := blk_new ((w.alloc (.cells #[.string s0, .string s1, .string s2, .string s3, .string s4, .string s5, .string s6, .string s7, .int .i64 f, .int .i64 m, .int .i64 k] 25)).alloc (.cells #[.int .i64 0] 3)) (.cells #[.string s0, .string s1, .string s2, .string s3, .string s4, .string s5, .string s6, .string s7, .int .i64 f, .int .i64 m, .int .i64 k] 25)
  have HL := Boxed.new (w.alloc (.cells #[.string s0, .string s1, .string s2, .string s3, .string s4, .string s5, .string s6, .string s7, .int .i64 f, .int .i64 m, .int .i64 k] 25)) 3 (.int .i64 0)
  simp only [World.size_alloc] at HX HL
  refine wpIn_range_fresh rfl (by omega) (gf := 71) (lb := #[.pointer (some ⟨w.heap.size + 1 + 1, 0, none⟩)]) rfl trivial (enters_of Try.func71 (by kernel_rfl) rfl)
    (all1_gives (w.heap.size + 3) (w.heap.size + 2) s0 s1 s2 s3 s4 s5 s6 s7 f m k hf (by omega) _ (by omega) (by omega)) ⟨HX, by simp⟩ (AllK.from _ _ _ _) (fun k xs W hx => by obtain ⟨v, rfl, _⟩ := hx; rfl) (fun k => AllX.from _ _ k _)
    (fun k W => Boxed W (w.heap.size + 1) 3 (.int .i64 (sumTo (cont [s0, s1, s2, s3, s4, s5, s6, s7] f m) k)) ∧ Below w.heap.size w W)
    (OwnFrom.and (Own.from (boxed_own (w.heap.size + 1) _ fun k => .int .i64 (sumTo (cont [s0, s1, s2, s3, s4, s5, s6, s7] f m) k)) _) (ownFrom_below (Nat.le_refl _) (by simp; omega)))
    ⟨HL.alloc _, ?h0⟩
    (fun xs => { tmps := #[rg s0 s1 s2 s3 s4 s5 s6 s7 f m k, .pointer (some ⟨w.heap.size, 0, none⟩), .int .i64 0, .pointer (some ⟨w.heap.size + 1, 0, none⟩), undef, sndV xs, Value.agg #[.string s0, .string s1, .string s2, .string s3, .string s4, .string s5, .string s6, .string s7, .int .i64 f, .int .i64 m, .int .i64 k], Value.func (.func 71) #[] #[.pointer (some ⟨w.heap.size + 1 + 1, 0, none⟩)], fstV xs, sndV xs, undef, undef, undef, undef, undef], defers := [] }) ?assign ?body ?done
  case h0 => exact (((Below.refl _ _).alloc (Nat.le_refl _) _).alloc (by simp) _).alloc (by simp; omega) _
  case assign =>
    rintro l k' xs W K ⟨v, rfl, _⟩ hK
    gi_wp2
    exact hK
  case body =>
    rintro l k' xs W hl hr hd hk ⟨hbx, hB⟩ ⟨v, rfl, hv⟩ hB0
    have hk' : k' < (cont [s0, s1, s2, s3, s4, s5, s6, s7] f m).length := by rw [cont_length]; exact hk
    have HS := Lib.hid (sumTo_succ hk')
    have HT := Lib.hid (sumTo_le (cont [s0, s1, s2, s3, s4, s5, s6, s7] f m) (k' + 1))
    have hc := hbx.cell
    replace hB0 := Lib.hid hB0
    obtain ⟨b, cap, rfl, hb1, hb2, hb3⟩ := hv
    simp only [fstV_mk, sndV_mk]
    have hf1 := hbx.frozen
    gi_wp2
    have hw : wrap64 ((sumTo (cont [s0, s1, s2, s3, s4, s5, s6, s7] f m) k' : Int) + (((cont [s0, s1, s2, s3, s4, s5, s6, s7] f m).getD k' ByteArray.empty).size : Int)) = (sumTo (cont [s0, s1, s2, s3, s4, s5, s6, s7] f m) (k' + 1) : Int) := by
      have h1 := HS.out
      have h2 := HT.out
      rw [← Int.natCast_add, ← h1]
      unfold wrap64
      omega
    refine ⟨?_, ⟨?_, ?_⟩, ⟨?_, ?_⟩⟩
    · exact KeepsOthers.setCell _ _ _
    · rw [Below.heap_setCell _ _ _ _ (by simp)]; exact hB0.out.1
    · simpa using hB0.out.2
    · simp only [List.getD_eq_getElem?_getD, List.getElem?_eq_getElem hk', Option.getD_some] at hw
      rw [hw]
      exact hbx.set _
    · exact hB.setCell (by simp) _
  case done =>
    rintro D W hD ⟨hbx, hB⟩ - hK
    have hc := hbx.cell
    gi_wp2
    refine ⟨by simp, .inl ⟨_, _, rfl, run_takeDeferred hK, ?_⟩⟩
    refine ⟨_, results_tmp rfl _ _ _, ?_, ?_⟩
    · rw [cont_length]
      rfl
    · simp only [World.size_alloc] at hD
      exact hB.grown (grownBy_putObj' W D _) hB.size (fun r e => by cases e; omega)
end Go.Proofs.Ytgdpahojinknmaa

