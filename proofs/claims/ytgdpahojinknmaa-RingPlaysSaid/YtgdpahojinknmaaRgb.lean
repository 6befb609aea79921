/- Several texts as one: RpC, RpE, RpF. -/
import Derived.Test.YtgdpahojinknmaaRga
import Derived.Test.YtgdpahojinknmaaVd
import Derived.Test.YtgdpahojinknmaaChecked
import Derived.WalkKit
import Derived.WalkLawsBesides
import Derived.WalkSpells
import Derived.Outline
import Derived.Below
import Derived.Lib.Hide
import Derived.OwnWalk
import Derived.Lib.SlBytesConst
import Derived.Test.YtgdpahojinknmaaReg
import Derived.Test.YtgdpahojinknmaaMem2
import Derived.RangeFuncNested
import Derived.RangeFuncBound
import Derived.RangeFuncCalls
import Derived.RangeFuncLeaves
import Derived.Shelf.Abstract
import Derived.Shelf.RegionOpen
import Derived.OwnWalkIn
import Derived.TacticsInMore
import Derived.LoopNIn
import Derived.LoopIn
import Derived.RangeFuncSeq
/- A ring's Bytes, told to the small machine. -/
namespace Go.Proofs.Ytgdpahojinknmaa
open Go Vm Go.RowKit
set_option linter.unusedVariables false
set_option linter.unusedSimpArgs false
set_option maxRecDepth 100000

theorem Vm.WR.under {P : Program} {B : Nat → Prop} {w₀ w w' : World} {ρ : Vm.Ren} {g : Nat → Option VObj} (h : WR P B w₀ ρ g w) (hb : Below w.heap.size w w') : WR P B w₀ ρ g w' where
  below := h.below.trans ⟨hb.os, hb.tape, hb.output, hb.size, fun k hk => hb.block k (h.size k hk)⟩
  size := fun k hk => Nat.lt_of_lt_of_le (h.size k hk) hb.size
  live := fun x o r hx hr hl => by
    obtain ⟨o', h1, h2⟩ := h.live x o r hx hr hl
    exact ⟨o', (hb.block _ (Array.getElem?_eq_some_iff.1 h1).1).trans h1, h2⟩
  inj := h.inj
  fresh := h.fresh
  rows := h.rows
  nil := h.nil
  named := h.named
theorem rg_inv {ρ : Vm.Ren} {s0 s1 s2 s3 s4 s5 s6 s7 : ByteArray} {f n k : Int} {v : Value} (h : VR ρ (rg s0 s1 s2 s3 s4 s5 s6 s7 f n k) v) : v = rg s0 s1 s2 s3 s4 s5 s6 s7 f n k := by
  unfold rg at h ⊢
  obtain ⟨c, ec, g⟩ := VR.agg_inv h
  obtain ⟨v0, l0, e0, a0, g⟩ := g.inv_cons
  obtain ⟨v1, l1, e1, a1, g⟩ := g.inv_cons
  obtain ⟨v2, l2, e2, a2, g⟩ := g.inv_cons
  obtain ⟨v3, l3, e3, a3, g⟩ := g.inv_cons
  obtain ⟨v4, l4, e4, a4, g⟩ := g.inv_cons
  obtain ⟨v5, l5, e5, a5, g⟩ := g.inv_cons
  obtain ⟨v6, l6, e6, a6, g⟩ := g.inv_cons
  obtain ⟨v7, l7, e7, a7, g⟩ := g.inv_cons
  obtain ⟨v8, l8, e8, a8, g⟩ := g.inv_cons
  obtain ⟨v9, l9, e9, a9, g⟩ := g.inv_cons
  obtain ⟨va, la, ea, aa, g⟩ := g.inv_cons
  have eb := g.inv_nil
  obtain rfl := VR.string_inv a0
  obtain rfl := VR.string_inv a1
  obtain rfl := VR.string_inv a2
  obtain rfl := VR.string_inv a3
  obtain rfl := VR.string_inv a4
  obtain rfl := VR.string_inv a5
  obtain rfl := VR.string_inv a6
  obtain rfl := VR.string_inv a7
  obtain rfl := VR.int_inv a8
  obtain rfl := VR.int_inv a9
  obtain rfl := VR.int_inv aa
  rw [ec, ← Array.toArray_toList (xs := c), e0, e1, e2, e3, e4, e5, e6, e7, e8, e9, ea, eb]
theorem bytes_fn (v : Value) (l : List ByteArray) (k : Nat) (hv : RingV v l k) (hs : sumTo l l.length ≤ 1000000) :
    FnT Try.prog 48 [v] [] fun r o => r = .ret (.int .i64 (sumTo l l.length)) ∧ o = [] := by
  intro B w₀ ρ w args' hfull hnamed hargs hw
  obtain ⟨v1, l1, e1, h1, t1⟩ := hargs.inv_cons
  have e3 := t1.inv_nil
  have e4 : v1 = v := by
    obtain ⟨s0, s1, s2, s3, s4, s5, s6, s7, f, m, rfl, _⟩ := hv
    exact rg_inv h1
  have ea : args' = #[v] := by rw [← Array.toArray_toList (xs := args'), e1, e3, e4]
  subst ea
  refine (bytes_any v l k w hv hs).mono ?_
  rintro e w' ⟨rfl, hb⟩
  exact ⟨_, _, ρ, ⟨rfl, rfl⟩, VR.scal _ rfl, hfull, hw.under hb, by simp, fun _ _ => rfl⟩
open Classical in
/-- The chunks of a ring. -/
noncomputable def ringL (v : Value) : List ByteArray := if h : ∃ l k, RingV v l k then h.choose else []
noncomputable def isRing (v : Value) : Bool := @decide ((∃ k, RingV v (ringL v) k) ∧ sumTo (ringL v) (ringL v).length ≤ 1000000) (Classical.propDecidable _)
noncomputable def gBy (a : List Value) (o : List VObj) : Option (Bool × CRes × List VObj) := match a, o with
  | [v], [] => some (isRing v, .ret (.int .i64 (sumTo (ringL v) (ringL v).length)), [])
  | _, _ => none
theorem by_ok : FnOk Try.prog 48 (Sum.of gBy) := FnOk.of fun a o r o' h => by
  unfold gBy at h
  split at h
  · rename_i v
    simp only [Option.some.injEq, Prod.mk.injEq] at h
    obtain ⟨h1, rfl, rfl⟩ := h
    obtain ⟨⟨k, hk⟩, hs⟩ := @of_decide_eq_true _ (Classical.propDecidable _) h1
    exact bytes_fn v (ringL v) k hk hs
  · cases h
theorem rg_inj {s0 s1 s2 s3 s4 s5 s6 s7 t0 t1 t2 t3 t4 t5 t6 t7 : ByteArray} {f n k f' n' k' : Int} (h : rg s0 s1 s2 s3 s4 s5 s6 s7 f n k = rg t0 t1 t2 t3 t4 t5 t6 t7 f' n' k') :
    s0 = t0 ∧ s1 = t1 ∧ s2 = t2 ∧ s3 = t3 ∧ s4 = t4 ∧ s5 = t5 ∧ s6 = t6 ∧ s7 = t7 ∧ f = f' ∧ n = n' ∧ k = k' := by
  unfold rg at h
  simpa using h
theorem ringL_rg {v : Value} {l : List ByteArray} {k : Nat} (h : RingV v l k) : ringL v = l := by
  unfold ringL
  have hx : ∃ l k, RingV v l k := ⟨l, k, h⟩
  rw [dif_pos hx]
  obtain ⟨k', h'⟩ := hx.choose_spec
  obtain ⟨s0, s1, s2, s3, s4, s5, s6, s7, f, n, e, _, _, _, hl⟩ := h
  obtain ⟨t0, t1, t2, t3, t4, t5, t6, t7, f', n', e', _, _, _, hl'⟩ := h'
  obtain ⟨rfl, rfl, rfl, rfl, rfl, rfl, rfl, rfl, hf, hn, _⟩ := rg_inj (e.symm.trans e')
  obtain rfl : f = f' := by omega
  obtain rfl : n = n' := by omega
  rw [hl', hl]
end Go.Proofs.Ytgdpahojinknmaa

/- The ring's iterator, of a ring that lies anywhere. -/
namespace Go.Proofs.Ytgdpahojinknmaa
open Go.RowKit Go.Shelf
set_option linter.unusedSimpArgs false
set_option linter.unusedVariables false
attribute [local go_sem] Oper.semAt_some

/-- '[]byte(s)' of a string, under the wide fence, in a plain frame: the very world. -/
theorem wpListIn_sb2 {P : Program} {n : Nat} {ops : Array Oper} {rest : List Oper} {o : Oper} {a : Act} {w : World} {Q : Exit → Act → World → Prop} (hgd : o.guard = none) (src dst e : TypeId) (x : Operand)
    (ho : o.op = .convert src dst x) (s : ByteArray) (hx : a.eval x = .string s) {u : TypeDesc} (hs : P.underlying src = some u) (hd : P.underlying dst = some (.slice e)) (he : P.underlying e = some (.int .u8))
    (h : ∀ w', w' = Lib.bytesWorld w e s → wpListIn Fence.wide n P ops Q rest (a.put o.dst (.slice (some ⟨w.heap.size, 0, none⟩) s.size (grownCap w s.size 0 e))) w') : wpListIn Fence.wide n P ops Q (o :: rest) a w :=
  wpListIn_plain hgd fun K hK => by
    refine ⟨fun _ _ => trivial, ?_⟩
    have hsem : o.semAt Fence.wide.round a.eval = execOp a.eval o := rfl
    rw [hsem]
    unfold execOp
    simp only [ho, hx]
    have hr := Lib.run_convert_string_bytes (P := P) w src dst e s hs hd he
    simp only [Sem.run_bind, Functor.map, hr, Result.andThen_ok]
    exact hK _ _ (h _ rfl)
theorem bytesWorld_below (w : World) (e : TypeId) (s : ByteArray) : Below w.heap.size w (Lib.bytesWorld w e s) := ⟨rfl, rfl, rfl, by rw [Lib.bytesWorld_size]; omega, fun k hk => Lib.bytesWorld_at_old w e s k hk⟩

/-- Block B, from sh on, reads c. -/
structure Kq (B sh : Nat) (c : List Value) (W : World) : Prop where
  lt : B < W.heap.size
  at_ : ∀ i v, c[i]? = some v → W.cell? ⟨B, sh + i, none⟩ = some v
abbrev rgL (s0 s1 s2 s3 s4 s5 s6 s7 : ByteArray) (f m k : Int) : List Value := [.string s0, .string s1, .string s2, .string s3, .string s4, .string s5, .string s6, .string s7, .int .i64 f, .int .i64 m, .int .i64 k]

set_option maxRecDepth 100000 in
set_option maxHeartbeats 2000000 in
theorem all1_yields (B sh : Nat) (s0 s1 s2 s3 s4 s5 s6 s7 : ByteArray) (f m k : Nat) (hf : f < 8) (hm : m ≤ 8) (n : Nat) (hn : 2 ≤ n)
    (l : Nat) (J : Nat → World → Prop) (W : World) (hW : Kq B sh (rgL s0 s1 s2 s3 s4 s5 s6 s7 f m k) W) (hJ : ∀ k A B, J k A → A.grownBy B none → J k B)
    (hY : ∀ k' W0, k' < m → J k' W0 →
      YieldAt Fence.wide (n - 1) Try.prog l #[.int .i64 k', .slice (some ⟨W0.heap.size, 0, none⟩) ((cont [s0, s1, s2, s3, s4, s5, s6, s7] f m).getD k' ByteArray.empty).size (grownCap W0 ((cont [s0, s1, s2, s3, s4, s5, s6, s7] f m).getD k' ByteArray.empty).size 0 5)] (Lib.bytesWorld W0 5 ((cont [s0, s1, s2, s3, s4, s5, s6, s7] f m).getD k' ByteArray.empty))
        fun e W' => e = .returned (.bool true) ∧ J (k' + 1) W' ∧ Kq B sh (rgL s0 s1 s2 s3 s4 s5 s6 s7 f m k) W')
    (h0 : J 0 W) : CallsIn Fence.wide n Try.prog 71 (#[.func (.yield l) #[] #[]] ++ #[.pointer (some ⟨B, sh, none⟩)]) W fun e W' => (∃ v, e = .returned v) ∧ J m W' := by
  refine callsIn_of_wp Try.func71 rfl trivial ?_ rfl
  simp only [Try.ntmps71, List.size_toArray, List.length_cons, List.length_nil, Nat.reduceAdd, Nat.reduceSub, Array.replicate_succ, Array.replicate_zero, List.push_toArray, List.append_toArray, List.nil_append, List.cons_append]
  have g9 := hW.at_ 9 _ rfl
  gi_wp2
  gi_loopw [6] (fun i wr => ∃ k' : Nat, k' ≤ m ∧ i = .int .i64 k' ∧ J k' wr ∧ Kq B sh (rgL s0 s1 s2 s3 s4 s5 s6 s7 f m k) wr) (fun i _ => m - (intOf i).toNat)
  case atStart => exact ⟨0, Nat.zero_le _, rfl, h0, hW⟩
  case round =>
    obtain ⟨i, hi, rfl, hJi, hBi⟩ := hrel
    clear g9
    have hlt : B < wr.heap.size := hBi.lt
    by_cases him : i < m
    · have hs : ∃ b, [s0, s1, s2, s3, s4, s5, s6, s7].getD ((f + i) % 8) ByteArray.empty = b ∧ (cont [s0, s1, s2, s3, s4, s5, s6, s7] f m).getD i ByteArray.empty = b := by
        refine ⟨_, rfl, ?_⟩
        unfold cont
        simp [List.getD, him]
      obtain ⟨b, hb1, hb2⟩ := hs
      have hcell : wr.cell? ⟨B, sh + (f + i) % 8, none⟩ = some (.string b) := by
        refine hBi.at_ _ _ ?_
        have h8 : (f + i) % 8 < 8 := by omega
        generalize (f + i) % 8 = q at hb1 h8
        have : q = 0 ∨ q = 1 ∨ q = 2 ∨ q = 3 ∨ q = 4 ∨ q = 5 ∨ q = 6 ∨ q = 7 := by omega
        rcases this with rfl | rfl | rfl | rfl | rfl | rfl | rfl | rfl <;> (subst hb1; rfl)
      have hY' := hY i
      rw [hb2] at hY'
      replace hb1 := Lib.hid hb1
      replace hb2 := Lib.hid hb2
      have c0 := hBi.at_ 0 _ rfl
      have c1 := hBi.at_ 1 _ rfl
      have c2 := hBi.at_ 2 _ rfl
      have c3 := hBi.at_ 3 _ rfl
      have c4 := hBi.at_ 4 _ rfl
      have c5 := hBi.at_ 5 _ rfl
      have c6 := hBi.at_ 6 _ rfl
      have c7 := hBi.at_ 7 _ rfl
      have c8 := hBi.at_ 8 _ rfl
      have c9 := hBi.at_ 9 _ rfl
      have c10 := hBi.at_ 10 _ rfl
      simp only [Nat.add_zero] at c0
      have hi0 : ((f : Int) + i) % 8 < 8 := by omega
      replace hBi := Lib.hid hBi
      replace hY' := Lib.hid hY'
      gi_wp2_with fail
      refine ⟨trivial, fun _ => by omega, ?_⟩
      refine (callsIn_wide.2 (at_any s0 s1 s2 s3 s4 s5 s6 s7 f m k i _ (by omega) (by omega) (by omega) (by omega))).mono ?_
      rintro e w1 ⟨rfl, hb⟩
      have hcell1 : w1.cell? ⟨B, sh + (f + i) % 8, none⟩ = some (.string b) := (hb.cell (p := ⟨B, sh + (f + i) % 8, none⟩) hlt).trans hcell
      clear c0 c1 c2 c3 c4 c5 c6 c7 c8 c9 c10 hcell
      gi_wp2_with (refine wpListIn_sb2 rfl 9 32 5 _ rfl _ rfl Try.underlying9 Try.underlying32 Try.underlying5 ?_; intro w2 hw2; subst hw2; obtain ⟨fn, tmps, assign, body, hy, hR⟩ := hY'.out w1 him (hJ i _ _ hJi ⟨hb.os, hb.tape, hb.output, hb.size, fun k hk _ => hb.block k hk⟩))
      refine ⟨fun _ => by omega, ?_⟩
      refine hR.mono ?_
      rintro e w3 ⟨rfl, hJ3, hB3⟩
      gi_wp2
      go_roundw
      case rel => exact ⟨i + 1, by omega, by go_num, hJ3, hB3⟩
      case measure => simp [intOf]; omega
    · obtain rfl : i = m := by omega
      gi_wp2
      go_end0
      exact ⟨⟨_, rfl⟩, hJi⟩
end Go.Proofs.Ytgdpahojinknmaa

/- The ring's iterator, told to the small machine. -/
namespace Go.Proofs.Ytgdpahojinknmaa
open Go Vm Go.RowKit
set_option linter.unusedVariables false
set_option linter.unusedSimpArgs false
set_option maxRecDepth 100000

theorem Vm.memOf_snoc {O : List VObj} {o : VObj} (hl : O.length < 262144) : upd (memOf O) O.length o = memOf (O ++ [o]) := by
  have hsk : small O.length = true := small_iff.2 (by have : (2 : Nat) ^ 18 = 262144 := rfl; omega)
  funext x
  by_cases hx : x = O.length
  · subst hx
    rw [upd_same, memOf_small hsk]
    simp
  · rw [upd_other _ hx]
    cases hs : small x with
    | false => rw [memOf_great hs, memOf_great hs]
    | true =>
      rw [memOf_small hs, memOf_small hs]
      by_cases hl : x < O.length
      · rw [List.getElem?_append_left hl]
      · rw [List.getElem?_eq_none (by omega), List.getElem?_eq_none (by simp; omega)]
theorem Vm.memOf_none {O : List VObj} (hl : O.length < 262144) : memOf O O.length = none := by
  rw [memOf_small (small_iff.2 (by have : (2 : Nat) ^ 18 = 262144 := rfl; omega))]; simp
theorem Vm.full_put {ρ : Vm.Ren} (h : Full ρ) {x : Nat} (hx : small x = true) (r : Vm.Where) : Full (ρ.put x r) := fun q => by
  obtain ⟨y, h1, h2⟩ := h q
  refine ⟨y, h1, ?_⟩
  rw [Ren.put_other _ _ (by rintro rfl; rw [hx] at h1; cases h1)]
  exact h2

/-- New bytes behind a memory. -/
theorem Vm.WR.newBytes {P : Program} {B : Nat → Prop} {w₀ w : World} {ρ : Vm.Ren} {O : List VObj} (h : WR P B w₀ ρ (memOf O) w) (hl : O.length < 262144) (e : TypeId) (he : szOf P e = some 1) (s : ByteArray) :
    WR P B w₀ (ρ.put O.length ⟨w.heap.size, 0, 1, (Lib.bytesCells w e s).size⟩) (memOf (O ++ [.cells (bytesC s) e false])) (Lib.bytesWorld w e s) := by
  rw [← memOf_snoc hl]
  have hb := bytesWorld_below w e s
  have hsz : s.size ≤ (Lib.bytesCells w e s).size := by unfold Lib.bytesCells; rw [Array.size_append, Array.size_map]; exact Nat.le_add_right _ _
  refine h.put (memOf_none hl) (fun y hy => .inl (upd_other _ hy)) (upd_same _ _ _) ⟨hb.os, hb.tape, hb.output, hb.size, fun k hk => hb.block k (h.size k hk)⟩ hb.size (fun y oy ry _ _ h1 h2 h3 => ?_) (fun _ => ⟨_, Lib.bytesWorld_at_new w e s, ?_, fun _ hB => ?_⟩) (fun _ y oy ry _ _ h1 h2 h3 _ e' => ?_) (fun m sz row e' => by cases e') (fun el ro e' k hk => ?_)
  · obtain ⟨o', q1, _, _⟩ := h.live y oy ry h1 h2 h3
    exact hb.block _ (Array.getElem?_eq_some_iff.1 q1).1
  · refine .cells _ e e false _ _ rfl (by dsimp only; rw [bytesC_length]; omega) (fun _ => rfl) (fun n hn => by rw [he] at hn; cases hn; rfl) (fun _ => .inr (Nat.le_refl _)) fun i v hv => ?_
    refine ⟨v, ?_, ?_⟩
    · dsimp only
      rw [Nat.zero_add]
      unfold bytesC at hv
      unfold Lib.bytesCells
      have hi : i < s.data.size := by
        have := (List.getElem?_eq_some_iff.1 hv).1
        simpa using this
      rw [Array.getElem?_append_left (by simpa using hi), Array.getElem?_map]
      rw [List.getElem?_map] at hv
      simpa using hv
    · refine .scal _ ?_
      unfold bytesC at hv
      rw [List.getElem?_map] at hv
      cases hx : s.data.toList[i]? with
      | none => rw [hx] at hv; cases hv
      | some b => rw [hx] at hv; cases hv; rfl
  · have := h.size _ hB
    dsimp only at this
    omega
  · obtain ⟨o', q1, _, _⟩ := h.live y oy ry h1 h2 h3
    have := (Array.getElem?_eq_some_iff.1 q1).1
    rw [e'] at this
    dsimp only at this
    omega
  · simp only [VObj.cells.injEq] at e'
    rw [← e'.2.1, he] at hk
    cases hk
    rfl

theorem kq_of {P : Program} {B : Nat → Prop} {w₀ w : World} {ρ : Vm.Ren} {O : List VObj} {xb : Nat} {c : List Value} {el : TypeId} {r : Vm.Where} (h : WR P B w₀ ρ (memOf O) w) (hl : O.length ≤ 262144) (ho : O[xb]? = some (.cells c el false)) (hne : c ≠ []) (hs : c.all isScal = true) (hr : ρ xb = some r) : Kq r.blk r.sh c w := by
  have hx : xb < O.length := (List.getElem?_eq_some_iff.1 ho).1
  have hm : memOf O xb = some (.cells c el false) := by rw [memOf_small (small_iff.2 (by have : (2 : Nat) ^ 18 = 262144 := rfl; omega))]; exact ho
  obtain ⟨o', h1, h2, _⟩ := h.live xb _ r hm hr (live_ne hne)
  cases h2 with
  | cells _ _ el' _ c' fr hp hss he hz hf hc =>
    refine ⟨(Array.getElem?_eq_some_iff.1 h1).1, fun i v hv => ?_⟩
    obtain ⟨v', q1, q2⟩ := hc i v hv
    have := q2.scal_inv (List.all_eq_true.1 hs v (List.mem_of_getElem? hv))
    subst this
    simp only [World.cell?, h1]
    exact q1

theorem Go.YieldAt.mono' {F : Fence} {m : Nat} {P : Program} {l : Nat} {args : Array Value} {W : World} {R R' : Ending → World → Prop} (h : YieldAt F m P l args W R) (hr : ∀ e w, R e w → R' e w) : YieldAt F m P l args W R' := by
  obtain ⟨fn, tmps, asg, body, h1, h2⟩ := h
  exact ⟨fn, tmps, asg, body, h1, h2.mono hr⟩

theorem ring_iter {K xb : Nat} {O : Nat → List VObj} (s0 s1 s2 s3 s4 s5 s6 s7 : ByteArray) (f m k : Nat) (hf : f < 8) (hm : m ≤ 8) (hK : K < 262144)
    (hO : ∀ j, j ≤ m → (O j).length = K) (hx : ∀ j, j ≤ m → (O j)[xb]? = some (.cells (rgL s0 s1 s2 s3 s4 s5 s6 s7 f m k) 25 false)) :
    IterV Try.prog 71 [.pointer (some ⟨xb, 0, none⟩)] K O m
      (fun j => [.int .i64 (j : Nat), .slice (some ⟨K, 0, none⟩) ((cont [s0, s1, s2, s3, s4, s5, s6, s7] f m).getD j ByteArray.empty).size ((cont [s0, s1, s2, s3, s4, s5, s6, s7] f m).getD j ByteArray.empty).size])
      (fun j => [.cells (bytesC ((cont [s0, s1, s2, s3, s4, s5, s6, s7] f m).getD j ByteArray.empty)) 5 false]) := by
  intro B w₀ ρ lb l Ex W hlb hEx hfull hY hSt hE
  have hxK : xb < K := by rw [← hO 0 (Nat.zero_le _)]; exact (List.getElem?_eq_some_iff.1 (hx 0 (Nat.zero_le _))).1
  obtain ⟨v', l', e1, e2, e3⟩ := hlb.inv_cons
  rw [e3.inv_nil] at e1
  obtain ⟨r, hr, rfl⟩ := e2.ptr_inv
  have hlb' : lb = #[.pointer (some ⟨r.blk, r.sh + 0, none⟩)] := by rw [← Array.toArray_toList (xs := lb), e1]
  subst hlb'
  rw [Nat.add_zero]
  have hkq : ∀ j W, j ≤ m → St Try.prog B w₀ ρ K (O j) W → Kq r.blk r.sh (rgL s0 s1 s2 s3 s4 s5 s6 s7 f m k) W := fun j W hj ⟨ρ', _, hk, hw⟩ =>
    kq_of hw (by rw [hO j hj]; omega) (hx j hj) (by simp) rfl ((hk xb hxK).trans hr)
  refine (all1_yields r.blk r.sh s0 s1 s2 s3 s4 s5 s6 s7 f m k hf hm 4 (by omega) l (fun j W => St Try.prog B w₀ ρ K (O j) W ∧ Ex W) W (hkq 0 W (Nat.zero_le _) hSt) ?_ ?_ ⟨hSt, hE⟩).mono ?_
  · rintro j A A' ⟨⟨ρ', a1, a2, a3⟩, hA⟩ hg
    exact ⟨⟨ρ', a1, a2, a3.under' hg⟩, hEx _ _ hA hg⟩
  · rintro j W0 hj ⟨⟨ρ', a1, a2, a3⟩, hA⟩
    have hb := bytesWorld_below W0 5 ((cont [s0, s1, s2, s3, s4, s5, s6, s7] f m).getD j ByteArray.empty)
    have hlen := hO j (by omega)
    have hw := a3.newBytes (by omega) 5 (by kernel_rfl) ((cont [s0, s1, s2, s3, s4, s5, s6, s7] f m).getD j ByteArray.empty)
    rw [hlen] at hw
    have hsK : small K = true := small_iff.2 (by have : (2 : Nat) ^ 18 = 262144 := rfl; omega)
    refine Go.YieldAt.mono' (hY j _ _ hj ⟨_, full_put a1 hsK _, fun x hx => ?_, hw, ?_⟩ (hEx _ _ hA ⟨hb.os, hb.tape, hb.output, hb.size, fun q hq _ => hb.block q hq⟩)) fun e W' ⟨h1, h2, h3⟩ => ⟨h1, ⟨h2, h3⟩, hkq (j + 1) W' (by omega) h2⟩
    · rw [Ren.put_other _ _ (by omega)]; exact a2 x hx
    · refine LR.cons (.scal _ rfl) (LR.cons ?_ (LR.nil _))
      have hgc : grownCap W0 ((cont [s0, s1, s2, s3, s4, s5, s6, s7] f m).getD j ByteArray.empty).size 0 5 = (Lib.bytesCells W0 5 ((cont [s0, s1, s2, s3, s4, s5, s6, s7] f m).getD j ByteArray.empty)).size := by
        have hle := grownCap_ge W0 ((cont [s0, s1, s2, s3, s4, s5, s6, s7] f m).getD j ByteArray.empty).size 0 5
        have hds : ((cont [s0, s1, s2, s3, s4, s5, s6, s7] f m).getD j ByteArray.empty).data.size = ((cont [s0, s1, s2, s3, s4, s5, s6, s7] f m).getD j ByteArray.empty).size := rfl
        unfold Lib.bytesCells
        rw [Array.size_append, Array.size_map, Array.size_replicate, hds]
        omega
      have := VR.sl (ρ := ρ'.put K ⟨W0.heap.size, 0, 1, (Lib.bytesCells W0 5 ((cont [s0, s1, s2, s3, s4, s5, s6, s7] f m).getD j ByteArray.empty)).size⟩) K 0 ((cont [s0, s1, s2, s3, s4, s5, s6, s7] f m).getD j ByteArray.empty).size ((cont [s0, s1, s2, s3, s4, s5, s6, s7] f m).getD j ByteArray.empty).size (grownCap W0 ((cont [s0, s1, s2, s3, s4, s5, s6, s7] f m).getD j ByteArray.empty).size 0 5) _ (Ren.put_same _ _ _) (.inr ⟨by have := grownCap_ge W0 ((cont [s0, s1, s2, s3, s4, s5, s6, s7] f m).getD j ByteArray.empty).size 0 5; omega, by dsimp only; rw [hgc]; omega⟩)
      simpa using this
  · rintro e W' ⟨hv, h1, h2⟩
    exact ⟨hv, h1, h2⟩
end Go.Proofs.Ytgdpahojinknmaa

