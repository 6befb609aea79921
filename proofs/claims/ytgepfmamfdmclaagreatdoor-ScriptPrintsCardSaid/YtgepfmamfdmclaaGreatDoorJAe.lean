/- Part of the proof: Abr, Blo, Xba, LayI, Jbv, Ito, Bfn, Tb1, Xha, Xhb, Hxa, Xhc, Hxb. -/
import Derived.Test.YtgepfmamfdmclaaGreatDoorJAd
import Derived.KernelRfl
import Derived.Shelf.LaysM
import Derived.Shelf.Strconv.Itoa3
import Derived.Test.YtgepfmamfdmclaaGreatDoorProg
import Derived.Lib.ItoaLen
import Derived.Lib.ItoaNum
import Derived.IntWalk
set_option linter.unusedVariables false
set_option linter.unusedSimpArgs false
set_option maxRecDepth 100000
namespace Go.Proofs.YtgepfmamfdmclaaGreatDoor
open Go Vm Go.RowKit
theorem szU8 : szOf Tryz.prog 5 = some 1 := by kernel_rfl
theorem selfU8 : selfP Tryz.prog 5 = false := by kernel_rfl
theorem byteV_eq (b : ByteArray) : byteV b = bytesC b := rfl
theorem LR.plain {ρ : Ren} : ∀ {c c' : List Value}, c.all isScal = true → LR ρ c c' → c' = c := fun hc h =>
 list_eq_of h.len fun i v v' h1 h2 => VR.scal_inv (List.all_eq_true.1 hc v (List.mem_of_getElem? h1)) (h.at_ i v v' h1 h2)
theorem plain_fl {c : List Value} (h : c.all isScal = true) : c.all fl = true := by
 rw [List.all_eq_true] at h ⊢
 intro v hv
 have := h v hv
 unfold isScal at this
 split at this <;> first | rfl | cases this
theorem row_out {B : Nat → Prop} {w₀ w : World} {ρ : Ren} {g : Nat → Option VObj} (h : WR Tryz.prog B w₀ ρ g w) {z n size : Nat} {c : List Value} {el : TypeId} (hz : g z = some (.cells c el false)) (hc : c.all isScal = true) (hl : c.length = n * size) (hs : szOf Tryz.prog el = some size) (hs0 : 0 < size) {v : Value} (hv : VR ρ (.slice (some ⟨z, 0, none⟩) n n) v) :
  ∃ L, Vm.rowAt n size c el v L ∧ (L = [] ∨ ∃ q, ρ z = some q ∧ Live (.cells c el false) q = true ∧ L = [(q.blk, .cells c el q.sh q.phys)] ∧ COat w q.blk (.cells c el q.sh q.phys)) := by
 cases hv with
 | scal _ h => cases h
 | slE _ a' => exact ⟨[], .inl ⟨rfl, rfl, a', rfl⟩, .inl rfl⟩
 | sl _ _ _ _ cap' q hq hcap =>
  by_cases hlv : Live (.cells c el false) q = true
  ·obtain ⟨c', h1, h2⟩ := h.coat hz hq hlv
   have := LR.plain hc h1
   subst this
   obtain ⟨o', h3, h4, _⟩ := h.live z _ q hz hq hlv
   have hsz : q.sz = size := h4.nil_sz _ hs
   refine ⟨_, .inr ⟨q.blk, q.sh, cap', q.phys, rfl, ?_, ?_, rfl⟩, .inr ⟨q, hq, hlv, rfl, h2⟩⟩
   ·rcases hcap with h | h
    ·omega
    ·exact h.1
   ·obtain ⟨_, _, _, _, h5, _⟩ := h2
    rcases hcap with h | h
    ·rw [h, ← hl]; exact h5
    ·have := h.2; rw [hsz] at this; omega
  ·have hlv : Live (.cells c el false) q = false := by simpa using hlv
   obtain ⟨h1, h2⟩ := live_not hlv
   subst h1
   have hsz : q.sz = size := h.nil z el false q hz hq _ hs
   have hn : n = 0 := by
    rcases Nat.eq_zero_or_pos n with h | h
    ·exact h
    ·have := Nat.mul_pos h hs0; simp at hl; omega
   subst hn
   have hcap0 : cap' = 0 := by
    rcases hcap with h | h
    ·exact h
    ·have h3 := h.2
     rw [hsz, h2] at h3
     rcases Nat.eq_zero_or_pos cap' with h | h
     ·exact h
     ·have := Nat.mul_pos h hs0; omega
   subst hcap0
   exact ⟨[], .inl ⟨rfl, rfl, _, rfl⟩, .inl rfl⟩
def LiveAt (ρ : Ren) (o' : List VObj) (k y : Nat) : Prop := ∃ o q, o'[y]? = some o ∧ ρ y = some q ∧ Live o q = true ∧ q.blk = k ∧ o.ro = false
theorem LiveAt.row {ρ : Ren} {o' : List VObj} {y : Nat} {c : List Value} {el : TypeId} {q : Where} (h : o'[y]? = some (.cells c el false)) (hq : ρ y = some q) (hl : Live (.cells c el false) q = true) : LiveAt ρ o' q.blk y := ⟨_, q, h, hq, hl, rfl, rfl⟩
theorem LiveAt.inj {P : Program} {B : Nat → Prop} {w₀ w : World} {ρ : Ren} {o' : List VObj} (h : WR P B w₀ ρ (memOf o') w) (hlen : o'.length ≤ 262144) {k y z : Nat} (h1 : LiveAt ρ o' k y) (h2 : LiveAt ρ o' k z) : y = z := by
 obtain ⟨o, q, a, b, c, d, e⟩ := h1
 obtain ⟨u, s, a', b', c', d', e'⟩ := h2
 have sm : ∀ {y o}, o'[y]? = some o → memOf o' y = some o := fun {y o} hy => by
  rw [memOf_small]; exact hy
  exact small_iff.2 (by have := (List.getElem?_eq_some_iff.1 hy).1; have : (2 : Nat) ^ 18 = 262144 := rfl; omega)
 exact h.inj y z o u q s (sm a) (sm a') b b' c c' (.inl e) (d.trans d'.symm)
theorem row_in {w : World} {n size : Nat} {c : List Value} {el : TypeId} {v : Value} {L : List (Nat × CO)} (h : Vm.rowAt n size c el v L) (hat : ∀ p ∈ L, COat w p.1 p.2) (hl : c.length = n * size) :
  ∃ q : Where, q.sz = size ∧ (Live (.cells c el false) q = true → q.blk ∈ L.map (·.1) ∧ COat w q.blk (.cells c el q.sh q.phys)) ∧ ∀ (ρ : Ren) (z : Nat), ρ z = some q → VR ρ (.slice (some ⟨z, 0, none⟩) n n) v := by
 rcases h with ⟨rfl, rfl, a, rfl⟩ | ⟨k, sh, cap, room, rfl, h1, h2, rfl⟩
 ·have : c = [] := List.eq_nil_of_length_eq_zero (by rw [hl, Nat.zero_mul])
  subst this
  exact ⟨⟨0, 0, size, 0⟩, rfl, (fun h => by cases h), fun ρ z _ => .slE _ _⟩
 ·refine ⟨⟨k, sh, size, room⟩, rfl, fun _ => ⟨by simp, hat _ (List.mem_singleton.2 rfl)⟩, fun ρ z hz => ?_⟩
  exact .sl z 0 n n cap ⟨k, sh, size, room⟩ hz (.inr ⟨h1, by simpa using h2⟩)
theorem szBld : szOf Tryz.prog 71 = some 2 := by kernel_rfl
abbrev bldN : List VObj := [.cells [.pointer none, .slice none 0 0] 71 false]
abbrev bldF (t : ByteArray) : List VObj := [.cells [.pointer (some ⟨0, 0, none⟩), .slice (some ⟨1, 0, none⟩) t.size t.size] 71 false, .cells (bytesC t) 5 false]
inductive BLeft (o' : List VObj) : List Nat → AbsD → Prop where
 | bld (t : ByteArray) (z : Nat) (h0 : o'[0]? = some (.cells [.pointer (some ⟨0, 0, none⟩), .slice (some ⟨z, 0, none⟩) t.size t.size] 71 false)) (hz : o'[z]? = some (.cells (bytesC t) 5 false)) (ht : 0 < t.size) (hne : z ≠ 0) : BLeft o' [z] (.bld t)
 | nil (t : ByteArray) (ht : t.size = 0) (h0 : o'[0]? = some (.cells [.pointer none, .slice none 0 0] 71 false)) : BLeft o' [] (.bld t)
 | gone (p v : Value) (K : List Nat) (h0 : o'[0]? = some (.cells [p, v] 71 false)) : BLeft o' K .gone
theorem bld_close {B : Nat → Prop} {w w' : World} {ρ : Ren} {o' : List VObj} {r : Where} {K : List Nat} {d' : AbsD} (h : WR Tryz.prog B w ρ (memOf o') w') (hlen : o'.length ≤ 262144) (hr : ρ 0 = some r) (hoff : r.sh = 0) (hsz : r.sz = 2) (hL : BLeft o' K d') :
  ∃ S', AbsAt w' r d' S' ∧ ∀ k, S' k → ∃ y o q, (y = 0 ∨ K.contains y = true) ∧ o'[y]? = some o ∧ ρ y = some q ∧ Live o q = true ∧ q.blk = k ∧ o.ro = false := by
 have sm : ∀ {y o}, o'[y]? = some o → memOf o' y = some o := fun {y o} hy => by
  rw [memOf_small]; exact hy
  exact small_iff.2 (by have := (List.getElem?_eq_some_iff.1 hy).1; have : (2 : Nat) ^ 18 = 262144 := rfl; omega)
 cases hL with
 | nil t ht h0 =>
  obtain ⟨c', h1, h2⟩ := h.coat (sm h0) hr rfl
  have := LR.plain (c := [Value.pointer none, Value.slice none 0 0]) rfl h1
  subst this
  rw [hoff] at h2
  exact ⟨fun k => k = r.blk, ⟨[(r.blk, _)], ⟨hoff, hsz, .inl ⟨ht, rfl⟩⟩, ⟨fun p hp => by rw [List.mem_singleton] at hp; subst hp; exact h2, by simp, by simp, fun k => by simp⟩⟩,
   fun k hk => ⟨0, _, r, .inl rfl, h0, hr, rfl, hk.symm, rfl⟩⟩
 | gone p v K h0 =>
  obtain ⟨c', h1, h2⟩ := h.coat (sm h0) hr rfl
  obtain ⟨v1, l1, rfl, _, h3⟩ := h1.inv_cons
  obtain ⟨v2, l2, rfl, _, h4⟩ := h3.inv_cons
  have := h4.inv_nil; subst this
  rw [hoff] at h2
  exact ⟨fun k => k = r.blk, ⟨[(r.blk, _)], ⟨hoff, hsz, v1, v2, rfl⟩, ⟨fun p hp => by rw [List.mem_singleton] at hp; subst hp; exact h2, by simp, by simp, fun k => by simp⟩⟩,
   fun k hk => ⟨0, _, r, .inl rfl, h0, hr, rfl, hk.symm, rfl⟩⟩
 | bld t z h0 hz ht hne =>
  obtain ⟨c', h1, h2⟩ := h.coat (sm h0) hr rfl
  obtain ⟨v1, l1, rfl, hv1, h3⟩ := h1.inv_cons
  obtain ⟨v2, l2, rfl, hv2, h4⟩ := h3.inv_cons
  have := h4.inv_nil; subst this
  obtain ⟨r1, hr1, rfl⟩ := hv1.ptr_inv
  rw [hr] at hr1; cases hr1
  rw [hoff] at h2
  obtain ⟨L, q1, q2⟩ := row_out h (sm hz) (by simp) (by rw [bytesC_length, Nat.mul_one]) szU8 (by omega) hv2
  rcases q2 with rfl | ⟨q, s1, s2, rfl, s4⟩
  ·rcases q1 with ⟨q1, _⟩ | ⟨_, _, _, _, _, _, _, q1⟩
   ·omega
   ·cases q1
  ·have hneb : r.blk ≠ q.blk := fun e => hne ((LiveAt.row hz s1 s2).inj h hlen (e ▸ LiveAt.row h0 hr rfl))
   refine ⟨fun k => k = r.blk ∨ k = q.blk, ⟨[(r.blk, _), (q.blk, .cells (bytesC t) 5 q.sh q.phys)], ⟨hoff, hsz, .inr ⟨ht, v2, _, q1, rfl⟩⟩, ⟨fun p hp => ?_, ?_, by simp, fun k => by simp⟩⟩, fun k hk => ?_⟩
   ·simp only [List.mem_cons, List.not_mem_nil, or_false] at hp
    rcases hp with rfl | rfl
    ·exact h2
    ·exact s4
   ·simp [hneb]
   ·rcases hk with rfl | rfl
    ·exact ⟨0, _, r, .inl rfl, h0, hr, rfl, rfl, rfl⟩
    ·exact ⟨z, _, q, .inr (by simp), hz, s1, s2, rfl, rfl⟩
theorem FnT.bldN {f : FuncId} {args : List Value} {t : ByteArray} {Q : CRes → List VObj → Prop} (ht : t.size = 0) (h : FnT Tryz.prog f args bldN fun v o' => ∃ d' K, BLeft o' K d' ∧ (∀ o ∈ o', o.ro = false) ∧ o'.length ≤ 262144 ∧ Q v (closed d' K o')) : FnT Tryz.prog f args [.abs (.bld t)] Q := by
 refine FnT.openAbs fun w r S L hG hsh hL => ?_
 obtain ⟨hoff, hsz, hsh⟩ := hsh
 rcases hsh with ⟨_, hLe⟩ | ⟨h1, _⟩
 ·have hc : COat w r.blk (.cells [.pointer none, .slice none 0 0] 71 r.sh r.phys) := by rw [hoff]; exact hL.at_ (r.blk, _) (by rw [hLe]; exact List.mem_cons_self)
  refine ⟨.cells [.pointer none, .slice none 0 0] 71 false, [], _, ⟨?_, ?_, ?_, ?_⟩, by simp, h, ?_⟩
  ·intro p hp; rw [List.mem_singleton] at hp; subst hp; exact ⟨rfl, by intro d e; cases e⟩
  ·intro p hp el ro he; rw [List.mem_singleton] at hp; subst hp; cases he
  ·intro ρ hρ0 _ p hp hl; rw [List.mem_singleton] at hp; subst hp
   exact ⟨by rw [hLe]; simp, hc.or (fun n hn => by rw [szBld] at hn; cases hn; exact hsz) (LR.flat_refl rfl) fun _ => hoff⟩
  ·simp
  ·intro v o' hv B ρ w' hw hρ0 _ _
   obtain ⟨d', K, hB, hro, hlen, hq⟩ := hv
   obtain ⟨S', a, b⟩ := bld_close hw hlen hρ0 hoff hsz hB
   exact ⟨d', S', K, a, fun k hk => .inr (b k hk), (fun y o _ _ hy hr => by rw [hro o (List.mem_of_getElem? hy)] at hr; cases hr), hq⟩
 ·omega
theorem FnT.bldF {f : FuncId} {args : List Value} {t : ByteArray} {Q : CRes → List VObj → Prop} (ht : 0 < t.size) (h : FnT Tryz.prog f args (bldF t) fun v o' => ∃ d' K, BLeft o' K d' ∧ (∀ o ∈ o', o.ro = false) ∧ o'.length ≤ 262144 ∧ Q v (closed d' K o')) : FnT Tryz.prog f args [.abs (.bld t)] Q := by
 refine FnT.openAbs fun w r S L hG hsh hL => ?_
 obtain ⟨hoff, hsz, hsh⟩ := hsh
 rcases hsh with ⟨h1, _⟩ | ⟨_, v, L', hrow, hLe⟩
 ·omega
 ·have hc : COat w r.blk (.cells [.pointer (some ⟨r.blk, 0, none⟩), v] 71 r.sh r.phys) := by rw [hoff]; exact hL.at_ (r.blk, _) (by rw [hLe]; exact List.mem_cons_self)
  obtain ⟨q, hq, hql, hqv⟩ := row_in hrow (fun p hp => hL.at_ p (by rw [hLe]; exact List.mem_cons_of_mem _ hp)) (by show (byteV t).length = _; rw [byteV_eq, bytesC_length, Nat.mul_one])
  have hnd := hL.once
  rw [hLe] at hnd
  simp only [List.map_cons, List.nodup_cons] at hnd
  refine ⟨.cells [.pointer (some ⟨0, 0, none⟩), .slice (some ⟨1, 0, none⟩) t.size t.size] 71 false, [(q, .cells (bytesC t) 5 false)], _, ⟨?_, ?_, ?_, ?_⟩, by simp, h, ?_⟩
  ·intro p hp
   simp only [List.mem_cons, List.not_mem_nil, or_false] at hp
   rcases hp with rfl | rfl <;> exact ⟨rfl, by intro d e; cases e⟩
  ·intro p hp el ro he n hn
   simp only [List.mem_cons, List.not_mem_nil, or_false] at hp
   rcases hp with rfl | rfl
   ·cases he
   ·injection he with e1 e2 e3; subst e2; rw [szU8] at hn; cases hn; exact hq
  ·intro ρ hρ0 hρ p hp hl
   have hρ1 : ρ 1 = some q := hρ 0 _ rfl
   simp only [List.mem_cons, List.not_mem_nil, or_false] at hp
   rcases hp with rfl | rfl
   ·refine ⟨by rw [hLe]; simp, hc.or (fun n hn => by rw [szBld] at hn; cases hn; exact hsz) (.cons ?_ (.cons (hqv ρ 1 hρ1) (LR.nil ρ))) fun _ => hoff⟩
    have := VR.ptr (ρ := ρ) 0 0 r hρ0
    rw [hoff] at this
    exact this
   ·obtain ⟨h1, h2⟩ := hql hl
    exact ⟨by rw [hLe]; exact List.mem_cons_of_mem _ h1, h2.or (fun n hn => by rw [szU8] at hn; cases hn; exact hq) (LR.flat_refl (plain_fl (by simp))) fun hs => by rw [selfU8] at hs; cases hs⟩
  ·simp only [List.pairwise_cons, List.mem_singleton, forall_eq, List.not_mem_nil, false_imp_iff, implies_true, List.Pairwise.nil, and_true]
   intro _ hl e
   exact hnd.1 (e ▸ (hql hl).1)
  ·intro v o' hv B ρ w' hw hρ0 _ _
   obtain ⟨d', K, hB, hro, hlen, hq⟩ := hv
   obtain ⟨S', a, b⟩ := bld_close hw hlen hρ0 hoff hsz hB
   exact ⟨d', S', K, a, fun k hk => .inr (b k hk), (fun y o _ _ hy hr => by rw [hro o (List.mem_of_getElem? hy)] at hr; cases hr), hq⟩
theorem selfBld : selfP Tryz.prog 71 = true := by kernel_rfl
theorem Holds.bldNew {X : Ctx} {d : Desc} {a : Act} {w : World} (h : Holds Tryz.prog X d a w) (i : Nat) (hi : d.objs[i]? = some (.cells [.pointer none, .slice none 0 0] 71 false)) :
    Holds Tryz.prog X ⟨d.sl, d.objs.set i (.abs (.bld ByteArray.empty))⟩ a w := by
  obtain ⟨ρ, u, M, hd⟩ := h
  have hil : i < d.objs.length := (List.getElem?_eq_some_iff.1 hi).1
  have hfew := hd.few
  have hsm : small i = true := small_iff.2 (by have : (2 : Nat) ^ 18 = 262144 := rfl; omega)
  have hmi : memOf d.objs i = some (.cells [.pointer none, .slice none 0 0] 71 false) := by rw [memOf_small hsm]; exact hi
  obtain ⟨r, hr⟩ := hd.mem.named i _ hmi (by intro e; cases e)
  have hoff : r.sh = 0 := align_of hd.mem hmi hr rfl rfl selfBld
  have hsz : r.sz = 2 := sz_of hd.mem hmi hr _ szBld
  obtain ⟨c', h1, h2⟩ := hd.mem.coat hmi hr rfl
  have := LR.plain (c := [Value.pointer none, Value.slice none 0 0]) rfl h1
  subst this
  rw [hoff] at h2
  have hat : AbsAt w r (.bld ByteArray.empty) fun k => k = r.blk := ⟨[(r.blk, _)], ⟨hoff, hsz, .inl ⟨rfl, rfl⟩⟩, ⟨fun p hp => by rw [List.mem_singleton] at hp; subst hp; exact h2, by simp, by simp, fun k => by simp⟩⟩
  have hrr : WR Tryz.prog X.B w ρ (memOf d.objs) w :=
  { below := BelowK.refl _ _
    env := hd.mem.env.next hd.mem.below fun k hk => hk
    size := hd.mem.size
    live := hd.mem.live
    inj := hd.mem.inj
    fresh := hd.mem.fresh
    rows := fun y n size row hy => by
      obtain ⟨q, a, b⟩ := hd.mem.rows y n size row hy
      exact ⟨q, a, fun hn => (b hn).mono fun k hk => ⟨hk, hd.mem.below.block k hk⟩⟩
    nil := hd.mem.nil
    named := hd.mem.named
    abs := hd.mem.abs }
  have hcl := hd.mem.closeAbs hrr (fun k hk => hk) (fun k hk hB => absurd hk hB) hr hat (fun y => y == i) (by simp) (fun k hk => .inr ⟨i, _, r, by simp, hmi, hr, rfl, hk.symm, rfl⟩) (fun y o _ hy _ => ⟨hy, rfl⟩)
  refine ⟨ρ, u, M, ⟨hd.full, hd.kept, hd.fr, ?_, by simpa using hd.few, hd.quiet, hd.once, hd.outside⟩⟩
  have : memOf (d.objs.set i (.abs (.bld ByteArray.empty))) = (fun y => if y = i then some (.abs (.bld ByteArray.empty)) else match (y == i) with | true => (memOf d.objs y).map fun _ => .dead | false => memOf d.objs y) := by
    funext y
    by_cases e : y = i
    · subst e; rw [memOf_small hsm, List.getElem?_set_self hil, if_pos rfl]
    · rw [if_neg e, show (y == i) = false by simpa using e]
      unfold memOf
      split
      · rw [List.getElem?_set_ne (Ne.symm e)]
      · rfl
  rw [this]
  exact hcl
theorem TriL.bldNew {n k : Nat} {l : List Code} {d d' : Desc} {Q : VEx → Desc → Prop} (i : Nat) (hi : d.objs[i]? = some (.cells [.pointer none, .slice none 0 0] 71 false)) (hd : (⟨d.sl, d.objs.set i (.abs (.bld ByteArray.empty))⟩ : Desc) = d') (h : TriL Tryz.prog n k l d' Q) : TriL Tryz.prog n k l d Q := by
 intro X hn hk a w h0
 subst hd
 exact h X hn hk a w (Go.Proofs.YtgepfmamfdmclaaGreatDoor.Holds.bldNew h0 i hi)
noncomputable def L__strings_Builder__WriteString : List Code := flat2 (bodyC Tryz.prog 23)
noncomputable def L__strings_Builder__Len : List Code := flat2 (bodyC Tryz.prog 27)
noncomputable def L__strings_Builder__String : List Code := flat2 (bodyC Tryz.prog 28)
open Tree renaming mkNeed → mN, mkFork → mF, mkLeaf → mL, mkQ → mQ, mkR → mR, mkE → mE
noncomputable abbrev bw_n_d0 (s : ByteArray) : Desc := ⟨[(4, .int .i64 ((s.size : Int))), (5, .nilIface)], [.cells ([.pointer (some ⟨0, 0, none⟩), .slice (some ⟨1, 0, none⟩) s.size s.size]) 71 false, .cells (List.map (fun b => Value.int IntKind.u8 (↑(UInt8.toNat b) : Int)) (List.take s.size (Array.toList (ByteArray.data s)))) 5 false]⟩
theorem bw_n_r0 (s : ByteArray) {Q : CRes → List VObj → Prop} (hq : Q (.ret (.tuple #[.int .i64 ((s.size : Int)), .nilIface])) [.cells ([.pointer (some ⟨0, 0, none⟩), .slice (some ⟨1, 0, none⟩) s.size s.size]) 71 false, .cells (List.map (fun b => Value.int IntKind.u8 (↑(UInt8.toNat b) : Int)) (List.take s.size (Array.toList (ByteArray.data s)))) 5 false]) : FinT Tryz.prog 23 19 1 Q .ret (bw_n_d0 s) := FinT.ret (vs := [.int .i64 ((s.size : Int)), .nilIface]) (l := []) (bs := [0, 1]) (pl := [1]) (q := [List.map (fun b => Value.int IntKind.u8 (↑(UInt8.toNat b) : Int)) (List.take s.size (Array.toList (ByteArray.data s)))]) (fun u => by kernel_rfl) (by kernel_rfl) (pls_cons (by first | exact pl_u8 _ | assumption | exact pl_splice (by assumption) rfl _ | exact pl_splice (pl_splice (pl_splice (by assumption) rfl _) rfl _) rfl _ | exact pl_splice (pl_u8 _) (pl_repl (by rfl) _) _ | exact pl_take (pl_drop (pl_strs _) _) _ | (simp; done) | exact pl_append (by assumption) rfl | exact pl_append (pl_u8 _) rfl | exact pl_append (pl_bytes _) (pl_u8 _) | exact pl_append (by assumption) (pl_u8 _) | exact pl_append rfl (pl_take (by assumption) _) | exact pl_append (by assumption) (pl_take (by assumption) _) | exact pl_append rfl (pl_take (pl_drop (by assumption) _) _) | exact pl_take (pl_drop (by assumption) _) _) pls_nil) hq
noncomputable abbrev xba_i0 (s : ByteArray) : Desc := ⟨[(0, .pointer (some ⟨0, 0, none⟩)), (1, .string s)], [.cells [.pointer none, .slice none 0 0] 71 false]⟩
theorem bw_n (s : ByteArray) (h1 : s.size ≤ 10000000) {Q : VEx → Desc → Prop} (n0 : (List.all (List.map (fun b => Value.int IntKind.u8 (↑(UInt8.toNat b) : Int)) (List.take s.size (Array.toList (ByteArray.data s)))) Value.oneCell') = true) (l1 : Q (.ret) (bw_n_d0 s)) : TriL Tryz.prog 19 1 L__strings_Builder__WriteString (xba_i0 s) Q :=
 TriL.tree plainN mixed calls0 (lf := 50) (m := 1000) (s := (.need 8 false (.need 0 true (.need 0 true (.need 0 true (.leaf [4, 5] [0, 1] [1])))))) (fun u => by kernel_rfl) (mN (show (Nat.ble (0 + s.size) 10000000) = true by simp at h1 ⊢ <;> omega) (mN n0 (mN (show (Nat.beq (List.length (List.map (fun b => Value.int IntKind.u8 (↑(UInt8.toNat b) : Int)) (List.take s.size (Array.toList (ByteArray.data s))))) (s.size * 1)) = true by simp) (mN (show (List.all (List.map (fun b => Value.int IntKind.u8 (↑(UInt8.toNat b) : Int)) (List.take s.size (Array.toList (ByteArray.data s)))) isScal) = true by first | exact pl_u8 _ | assumption | exact pl_splice (by assumption) rfl _ | exact pl_splice (pl_splice (pl_splice (by assumption) rfl _) rfl _) rfl _ | exact pl_splice (pl_u8 _) (pl_repl (by rfl) _) _ | exact pl_take (pl_drop (pl_strs _) _) _ | (simp; done) | exact pl_append (by assumption) rfl | exact pl_append (pl_u8 _) rfl | exact pl_append (pl_bytes _) (pl_u8 _) | exact pl_append (by assumption) (pl_u8 _) | exact pl_append rfl (pl_take (by assumption) _) | exact pl_append (by assumption) (pl_take (by assumption) _) | exact pl_append rfl (pl_take (pl_drop (by assumption) _) _) | exact pl_take (pl_drop (by assumption) _) _) (mR l1)))))
noncomputable abbrev bw_f_d0 (t s : ByteArray) : Desc := ⟨[(4, .int .i64 ((s.size : Int))), (5, .nilIface)], [.cells ([.pointer (some ⟨0, 0, none⟩), .slice (some ⟨2, 0, none⟩) (t.size + s.size) (t.size + s.size)]) 71 false, .dead, .cells (bytesC t ++ List.map (fun b => Value.int IntKind.u8 (↑(UInt8.toNat b) : Int)) (List.take s.size (Array.toList (ByteArray.data s)))) 5 false]⟩
theorem bw_f_r0 (t s : ByteArray) {Q : CRes → List VObj → Prop} (hq : Q (.ret (.tuple #[.int .i64 ((s.size : Int)), .nilIface])) [.cells ([.pointer (some ⟨0, 0, none⟩), .slice (some ⟨2, 0, none⟩) (t.size + s.size) (t.size + s.size)]) 71 false, .dead, .cells (bytesC t ++ List.map (fun b => Value.int IntKind.u8 (↑(UInt8.toNat b) : Int)) (List.take s.size (Array.toList (ByteArray.data s)))) 5 false]) : FinT Tryz.prog 23 19 2 Q .ret (bw_f_d0 t s) := FinT.ret (vs := [.int .i64 ((s.size : Int)), .nilIface]) (l := []) (bs := [0, 1, 2]) (pl := [2]) (q := [bytesC t ++ List.map (fun b => Value.int IntKind.u8 (↑(UInt8.toNat b) : Int)) (List.take s.size (Array.toList (ByteArray.data s)))]) (fun u => by kernel_rfl) (by kernel_rfl) (pls_cons (by first | exact pl_u8 _ | assumption | exact pl_splice (by assumption) rfl _ | exact pl_splice (pl_splice (pl_splice (by assumption) rfl _) rfl _) rfl _ | exact pl_splice (pl_u8 _) (pl_repl (by rfl) _) _ | exact pl_take (pl_drop (pl_strs _) _) _ | (simp; done) | exact pl_append (by assumption) rfl | exact pl_append (pl_u8 _) rfl | exact pl_append (pl_bytes _) (pl_u8 _) | exact pl_append (by assumption) (pl_u8 _) | exact pl_append rfl (pl_take (by assumption) _) | exact pl_append (by assumption) (pl_take (by assumption) _) | exact pl_append rfl (pl_take (pl_drop (by assumption) _) _) | exact pl_take (pl_drop (by assumption) _) _) pls_nil) hq
noncomputable abbrev xba_i1 (t s : ByteArray) : Desc := ⟨[(0, .pointer (some ⟨0, 0, none⟩)), (1, .string s)], [.cells [.pointer (some ⟨0, 0, none⟩), .slice (some ⟨1, 0, none⟩) t.size t.size] 71 false, .cells (bytesC t) 5 false]⟩
theorem bw_f (t s : ByteArray) (h1 : t.size + s.size ≤ 10000000) {Q : VEx → Desc → Prop} (n0 : (List.all (List.map (fun b => Value.int IntKind.u8 (↑(UInt8.toNat b) : Int)) (List.take s.size (Array.toList (ByteArray.data s)))) Value.oneCell') = true) (l1 : Q (.ret) (bw_f_d0 t s)) : TriL Tryz.prog 19 2 L__strings_Builder__WriteString (xba_i1 t s) Q :=
 TriL.tree plainN mixed calls0 (lf := 50) (m := 1000) (s := (.need 6 false (.need 0 true (.need 0 true (.need 0 true (.need 0 true (.need 0 true (.leaf [4, 5] [0, 1, 2] [2])))))))) (fun u => by kernel_rfl) (mN (show (Nat.ble (t.size + s.size) 10000000) = true by simp at h1 ⊢ <;> omega) (mN n0 (mN (show (Nat.beq (List.length (List.map (fun b => Value.int IntKind.u8 (↑(UInt8.toNat b) : Int)) (List.take s.size (Array.toList (ByteArray.data s))))) (s.size * 1)) = true by simp) (mN (full_self _ : (full t.size t.size) = true) (mN (show (Nat.beq (0 + t.size * 1) (List.length (bytesC t))) = true by simp) (mN (show (List.all (bytesC t ++ List.map (fun b => Value.int IntKind.u8 (↑(UInt8.toNat b) : Int)) (List.take s.size (Array.toList (ByteArray.data s)))) isScal) = true by first | exact pl_u8 _ | assumption | exact pl_splice (by assumption) rfl _ | exact pl_splice (pl_splice (pl_splice (by assumption) rfl _) rfl _) rfl _ | exact pl_splice (pl_u8 _) (pl_repl (by rfl) _) _ | exact pl_take (pl_drop (pl_strs _) _) _ | (simp; done) | exact pl_append (by assumption) rfl | exact pl_append (pl_u8 _) rfl | exact pl_append (pl_bytes _) (pl_u8 _) | exact pl_append (by assumption) (pl_u8 _) | exact pl_append rfl (pl_take (by assumption) _) | exact pl_append (by assumption) (pl_take (by assumption) _) | exact pl_append rfl (pl_take (pl_drop (by assumption) _) _) | exact pl_take (pl_drop (by assumption) _) _) (mR l1)))))))
noncomputable abbrev bl_n_d0 (t : ByteArray) : Desc := ⟨[(2, .int .i64 (0))], [.cells [.pointer none, .slice none 0 0] 71 false]⟩
theorem bl_n_r0 (t : ByteArray) {Q : CRes → List VObj → Prop} (hq : Q (.ret (.int .i64 0)) [.cells [.pointer none, .slice none 0 0] 71 false]) : FinT Tryz.prog 27 8 1 Q .ret (bl_n_d0 t) := FinT.ret (vs := [.int .i64 (0)]) (l := []) (bs := [0]) (pl := []) (q := []) (fun u => by kernel_rfl) (by kernel_rfl) pls_nil hq
noncomputable abbrev xba_i2 (t : ByteArray) : Desc := ⟨[(0, .pointer (some ⟨0, 0, none⟩))], [.cells [.pointer none, .slice none 0 0] 71 false]⟩
theorem bl_n (t : ByteArray) {Q : VEx → Desc → Prop} (l0 : Q (.ret) (bl_n_d0 t)) : TriL Tryz.prog 8 1 L__strings_Builder__Len (xba_i2 t) Q :=
 TriL.tree plainN mixed calls0 (lf := 50) (m := 1000) (s := (.leaf [2] [0] [])) (fun u => by kernel_rfl) (mR l0)
noncomputable abbrev bl_f_d0 (t : ByteArray) : Desc := ⟨[(2, .int .i64 ((t.size : Int)))], [.cells ([.pointer (some ⟨0, 0, none⟩), .slice (some ⟨1, 0, none⟩) t.size t.size]) 71 false, .cells (bytesC t) 5 false]⟩
theorem bl_f_r0 (t : ByteArray) {Q : CRes → List VObj → Prop} (hq : Q (.ret (.int .i64 ((t.size : Int)))) [.cells ([.pointer (some ⟨0, 0, none⟩), .slice (some ⟨1, 0, none⟩) t.size t.size]) 71 false, .cells (bytesC t) 5 false]) : FinT Tryz.prog 27 8 2 Q .ret (bl_f_d0 t) := FinT.ret (vs := [.int .i64 ((t.size : Int))]) (l := []) (bs := [0, 1]) (pl := [1]) (q := [bytesC t]) (fun u => by kernel_rfl) (by kernel_rfl) (pls_cons (pl_bytes t) pls_nil) hq
noncomputable abbrev xba_i3 (t : ByteArray) : Desc := ⟨[(0, .pointer (some ⟨0, 0, none⟩))], [.cells [.pointer (some ⟨0, 0, none⟩), .slice (some ⟨1, 0, none⟩) t.size t.size] 71 false, .cells (bytesC t) 5 false]⟩
theorem bl_f (t : ByteArray) {Q : VEx → Desc → Prop} (pl0 : List.all (bytesC t) isScal = true) (l1 : Q (.ret) (bl_f_d0 t)) : TriL Tryz.prog 8 2 L__strings_Builder__Len (xba_i3 t) Q :=
 TriL.tree plainN mixed calls0 (lf := 50) (m := 1000) (s := (.leaf [2] [0, 1] [1])) (fun u => by kernel_rfl) (mN (pl_bytes t) (mR l1))
noncomputable abbrev bs_n_d0 (t : ByteArray) : Desc := ⟨[(2, .string (ByteArray.empty))], [.cells [.pointer none, .slice none 0 0] 71 false]⟩
theorem bs_n_r0 (t : ByteArray) {Q : CRes → List VObj → Prop} (hq : Q (.ret (.string (ByteArray.empty))) [.cells [.pointer none, .slice none 0 0] 71 false]) : FinT Tryz.prog 28 14 1 Q .ret (bs_n_d0 t) := FinT.ret (vs := [.string (ByteArray.empty)]) (l := []) (bs := [0]) (pl := []) (q := []) (fun u => by kernel_rfl) (by kernel_rfl) pls_nil hq
theorem bs_n (t : ByteArray) {Q : VEx → Desc → Prop} (l0 : Q (.ret) (bs_n_d0 t)) : TriL Tryz.prog 14 1 L__strings_Builder__String (xba_i2 t) Q :=
 TriL.tree plainN mixed calls0 (lf := 50) (m := 1000) (s := (.leaf [2] [0] [])) (fun u => by kernel_rfl) (mR l0)
noncomputable abbrev bs_f_d0 (t : ByteArray) : Desc := ⟨[(2, .string (ByteArray.mk (List.toArray (Option.getD (Option.bind (cut (bytesC t) 0 (Int.toNat (t.size : Int))) bytesOf) []))))], [.cells ([.pointer (some ⟨0, 0, none⟩), .slice (some ⟨1, 0, none⟩) t.size t.size]) 71 false, .dead]⟩
theorem bs_f_r0 (t : ByteArray) {Q : CRes → List VObj → Prop} (hq : Q (.ret (.string (ByteArray.mk (List.toArray (Option.getD (Option.bind (cut (bytesC t) 0 (Int.toNat (t.size : Int))) bytesOf) []))))) [.cells ([.pointer (some ⟨0, 0, none⟩), .slice (some ⟨1, 0, none⟩) t.size t.size]) 71 false, .dead]) : FinT Tryz.prog 28 14 2 Q .ret (bs_f_d0 t) := FinT.ret (vs := [.string (ByteArray.mk (List.toArray (Option.getD (Option.bind (cut (bytesC t) 0 (Int.toNat (t.size : Int))) bytesOf) [])))]) (l := []) (bs := [0, 1]) (pl := []) (q := []) (fun u => by kernel_rfl) (by kernel_rfl) pls_nil hq
theorem bs_f (t : ByteArray) (h1 : 0 < t.size) (h2 : t.size ≤ 10000000) {Q : VEx → Desc → Prop} (n0 : (Option.isSome (Option.bind (cut (bytesC t) 0 (Int.toNat (t.size : Int))) bytesOf)) = true) (l1 : Q (.ret) (bs_f_d0 t)) : TriL Tryz.prog 14 2 L__strings_Builder__String (xba_i3 t) Q :=
 TriL.tree plainN mixed calls0 (lf := 50) (m := 1000) (s := (.need 2 true (.need 3 true (.need 0 true (.need 0 true (.leaf [2] [0, 1] [])))))) (fun u => by kernel_rfl) (mN (show (Nat.blt 0 t.size) = true by simp at h1 h2 ⊢ <;> omega) (mN (decide_eq_true (by omega) : (decide (0 < (t.size : Int))) = true) (mN (decide_eq_true (by omega) : (decide ((t.size : Int) ≤ 10000000)) = true) (mN n0 (mR l1)))))
end Go.Proofs.YtgepfmamfdmclaaGreatDoor
namespace Go.Proofs
open Go.Shelf
def Tryz.laysM171_ren : Go.Shelf.Ren := ⟨fun | 171 => 24 | 243 => 42 | 246 => 59 | 283 => 83 | 284 => 84 | 285 => 85 | 286 => 86 | 129 => 126 | 317 => 125 | 318 => 127 | 319 => 128 | 320 => 129 | 337 => 186 | 338 => 187 | n => n, fun | 3 => 3 | 9 => 9 | 2 => 2 | 4 => 4 | 171 => 165 | 0 => 0 | 53 => 166 | 37 => 52 | 5 => 5 | 173 => 169 | 212 => 217 | 51 => 218 | 20 => 20 | 213 => 219 | 46 => 101 | 232 => 352 | 233 => 230 | n => n, fun | 17 => 1 | 18 => 6 | 19 => 7 | n => n⟩
theorem Tryz.laysM171 : Go.Proofs.LaysM.n171 Tryz.prog Tryz.laysM171_ren := {
 mixed := by kernel_rfl
 f129 := Tryz.func126.trans (congrArg some (by kernel_rfl))
 f171 := Tryz.func24.trans (congrArg some (by kernel_rfl))
 f243 := Tryz.func42.trans (congrArg some (by kernel_rfl))
 f246 := Tryz.func59.trans (congrArg some (by kernel_rfl))
 f283 := Tryz.func83.trans (congrArg some (by kernel_rfl))
 f284 := Tryz.func84.trans (congrArg some (by kernel_rfl))
 f285 := Tryz.func85.trans (congrArg some (by kernel_rfl))
 f286 := Tryz.func86.trans (congrArg some (by kernel_rfl))
 f317 := Tryz.func125.trans (congrArg some (by kernel_rfl))
 f318 := Tryz.func127.trans (congrArg some (by kernel_rfl))
 f319 := Tryz.func128.trans (congrArg some (by kernel_rfl))
 f320 := Tryz.func129.trans (congrArg some (by kernel_rfl))
 f337 := Tryz.func186.trans (congrArg some (by kernel_rfl))
 f338 := Tryz.func187.trans (congrArg some (by kernel_rfl))
 t0 := Tryz.underlying0
 a0 := Tryz.isAgg0
 z0 := Tryz.sizeOf0
 v0 := Tryz.zeroValue0
 t2 := Tryz.underlying2
 a2 := Tryz.isAgg2
 z2 := Tryz.sizeOf2
 v2 := Tryz.zeroValue2
 t3 := Tryz.underlying3
 a3 := Tryz.isAgg3
 z3 := Tryz.sizeOf3
 v3 := Tryz.zeroValue3
 t4 := Tryz.underlying4
 a4 := Tryz.isAgg4
 z4 := Tryz.sizeOf4
 v4 := Tryz.zeroValue4
 t5 := Tryz.underlying5
 a5 := Tryz.isAgg5
 z5 := Tryz.sizeOf5
 v5 := Tryz.zeroValue5
 t9 := Tryz.underlying9
 a9 := Tryz.isAgg9
 z9 := Tryz.sizeOf9
 v9 := Tryz.zeroValue9
 t20 := Tryz.underlying20
 a20 := Tryz.isAgg20
 z20 := Tryz.sizeOf20
 v20 := Tryz.zeroValue20
 t37 := Tryz.underlying52
 a37 := Tryz.isAgg52
 z37 := Tryz.sizeOf52
 v37 := Tryz.zeroValue52
 t46 := Tryz.underlying101
 a46 := Tryz.isAgg101
 z46 := Tryz.sizeOf101
 v46 := Tryz.zeroValue101
 t51 := Tryz.underlying218
 a51 := Tryz.isAgg218
 z51 := Tryz.sizeOf218
 v51 := Tryz.zeroValue218
 t53 := Tryz.underlying166
 a53 := Tryz.isAgg166
 z53 := Tryz.sizeOf166
 v53 := Tryz.zeroValue166
 t171 := Tryz.underlying165
 a171 := Tryz.isAgg165
 z171 := Tryz.sizeOf165
 v171 := Tryz.zeroValue165
 t173 := Tryz.underlying169
 a173 := Tryz.isAgg169
 z173 := Tryz.sizeOf169
 v173 := Tryz.zeroValue169
 t212 := Tryz.underlying217
 a212 := Tryz.isAgg217
 z212 := Tryz.sizeOf217
 v212 := Tryz.zeroValue217
 t213 := Tryz.underlying219
 a213 := Tryz.isAgg219
 z213 := Tryz.sizeOf219
 t232 := Tryz.underlying352
 a232 := Tryz.isAgg352
 z232 := Tryz.sizeOf352
 v232 := Tryz.zeroValue352
 t233 := Tryz.underlying230
 a233 := Tryz.isAgg230
 z233 := Tryz.sizeOf230
 v233 := Tryz.zeroValue230
 g17 := by kernel_rfl
 g18 := by kernel_rfl
 g19 := by kernel_rfl
 i0 := by kernel_rfl
 i2 := by kernel_rfl
 i3 := by kernel_rfl
 i4 := by kernel_rfl
 i5 := by kernel_rfl
 i9 := by kernel_rfl
 i20 := by kernel_rfl
 i37 := by kernel_rfl
 i46 := by kernel_rfl
 i51 := by kernel_rfl
 i53 := by kernel_rfl
 i171 := by kernel_rfl
 i173 := by kernel_rfl
 i212 := by kernel_rfl
 i232 := by kernel_rfl
 i233 := by kernel_rfl
 m17 := by kernel_rfl
 m18 := by kernel_rfl
 m19 := by kernel_rfl }
open Go.RowKit Go.Sort Go.Lib in
theorem Tryz.strconv_Itoa (n : Int) (h0 : -9223372036854775808 ≤ n) (h1 : n ≤ 9223372036854775807) (w : World) (htab : Lib.TabIs Tryz.prog w "internal/strconv.uint64pow10" .u64 Lib.pow10Tab) :
  Calls Tryz.prog 24 #[.int .i64 n] w fun e w' => e = .returned (.string ⟨(Lib.itoa n).toArray⟩) ∧ ∃ k os, w' = grow (w.drewN k) os := Any.strconv_Itoa Tryz.laysM171 n h0 h1 w htab
end Go.Proofs
namespace Go.Proofs.YtgepfmamfdmclaaGreatDoor
open Go Vm Go.RowKit
structure PV where
 k : Int
 n : Int
 a : ByteArray
 b : ByteArray
structure D5 where
 a : Int
 b : Int
 c : Int
 d : Int
 e : Int
structure SrcV where
 b : ByteArray
 f : Bool
 id : Int
 cuts : List Int
structure T4 where
 a : Int
 b : Int
 c : Int
 d : Int
structure FilV where
 st : Int
 fs : List (Int × Int)
structure JobV where
 ps : List PV
 ds : List D5
 ss : List SrcV
 pan : List T4
 sto : List T4
 fl : List FilV
 sch : List Int
def pvSV (p : PV) : List SV := [.val (.int .i64 p.k), .val (.int .i64 p.n), .cells p.a.size (bytesC p.a) 5, .cells p.b.size (bytesC p.b) 5]
def d5SV (d : D5) : List SV := [.val (.int .i64 d.a), .val (.int .i64 d.b), .val (.int .i64 d.c), .val (.int .i64 d.d), .val (.int .i64 d.e)]
def srcSV (s : SrcV) : List SV := [.cells s.b.size (bytesC s.b) 5, .val (.bool s.f), .val (.int .i64 s.id), .cells s.cuts.length (intsC s.cuts) 3]
def t4SV (t : T4) : List SV := [.val (.int .i64 t.a), .val (.int .i64 t.b), .val (.int .i64 t.c), .val (.int .i64 t.d)]
def prSV (p : Int × Int) : List SV := [.val (.int .i64 p.1), .val (.int .i64 p.2)]
def prRow (l : List (Int × Int)) (i : Nat) : List SV := prSV (l[i]?.getD (0, 0))
def filSV (f : FilV) : List SV := [.val (.int .i64 f.st), .rows f.fs.length 2 (prRow f.fs)]
def pvZ : PV := ⟨0, 0, ByteArray.empty, ByteArray.empty⟩
def d5Z : D5 := ⟨0, 0, 0, 0, 0⟩
def srcZ : SrcV := ⟨ByteArray.empty, false, 0, []⟩
def t4Z : T4 := ⟨0, 0, 0, 0⟩
def filZ : FilV := ⟨0, []⟩
def pvRows (l : List PV) : VObj := .rows l.length 4 fun i => pvSV (l[i]?.getD pvZ)
def d5Rows (l : List D5) : VObj := .rows l.length 5 fun i => d5SV (l[i]?.getD d5Z)
def srcRows (l : List SrcV) : VObj := .rows l.length 4 fun i => srcSV (l[i]?.getD srcZ)
def t4Rows (l : List T4) : VObj := .rows l.length 4 fun i => t4SV (l[i]?.getD t4Z)
def prRows (l : List (Int × Int)) : VObj := .rows l.length 2 (prRow l)
def filRows (l : List FilV) : VObj := .rows l.length 2 fun i => filSV (l[i]?.getD filZ)
abbrev jobA (J : JobV) (n : Nat) : List Value := [.slice (some ⟨n, 0, none⟩) J.ps.length J.ps.length, .slice (some ⟨n + 1, 0, none⟩) J.ds.length J.ds.length, .slice (some ⟨n + 2, 0, none⟩) J.ss.length J.ss.length, .slice (some ⟨n + 3, 0, none⟩) J.pan.length J.pan.length, .slice (some ⟨n + 4, 0, none⟩) J.sto.length J.sto.length, .slice (some ⟨n + 5, 0, none⟩) J.fl.length J.fl.length, .slice (some ⟨n + 6, 0, none⟩) J.sch.length J.sch.length]
abbrev jobO (J : JobV) : List VObj := [pvRows J.ps, d5Rows J.ds, srcRows J.ss, t4Rows J.pan, t4Rows J.sto, filRows J.fl, .cells (intsC J.sch) 3 true]
def okI (n : Int) : Prop := -9223372036854775808 ≤ n ∧ n ≤ 9223372036854775807
structure JobOk (J : JobV) : Prop where
 ps : ∀ p ∈ J.ps, okI p.k ∧ okI p.n
 ds : ∀ d ∈ J.ds, okI d.a ∧ okI d.b ∧ okI d.c ∧ okI d.d ∧ okI d.e
 ss : ∀ s ∈ J.ss, okI s.id ∧ ∀ c ∈ s.cuts, okI c
 pan : ∀ t ∈ J.pan, okI t.a ∧ okI t.b ∧ okI t.c ∧ okI t.d
 sto : ∀ t ∈ J.sto, okI t.a ∧ okI t.b ∧ okI t.c ∧ okI t.d
 fl : ∀ f ∈ J.fl, okI f.st ∧ ∀ p ∈ f.fs, okI p.1 ∧ okI p.2
 sch : ∀ c ∈ J.sch, okI c
def one8 (c : UInt8) : ByteArray := ⟨#[c]⟩
def itB (n : Int) : ByteArray := ⟨(Lib.itoa n).toArray⟩
def hx (n : Nat) : UInt8 := UInt8.ofNat (if n < 10 then 48 + n else 87 + n)
def hexL : List UInt8 → List UInt8
 | [] => []
 | c :: l => hx (c.toNat / 16) :: hx (c.toNat % 16) :: hexL l
def hexB (b : ByteArray) : ByteArray := if b.size = 0 then one8 45 else ⟨(hexL b.data.toList).toArray⟩
def numsB (w : ByteArray) : List Int → ByteArray
 | [] => w
 | n :: l => numsB (w ++ (one8 32 ++ itB n)) l
def rowB (w : ByteArray) (l : List Int) : ByteArray := numsB w l ++ one8 10
theorem numsB_append (w : ByteArray) : ∀ (l m : List Int), numsB w (l ++ m) = numsB (numsB w l) m
 | [], m => rfl
 | n :: l, m => by show numsB (w ++ _) (l ++ m) = _; exact numsB_append _ l m
abbrev sStage : ByteArray := ⟨#[UInt8.ofNat 115, UInt8.ofNat 116, UInt8.ofNat 97, UInt8.ofNat 103, UInt8.ofNat 101, UInt8.ofNat 32]⟩
abbrev sDuct : ByteArray := ⟨#[UInt8.ofNat 100, UInt8.ofNat 117, UInt8.ofNat 99, UInt8.ofNat 116]⟩
abbrev sSource : ByteArray := ⟨#[UInt8.ofNat 115, UInt8.ofNat 111, UInt8.ofNat 117, UInt8.ofNat 114, UInt8.ofNat 99, UInt8.ofNat 101, UInt8.ofNat 32]⟩
abbrev sPanic : ByteArray := ⟨#[UInt8.ofNat 112, UInt8.ofNat 97, UInt8.ofNat 110, UInt8.ofNat 105, UInt8.ofNat 99]⟩
abbrev sStop : ByteArray := ⟨#[UInt8.ofNat 115, UInt8.ofNat 116, UInt8.ofNat 111, UInt8.ofNat 112]⟩
abbrev sFiles : ByteArray := ⟨#[UInt8.ofNat 102, UInt8.ofNat 105, UInt8.ofNat 108, UInt8.ofNat 101, UInt8.ofNat 115]⟩
abbrev sPick : ByteArray := ⟨#[UInt8.ofNat 112, UInt8.ofNat 105, UInt8.ofNat 99, UInt8.ofNat 107]⟩
def stageB (p : PV) : ByteArray := sStage ++ itB p.k ++ one8 32 ++ itB p.n ++ one8 32 ++ hexB p.a ++ one8 32 ++ hexB p.b ++ one8 10
def ductB (d : D5) : ByteArray := rowB sDuct [d.a, d.b, d.c, d.d, d.e]
def srcB (s : SrcV) : ByteArray := rowB (sSource ++ hexB s.b) ([if s.f then 1 else 0, s.id] ++ s.cuts)
def panB (t : T4) : ByteArray := rowB sPanic [t.a, t.b, t.c, t.d]
def stoB (t : T4) : ByteArray := rowB sStop [t.a, t.b, t.c, t.d]
def flatP : List (Int × Int) → List Int
 | [] => []
 | p :: l => p.1 :: p.2 :: flatP l
def filB (f : FilV) : ByteArray := rowB sFiles (f.st :: flatP f.fs)
def linesB {α : Type} (f : α → ByteArray) (s : ByteArray) : List α → ByteArray
 | [] => s
 | x :: l => linesB f (s ++ f x) l
theorem linesB_take {α : Type} (f : α → ByteArray) (s : ByteArray) : ∀ (l : List α) (i : Nat) (h : i < l.length), linesB f s (l.take (i + 1)) = linesB f s (l.take i) ++ f l[i]
 | x :: l, 0, h => rfl
 | x :: l, i + 1, h => linesB_take f (s ++ f x) l i (by simp only [List.length_cons] at h; omega)
def pickB (s : ByteArray) (l : List Int) : ByteArray := if 0 < l.length then s ++ rowB sPick l else s
def textB (J : JobV) : ByteArray := pickB (linesB filB (linesB stoB (linesB panB (linesB srcB (linesB ductB (linesB stageB ByteArray.empty J.ps) J.ds) J.ss) J.pan) J.sto) J.fl) J.sch
noncomputable def outB (J : JobV) : ByteArray × Int := if 65536 < (textB J).size then (ByteArray.empty, 17) else (textB J, 0)
theorem bm_size (a : Array UInt8) : (ByteArray.mk a).size = a.size := rfl
theorem itB_size {n : Int} (h : okI n) : (itB n).size ≤ 21 := Lib.itoa_length_le n h.1 h.2
theorem numsB_size : ∀ (l : List Int) (w : ByteArray), (∀ n ∈ l, okI n) → (numsB w l).size ≤ w.size + 22 * l.length
 | [], w, _ => by show w.size ≤ _; omega
 | n :: l, w, h => by
  have h1 := numsB_size l (w ++ (one8 32 ++ itB n)) fun m hm => h m (List.mem_cons_of_mem _ hm)
  have h2 := itB_size (h n List.mem_cons_self)
  rw [ByteArray.size_append, ByteArray.size_append] at h1
  have h3 : (one8 32).size = 1 := rfl
  show (numsB (w ++ (one8 32 ++ itB n)) l).size ≤ _
  rw [List.length_cons]
  omega
theorem rowB_size (l : List Int) (w : ByteArray) (h : ∀ n ∈ l, okI n) : 0 < (rowB w l).size ∧ (rowB w l).size ≤ w.size + 22 * l.length + 1 := by
 have := numsB_size l w h
 unfold rowB
 rw [ByteArray.size_append]
 have h3 : (one8 10).size = 1 := rfl
 omega
theorem hexL_len : ∀ a : List UInt8, (hexL a).length = 2 * a.length
 | [] => rfl
 | c :: a => by show (hexL a).length + 1 + 1 = _; rw [hexL_len a, List.length_cons]; omega
theorem hexB_size (b : ByteArray) : (hexB b).size ≤ 2 * b.size + 1 := by
 unfold hexB
 split
 ·show 1 ≤ _; omega
 ·rw [bm_size, List.size_toArray, hexL_len]
  have : b.data.toList.length = b.size := by simp
  omega
theorem linesB_size {α : Type} (f : α → ByteArray) (K : Nat) : ∀ (l : List α) (s : ByteArray), (∀ x ∈ l, (f x).size ≤ K) → (linesB f s l).size ≤ s.size + K * l.length
 | [], s, _ => by show s.size ≤ _; omega
 | x :: l, s, h => by
  have h1 := linesB_size f K l (s ++ f x) fun y hy => h y (List.mem_cons_of_mem _ hy)
  have h2 := h x List.mem_cons_self
  rw [ByteArray.size_append] at h1
  show (linesB f (s ++ f x) l).size ≤ _
  rw [List.length_cons, Nat.mul_add]
  omega
structure JLight (J : JobV) : Prop where
 ps : J.ps.length ≤ 60
 ds : J.ds.length ≤ 200
 ss : J.ss.length ≤ 60
 pan : J.pan.length ≤ 200
 sto : J.sto.length ≤ 200
 fl : J.fl.length ≤ 60
 sch : J.sch.length ≤ 3000
 pe : ∀ p ∈ J.ps, p.a.size ≤ 300 ∧ p.b.size ≤ 300
 se : ∀ s ∈ J.ss, s.b.size ≤ 5000 ∧ s.cuts.length ≤ 300
 fe : ∀ f ∈ J.fl, f.fs.length ≤ 300
theorem stageB_size {p : PV} (h1 : okI p.k) (h2 : okI p.n) (ha : p.a.size ≤ 300) (hb : p.b.size ≤ 300) : (stageB p).size ≤ 1300 := by
 have := itB_size h1; have := itB_size h2; have := hexB_size p.a; have := hexB_size p.b
 unfold stageB
 simp only [ByteArray.size_append]
 have : sStage.size = 6 := rfl
 have : (one8 32).size = 1 := rfl
 have : (one8 10).size = 1 := rfl
 omega
theorem all4 {P : Int → Prop} {a b c d : Int} (ha : P a) (hb : P b) (hc : P c) (hd : P d) : ∀ n ∈ [a, b, c, d], P n := by
 intro n hn
 simp only [List.mem_cons, List.not_mem_nil, or_false] at hn
 rcases hn with rfl | rfl | rfl | rfl <;> assumption
theorem all5 {P : Int → Prop} {a b c d e : Int} (ha : P a) (hb : P b) (hc : P c) (hd : P d) (he : P e) : ∀ n ∈ [a, b, c, d, e], P n := by
 intro n hn
 simp only [List.mem_cons, List.not_mem_nil, or_false] at hn
 rcases hn with rfl | rfl | rfl | rfl | rfl <;> assumption
theorem flatP_len : ∀ l : List (Int × Int), (flatP l).length = 2 * l.length
 | [] => rfl
 | p :: l => by show (flatP l).length + 1 + 1 = _; rw [flatP_len l, List.length_cons]; omega
theorem flatP_append : ∀ l m : List (Int × Int), flatP (l ++ m) = flatP l ++ flatP m
 | [], m => rfl
 | p :: l, m => by show p.1 :: p.2 :: flatP (l ++ m) = _; rw [flatP_append l m]; rfl
theorem flatP_ok : ∀ {l : List (Int × Int)}, (∀ p ∈ l, okI p.1 ∧ okI p.2) → ∀ n ∈ flatP l, okI n
 | [], _, n, hn => by cases hn
 | p :: l, h, n, hn => by
  have hn : n ∈ p.1 :: p.2 :: flatP l := hn
  rcases List.mem_cons.1 hn with rfl | hn
  ·exact (h p List.mem_cons_self).1
  ·rcases List.mem_cons.1 hn with rfl | hn
   ·exact (h p List.mem_cons_self).2
   ·exact flatP_ok (fun q hq => h q (List.mem_cons_of_mem _ hq)) n hn
theorem srcOk {s : SrcV} (h : okI s.id ∧ ∀ c ∈ s.cuts, okI c) (f : Int) (hf : okI f) : ∀ n ∈ [f, s.id] ++ s.cuts, okI n := by
 intro n hn
 rcases List.mem_append.1 hn with hn | hn
 ·simp only [List.mem_cons, List.not_mem_nil, or_false] at hn
  rcases hn with rfl | rfl
  ·exact hf
  ·exact h.1
 ·exact h.2 n hn
def t1B (J : JobV) : ByteArray := linesB stageB ByteArray.empty J.ps
def t2B (J : JobV) : ByteArray := linesB ductB (t1B J) J.ds
def t3B (J : JobV) : ByteArray := linesB srcB (t2B J) J.ss
def t4B (J : JobV) : ByteArray := linesB panB (t3B J) J.pan
def t5B (J : JobV) : ByteArray := linesB stoB (t4B J) J.sto
def t6B (J : JobV) : ByteArray := linesB filB (t5B J) J.fl
theorem textB_eq (J : JobV) : textB J = pickB (t6B J) J.sch := rfl
section
variable {J : JobV} (ho : JobOk J) (hl : JLight J)
include ho hl
theorem e1B : ∀ p ∈ J.ps, (stageB p).size ≤ 1300 := fun p hp => stageB_size (ho.ps p hp).1 (ho.ps p hp).2 (hl.pe p hp).1 (hl.pe p hp).2
omit hl in
theorem e2B : ∀ d ∈ J.ds, (ductB d).size ≤ 115 := fun d hd => by
 obtain ⟨a, b, c, e, f⟩ := ho.ds d hd
 exact (rowB_size [d.a, d.b, d.c, d.d, d.e] sDuct (all5 a b c e f)).2
theorem e3B : ∀ s ∈ J.ss, (srcB s).size ≤ 17000 := fun s hs => by
 obtain ⟨a, b⟩ := hl.se s hs
 have h1 := (rowB_size ([if s.f then 1 else 0, s.id] ++ s.cuts) (sSource ++ hexB s.b) (srcOk (ho.ss s hs) _ (by split <;> exact ⟨by omega, by omega⟩))).2
 have h2 := hexB_size s.b
 rw [ByteArray.size_append, List.length_append] at h1
 have h3 : sSource.size = 7 := rfl
 have h4 : ([if s.f then (1 : Int) else 0, s.id] : List Int).length = 2 := rfl
 unfold srcB
 omega
omit hl in
theorem e4B : ∀ d ∈ J.pan, (panB d).size ≤ 100 := fun d hd => by
 obtain ⟨a, b, c, e⟩ := ho.pan d hd
 exact Nat.le_trans (rowB_size [d.a, d.b, d.c, d.d] sPanic (all4 a b c e)).2 (by show 5 + 22 * 4 + 1 ≤ 100; decide)
omit hl in
theorem e5B : ∀ d ∈ J.sto, (stoB d).size ≤ 100 := fun d hd => by
 obtain ⟨a, b, c, e⟩ := ho.sto d hd
 exact Nat.le_trans (rowB_size [d.a, d.b, d.c, d.d] sStop (all4 a b c e)).2 (by show 4 + 22 * 4 + 1 ≤ 100; decide)
theorem e6B : ∀ f ∈ J.fl, (filB f).size ≤ 14000 := fun f hf => by
 obtain ⟨a, b⟩ := ho.fl f hf
 have h1 := (rowB_size (f.st :: flatP f.fs) sFiles (fun n hn => by
  rcases List.mem_cons.1 hn with rfl | hn
  ·exact a
  ·exact flatP_ok b n hn)).2
 have h2 := hl.fe f hf
 have h3 := flatP_len f.fs
 have h4 : sFiles.size = 5 := rfl
 rw [List.length_cons] at h1
 unfold filB
 omega
theorem t1B_size : (t1B J).size ≤ 78000 := by
 have := linesB_size stageB 1300 J.ps ByteArray.empty (e1B ho hl); have h0 : ByteArray.empty.size = 0 := rfl; have := hl.ps; unfold t1B; omega
theorem t2B_size : (t2B J).size ≤ 101000 := by
 have := linesB_size ductB 115 J.ds (t1B J) (e2B ho); have := t1B_size ho hl; have := hl.ds; unfold t2B; omega
theorem t3B_size : (t3B J).size ≤ 1121000 := by
 have := linesB_size srcB 17000 J.ss (t2B J) (e3B ho hl); have := t2B_size ho hl; have := hl.ss; unfold t3B; omega
theorem t4B_size : (t4B J).size ≤ 1141000 := by
 have := linesB_size panB 100 J.pan (t3B J) (e4B ho); have := t3B_size ho hl; have := hl.pan; unfold t4B; omega
theorem t5B_size : (t5B J).size ≤ 1161000 := by
 have := linesB_size stoB 100 J.sto (t4B J) (e5B ho); have := t4B_size ho hl; have := hl.sto; unfold t5B; omega
theorem t6B_size : (t6B J).size ≤ 2001000 := by
 have := linesB_size filB 14000 J.fl (t5B J) (e6B ho hl); have := t5B_size ho hl; have := hl.fl; unfold t6B; omega
end
end Go.Proofs.YtgepfmamfdmclaaGreatDoor
namespace Go.Proofs.YtgepfmamfdmclaaGreatDoor
open Go Vm Go.RowKit
theorem Vm.WR.under {P : Program} {B : Nat → Prop} {w₀ w w' : World} {ρ : Vm.Ren} {g : Nat → Option VObj} (h : WR P B w₀ ρ g w) (hb : Below w.heap.size w w') : WR P B w₀ ρ g w' where
 env := h.env
 below := h.below.trans ⟨hb.os, hb.tape, hb.output, hb.size, fun k hk => hb.block k (h.size k hk)⟩
 size := fun k hk => Nat.lt_of_lt_of_le (h.size k hk) hb.size
 live := fun x o r hx hr hl => by
  obtain ⟨o', h1, h2⟩ := h.live x o r hx hr hl
  exact ⟨o', (hb.block _ (Array.getElem?_eq_some_iff.1 h1).1).trans h1, h2⟩
 inj := h.inj
 fresh := h.fresh
 rows := h.rows
 nil := h.nil
 named := h.named
 abs := h.abs.next (fun x d hx => ⟨hx, rfl⟩) (fun k k1 a b => ⟨hb.block k k1, a, b⟩) hb.size
theorem below_grow (w : World) (k : Nat) (os : Array Obj) : Below w.heap.size w (Go.Sort.grow (w.drewN k) os) :=
 ⟨rfl, rfl, rfl, by show w.heap.size ≤ (w.heap ++ os).size; rw [Array.size_append]; omega, fun i hi => by show (w.heap ++ os)[i]? = w.heap[i]?; exact Array.getElem?_append_left hi⟩
theorem itoa_fn (n : Int) (h : okI n) : FnT Tryz.prog 24 [.int .i64 n] [] fun r o => r = .ret (.string (itB n)) ∧ o = [] := by
 intro B w₀ ρ w args' hfull hnamed hargs hw
 obtain ⟨v1, l1, e1, h1, t1⟩ := hargs.inv_cons
 have e3 := t1.inv_nil
 have e4 : v1 = .int .i64 n := by cases h1; rfl
 have ea : args' = #[.int .i64 n] := by rw [← Array.toArray_toList (xs := args'), e1, e3, e4]
 subst ea
 refine (Tryz.strconv_Itoa n h.1 h.2 w (hw.env w hw.below)).mono fun e w' ⟨he, k, os, hw'⟩ => ?_
 subst he
 subst hw'
 exact ⟨_, _, ρ, ⟨rfl, rfl⟩, VR.scal _ rfl, hfull, hw.under (below_grow w k os), by simp, fun _ _ => rfl⟩
noncomputable def okB (n : Int) : Bool := @decide (okI n) (Classical.propDecidable _)
theorem okB_iff {n : Int} : okB n = true ↔ okI n := by unfold okB; exact @decide_eq_true_iff _ (Classical.propDecidable _)
noncomputable def gIt (a : List Value) (o : List VObj) : Option (Bool × CRes × List VObj) := match a, o with
 | [.int .i64 n], [] => some (okB n, .ret (.string (itB n)), [])
 | _, _ => none
theorem it_ok : FnOk Tryz.prog 24 (Sum.of gIt) := FnOk.of fun a o r o' h => by
 unfold gIt at h
 split at h
 ·simp only [Option.some.injEq, Prod.mk.injEq] at h
  obtain ⟨h1, rfl, rfl⟩ := h
  exact itoa_fn _ (okB_iff.1 h1)
 ·cases h
noncomputable def lockS (a : ByteArray) : ByteArray := Classical.choose (⟨a, rfl⟩ : ∃ b, b = a)
theorem lockS_eq (a : ByteArray) : lockS a = a := Classical.choose_spec (⟨a, rfl⟩ : ∃ b, b = a)
def toI64 : Value → Int
 | .int .i64 n => n
 | _ => 0
def intsOf (c : List Value) : List Int := c.map toI64
noncomputable def allI (c : List Value) : Bool := @decide (c = intsC (intsOf c) ∧ ∀ n ∈ intsOf c, okI n) (Classical.propDecidable _)
theorem allI_iff {c : List Value} : allI c = true ↔ c = intsC (intsOf c) ∧ ∀ n ∈ intsOf c, okI n := by unfold allI; exact @decide_eq_true_iff _ (Classical.propDecidable _)
theorem intsOf_intsC (l : List Int) : intsOf (intsC l) = l := by
 unfold intsOf intsC; rw [List.map_map]; induction l with
 | nil => rfl
 | cons a l ih => simp only [List.map_cons, ih]; rfl
theorem allI_ints {l : List Int} (h : ∀ n ∈ l, okI n) : allI (intsC l) = true := allI_iff.2 (by rw [intsOf_intsC]; exact ⟨rfl, h⟩)
theorem bytesC_append (a b : ByteArray) : bytesC (a ++ b) = bytesC a ++ bytesC b := by
 unfold bytesC
 rw [ByteArray.data_append, Array.toList_append, List.map_append]
theorem strC (s : ByteArray) : List.map (fun b => Value.int IntKind.u8 (↑(UInt8.toNat b) : Int)) (List.take s.size (Array.toList (ByteArray.data s))) = bytesC s := by
 rw [List.take_of_length_le (by simp)]; rfl
theorem bytes_str (t : ByteArray) : ByteArray.mk (List.toArray (Option.getD (Option.bind (cut (bytesC t) 0 t.size) bytesOf) [])) = t ∧ (Option.isSome (Option.bind (cut (bytesC t) 0 t.size) bytesOf)) = true := by
 rw [cut_all (bytesC_length t).symm, Option.bind_some, bytesOf_bytesC]
 exact ⟨rfl, rfl⟩
theorem FnT.bldOut {f : FuncId} {args : List Value} {objs : List VObj} {Q : CRes → List VObj → Prop} (h : FnT Tryz.prog f args objs fun r o => ∃ d n, o = .abs d :: List.replicate n .dead ∧ (∃ r', backR (idxN [0]) r = some r' ∧ Q r' [.abs d])) (hl : objs.length = 1) : FnT Tryz.prog f args objs Q := by
 refine FnT.trim h ?_
 rintro r o ⟨d, n, rfl, r', h1, h2⟩
 refine ⟨[0], [], r', [.abs d], [], ?_, fun c hc => (by cases hc), h2⟩
 rw [hl]
 unfold trimT
 simp only [getAll, List.getElem?_cons_zero, List.zip_cons_cons, List.zip_nil_right, rnB, h1]
 rfl
theorem ba_empty {t : ByteArray} (h : t.size = 0) : t = ByteArray.empty := ByteArray.ext (Array.eq_empty_of_size_eq_zero h)
theorem ws_fn (t s : ByteArray) (hs : 0 < s.size) (h : t.size + s.size ≤ 10000000) : FnT Tryz.prog 23 [.pointer (some ⟨0, 0, none⟩), .string s] [.abs (.bld t)]
  fun r o => r = .ret (.tuple #[.int .i64 (s.size : Int), .nilIface]) ∧ o = [.abs (.bld (t ++ s))] := by
 rcases Nat.eq_zero_or_pos t.size with ht | ht
 ·refine FnT.bldOut (FnT.bldN ht ?_) rfl
  refine FnT.ofT (n := slotsC Tryz.prog 23) (by kernel_rfl) ?_
  apply bw_n s (by omega)
  case n0 => exact one_of_plain (pl_u8 _)
  case l1 =>
   refine bw_n_r0 s ?_
   refine ⟨.bld s, [1], .bld s 1 rfl (by rw [strC]; rfl) hs (by omega), ?_, by simp, .bld s, 1, rfl, _, rfl, rfl, ?_⟩
   ·intro o ho
    simp only [List.mem_cons, List.not_mem_nil, or_false] at ho
    rcases ho with rfl | rfl <;> rfl
   ·rw [ba_empty ht, ByteArray.empty_append]
 ·refine FnT.bldOut (FnT.bldF ht ?_) rfl
  refine FnT.ofT (n := slotsC Tryz.prog 23) (by kernel_rfl) ?_
  apply bw_f t s h
  case n0 => exact one_of_plain (pl_u8 _)
  case l1 =>
   refine bw_f_r0 t s ?_
   have hz : (t ++ s).size = t.size + s.size := ByteArray.size_append
   refine ⟨.bld (t ++ s), [2], .bld (t ++ s) 2 (by rw [hz]; rfl) (by rw [strC, ← bytesC_append]; rfl) (by omega) (by omega), ?_, by simp, .bld (t ++ s), 2, rfl, _, rfl, rfl, rfl⟩
   intro o ho
   simp only [List.mem_cons, List.not_mem_nil, or_false] at ho
   rcases ho with rfl | rfl | rfl <;> rfl
theorem len_fn (t : ByteArray) : FnT Tryz.prog 27 [.pointer (some ⟨0, 0, none⟩)] [.abs (.bld t)] fun r o => r = .ret (.int .i64 (t.size : Int)) ∧ o = [.abs (.bld t)] := by
 rcases Nat.eq_zero_or_pos t.size with ht | ht
 ·refine FnT.bldOut (FnT.bldN ht ?_) rfl
  refine FnT.ofT (n := slotsC Tryz.prog 27) (by kernel_rfl) ?_
  apply bl_n t
  refine bl_n_r0 t ?_
  refine ⟨.bld t, [], .nil t ht rfl, ?_, by simp, .bld t, 0, rfl, _, rfl, by rw [ht]; rfl, rfl⟩
  intro o ho
  rw [List.mem_singleton] at ho; subst ho; rfl
 ·refine FnT.bldOut (FnT.bldF ht ?_) rfl
  refine FnT.ofT (n := slotsC Tryz.prog 27) (by kernel_rfl) ?_
  apply bl_f t (pl_bytes _)
  refine bl_f_r0 t ?_
  refine ⟨.bld t, [1], .bld t 1 rfl rfl ht (by omega), ?_, by simp, .bld t, 1, rfl, _, rfl, rfl, rfl⟩
  intro o ho
  simp only [List.mem_cons, List.not_mem_nil, or_false] at ho
  rcases ho with rfl | rfl <;> rfl
theorem str_fn (t : ByteArray) (h : t.size ≤ 10000000) : FnT Tryz.prog 28 [.pointer (some ⟨0, 0, none⟩)] [.abs (.bld t)] fun r o => r = .ret (.string t) ∧ o = [.abs .gone] := by
 rcases Nat.eq_zero_or_pos t.size with ht | ht
 ·refine FnT.bldOut (FnT.bldN ht ?_) rfl
  refine FnT.ofT (n := slotsC Tryz.prog 28) (by kernel_rfl) ?_
  apply bs_n t
  refine bs_n_r0 t ?_
  refine ⟨.gone, [], .gone _ _ _ rfl, ?_, by simp, .gone, 0, rfl, _, rfl, by rw [ba_empty ht], rfl⟩
  intro o ho
  rw [List.mem_singleton] at ho; subst ho; rfl
 ·refine FnT.bldOut (FnT.bldF ht ?_) rfl
  refine FnT.ofT (n := slotsC Tryz.prog 28) (by kernel_rfl) ?_
  apply bs_f t ht h
  case n0 => exact (bytes_str t).2
  case l1 =>
   refine bs_f_r0 t ?_
   refine ⟨.gone, [1], .gone _ _ _ rfl, ?_, by simp, .gone, 1, rfl, _, rfl, ?_, rfl⟩
   ·intro o ho
    simp only [List.mem_cons, List.not_mem_nil, or_false] at ho
    rcases ho with rfl | rfl <;> rfl
   ·exact congrArg (fun x => CRes.ret (.string x)) (bytes_str t).1
def gWs (a : List Value) (o : List VObj) : Option (Bool × CRes × List VObj) := match a, o with
 | [.pointer (some ⟨0, 0, none⟩), .string s], [.abs (.bld t)] => some (decide (0 < s.size) && Nat.ble (t.size + s.size) 10000000, .ret (.tuple #[.int .i64 (s.size : Int), .nilIface]), [.abs (.bld (t ++ s))])
 | _, _ => none
theorem ws_ok : FnOk Tryz.prog 23 (Sum.of gWs) := FnOk.of fun a o r o' h => by
 unfold gWs at h
 split at h
 ·simp only [Option.some.injEq, Prod.mk.injEq, Bool.and_eq_true, decide_eq_true_eq] at h
  obtain ⟨⟨h1, h2⟩, rfl, rfl⟩ := h
  exact ws_fn _ _ h1 (Nat.le_of_ble_eq_true h2)
 ·cases h
def gLn (a : List Value) (o : List VObj) : Option (Bool × CRes × List VObj) := match a, o with
 | [.pointer (some ⟨0, 0, none⟩)], [.abs (.bld t)] => some (true, .ret (.int .i64 (t.size : Int)), [.abs (.bld t)])
 | _, _ => none
theorem ln_ok : FnOk Tryz.prog 27 (Sum.of gLn) := FnOk.of fun a o r o' h => by
 unfold gLn at h
 split at h
 ·simp only [Option.some.injEq, Prod.mk.injEq] at h
  obtain ⟨_, rfl, rfl⟩ := h
  exact len_fn _
 ·cases h
def gSt (a : List Value) (o : List VObj) : Option (Bool × CRes × List VObj) := match a, o with
 | [.pointer (some ⟨0, 0, none⟩)], [.abs (.bld t)] => some (Nat.ble t.size 10000000, .ret (.string t), [.abs .gone])
 | _, _ => none
theorem st_ok : FnOk Tryz.prog 28 (Sum.of gSt) := FnOk.of fun a o r o' h => by
 unfold gSt at h
 split at h
 ·simp only [Option.some.injEq, Prod.mk.injEq] at h
  obtain ⟨h1, rfl, rfl⟩ := h
  exact str_fn _ (Nat.le_of_ble_eq_true h1)
 ·cases h
noncomputable def tblI1 : List (FuncId × Sum) := [(24, Sum.of gIt)]
theorem callsI1 : CallsOk Tryz.prog (callT Tryz.prog (tblL tblI1) 50 40) := callT_ok plainN mixed (tblL_ok (.cons it_ok .nil)) 50 40
noncomputable def Lscript_hex : List Code := flat2 (bodyC Tryz.prog 25)
noncomputable def Lpenstockref27_Hex : List Code := flat2 (bodyC Tryz.prog 30)
open Tree renaming mkNeed → mN, mkFork → mF, mkLeaf → mL, mkQ → mQ, mkR → mR, mkE → mE
noncomputable abbrev xha_k0 : List Code := (flat2 (inner (flat2 (inner (Lscript_hex.drop 5)))))
noncomputable abbrev hx_a_d0 (b : ByteArray) (rb : Bool) : Desc := ⟨[(2, .string (ByteArray.mk #[UInt8.ofNat 45]))], [.cells (bytesC b) 5 rb]⟩
theorem hx_a_r0 (b : ByteArray) (rb : Bool) {Q : CRes → List VObj → Prop} (hq : Q (.ret (.string (ByteArray.mk #[UInt8.ofNat 45]))) [.cells (bytesC b) 5 rb]) : FinT Tryz.prog 25 27 1 Q .ret (hx_a_d0 b rb) := FinT.ret (vs := [.string (ByteArray.mk #[UInt8.ofNat 45])]) (l := []) (bs := [0]) (pl := [0]) (q := [bytesC b]) (fun u => by kernel_rfl) (by kernel_rfl) (pls_cons (pl_bytes b) pls_nil) hq
noncomputable abbrev hx_a_d1 (b : ByteArray) (rb : Bool) : Desc := ⟨[(3, .slice none (0) (0)), (9, .slice (some ⟨0, 0, none⟩) b.size b.size), (10, .int .i64 ((b.size : Int))), (11, .int .i64 (0))], [.cells (bytesC b) 5 rb]⟩
noncomputable abbrev xha_i0 (b : ByteArray) (rb : Bool) : Desc := ⟨[(0, .slice (some ⟨0, 0, none⟩) b.size b.size)], [.cells (bytesC b) 5 rb]⟩
theorem hx_a (b : ByteArray) (rb : Bool) {Q : VEx → Desc → Prop} (pl0 : List.all (bytesC b) isScal = true) (l1 : ((b.size : Int) == 0) = true → Q (.ret) (hx_a_d0 b rb)) (l2 : ((b.size : Int) == 0) = false → TriL Tryz.prog 27 1 (Lscript_hex.drop 5) (hx_a_d1 b rb) Q) : TriL Tryz.prog 27 1 Lscript_hex (xha_i0 b rb) Q :=
 TriL.tree plainN mixed calls0 (lf := 50) (m := 5) (s := (.fork 1 (.leaf [2] [0] [0]) (.leaf [3, 9, 10, 11] [0] [0]))) (fun u => by kernel_rfl) (mF (c := (b.size : Int) == 0) (fun h0 => (mN (pl_bytes b) (mR (l1 h0)))) (fun h0 => (mN (pl_bytes b) (mQ (l2 h0)))))
noncomputable abbrev hx_b_d0 (b : ByteArray) (rb : Bool) (x : ByteArray) (i : Int) : Desc := ⟨[(3, .slice (some ⟨1, 0, none⟩) x.size x.size), (9, .slice (some ⟨0, 0, none⟩) b.size b.size), (10, .int .i64 ((b.size : Int))), (11, .int .i64 (i))], [.cells (bytesC b) 5 rb, .cells (bytesC x) 5 false]⟩
noncomputable abbrev hx_b_d1 (b : ByteArray) (rb : Bool) (x : ByteArray) (i : Int) : Desc := ⟨[(3, .slice (some ⟨1, 0, none⟩) x.size x.size)], [.cells (bytesC b) 5 rb, .cells (bytesC x) 5 false]⟩
noncomputable abbrev xha_i1 (b : ByteArray) (rb : Bool) (x : ByteArray) (i : Int) : Desc := ⟨[(3, .slice (some ⟨1, 0, none⟩) x.size x.size), (9, .slice (some ⟨0, 0, none⟩) b.size b.size), (10, .int .i64 b.size), (11, .int .i64 i)], [.cells (bytesC b) 5 rb, .cells (bytesC x) 5 false]⟩
theorem hx_b (b : ByteArray) (rb : Bool) (x : ByteArray) (i : Int) {Q : VEx → Desc → Prop} (pl0 : List.all (bytesC b) isScal = true) (pl1 : List.all (bytesC x) isScal = true) (l2 : (decide (i < (b.size : Int))) = true → TriL Tryz.prog 27 1 (xha_k0.drop 2) (hx_b_d0 b rb x i) Q) (l3 : (decide (i < (b.size : Int))) = false → Q (.exit 0) (hx_b_d1 b rb x i)) : TriL Tryz.prog 27 1 xha_k0 (xha_i1 b rb x i) Q :=
 TriL.tree plainN mixed calls0 (lf := 50) (m := 2) (s := (.fork 0 (.leaf [3, 9, 10, 11] [0, 1] [0, 1]) (.leaf [3] [0, 1] [0, 1]))) (fun u => by kernel_rfl) (mF (c := decide (i < (b.size : Int))) (fun h0 => (mN (pl_bytes b) (mN (pl_bytes x) (mQ (l2 h0))))) (fun h0 => (mN (pl_bytes b) (mN (pl_bytes x) (mE 0 (l3 h0))))))
noncomputable abbrev hx_c_d0 (b : ByteArray) (rb : Bool) (x : ByteArray) (i : Int) : Desc := ⟨[(3, .slice (some ⟨1, 0, none⟩) (x.size + 2) (x.size + 2)), (9, .slice (some ⟨0, 0, none⟩) b.size b.size), (10, .int .i64 ((b.size : Int))), (11, .int .i64 (IntKind.wrap .i64 (i + 1)))], [.cells (bytesC b) 5 rb, .cells (bytesC x ++ [Value.int IntKind.u8 (↑(UInt8.toNat (List.getD [UInt8.ofNat 48, UInt8.ofNat 49, UInt8.ofNat 50, UInt8.ofNat 51, UInt8.ofNat 52, UInt8.ofNat 53, UInt8.ofNat 54, UInt8.ofNat 55, UInt8.ofNat 56, UInt8.ofNat 57, UInt8.ofNat 97, UInt8.ofNat 98, UInt8.ofNat 99, UInt8.ofNat 100, UInt8.ofNat 101, UInt8.ofNat 102] (Int.toNat (Int.fdiv (intAt (bytesC b) (0 + Int.toNat i * 1)) 16)) (UInt8.ofNat 0))) : Int), Value.int IntKind.u8 (↑(UInt8.toNat (List.getD [UInt8.ofNat 48, UInt8.ofNat 49, UInt8.ofNat 50, UInt8.ofNat 51, UInt8.ofNat 52, UInt8.ofNat 53, UInt8.ofNat 54, UInt8.ofNat 55, UInt8.ofNat 56, UInt8.ofNat 57, UInt8.ofNat 97, UInt8.ofNat 98, UInt8.ofNat 99, UInt8.ofNat 100, UInt8.ofNat 101, UInt8.ofNat 102] (Int.toNat (IntKind.wrap IntKind.u8 (↑(BitVec.toNat (BitVec.ofInt 8 (intAt (bytesC b) (0 + Int.toNat i * 1)) &&& BitVec.ofInt 8 15)) : Int))) (UInt8.ofNat 0))) : Int)]) 5 false]⟩
theorem hx_c (b : ByteArray) (rb : Bool) (x : ByteArray) (i : Int) (h0 : 0 ≤ i) (h1 : i < b.size) (h2 : b.size ≤ 1000000) (h3 : IntKind.wrap .i64 (i + 1) = i + 1) {Q : VEx → Desc → Prop} (n0 : (isIntAt IntKind.u8 (bytesC b) (0 + Int.toNat i * 1)) = true) (n1 : (decide (0 ≤ Int.fdiv (intAt (bytesC b) (0 + Int.toNat i * 1)) 16)) = true) (n2 : (Nat.blt (Int.toNat (Int.fdiv (intAt (bytesC b) (0 + Int.toNat i * 1)) 16)) 16) = true) (n3 : (Nat.blt (Int.toNat (IntKind.wrap IntKind.u8 (↑(BitVec.toNat (BitVec.ofInt 8 (intAt (bytesC b) (0 + Int.toNat i * 1)) &&& BitVec.ofInt 8 15)) : Int))) 16) = true) (n4 : (Nat.ble (x.size + 2) 10000000) = true) (pl0 : List.all (bytesC b) isScal = true) (l6 : Q .normal (hx_c_d0 b rb x i)) : TriL Tryz.prog 27 1 (xha_k0.drop 2) (xha_i1 b rb x i) Q :=
 TriL.tree plainN mixed calls0 (lf := 50) (m := 1000) (s := (.need 0 false (.need 0 true (.need 0 true (.need 0 false (.need 0 true (.need 0 false (.need 0 true (.need 0 true (.need 0 false (.need 1 true (.need 0 false (.need 1 true (.need 2 true (.need 0 true (.leaf [3, 9, 10, 11] [0, 3] [0, 3])))))))))))))))) (fun u => by kernel_rfl) (mN (decide_eq_true (by omega) : (decide (0 ≤ i)) = true) (mN (show (Nat.blt (Int.toNat i) b.size) = true by simp at h0 h1 h2 h3 ⊢ <;> omega) (mN n0 (mN n1 (mN n2 (mN n3 (mN n4 (mN (full_self _ : (full x.size x.size) = true) (mN (show (Nat.beq (0 + x.size * 1) (List.length (bytesC x))) = true by simp) (mN (pl_bytes b) (mN (show (List.all (bytesC x ++ [Value.int IntKind.u8 (↑(UInt8.toNat (List.getD [UInt8.ofNat 48, UInt8.ofNat 49, UInt8.ofNat 50, UInt8.ofNat 51, UInt8.ofNat 52, UInt8.ofNat 53, UInt8.ofNat 54, UInt8.ofNat 55, UInt8.ofNat 56, UInt8.ofNat 57, UInt8.ofNat 97, UInt8.ofNat 98, UInt8.ofNat 99, UInt8.ofNat 100, UInt8.ofNat 101, UInt8.ofNat 102] (Int.toNat (Int.fdiv (intAt (bytesC b) (0 + Int.toNat i * 1)) 16)) (UInt8.ofNat 0))) : Int), Value.int IntKind.u8 (↑(UInt8.toNat (List.getD [UInt8.ofNat 48, UInt8.ofNat 49, UInt8.ofNat 50, UInt8.ofNat 51, UInt8.ofNat 52, UInt8.ofNat 53, UInt8.ofNat 54, UInt8.ofNat 55, UInt8.ofNat 56, UInt8.ofNat 57, UInt8.ofNat 97, UInt8.ofNat 98, UInt8.ofNat 99, UInt8.ofNat 100, UInt8.ofNat 101, UInt8.ofNat 102] (Int.toNat (IntKind.wrap IntKind.u8 (↑(BitVec.toNat (BitVec.ofInt 8 (intAt (bytesC b) (0 + Int.toNat i * 1)) &&& BitVec.ofInt 8 15)) : Int))) (UInt8.ofNat 0))) : Int)]) isScal) = true by first | exact pl_u8 _ | assumption | exact pl_splice (by assumption) rfl _ | exact pl_splice (pl_splice (pl_splice (by assumption) rfl _) rfl _) rfl _ | exact pl_splice (pl_u8 _) (pl_repl (by rfl) _) _ | exact pl_take (pl_drop (pl_strs _) _) _ | (simp; done) | exact pl_append (by assumption) rfl | exact pl_append (pl_u8 _) rfl | exact pl_append (pl_bytes _) (pl_u8 _) | exact pl_append (by assumption) (pl_u8 _) | exact pl_append rfl (pl_take (by assumption) _) | exact pl_append (by assumption) (pl_take (by assumption) _) | exact pl_append rfl (pl_take (pl_drop (by assumption) _) _) | exact pl_take (pl_drop (by assumption) _) _) (mQ (TriL.done (by kernel_rfl) l6)))))))))))))
noncomputable abbrev hx_z_d0 (b : ByteArray) (rb : Bool) (x : ByteArray) : Desc := ⟨[(2, .string (ByteArray.mk (List.toArray (Option.getD (Option.bind (cut (bytesC x) 0 x.size) bytesOf) []))))], [.cells (bytesC b) 5 rb]⟩
theorem hx_z_r0 (b : ByteArray) (rb : Bool) (x : ByteArray) {Q : CRes → List VObj → Prop} (hq : Q (.ret (.string (ByteArray.mk (List.toArray (Option.getD (Option.bind (cut (bytesC x) 0 x.size) bytesOf) []))))) [.cells (bytesC b) 5 rb]) : FinT Tryz.prog 25 27 1 Q .ret (hx_z_d0 b rb x) := FinT.ret (vs := [.string (ByteArray.mk (List.toArray (Option.getD (Option.bind (cut (bytesC x) 0 x.size) bytesOf) [])))]) (l := []) (bs := [0]) (pl := [0]) (q := [bytesC b]) (fun u => by kernel_rfl) (by kernel_rfl) (pls_cons (pl_bytes b) pls_nil) hq
noncomputable abbrev xha_i2 (b : ByteArray) (rb : Bool) (x : ByteArray) : Desc := ⟨[(3, .slice (some ⟨1, 0, none⟩) x.size x.size)], [.cells (bytesC b) 5 rb, .cells (bytesC x) 5 false]⟩
theorem hx_z (b : ByteArray) (rb : Bool) (x : ByteArray) {Q : VEx → Desc → Prop} (n0 : (Option.isSome (Option.bind (cut (bytesC x) 0 x.size) bytesOf)) = true) (pl0 : List.all (bytesC b) isScal = true) (l2 : Q (.ret) (hx_z_d0 b rb x)) : TriL Tryz.prog 27 1 (Lscript_hex.drop 6) (xha_i2 b rb x) Q :=
 TriL.tree plainN mixed calls0 (lf := 50) (m := 1000) (s := (.need 0 false (.need 0 true (.leaf [2] [0] [0])))) (fun u => by kernel_rfl) (mN n0 (mN (pl_bytes b) (mR l2)))
noncomputable abbrev hr_a_d0 (b : ByteArray) (rb : Bool) : Desc := ⟨[(2, .string (ByteArray.mk #[UInt8.ofNat 45]))], [.cells (bytesC b) 5 rb]⟩
theorem hr_a_r0 (b : ByteArray) (rb : Bool) {Q : CRes → List VObj → Prop} (hq : Q (.ret (.string (ByteArray.mk #[UInt8.ofNat 45]))) [.cells (bytesC b) 5 rb]) : FinT Tryz.prog 30 30 1 Q .ret (hr_a_d0 b rb) := FinT.ret (vs := [.string (ByteArray.mk #[UInt8.ofNat 45])]) (l := []) (bs := [0]) (pl := [0]) (q := [bytesC b]) (fun u => by kernel_rfl) (by kernel_rfl) (pls_cons (pl_bytes b) pls_nil) hq
noncomputable abbrev hr_a_d1 (b : ByteArray) (rb : Bool) : Desc := ⟨[(0, .slice (some ⟨0, 0, none⟩) b.size b.size), (3, .string (ByteArray.mk #[])), (4, .int .i64 (0))], [.cells (bytesC b) 5 rb]⟩
theorem hr_a (b : ByteArray) (rb : Bool) {Q : VEx → Desc → Prop} (pl0 : List.all (bytesC b) isScal = true) (l1 : ((b.size : Int) == 0) = true → Q (.ret) (hr_a_d0 b rb)) (l2 : ((b.size : Int) == 0) = false → TriL Tryz.prog 30 1 (Lpenstockref27_Hex.drop 5) (hr_a_d1 b rb) Q) : TriL Tryz.prog 30 1 Lpenstockref27_Hex (xha_i0 b rb) Q :=
 TriL.tree plainN mixed calls0 (lf := 50) (m := 5) (s := (.fork 1 (.leaf [2] [0] [0]) (.leaf [0, 3, 4] [0] [0]))) (fun u => by kernel_rfl) (mF (c := (b.size : Int) == 0) (fun h0 => (mN (pl_bytes b) (mR (l1 h0)))) (fun h0 => (mN (pl_bytes b) (mQ (l2 h0)))))
noncomputable def Lpenstockref27_digit : List Code := flat2 (bodyC Tryz.prog 43)
noncomputable def Lpenstockref27_Digits : List Code := flat2 (bodyC Tryz.prog 29)
noncomputable def Lscript_row : List Code := flat2 (bodyC Tryz.prog 26)
open Tree renaming mkNeed → mN, mkFork → mF, mkLeaf → mL, mkQ → mQ, mkR → mR, mkE → mE
noncomputable abbrev xhb_k0 : List Code := (flat2 (inner (flat2 (inner (Lpenstockref27_Digits.drop 5)))))
noncomputable abbrev xhb_k1 : List Code := (flat2 (inner (flat2 (inner (Lscript_row.drop 2)))))
noncomputable abbrev dg_a_d0 (n : Int) : Desc := ⟨[(2, .string (ByteArray.mk #[UInt8.ofNat (Int.toNat (IntKind.wrap IntKind.u8 (48 + n)))]))], []⟩
theorem dg_a_r0 (n : Int) {Q : CRes → List VObj → Prop} (hq : Q (.ret (.string (ByteArray.mk #[UInt8.ofNat (Int.toNat (IntKind.wrap IntKind.u8 (48 + n)))]))) []) : FinT Tryz.prog 43 14 0 Q .ret (dg_a_d0 n) := FinT.ret (vs := [.string (ByteArray.mk #[UInt8.ofNat (Int.toNat (IntKind.wrap IntKind.u8 (48 + n)))])]) (l := []) (bs := []) (pl := []) (q := []) (fun u => by kernel_rfl) (by kernel_rfl) pls_nil hq
noncomputable abbrev dg_a_d1 (n : Int) : Desc := ⟨[(2, .string (ByteArray.mk #[UInt8.ofNat (Int.toNat (IntKind.wrap IntKind.u8 (IntKind.wrap IntKind.u8 (97 + n) - 10)))]))], []⟩
theorem dg_a_r1 (n : Int) {Q : CRes → List VObj → Prop} (hq : Q (.ret (.string (ByteArray.mk #[UInt8.ofNat (Int.toNat (IntKind.wrap IntKind.u8 (IntKind.wrap IntKind.u8 (97 + n) - 10)))]))) []) : FinT Tryz.prog 43 14 0 Q .ret (dg_a_d1 n) := FinT.ret (vs := [.string (ByteArray.mk #[UInt8.ofNat (Int.toNat (IntKind.wrap IntKind.u8 (IntKind.wrap IntKind.u8 (97 + n) - 10)))])]) (l := []) (bs := []) (pl := []) (q := []) (fun u => by kernel_rfl) (by kernel_rfl) pls_nil hq
noncomputable abbrev xhb_i0 (n : Int) : Desc := ⟨[(0, .int .u8 n)], []⟩
theorem dg_a (n : Int) (h0 : 0 ≤ n) (h1 : n < 16) {Q : VEx → Desc → Prop} (l0 : (decide (n < 10)) = true → Q (.ret) (dg_a_d0 n)) (l1 : (decide (n < 10)) = false → Q (.ret) (dg_a_d1 n)) : TriL Tryz.prog 14 0 Lpenstockref27_digit (xhb_i0 n) Q :=
 TriL.tree plainN mixed calls0 (lf := 50) (m := 1000) (s := (.fork 0 (.leaf [2] [] []) (.leaf [2] [] []))) (fun u => by kernel_rfl) (mF (c := decide (n < 10)) (fun h0 => (mR (l0 h0))) (fun h0 => (mR (l1 h0))))
noncomputable abbrev ds_a_d0 (n : Int) : Desc := ⟨[(2, .string (ByteArray.mk #[UInt8.ofNat 48]))], []⟩
theorem ds_a_r0 (n : Int) {Q : CRes → List VObj → Prop} (hq : Q (.ret (.string (ByteArray.mk #[UInt8.ofNat 48]))) []) : FinT Tryz.prog 29 31 0 Q .ret (ds_a_d0 n) := FinT.ret (vs := [.string (ByteArray.mk #[UInt8.ofNat 48])]) (l := []) (bs := []) (pl := []) (q := []) (fun u => by kernel_rfl) (by kernel_rfl) pls_nil hq
noncomputable abbrev ds_a_d1 (n : Int) : Desc := ⟨[(0, .int .i64 (n)), (3, .string (ByteArray.mk #[])), (4, .int .i64 (n))], []⟩
noncomputable abbrev xhb_i1 (n : Int) : Desc := ⟨[(0, .int .i64 n)], []⟩
theorem ds_a (n : Int) {Q : VEx → Desc → Prop} (l0 : (n == 0) = true → Q (.ret) (ds_a_d0 n)) (l1 : (n == 0) = false → TriL Tryz.prog 31 0 (Lpenstockref27_Digits.drop 5) (ds_a_d1 n) Q) : TriL Tryz.prog 31 0 Lpenstockref27_Digits (xhb_i1 n) Q :=
 TriL.tree plainN mixed calls0 (lf := 50) (m := 5) (s := (.fork 0 (.leaf [2] [] []) (.leaf [0, 3, 4] [] []))) (fun u => by kernel_rfl) (mF (c := n == 0) (fun h0 => (mR (l0 h0))) (fun h0 => (mQ (l1 h0))))
noncomputable abbrev ds_b_d0 (n x : Int) (s : ByteArray) : Desc := ⟨[(0, .int .i64 (n)), (3, .string (s)), (4, .int .i64 (x))], []⟩
noncomputable abbrev ds_b_d1 (n x : Int) (s : ByteArray) : Desc := ⟨[(0, .int .i64 (n)), (3, .string (s))], []⟩
noncomputable abbrev xhb_i2 (n x : Int) (s : ByteArray) : Desc := ⟨[(0, .int .i64 n), (3, .string s), (4, .int .i64 x)], []⟩
theorem ds_b (n x : Int) (s : ByteArray) {Q : VEx → Desc → Prop} (l0 : (x != 0) = true → TriL Tryz.prog 31 0 (xhb_k0.drop 2) (ds_b_d0 n x s) Q) (l1 : (x != 0) = false → Q (.exit 0) (ds_b_d1 n x s)) : TriL Tryz.prog 31 0 xhb_k0 (xhb_i2 n x s) Q :=
 TriL.tree plainN mixed calls0 (lf := 50) (m := 2) (s := (.fork 0 (.leaf [0, 3, 4] [] []) (.leaf [0, 3] [] []))) (fun u => by kernel_rfl) (mF (c := x != 0) (fun h0 => (mQ (l0 h0))) (fun h0 => (mE 0 (l1 h0))))
noncomputable abbrev ds_c_d0 (n x : Int) (s : ByteArray) : Desc := ⟨[(0, .int .i64 (n)), (3, .string (ByteArray.mk #[UInt8.ofNat (Int.toNat (IntKind.wrap IntKind.u8 (IntKind.wrap .i64 (48 + IntKind.wrap .i64 (0 - Int.tmod x 10)))))] ++ s)), (4, .int .i64 (IntKind.wrap .i64 (Int.tdiv x 10)))], []⟩
noncomputable abbrev ds_c_d1 (n x : Int) (s : ByteArray) : Desc := ⟨[(0, .int .i64 (n)), (3, .string (ByteArray.mk #[UInt8.ofNat (Int.toNat (IntKind.wrap IntKind.u8 (IntKind.wrap .i64 (48 + Int.tmod x 10))))] ++ s)), (4, .int .i64 (IntKind.wrap .i64 (Int.tdiv x 10)))], []⟩
theorem ds_c (n x : Int) (s : ByteArray) (h0 : s.size ≤ 1000) {Q : VEx → Desc → Prop} (n0 : (decide (Int.tmod x 10 < 0)) = true → (Nat.ble (ByteArray.size (ByteArray.mk #[UInt8.ofNat (Int.toNat (IntKind.wrap IntKind.u8 (IntKind.wrap .i64 (48 + IntKind.wrap .i64 (0 - Int.tmod x 10)))))]) + s.size) 9223372036854775807) = true) (l1 : (decide (Int.tmod x 10 < 0)) = true → Q .normal (ds_c_d0 n x s)) (n2 : (decide (Int.tmod x 10 < 0)) = false → (Nat.ble (ByteArray.size (ByteArray.mk #[UInt8.ofNat (Int.toNat (IntKind.wrap IntKind.u8 (IntKind.wrap .i64 (48 + Int.tmod x 10))))]) + s.size) 9223372036854775807) = true) (l3 : (decide (Int.tmod x 10 < 0)) = false → Q .normal (ds_c_d1 n x s)) : TriL Tryz.prog 31 0 (xhb_k0.drop 2) (xhb_i2 n x s) Q :=
 TriL.tree plainN mixed calls0 (lf := 50) (m := 1000) (s := (.fork 1 (.need 2 false (.need 0 true (.leaf [0, 3, 4] [] []))) (.need 2 false (.need 0 true (.leaf [0, 3, 4] [] []))))) (fun u => by kernel_rfl) (mF (c := decide (Int.tmod x 10 < 0)) (fun h0 => (mN (n0 h0) (mQ (TriL.done (by kernel_rfl) (l1 h0))))) (fun h0 => (mN (n2 h0) (mQ (TriL.done (by kernel_rfl) (l3 h0))))))
noncomputable abbrev ds_z_d0 (n : Int) (s : ByteArray) : Desc := ⟨[(2, .string (ByteArray.mk #[UInt8.ofNat 45] ++ s))], []⟩
theorem ds_z_r0 (n : Int) (s : ByteArray) {Q : CRes → List VObj → Prop} (hq : Q (.ret (.string (ByteArray.mk #[UInt8.ofNat 45] ++ s))) []) : FinT Tryz.prog 29 31 0 Q .ret (ds_z_d0 n s) := FinT.ret (vs := [.string (ByteArray.mk #[UInt8.ofNat 45] ++ s)]) (l := []) (bs := []) (pl := []) (q := []) (fun u => by kernel_rfl) (by kernel_rfl) pls_nil hq
noncomputable abbrev ds_z_d1 (n : Int) (s : ByteArray) : Desc := ⟨[(2, .string (s))], []⟩
theorem ds_z_r1 (n : Int) (s : ByteArray) {Q : CRes → List VObj → Prop} (hq : Q (.ret (.string (s))) []) : FinT Tryz.prog 29 31 0 Q .ret (ds_z_d1 n s) := FinT.ret (vs := [.string (s)]) (l := []) (bs := []) (pl := []) (q := []) (fun u => by kernel_rfl) (by kernel_rfl) pls_nil hq
noncomputable abbrev xhb_i3 (n : Int) (s : ByteArray) : Desc := ⟨[(0, .int .i64 n), (3, .string s)], []⟩
theorem ds_z (n : Int) (s : ByteArray) (h0 : s.size ≤ 1000) {Q : VEx → Desc → Prop} (l0 : (decide (n < 0)) = true → Q (.ret) (ds_z_d0 n s)) (l1 : (decide (n < 0)) = false → Q (.ret) (ds_z_d1 n s)) : TriL Tryz.prog 31 0 (Lpenstockref27_Digits.drop 6) (xhb_i3 n s) Q :=
 TriL.tree plainN mixed calls0 (lf := 50) (m := 1000) (s := (.fork 0 (.need 0 false (.need 0 true (.leaf [2] [] []))) (.leaf [2] [] []))) (fun u => by kernel_rfl) (mF (c := decide (n < 0)) (fun h0 => (mN (show (Nat.ble (1 + s.size) 9223372036854775807) = true by simp at h0 h0 ⊢ <;> omega) (mR (l0 h0)))) (fun h0 => (mR (l1 h0))))
noncomputable abbrev rw_a_d0 (w : ByteArray) (L : List Int) (rb : Bool) : Desc := ⟨[(0, .string (w)), (7, .slice (some ⟨0, 0, none⟩) (List.length L) (List.length L)), (8, .int .i64 ((↑(List.length L) : Int))), (9, .int .i64 (0))], [.cells (intsC L) 3 rb]⟩
noncomputable abbrev xhb_i4 (w : ByteArray) (L : List Int) (rb : Bool) : Desc := ⟨[(0, .string w), (1, .slice (some ⟨0, 0, none⟩) L.length L.length)], [.cells (intsC L) 3 rb]⟩
theorem rw_a (w : ByteArray) (L : List Int) (rb : Bool) {Q : VEx → Desc → Prop} (pl0 : List.all (intsC L) isScal = true) (l1 : TriL Tryz.prog 21 1 (Lscript_row.drop 2) (rw_a_d0 w L rb) Q) : TriL Tryz.prog 21 1 Lscript_row (xhb_i4 w L rb) Q :=
 TriL.tree plainN mixed calls0 (lf := 50) (m := 2) (s := (.leaf [0, 7, 8, 9] [0] [0])) (fun u => by kernel_rfl) (mN (pl_ints L) (mQ l1))
noncomputable abbrev rw_b_d0 (w : ByteArray) (L : List Int) (rb : Bool) (i : Nat) : Desc := ⟨[(0, .string (w)), (7, .slice (some ⟨0, 0, none⟩) (List.length L) (List.length L)), (8, .int .i64 ((↑(List.length L) : Int))), (9, .int .i64 ((↑i : Int)))], [.cells (intsC L) 3 rb]⟩
noncomputable abbrev rw_b_d1 (w : ByteArray) (L : List Int) (rb : Bool) (i : Nat) : Desc := ⟨[(0, .string (w))], [.cells (intsC L) 3 rb]⟩
noncomputable abbrev xhb_i5 (w : ByteArray) (L : List Int) (rb : Bool) (i : Nat) : Desc := ⟨[(0, .string w), (7, .slice (some ⟨0, 0, none⟩) L.length L.length), (8, .int .i64 L.length), (9, .int .i64 i)], [.cells (intsC L) 3 rb]⟩
theorem rw_b (w : ByteArray) (L : List Int) (rb : Bool) (i : Nat) {Q : VEx → Desc → Prop} (pl0 : List.all (intsC L) isScal = true) (l1 : (decide ((↑i : Int) < (↑(List.length L) : Int))) = true → TriL Tryz.prog 21 1 (xhb_k1.drop 2) (rw_b_d0 w L rb i) Q) (l2 : (decide ((↑i : Int) < (↑(List.length L) : Int))) = false → Q (.exit 0) (rw_b_d1 w L rb i)) : TriL Tryz.prog 21 1 xhb_k1 (xhb_i5 w L rb i) Q :=
 TriL.tree plainN mixed calls0 (lf := 50) (m := 2) (s := (.fork 0 (.leaf [0, 7, 8, 9] [0] [0]) (.leaf [0] [0] [0]))) (fun u => by kernel_rfl) (mF (c := decide ((↑i : Int) < (↑(List.length L) : Int))) (fun h0 => (mN (pl_ints L) (mQ (l1 h0)))) (fun h0 => (mN (pl_ints L) (mE 0 (l2 h0)))))
noncomputable abbrev rw_c_d0 (w : ByteArray) (L : List Int) (rb : Bool) (i : Nat) : Desc := ⟨[(0, .string (w ++ (ByteArray.mk #[UInt8.ofNat 32] ++ itB (intAt (intsC L) (0 + Int.toNat (↑i : Int) * 1))))), (7, .slice (some ⟨0, 0, none⟩) (List.length L) (List.length L)), (8, .int .i64 ((↑(List.length L) : Int))), (9, .int .i64 (IntKind.wrap .i64 ((↑i : Int) + 1)))], [.cells (intsC L) 3 rb]⟩
theorem rw_c (w : ByteArray) (L : List Int) (rb : Bool) (i : Nat) (h0 : i < L.length) (h1 : L.length ≤ 100000) (h2 : w.size ≤ 900000) {Q : VEx → Desc → Prop} (n0 : (isIntAt IntKind.i64 (intsC L) (0 + Int.toNat (↑i : Int) * 1)) = true) (n1 : (okB (intAt (intsC L) (0 + Int.toNat (↑i : Int) * 1))) = true) (n2 : (Nat.ble (1 + ByteArray.size (itB (intAt (intsC L) (0 + Int.toNat (↑i : Int) * 1)))) 9223372036854775807) = true) (n3 : (Nat.ble (w.size + ByteArray.size (ByteArray.mk #[UInt8.ofNat 32] ++ itB (intAt (intsC L) (0 + Int.toNat (↑i : Int) * 1)))) 9223372036854775807) = true) (l5 : Q .normal (rw_c_d0 w L rb i)) : TriL Tryz.prog 21 1 (xhb_k1.drop 2) (xhb_i5 w L rb i) Q :=
 TriL.tree plainN mixed callsI1 (lf := 50) (m := 1000) (s := (.need 0 false (.need 1 true (.need 0 false (.need 0 true (.need 1 true (.need 0 false (.need 0 true (.need 0 false (.need 0 true (.leaf [0, 7, 8, 9] [0] [0]))))))))))) (fun u => by kernel_rfl) (mN (show (Nat.blt (Int.toNat (↑i : Int)) (List.length L)) = true by simp at h0 h1 h2 ⊢ <;> omega) (mN n0 (mN n1 (mN n2 (mN n3 (mN (pl_ints L) (mQ (TriL.done (by kernel_rfl) l5))))))))
noncomputable abbrev rw_z_d0 (w : ByteArray) (L : List Int) (rb : Bool) : Desc := ⟨[(4, .string (w ++ ByteArray.mk #[UInt8.ofNat 10]))], [.cells (intsC L) 3 rb]⟩
theorem rw_z_r0 (w : ByteArray) (L : List Int) (rb : Bool) {Q : CRes → List VObj → Prop} (hq : Q (.ret (.string (w ++ ByteArray.mk #[UInt8.ofNat 10]))) (rw_z_d0 w L rb).objs) : FinT Tryz.prog 26 21 1 Q .ret (rw_z_d0 w L rb) := FinT.ret (vs := [.string (w ++ ByteArray.mk #[UInt8.ofNat 10])]) (l := []) (bs := [0]) (pl := [0]) (q := [intsC L]) (fun u => by kernel_rfl) (by kernel_rfl) (pls_cons (pl_ints L) pls_nil) hq
noncomputable abbrev xhb_i6 (w : ByteArray) (L : List Int) (rb : Bool) : Desc := ⟨[(0, .string w)], [.cells (intsC L) 3 rb]⟩
theorem rw_z (w : ByteArray) (L : List Int) (rb : Bool) (h0 : w.size ≤ 900000) {Q : VEx → Desc → Prop} (pl0 : List.all (intsC L) isScal = true) (l1 : Q (.ret) (rw_z_d0 w L rb)) : TriL Tryz.prog 21 1 (Lscript_row.drop 3) (xhb_i6 w L rb) Q :=
 TriL.tree plainN mixed calls0 (lf := 50) (m := 1000) (s := (.need 0 false (.need 0 true (.leaf [4] [0] [0])))) (fun u => by kernel_rfl) (mN (show (Nat.ble (w.size + 1) 9223372036854775807) = true by simp at h0 ⊢ <;> omega) (mN (pl_ints L) (mR l1)))
theorem w64' {z : Int} (h : -1000000000 ≤ z) (h2 : z < 1000000000) : IntKind.wrap IntKind.i64 z = z := wrap_nat (by omega) (by omega)
theorem ints_at {L : List Int} {i : Nat} (h : i < L.length) : isIntAt IntKind.i64 (intsC L) (0 + Int.toNat (↑i : Int) * 1) = true ∧ intAt (intsC L) (0 + Int.toNat (↑i : Int) * 1) = L[i] := by
 have e : 0 + Int.toNat (↑i : Int) * 1 = i := by simp
 rw [e]
 refine ⟨isIntAt_ints h, ?_⟩
 unfold intAt intsC
 rw [List.getElem?_map, List.getElem?_eq_getElem h]; rfl
theorem digit_fn (n : Int) (h0 : 0 ≤ n) (h1 : n < 16) : FnT Tryz.prog 43 [.int .u8 n] [] fun r o => r = .ret (.string (one8 (hx n.toNat))) ∧ o = [] := by
 refine FnT.ofT (n := slotsC Tryz.prog 43) (by kernel_rfl) ?_
 apply dg_a n h0 h1
 case l0 =>
  intro g
  have g := of_decide_eq_true g
  refine dg_a_r0 n ⟨congrArg (fun x => CRes.ret (.string (one8 x))) ?_, rfl⟩
  rw [IntWalk.u8_in _ (by omega)]
  unfold hx
  rw [if_pos (by omega)]
  congr 1; omega
 case l1 =>
  intro g
  have g := of_decide_eq_false g
  refine dg_a_r1 n ⟨congrArg (fun x => CRes.ret (.string (one8 x))) ?_, rfl⟩
  rw [IntWalk.u8_in (97 + n) (by omega), IntWalk.u8_in _ (by omega)]
  unfold hx
  rw [if_neg (by omega)]
  congr 1; omega
def gDi (a : List Value) (o : List VObj) : Option (Bool × CRes × List VObj) := match a, o with
 | [.int .u8 n], [] => some (decide (0 ≤ n) && decide (n < 16), .ret (.string (one8 (hx n.toNat))), [])
 | _, _ => none
theorem di_ok : FnOk Tryz.prog 43 (Sum.of gDi) := FnOk.of fun a o r o' h => by
 unfold gDi at h
 split at h
 ·simp only [Option.some.injEq, Prod.mk.injEq, Bool.and_eq_true, decide_eq_true_eq] at h
  obtain ⟨⟨h1, h2⟩, rfl, rfl⟩ := h
  exact digit_fn _ h1 h2
 ·cases h
structure DsOk (n x : Int) (s : ByteArray) : Prop where
 le : -9223372036854775808 ≤ x ∧ x ≤ 9223372036854775807
 all : Lib.decDigits n.natAbs = (if x = 0 then [] else Lib.decDigits x.natAbs) ++ s.data.toList
theorem DsOk.size {n x : Int} {s : ByteArray} (h : DsOk n x s) (hn : okI n) : s.size ≤ 20 := by
 have h1 := congrArg List.length h.all
 rw [Lib.decDigits_length, List.length_append] at h1
 have h2 := Lib.nDigits_le20 n.natAbs (by have := hn.1; have := hn.2; omega)
 have h3 : s.data.toList.length = s.size := by simp
 omega
theorem DsOk.next {n x : Int} {s : ByteArray} (h : DsOk n x s) (hx : x ≠ 0) {y : Int} {d : Nat} (hy : y.natAbs = x.natAbs / 10) (hyl : -9223372036854775808 ≤ y ∧ y ≤ 9223372036854775807) (hd : d = x.natAbs % 10) : DsOk n y (⟨#[UInt8.ofNat (48 + d)]⟩ ++ s) := by
 refine ⟨hyl, ?_⟩
 rw [h.all, if_neg hx, ByteArray.data_append, Array.toList_append]
 show _ = _ ++ ([UInt8.ofNat (48 + d)] ++ s.data.toList)
 rw [← List.append_assoc]
 congr 1
 rw [Lib.decDigits]
 by_cases hs : x.natAbs < 10
 ·rw [dif_pos hs, if_pos (by omega), hd, Nat.mod_eq_of_lt hs]; rfl
 ·rw [dif_neg hs, if_neg (by omega), hy, hd]
theorem tmod10 (x : Int) : (0 ≤ x → Int.tmod x 10 = ((x.natAbs % 10 : Nat) : Int) ∧ Int.tdiv x 10 = ((x.natAbs / 10 : Nat) : Int)) ∧ (x < 0 → Int.tmod x 10 = -((x.natAbs % 10 : Nat) : Int) ∧ Int.tdiv x 10 = -((x.natAbs / 10 : Nat) : Int)) := by
 refine ⟨fun h => ?_, fun h => ?_⟩
 ·obtain ⟨k, rfl⟩ := Int.eq_ofNat_of_zero_le h
  exact ⟨rfl, rfl⟩
 ·obtain ⟨k, rfl⟩ : ∃ k : Nat, x = -(k : Int) := ⟨x.natAbs, by omega⟩
  rw [Int.neg_tmod, Int.neg_tdiv, Int.natAbs_neg, Int.natAbs_natCast]
  exact ⟨rfl, rfl⟩
theorem digits_fn (n : Int) (hn : okI n) : FnT Tryz.prog 29 [.int .i64 n] [] fun r o => r = .ret (.string (itB n)) ∧ o = [] := by
 obtain ⟨hn1, hn2⟩ := hn
 refine FnT.ofT (n := slotsC Tryz.prog 29) (by kernel_rfl) ?_
 apply ds_a n
 case l0 =>
  intro g
  have g : n = 0 := by simpa using g
  subst g
  refine ds_a_r0 0 ⟨congrArg (fun x => CRes.ret (.string x)) ?_, rfl⟩
  unfold itB Lib.itoa
  rw [if_neg (by omega), Lib.decDigits_one (by decide)]; rfl
 case l1 =>
  intro g
  have g : n ≠ 0 := by simpa using g
  refine TriL.blockAt 5 0 (by kernel_rfl) ?_
  refine TriL.loopAt (fun p : Int × ByteArray => ⟨[(0, .int .i64 n), (3, .string p.2), (4, .int .i64 p.1)], []⟩) (fun p => p.1.natAbs) (fun p => DsOk n p.1 p.2) (n, ⟨#[]⟩) (by kernel_rfl) ⟨⟨hn1, hn2⟩, by rw [if_neg g]; simp⟩ ?_
  rintro ⟨x, s⟩ hd
  have hsz := hd.size ⟨hn1, hn2⟩
  dsimp only at hd hsz ⊢
  apply ds_b n x s
  case l1 =>
   intro g2
   have g2 : x = 0 := by simpa using g2
   subst g2
   have hall := hd.all
   rw [if_pos rfl, List.nil_append] at hall
   repeat (first | with_reducible refine QL.ret ?_ | with_reducible refine QL.exit ?_ | with_reducible refine QB.ret ?_ | with_reducible refine QB.hit ?_ | with_reducible refine QB.normal ?_ | with_reducible refine QB.miss (by rfl) ?_)
   apply ds_z n s (by omega)
   case l0 =>
    intro g3
    have g3 := of_decide_eq_true g3
    refine ds_z_r0 n s ⟨congrArg (fun x => CRes.ret (.string x)) ?_, rfl⟩
    unfold itB Lib.itoa
    rw [if_pos g3, hall]
    apply ByteArray.ext
    rw [ByteArray.data_append]
    apply Array.ext'
    rw [Array.toList_append]
    rfl
   case l1 =>
    intro g3
    have g3 := of_decide_eq_false g3
    refine ds_z_r1 n s ⟨congrArg (fun x => CRes.ret (.string x)) ?_, rfl⟩
    unfold itB Lib.itoa
    rw [if_neg g3, show n.toNat = n.natAbs by omega, hall]
  case l0 =>
   intro g2
   have g2 : x ≠ 0 := by simpa using g2
   obtain ⟨hp, hm⟩ := tmod10 x
   have hle := hd.le
   apply ds_c n x s (by omega)
   case n0 => intro _; apply Nat.ble_eq_true_of_le; rw [show (ByteArray.mk #[UInt8.ofNat (Int.toNat (IntKind.wrap IntKind.u8 (IntKind.wrap .i64 (48 + IntKind.wrap .i64 (0 - Int.tmod x 10)))))]).size = 1 from rfl]; omega
   case n2 => intro _; apply Nat.ble_eq_true_of_le; rw [show (ByteArray.mk #[UInt8.ofNat (Int.toNat (IntKind.wrap IntKind.u8 (IntKind.wrap .i64 (48 + Int.tmod x 10))))]).size = 1 from rfl]; omega
   case l1 =>
    intro g3
    have g3 := of_decide_eq_true g3
    have hx : x < 0 := by
     rcases Int.lt_or_le x 0 with h | h
     ·exact h
     ·rw [(hp h).1] at g3; omega
    obtain ⟨m1, m2⟩ := hm hx
    refine QL.to (Int.tdiv x 10, ⟨#[UInt8.ofNat (48 + x.natAbs % 10)]⟩ ++ s) (hd.next g2 (by rw [m2]; omega) (by rw [m2]; omega) rfl) (by show (Int.tdiv x 10).natAbs < x.natAbs; rw [m2]; omega) ?_
    unfold ds_c_d0
    rw [m1, m2, wrap_nat (x := 0 - -((x.natAbs % 10 : Nat) : Int)) (by omega) (by omega), wrap_nat (x := 48 + (0 - -((x.natAbs % 10 : Nat) : Int))) (by omega) (by omega), IntWalk.u8_in _ (by omega), wrap_nat (by omega) (by omega)]
    rw [show (48 + (0 - -((x.natAbs % 10 : Nat) : Int))).toNat = 48 + x.natAbs % 10 by omega]
   case l3 =>
    intro g3
    have g3 := of_decide_eq_false g3
    have hfin : ∃ k : Nat, Int.tmod x 10 = (k : Int) ∧ k = x.natAbs % 10 := by
     rcases Int.lt_or_le x 0 with h | h
     ·exact ⟨0, by rw [(hm h).1] at g3 ⊢; omega, by rw [(hm h).1] at g3; omega⟩
     ·exact ⟨x.natAbs % 10, (hp h).1, rfl⟩
    obtain ⟨k, k1, k2⟩ := hfin
    have hq : (Int.tdiv x 10).natAbs = x.natAbs / 10 ∧ -9223372036854775808 ≤ Int.tdiv x 10 ∧ Int.tdiv x 10 ≤ 9223372036854775807 := by
     rcases Int.lt_or_le x 0 with h | h
     ·rw [(hm h).2]; omega
     ·rw [(hp h).2]; omega
    refine QL.to (Int.tdiv x 10, ⟨#[UInt8.ofNat (48 + k)]⟩ ++ s) (hd.next g2 hq.1 hq.2 k2) (by show (Int.tdiv x 10).natAbs < x.natAbs; rw [hq.1]; omega) ?_
    unfold ds_c_d1
    rw [k1, wrap_nat (x := 48 + (k : Int)) (by omega) (by omega), IntWalk.u8_in _ (by omega), wrap_nat hq.2.1 hq.2.2]
    rw [show (48 + (k : Int)).toNat = 48 + k by omega]
theorem dgs_ok : FnOk Tryz.prog 29 (Sum.of gIt) := FnOk.of fun a o r o' h => by
 unfold gIt at h
 split at h
 ·simp only [Option.some.injEq, Prod.mk.injEq] at h
  obtain ⟨h1, rfl, rfl⟩ := h
  exact digits_fn _ (okB_iff.1 h1)
 ·cases h
theorem numsB_take (w : ByteArray) (L : List Int) (i : Nat) (h : i < L.length) : numsB w (L.take (i + 1)) = numsB w (L.take i) ++ (one8 32 ++ itB L[i]) := by
 rw [List.take_succ_eq_append_getElem h, numsB_append]; rfl
theorem row_fn (w : ByteArray) (L : List Int) (rb : Bool) (hL : ∀ n ∈ L, okI n) (hlen : L.length ≤ 20000) (hw : w.size ≤ 100000) : FnT Tryz.prog 26 [.string w, .slice (some ⟨0, 0, none⟩) L.length L.length] [.cells (intsC L) 3 rb]
  fun r o => r = .ret (.string (rowB w L)) ∧ o = [.cells (intsC L) 3 rb] := by
 have pp : (intsC L).all isScal = true := by simp
 refine FnT.ofT (n := slotsC Tryz.prog 26) (by kernel_rfl) ?_
 apply rw_a w L rb pp
 refine TriL.blockAt 2 0 (by kernel_rfl) ?_
 refine TriL.loopAt (fun i : Nat => ⟨[(0, .string (numsB w (L.take i))), (7, .slice (some ⟨0, 0, none⟩) L.length L.length), (8, .int .i64 (L.length : Int)), (9, .int .i64 (i : Int))], [.cells (intsC L) 3 rb]⟩) (fun i => L.length - i) (fun i => i ≤ L.length) 0 (by kernel_rfl) (Nat.zero_le _) ?_
 intro i hi
 have hs : (numsB w (L.take i)).size ≤ 600000 := by
  have := numsB_size (L.take i) w fun n hn => hL n (List.mem_of_mem_take hn)
  rw [List.length_take] at this
  omega
 apply rw_b (numsB w (L.take i)) L rb i pp
 case l2 =>
  intro g
  have g := of_decide_eq_false g
  rw [List.take_of_length_le (by omega)] at hs ⊢
  repeat (first | with_reducible refine QL.ret ?_ | with_reducible refine QL.exit ?_ | with_reducible refine QB.ret ?_ | with_reducible refine QB.hit ?_ | with_reducible refine QB.normal ?_ | with_reducible refine QB.miss (by rfl) ?_)
  apply rw_z (numsB w L) L rb (by omega) pp
  exact rw_z_r0 (numsB w L) L rb ⟨rfl, rfl⟩
 case l1 =>
  intro g
  have g := of_decide_eq_true g
  have hlt : i < L.length := by omega
  obtain ⟨a1, a2⟩ := ints_at hlt
  have hok := hL _ (List.getElem_mem hlt)
  have hit := itB_size hok
  apply rw_c (numsB w (L.take i)) L rb i hlt (by omega) (by omega) a1
  case n1 => rw [a2]; exact okB_iff.2 hok
  case n2 => rw [a2]; exact Nat.ble_eq_true_of_le (by omega)
  case n3 => rw [a2, ByteArray.size_append]; exact Nat.ble_eq_true_of_le (by have : (ByteArray.mk #[UInt8.ofNat 32]).size = 1 := rfl; omega)
  case l5 =>
   refine QL.to (i + 1) (by omega) (by omega) ?_
   unfold rw_c_d0
   rw [a2, numsB_take w L i hlt, w64' (z := (i : Int) + 1) (by omega) (by omega)]
   rfl
noncomputable def gRw (a : List Value) (o : List VObj) : Option (Bool × CRes × List VObj) := match a, o with
 | [.string w, .slice (some ⟨0, 0, none⟩) n m], [.cells c el rb] => some (allI c && (Nat.beq n c.length && (Nat.beq m n && (Nat.ble n 20000 && (Nat.ble w.size 100000 && Nat.beq el 3)))), .ret (.string (lockS (rowB w (intsOf c)))), [.cells c el rb])
 | _, _ => none
theorem gRw_fn {f : FuncId} (hf : ∀ (w : ByteArray) (L : List Int) (rb : Bool) (hL : ∀ n ∈ L, okI n) (hlen : L.length ≤ 20000) (hw : w.size ≤ 100000), FnT Tryz.prog f [.string w, .slice (some ⟨0, 0, none⟩) L.length L.length] [.cells (intsC L) 3 rb]
  fun r o => r = .ret (.string (rowB w L)) ∧ o = [.cells (intsC L) 3 rb]) : FnOk Tryz.prog f (Sum.of gRw) := FnOk.of fun a o r o' h => by
 unfold gRw at h
 split at h
 ·rename_i w n m c el rb
  simp only [Option.some.injEq, Prod.mk.injEq, Bool.and_eq_true] at h
  obtain ⟨⟨h1, h2, h3, h4, h5, h6⟩, rfl, rfl⟩ := h
  obtain ⟨e, hok⟩ := allI_iff.1 h1
  have h2 := Nat.eq_of_beq_eq_true h2
  have h3 := Nat.eq_of_beq_eq_true h3
  have h4 := Nat.le_of_ble_eq_true h4
  have h5 := Nat.le_of_ble_eq_true h5
  have h6 := Nat.eq_of_beq_eq_true h6
  subst h3 h6
  have hl : (intsOf c).length = m := by unfold intsOf; rw [List.length_map]; exact h2.symm
  have := hf w (intsOf c) rb hok (by omega) h5
  rw [hl, ← e] at this
  rw [lockS_eq]
  exact this
 ·cases h
theorem rw_ok : FnOk Tryz.prog 26 (Sum.of gRw) := gRw_fn row_fn
theorem hexL_append : ∀ a b : List UInt8, hexL (a ++ b) = hexL a ++ hexL b
 | [], b => rfl
 | c :: a, b => by show hx _ :: hx _ :: hexL (a ++ b) = _; rw [hexL_append a b]; rfl
def hexN (b : ByteArray) (i : Nat) : ByteArray := ⟨(hexL (b.data.toList.take i)).toArray⟩
theorem hexN_size (b : ByteArray) (i : Nat) (h : i ≤ b.size) : (hexN b i).size = 2 * i := by
 show (hexL (b.data.toList.take i)).toArray.size = _
 rw [List.size_toArray, hexL_len, List.length_take]
 have : b.data.toList.length = b.size := by simp
 omega
theorem hexN_all (b : ByteArray) (h : b.size ≠ 0) : hexN b b.size = hexB b := by
 unfold hexN hexB
 rw [if_neg h, List.take_of_length_le (by simp)]
theorem hexN_succ (b : ByteArray) (i : Nat) (h : i < b.size) : hexN b (i + 1) = hexN b i ++ (one8 (hx (b[i].toNat / 16)) ++ one8 (hx (b[i].toNat % 16))) := by
 apply ByteArray.ext
 rw [ByteArray.data_append, ByteArray.data_append]
 apply Array.ext'
 rw [Array.toList_append, Array.toList_append]
 show (hexL (b.data.toList.take (i + 1))).toArray.toList = (hexL (b.data.toList.take i)).toArray.toList ++ ([hx _] ++ [hx _])
 simp only [List.toList_toArray]
 have hl : i < b.data.toList.length := by simpa using h
 rw [List.take_succ_eq_append_getElem hl, hexL_append]
 rfl
theorem byte_at {b : ByteArray} {i : Nat} (h : i < b.size) : isIntAt IntKind.u8 (bytesC b) (0 + Int.toNat (↑i : Int) * 1) = true ∧ intAt (bytesC b) (0 + Int.toNat (↑i : Int) * 1) = (b[i].toNat : Int) := by
 have e : 0 + Int.toNat (↑i : Int) * 1 = i := by simp
 rw [e]
 refine ⟨isIntAt_bytes h, ?_⟩
 have hl : i < b.data.toList.length := by simpa using h
 unfold intAt bytesC
 rw [List.getElem?_map, List.getElem?_eq_getElem hl]; rfl
theorem hx_hi : ∀ n : Fin 256, List.getD [UInt8.ofNat 48, UInt8.ofNat 49, UInt8.ofNat 50, UInt8.ofNat 51, UInt8.ofNat 52, UInt8.ofNat 53, UInt8.ofNat 54, UInt8.ofNat 55, UInt8.ofNat 56, UInt8.ofNat 57, UInt8.ofNat 97, UInt8.ofNat 98, UInt8.ofNat 99, UInt8.ofNat 100, UInt8.ofNat 101, UInt8.ofNat 102] (Int.toNat (Int.fdiv (n.val : Int) 16)) (UInt8.ofNat 0) = hx (n.val / 16) := by decide +kernel
theorem hx_lo : ∀ n : Fin 256, List.getD [UInt8.ofNat 48, UInt8.ofNat 49, UInt8.ofNat 50, UInt8.ofNat 51, UInt8.ofNat 52, UInt8.ofNat 53, UInt8.ofNat 54, UInt8.ofNat 55, UInt8.ofNat 56, UInt8.ofNat 57, UInt8.ofNat 97, UInt8.ofNat 98, UInt8.ofNat 99, UInt8.ofNat 100, UInt8.ofNat 101, UInt8.ofNat 102] (Int.toNat (IntKind.wrap IntKind.u8 (↑(BitVec.toNat (BitVec.ofInt 8 (n.val : Int) &&& BitVec.ofInt 8 15)) : Int))) (UInt8.ofNat 0) = hx (n.val % 16) := by decide +kernel
theorem hx_in : ∀ n : Fin 256, (decide (0 ≤ Int.fdiv (n.val : Int) 16)) = true ∧ (Nat.blt (Int.toNat (Int.fdiv (n.val : Int) 16)) 16) = true ∧ (Nat.blt (Int.toNat (IntKind.wrap IntKind.u8 (↑(BitVec.toNat (BitVec.ofInt 8 (n.val : Int) &&& BitVec.ofInt 8 15)) : Int))) 16) = true := by decide +kernel
theorem hex_fn (b : ByteArray) (rb : Bool) (hb : b.size ≤ 1000000) : FnT Tryz.prog 25 [.slice (some ⟨0, 0, none⟩) b.size b.size] [.cells (bytesC b) 5 rb]
  fun r o => r = .ret (.string (hexB b)) ∧ o = [.cells (bytesC b) 5 rb] := by
 have pp := pl_bytes b
 refine FnT.ofT (n := slotsC Tryz.prog 25) (by kernel_rfl) ?_
 apply hx_a b rb pp
 case l1 =>
  intro g
  have g : b.size = 0 := by simpa using g
  refine hx_a_r0 b rb ⟨?_, rfl⟩
  unfold hexB; rw [if_pos g]; rfl
 case l2 =>
  intro g
  have g : b.size ≠ 0 := by simpa using g
  refine TriL.nilAt 3 5 szU8 rfl (by simp [nodupB]) rfl ?_
  refine TriL.blockAt 5 0 (by kernel_rfl) ?_
  refine TriL.loopAt (fun i : Nat => ⟨[(3, .slice (some ⟨1, 0, none⟩) (hexN b i).size (hexN b i).size), (9, .slice (some ⟨0, 0, none⟩) b.size b.size), (10, .int .i64 (b.size : Int)), (11, .int .i64 (i : Int))], [.cells (bytesC b) 5 rb, .cells (bytesC (hexN b i)) 5 false]⟩) (fun i => b.size - i) (fun i => i ≤ b.size) 0 (by kernel_rfl) (Nat.zero_le _) ?_
  intro i hi
  have hsz := hexN_size b i hi
  apply hx_b b rb (hexN b i) (i : Int) pp (pl_bytes _)
  case l3 =>
   intro g2
   have g2 := of_decide_eq_false g2
   have e : i = b.size := by omega
   repeat (first | with_reducible refine QL.ret ?_ | with_reducible refine QL.exit ?_ | with_reducible refine QB.ret ?_ | with_reducible refine QB.hit ?_ | with_reducible refine QB.normal ?_ | with_reducible refine QB.miss (by rfl) ?_)
   subst e
   apply hx_z b rb (hexN b b.size) (bytes_str _).2 pp
   refine hx_z_r0 b rb (hexN b b.size) ⟨?_, rfl⟩
   rw [(bytes_str _).1, hexN_all b g]
  case l2 =>
   intro g2
   have g2 := of_decide_eq_true g2
   have hlt : i < b.size := by omega
   obtain ⟨a1, a2⟩ := byte_at hlt
   have h256 : b[i].toNat < 256 := b[i].toNat_lt
   obtain ⟨q1, q2, q3⟩ := hx_in ⟨b[i].toNat, h256⟩
   have q4 := hx_hi ⟨b[i].toNat, h256⟩
   have q5 := hx_lo ⟨b[i].toNat, h256⟩
   dsimp only at q1 q2 q3 q4 q5
   apply hx_c b rb (hexN b i) (i : Int) (by omega) (by omega) hb (w64' (by omega) (by omega)) a1
   case n1 => rw [a2]; exact q1
   case n2 => rw [a2]; exact q2
   case n3 => rw [a2]; exact q3
   case n4 => exact Nat.ble_eq_true_of_le (by omega)
   case pl0 => exact pp
   case l6 =>
    refine QL.to (i + 1) (by omega) (by omega) ?_
    unfold hx_c_d0
    rw [a2, q4, q5, w64' (z := (i : Int) + 1) (by omega) (by omega), hexN_succ b i hlt, bytesC_append, ByteArray.size_append]
    rfl
def toB8 : Value → UInt8
 | .int .u8 n => UInt8.ofNat n.toNat
 | _ => 0
def bytesIn (c : List Value) : ByteArray := ⟨(c.map toB8).toArray⟩
noncomputable def allB8 (c : List Value) : Bool := @decide (c = bytesC (bytesIn c)) (Classical.propDecidable _)
theorem allB8_iff {c : List Value} : allB8 c = true ↔ c = bytesC (bytesIn c) := by unfold allB8; exact @decide_eq_true_iff _ (Classical.propDecidable _)
theorem bytesIn_bytesC (b : ByteArray) : bytesIn (bytesC b) = b := by
 unfold bytesIn bytesC
 rw [List.map_map]
 have : (toB8 ∘ fun x : UInt8 => Value.int IntKind.u8 (x.toNat : Int)) = id := by
  funext x; show UInt8.ofNat ((x.toNat : Int).toNat) = x; simp
 rw [this, List.map_id]
theorem all_b8 (b : ByteArray) : allB8 (bytesC b) = true := allB8_iff.2 (by rw [bytesIn_bytesC])
noncomputable def gHx (a : List Value) (o : List VObj) : Option (Bool × CRes × List VObj) := match a, o with
 | [.slice (some ⟨0, 0, none⟩) n m], [.cells c el rb] => some (allB8 c && (Nat.beq n c.length && (Nat.beq m n && (Nat.ble n 1000000 && Nat.beq el 5))), .ret (.string (lockS (hexB (bytesIn c)))), [.cells c el rb])
 | _, _ => none
theorem gHx_fn {f : FuncId} (hf : ∀ (b : ByteArray) (rb : Bool) (hb : b.size ≤ 1000000), FnT Tryz.prog f [.slice (some ⟨0, 0, none⟩) b.size b.size] [.cells (bytesC b) 5 rb]
  fun r o => r = .ret (.string (hexB b)) ∧ o = [.cells (bytesC b) 5 rb]) : FnOk Tryz.prog f (Sum.of gHx) := FnOk.of fun a o r o' h => by
 unfold gHx at h
 split at h
 ·rename_i n m c el rb
  simp only [Option.some.injEq, Prod.mk.injEq, Bool.and_eq_true] at h
  obtain ⟨⟨h1, h2, h3, h4, h6⟩, rfl, rfl⟩ := h
  have e := allB8_iff.1 h1
  have h2 := Nat.eq_of_beq_eq_true h2
  have h3 := Nat.eq_of_beq_eq_true h3
  have h4 := Nat.le_of_ble_eq_true h4
  have h6 := Nat.eq_of_beq_eq_true h6
  subst h3 h6
  have hl : (bytesIn c).size = m := by
   have := congrArg List.length e; rw [bytesC_length] at this; omega
  have := hf (bytesIn c) rb (by omega)
  rw [hl, ← e] at this
  rw [lockS_eq]
  exact this
 ·cases h
theorem hx_ok : FnOk Tryz.prog 25 (Sum.of gHx) := gHx_fn hex_fn
noncomputable def tblI2 : List (FuncId × Sum) := [(29, Sum.of gIt), (43, Sum.of gDi)]
theorem callsI2 : CallsOk Tryz.prog (callT Tryz.prog (tblL tblI2) 50 40) := callT_ok plainN mixed (tblL_ok (.cons dgs_ok (.cons di_ok .nil))) 50 40
noncomputable def tblP1 : List (FuncId × Sum) := [(24, Sum.of gIt), (25, Sum.of gHx), (26, Sum.of gRw), (23, Sum.of gWs), (27, Sum.of gLn), (28, Sum.of gSt)]
theorem callsP1 : CallsOk Tryz.prog (callT Tryz.prog (tblL tblP1) 50 40) := callT_ok plainN mixed (tblL_ok (.cons it_ok (.cons hx_ok (.cons rw_ok (.cons ws_ok (.cons ln_ok (.cons st_ok .nil))))))) 50 40
noncomputable def Lpenstockref27_Row : List Code := flat2 (bodyC Tryz.prog 31)
open Tree renaming mkNeed → mN, mkFork → mF, mkLeaf → mL, mkQ → mQ, mkR → mR, mkE → mE
noncomputable abbrev xhc_k0 : List Code := (flat2 (inner (flat2 (inner (Lpenstockref27_Row.drop 2)))))
noncomputable abbrev xhc_k1 : List Code := (flat2 (inner (flat2 (inner (Lpenstockref27_Hex.drop 5)))))
noncomputable abbrev hr_b_d0 (b : ByteArray) (rb : Bool) (s : ByteArray) (i : Nat) : Desc := ⟨[(0, .slice (some ⟨0, 0, none⟩) b.size b.size), (3, .string (s)), (4, .int .i64 ((↑i : Int)))], [.cells (bytesC b) 5 rb]⟩
noncomputable abbrev hr_b_d1 (b : ByteArray) (rb : Bool) (s : ByteArray) (i : Nat) : Desc := ⟨[(3, .string (s))], [.cells (bytesC b) 5 rb]⟩
noncomputable abbrev xhc_i0 (b : ByteArray) (rb : Bool) (s : ByteArray) (i : Nat) : Desc := ⟨[(0, .slice (some ⟨0, 0, none⟩) b.size b.size), (3, .string s), (4, .int .i64 i)], [.cells (bytesC b) 5 rb]⟩
theorem hr_b (b : ByteArray) (rb : Bool) (s : ByteArray) (i : Nat) {Q : VEx → Desc → Prop} (pl0 : List.all (bytesC b) isScal = true) (l1 : (decide ((↑i : Int) < (b.size : Int))) = true → TriL Tryz.prog 30 1 (xhc_k1.drop 2) (hr_b_d0 b rb s i) Q) (l2 : (decide ((↑i : Int) < (b.size : Int))) = false → Q (.exit 0) (hr_b_d1 b rb s i)) : TriL Tryz.prog 30 1 xhc_k1 (xhc_i0 b rb s i) Q :=
 TriL.tree plainN mixed calls0 (lf := 50) (m := 2) (s := (.fork 1 (.leaf [0, 3, 4] [0] [0]) (.leaf [3] [0] [0]))) (fun u => by kernel_rfl) (mF (c := decide ((↑i : Int) < (b.size : Int))) (fun h0 => (mN (pl_bytes b) (mQ (l1 h0)))) (fun h0 => (mN (pl_bytes b) (mE 0 (l2 h0)))))
noncomputable abbrev hr_c_d0 (b : ByteArray) (rb : Bool) (s : ByteArray) (i : Nat) : Desc := ⟨[(0, .slice (some ⟨0, 0, none⟩) b.size b.size), (3, .string (s ++ one8 (hx (Int.toNat (IntKind.wrap IntKind.u8 (Int.tdiv (intAt (bytesC b) (0 + Int.toNat (↑i : Int) * 1)) 16)))) ++ one8 (hx (Int.toNat (Int.tmod (intAt (bytesC b) (0 + Int.toNat (↑i : Int) * 1)) 16))))), (4, .int .i64 (IntKind.wrap .i64 ((↑i : Int) + 1)))], [.cells (bytesC b) 5 rb]⟩
theorem hr_c (b : ByteArray) (rb : Bool) (s : ByteArray) (i : Nat) (h0 : i < b.size) (h1 : b.size ≤ 1000000) (h2 : s.size ≤ 2000000) {Q : VEx → Desc → Prop} (n0 : (isIntAt IntKind.u8 (bytesC b) (0 + Int.toNat (↑i : Int) * 1)) = true) (n1 : (decide (0 ≤ IntKind.wrap IntKind.u8 (Int.tdiv (intAt (bytesC b) (0 + Int.toNat (↑i : Int) * 1)) 16)) && decide (IntKind.wrap IntKind.u8 (Int.tdiv (intAt (bytesC b) (0 + Int.toNat (↑i : Int) * 1)) 16) < 16)) = true) (n2 : (Nat.ble (s.size + ByteArray.size (one8 (hx (Int.toNat (IntKind.wrap IntKind.u8 (Int.tdiv (intAt (bytesC b) (0 + Int.toNat (↑i : Int) * 1)) 16)))))) 9223372036854775807) = true) (n3 : (decide (0 ≤ Int.tmod (intAt (bytesC b) (0 + Int.toNat (↑i : Int) * 1)) 16) && decide (Int.tmod (intAt (bytesC b) (0 + Int.toNat (↑i : Int) * 1)) 16 < 16)) = true) (n4 : (Nat.ble (ByteArray.size (s ++ one8 (hx (Int.toNat (IntKind.wrap IntKind.u8 (Int.tdiv (intAt (bytesC b) (0 + Int.toNat (↑i : Int) * 1)) 16))))) + ByteArray.size (one8 (hx (Int.toNat (Int.tmod (intAt (bytesC b) (0 + Int.toNat (↑i : Int) * 1)) 16))))) 9223372036854775807) = true) (l6 : Q .normal (hr_c_d0 b rb s i)) : TriL Tryz.prog 30 1 (xhc_k1.drop 2) (xhc_i0 b rb s i) Q :=
 TriL.tree plainN mixed callsI2 (lf := 50) (m := 1000) (s := (.need 0 false (.need 1 true (.need 0 false (.need 0 true (.need 2 true (.need 0 false (.need 0 true (.need 0 false (.need 1 true (.need 0 false (.need 0 true (.need 2 true (.need 0 false (.need 0 true (.leaf [0, 3, 4] [0] [0])))))))))))))))) (fun u => by kernel_rfl) (mN (show (Nat.blt (Int.toNat (↑i : Int)) b.size) = true by simp at h0 h1 h2 ⊢ <;> omega) (mN n0 (mN n1 (mN n2 (mN (show (Nat.blt (Int.toNat (↑i : Int)) b.size) = true by simp at h0 h1 h2 ⊢ <;> omega) (mN n0 (mN n3 (mN n4 (mN (pl_bytes b) (mQ (TriL.done (by kernel_rfl) l6)))))))))))
noncomputable abbrev hr_z_d0 (b : ByteArray) (rb : Bool) (s : ByteArray) : Desc := ⟨[(2, .string (s))], [.cells (bytesC b) 5 rb]⟩
theorem hr_z_r0 (b : ByteArray) (rb : Bool) (s : ByteArray) {Q : CRes → List VObj → Prop} (hq : Q (.ret (.string (s))) [.cells (bytesC b) 5 rb]) : FinT Tryz.prog 30 30 1 Q .ret (hr_z_d0 b rb s) := FinT.ret (vs := [.string (s)]) (l := []) (bs := [0]) (pl := [0]) (q := [bytesC b]) (fun u => by kernel_rfl) (by kernel_rfl) (pls_cons (pl_bytes b) pls_nil) hq
noncomputable abbrev xhc_i1 (b : ByteArray) (rb : Bool) (s : ByteArray) : Desc := ⟨[(3, .string s)], [.cells (bytesC b) 5 rb]⟩
theorem hr_z (b : ByteArray) (rb : Bool) (s : ByteArray) {Q : VEx → Desc → Prop} (pl0 : List.all (bytesC b) isScal = true) (l1 : Q (.ret) (hr_z_d0 b rb s)) : TriL Tryz.prog 30 1 (Lpenstockref27_Hex.drop 6) (xhc_i1 b rb s) Q :=
 TriL.tree plainN mixed calls0 (lf := 50) (m := 1000) (s := (.leaf [2] [0] [0])) (fun u => by kernel_rfl) (mN (pl_bytes b) (mR l1))
noncomputable abbrev rr_a_d0 (w : ByteArray) (L : List Int) (rb : Bool) : Desc := ⟨[(0, .string (w)), (1, .slice (some ⟨0, 0, none⟩) (List.length L) (List.length L)), (5, .int .i64 (0))], [.cells (intsC L) 3 rb]⟩
noncomputable abbrev xhc_i2 (w : ByteArray) (L : List Int) (rb : Bool) : Desc := ⟨[(0, .string w), (1, .slice (some ⟨0, 0, none⟩) L.length L.length)], [.cells (intsC L) 3 rb]⟩
theorem rr_a (w : ByteArray) (L : List Int) (rb : Bool) {Q : VEx → Desc → Prop} (pl0 : List.all (intsC L) isScal = true) (l1 : TriL Tryz.prog 22 1 (Lpenstockref27_Row.drop 2) (rr_a_d0 w L rb) Q) : TriL Tryz.prog 22 1 Lpenstockref27_Row (xhc_i2 w L rb) Q :=
 TriL.tree plainN mixed calls0 (lf := 50) (m := 2) (s := (.leaf [0, 1, 5] [0] [0])) (fun u => by kernel_rfl) (mN (pl_ints L) (mQ l1))
noncomputable abbrev rr_b_d0 (w : ByteArray) (L : List Int) (rb : Bool) (i : Nat) : Desc := ⟨[(0, .string (w)), (1, .slice (some ⟨0, 0, none⟩) (List.length L) (List.length L)), (5, .int .i64 ((↑i : Int)))], [.cells (intsC L) 3 rb]⟩
noncomputable abbrev rr_b_d1 (w : ByteArray) (L : List Int) (rb : Bool) (i : Nat) : Desc := ⟨[(0, .string (w))], [.cells (intsC L) 3 rb]⟩
noncomputable abbrev xhc_i3 (w : ByteArray) (L : List Int) (rb : Bool) (i : Nat) : Desc := ⟨[(0, .string w), (1, .slice (some ⟨0, 0, none⟩) L.length L.length), (5, .int .i64 i)], [.cells (intsC L) 3 rb]⟩
theorem rr_b (w : ByteArray) (L : List Int) (rb : Bool) (i : Nat) {Q : VEx → Desc → Prop} (pl0 : List.all (intsC L) isScal = true) (l1 : (decide ((↑i : Int) < (↑(List.length L) : Int))) = true → TriL Tryz.prog 22 1 (xhc_k0.drop 2) (rr_b_d0 w L rb i) Q) (l2 : (decide ((↑i : Int) < (↑(List.length L) : Int))) = false → Q (.exit 0) (rr_b_d1 w L rb i)) : TriL Tryz.prog 22 1 xhc_k0 (xhc_i3 w L rb i) Q :=
 TriL.tree plainN mixed calls0 (lf := 50) (m := 2) (s := (.fork 1 (.leaf [0, 1, 5] [0] [0]) (.leaf [0] [0] [0]))) (fun u => by kernel_rfl) (mF (c := decide ((↑i : Int) < (↑(List.length L) : Int))) (fun h0 => (mN (pl_ints L) (mQ (l1 h0)))) (fun h0 => (mN (pl_ints L) (mE 0 (l2 h0)))))
noncomputable abbrev rr_c_d0 (w : ByteArray) (L : List Int) (rb : Bool) (i : Nat) : Desc := ⟨[(0, .string (w ++ ByteArray.mk #[UInt8.ofNat 32] ++ itB (intAt (intsC L) (0 + Int.toNat (↑i : Int) * 1)))), (1, .slice (some ⟨0, 0, none⟩) (List.length L) (List.length L)), (5, .int .i64 (IntKind.wrap .i64 ((↑i : Int) + 1)))], [.cells (intsC L) 3 rb]⟩
theorem rr_c (w : ByteArray) (L : List Int) (rb : Bool) (i : Nat) (h0 : i < L.length) (h1 : L.length ≤ 100000) (h2 : w.size ≤ 900000) {Q : VEx → Desc → Prop} (n0 : (isIntAt IntKind.i64 (intsC L) (0 + Int.toNat (↑i : Int) * 1)) = true) (n1 : (okB (intAt (intsC L) (0 + Int.toNat (↑i : Int) * 1))) = true) (n2 : (Nat.ble (ByteArray.size (w ++ ByteArray.mk #[UInt8.ofNat 32]) + ByteArray.size (itB (intAt (intsC L) (0 + Int.toNat (↑i : Int) * 1)))) 9223372036854775807) = true) (l4 : Q .normal (rr_c_d0 w L rb i)) : TriL Tryz.prog 22 1 (xhc_k0.drop 2) (xhc_i3 w L rb i) Q :=
 TriL.tree plainN mixed callsI2 (lf := 50) (m := 1000) (s := (.need 0 false (.need 0 true (.need 0 false (.need 1 true (.need 0 false (.need 0 true (.need 1 true (.need 0 false (.need 0 true (.leaf [0, 1, 5] [0] [0]))))))))))) (fun u => by kernel_rfl) (mN (show (Nat.ble (w.size + 1) 9223372036854775807) = true by simp at h0 h1 h2 ⊢ <;> omega) (mN (show (Nat.blt (Int.toNat (↑i : Int)) (List.length L)) = true by simp at h0 h1 h2 ⊢ <;> omega) (mN n0 (mN n1 (mN n2 (mN (pl_ints L) (mQ (TriL.done (by kernel_rfl) l4))))))))
noncomputable abbrev rr_z_d0 (w : ByteArray) (L : List Int) (rb : Bool) : Desc := ⟨[(4, .string (w ++ ByteArray.mk #[UInt8.ofNat 10]))], [.cells (intsC L) 3 rb]⟩
theorem rr_z_r0 (w : ByteArray) (L : List Int) (rb : Bool) {Q : CRes → List VObj → Prop} (hq : Q (.ret (.string (w ++ ByteArray.mk #[UInt8.ofNat 10]))) (rr_z_d0 w L rb).objs) : FinT Tryz.prog 31 22 1 Q .ret (rr_z_d0 w L rb) := FinT.ret (vs := [.string (w ++ ByteArray.mk #[UInt8.ofNat 10])]) (l := []) (bs := [0]) (pl := [0]) (q := [intsC L]) (fun u => by kernel_rfl) (by kernel_rfl) (pls_cons (pl_ints L) pls_nil) hq
noncomputable abbrev xhc_i4 (w : ByteArray) (L : List Int) (rb : Bool) : Desc := ⟨[(0, .string w)], [.cells (intsC L) 3 rb]⟩
theorem rr_z (w : ByteArray) (L : List Int) (rb : Bool) (h0 : w.size ≤ 900000) {Q : VEx → Desc → Prop} (pl0 : List.all (intsC L) isScal = true) (l1 : Q (.ret) (rr_z_d0 w L rb)) : TriL Tryz.prog 22 1 (Lpenstockref27_Row.drop 3) (xhc_i4 w L rb) Q :=
 TriL.tree plainN mixed calls0 (lf := 50) (m := 1000) (s := (.need 0 false (.need 0 true (.leaf [4] [0] [0])))) (fun u => by kernel_rfl) (mN (show (Nat.ble (w.size + 1) 9223372036854775807) = true by simp at h0 ⊢ <;> omega) (mN (pl_ints L) (mR l1)))
theorem byte_div (c : UInt8) : IntKind.wrap IntKind.u8 (Int.tdiv (c.toNat : Int) 16) = ((c.toNat / 16 : Nat) : Int) ∧ Int.tmod (c.toNat : Int) 16 = ((c.toNat % 16 : Nat) : Int) := by
 have h := c.toNat_lt
 refine ⟨?_, rfl⟩
 rw [show Int.tdiv (c.toNat : Int) 16 = ((c.toNat / 16 : Nat) : Int) from rfl]
 exact IntWalk.u8_in _ (by omega)
theorem Hex_fn (b : ByteArray) (rb : Bool) (hb : b.size ≤ 1000000) : FnT Tryz.prog 30 [.slice (some ⟨0, 0, none⟩) b.size b.size] [.cells (bytesC b) 5 rb]
  fun r o => r = .ret (.string (hexB b)) ∧ o = [.cells (bytesC b) 5 rb] := by
 have pp := pl_bytes b
 refine FnT.ofT (n := slotsC Tryz.prog 30) (by kernel_rfl) ?_
 apply hr_a b rb pp
 case l1 =>
  intro g
  have g : b.size = 0 := by simpa using g
  refine hr_a_r0 b rb ⟨?_, rfl⟩
  unfold hexB; rw [if_pos g]; rfl
 case l2 =>
  intro g
  have g : b.size ≠ 0 := by simpa using g
  refine TriL.blockAt 5 0 (by kernel_rfl) ?_
  refine TriL.loopAt (fun i : Nat => ⟨[(0, .slice (some ⟨0, 0, none⟩) b.size b.size), (3, .string (hexN b i)), (4, .int .i64 (i : Int))], [.cells (bytesC b) 5 rb]⟩) (fun i => b.size - i) (fun i => i ≤ b.size) 0 (by kernel_rfl) (Nat.zero_le _) ?_
  intro i hi
  have hsz := hexN_size b i hi
  apply hr_b b rb (hexN b i) i pp
  case l2 =>
   intro g2
   have g2 := of_decide_eq_false g2
   have e : i = b.size := by omega
   repeat (first | with_reducible refine QL.ret ?_ | with_reducible refine QL.exit ?_ | with_reducible refine QB.ret ?_ | with_reducible refine QB.hit ?_ | with_reducible refine QB.normal ?_ | with_reducible refine QB.miss (by rfl) ?_)
   subst e
   apply hr_z b rb (hexN b b.size) pp
   refine hr_z_r0 b rb (hexN b b.size) ⟨?_, rfl⟩
   rw [hexN_all b g]
  case l1 =>
   intro g2
   have g2 := of_decide_eq_true g2
   have hlt : i < b.size := by omega
   obtain ⟨a1, a2⟩ := byte_at hlt
   obtain ⟨d1, d2⟩ := byte_div b[i]
   have hm := b[i].toNat_lt
   apply hr_c b rb (hexN b i) i hlt hb (by omega) a1
   case n1 => rw [a2, d1]; simp; omega
   case n2 => rw [a2, d1]; exact Nat.ble_eq_true_of_le (by have : (one8 (hx (((b[i].toNat / 16 : Nat) : Int)).toNat)).size = 1 := rfl; omega)
   case n3 => rw [a2, d2]; simp; omega
   case n4 => rw [a2, d1, d2, ByteArray.size_append]; exact Nat.ble_eq_true_of_le (by have : (one8 (hx (((b[i].toNat / 16 : Nat) : Int)).toNat)).size = 1 := rfl; have : (one8 (hx (((b[i].toNat % 16 : Nat) : Int)).toNat)).size = 1 := rfl; omega)
   case l6 =>
    refine QL.to (i + 1) (by omega) (by omega) ?_
    unfold hr_c_d0
    rw [a2, d1, d2, w64' (z := (i : Int) + 1) (by omega) (by omega), hexN_succ b i hlt, ← ByteArray.append_assoc]
    rfl
theorem Hx_ok : FnOk Tryz.prog 30 (Sum.of gHx) := gHx_fn Hex_fn
theorem Row_fn (w : ByteArray) (L : List Int) (rb : Bool) (hL : ∀ n ∈ L, okI n) (hlen : L.length ≤ 20000) (hw : w.size ≤ 100000) : FnT Tryz.prog 31 [.string w, .slice (some ⟨0, 0, none⟩) L.length L.length] [.cells (intsC L) 3 rb]
  fun r o => r = .ret (.string (rowB w L)) ∧ o = [.cells (intsC L) 3 rb] := by
 have pp : (intsC L).all isScal = true := by simp
 refine FnT.ofT (n := slotsC Tryz.prog 31) (by kernel_rfl) ?_
 apply rr_a w L rb pp
 refine TriL.blockAt 2 0 (by kernel_rfl) ?_
 refine TriL.loopAt (fun i : Nat => ⟨[(0, .string (numsB w (L.take i))), (1, .slice (some ⟨0, 0, none⟩) L.length L.length), (5, .int .i64 (i : Int))], [.cells (intsC L) 3 rb]⟩) (fun i => L.length - i) (fun i => i ≤ L.length) 0 (by kernel_rfl) (Nat.zero_le _) ?_
 intro i hi
 have hs : (numsB w (L.take i)).size ≤ 600000 := by
  have := numsB_size (L.take i) w fun n hn => hL n (List.mem_of_mem_take hn)
  rw [List.length_take] at this
  omega
 apply rr_b (numsB w (L.take i)) L rb i pp
 case l2 =>
  intro g
  have g := of_decide_eq_false g
  rw [List.take_of_length_le (by omega)] at hs ⊢
  repeat (first | with_reducible refine QL.ret ?_ | with_reducible refine QL.exit ?_ | with_reducible refine QB.ret ?_ | with_reducible refine QB.hit ?_ | with_reducible refine QB.normal ?_ | with_reducible refine QB.miss (by rfl) ?_)
  apply rr_z (numsB w L) L rb (by omega) pp
  exact rr_z_r0 (numsB w L) L rb ⟨rfl, rfl⟩
 case l1 =>
  intro g
  have g := of_decide_eq_true g
  have hlt : i < L.length := by omega
  obtain ⟨a1, a2⟩ := ints_at hlt
  have hok := hL _ (List.getElem_mem hlt)
  have hit := itB_size hok
  apply rr_c (numsB w (L.take i)) L rb i hlt (by omega) (by omega) a1
  case n1 => rw [a2]; exact okB_iff.2 hok
  case n2 => rw [a2, ByteArray.size_append]; exact Nat.ble_eq_true_of_le (by have : (ByteArray.mk #[UInt8.ofNat 32]).size = 1 := rfl; omega)
  case l4 =>
   refine QL.to (i + 1) (by omega) (by omega) ?_
   unfold rr_c_d0
   rw [a2, numsB_take w L i hlt, w64' (z := (i : Int) + 1) (by omega) (by omega), ← ByteArray.append_assoc]
   rfl
theorem Rw_ok : FnOk Tryz.prog 31 (Sum.of gRw) := gRw_fn Row_fn
noncomputable def tblP2 : List (FuncId × Sum) := [(29, Sum.of gIt), (30, Sum.of gHx), (31, Sum.of gRw)]
theorem callsP2 : CallsOk Tryz.prog (callT Tryz.prog (tblL tblP2) 50 40) := callT_ok plainN mixed (tblL_ok (.cons dgs_ok (.cons Hx_ok (.cons Rw_ok .nil)))) 50 40
end Go.Proofs.YtgepfmamfdmclaaGreatDoor
