/- Part of the proof: Vc. -/
import Derived.Test.YtgepfmamfdmclaaGreatDoorJAb
import Derived.LoopN
import Derived.RangeFuncLeaves
import Derived.RangeFuncRecord
set_option linter.unusedVariables false
set_option linter.unusedSimpArgs false
set_option maxRecDepth 100000
namespace Go.Proofs.YtgepfmamfdmclaaGreatDoor.Vm
open Go.RowKit
inductive DT (α : Type) where
 | done (a : α)
 | fail
 | ask (d : Bool) (k : Bool → DT α)
 | alt (p : Bool) (x y : DT α)
inductive DT.Has {α : Type} : DT α → α → Prop where
 | done (a : α) : Has (.done a) a
 | ask (d : Bool) (k : Bool → DT α) (a : α) (h : Has (k d) a) : Has (.ask d k) a
 | left (p : Bool) (x y : DT α) (a : α) (h : Has x a) : Has (.alt p x y) a
 | right (p : Bool) (x y : DT α) (a : α) (h : Has y a) : Has (.alt p x y) a
def DT.bind {α β : Type} : DT α → (α → DT β) → DT β
 | .done a, f => f a
 | .fail, _ => .fail
 | .ask d k, f => .ask d fun b => (k b).bind f
 | .alt p x y, f => .alt p (x.bind f) (y.bind f)
def DT.ofO {α : Type} : Option α → DT α
 | some a => .done a
 | none => .fail
theorem DT.has_done {α : Type} {a b : α} (h : (DT.done a).Has b) : b = a := by cases h; rfl
theorem DT.has_fail {α : Type} {b : α} (h : (DT.fail : DT α).Has b) : False := by cases h
theorem DT.has_ask {α : Type} {d : Bool} {k : Bool → DT α} {b : α} (h : (DT.ask d k).Has b) : (k d).Has b := by cases h; assumption
theorem DT.has_alt {α : Type} {p : Bool} {x y : DT α} {b : α} (h : (DT.alt p x y).Has b) : x.Has b ∨ y.Has b := by
 cases h with
 | left _ _ _ _ h => exact .inl h
 | right _ _ _ _ h => exact .inr h
theorem DT.has_ofO {α : Type} {o : Option α} {b : α} (h : (DT.ofO o).Has b) : o = some b := by
 cases o with
 | none => cases h
 | some a => rw [DT.has_done h]
theorem DT.has_bind {α β : Type} : ∀ {x : DT α} {f : α → DT β} {b : β}, (x.bind f).Has b → ∃ a, x.Has a ∧ (f a).Has b := by
 intro x
 induction x with
 | done a => intro f b h; exact ⟨a, .done a, h⟩
 | fail => intro f b h; cases h
 | ask d k ih =>
  intro f b h
  obtain ⟨a, h1, h2⟩ := ih d (DT.has_ask h)
  exact ⟨a, .ask d k a h1, h2⟩
 | alt p x y ihx ihy =>
  intro f b h
  rcases DT.has_alt h with h | h
  ·obtain ⟨a, h1, h2⟩ := ihx h; exact ⟨a, .left _ _ _ _ h1, h2⟩
  ·obtain ⟨a, h1, h2⟩ := ihy h; exact ⟨a, .right _ _ _ _ h1, h2⟩
inductive AT (α : Type) where
 | done (n : Nat) (a : α)
 | fail (n : Nat)
def mark {α : Type} (n : Nat) (x : AT α) : AT α := x
abbrev EO := DT (OOut × List Nat)
def valO (v : Value) (l : List Nat) : EO := .done (⟨.val v, [], none⟩, l)
theorem has_valO {v : Value} {l l' : List Nat} {out : OOut} (h : (valO v l).Has (out, l')) : out = ⟨.val v, [], none⟩ ∧ l' = l := by
 have := DT.has_done h
 simpa using this
def mustO {α : Type} (d : Bool) (k : DT α) : DT α := .ask d fun b => match b with
 | true => k
 | false => .fail
theorem has_mustO {α : Type} {d : Bool} {k : DT α} {a : α} (h : (mustO d k).Has a) : d = true ∧ k.Has a := by
 have := DT.has_ask h
 cases d with
 | true => exact ⟨rfl, this⟩
 | false => exact (DT.has_fail this).elim
section
variable (P : Program)
def indexAddrO (t : TypeId) (x i : Value) : EO := match P.underlying t, x, i with
 | some (.array k el), .pointer (some ⟨b, off, none⟩), .int _ z => match szOf P el with
  | some size => mustO (decide (0 ≤ z)) (mustO (Nat.blt z.toNat k) (valO (.pointer (some ⟨b, off + z.toNat * size, none⟩)) []))
  | none => .fail
 | some (.slice el), .slice (some ⟨b, off, none⟩) len _, .int _ z => match szOf P el with
  | some size => mustO (decide (0 ≤ z)) (mustO (Nat.blt z.toNat len) (valO (.pointer (some ⟨b, off + z.toNat * size, none⟩)) []))
  | none => .fail
 | _, _, _ => .fail
theorem nOf_int {k : IntKind} {z : Int} (h : decide (0 ≤ z) = true) : nOf (.int k z) = some z.toNat := by
 have : 0 ≤ z := by simpa using h
 cases z with
 | ofNat n => rfl
 | negSucc n => omega
theorem indexAddrO_ok {t : TypeId} {x i : Value} {out : OOut} {l : List Nat} {g : Nat → Option VObj} (h : (indexAddrO P t x i).Has (out, l)) : (indexAddrV P t x i).run g = some (out, l) := by
 unfold indexAddrO at h
 unfold indexAddrV
 split at h
 ·rename_i k el b off ik z ht
  split at h
  ·rename_i size hs
   obtain ⟨h1, h⟩ := has_mustO h
   obtain ⟨h2, h⟩ := has_mustO h
   obtain ⟨rfl, rfl⟩ := has_valO h
   simp only [ht, nOf_int h1, hs, h2]
   rfl
  ·cases h
 ·rename_i el b off len cap ik z ht
  split at h
  ·rename_i size hs
   obtain ⟨h1, h⟩ := has_mustO h
   obtain ⟨h2, h⟩ := has_mustO h
   obtain ⟨rfl, rfl⟩ := has_valO h
   simp only [ht, nOf_int h1, hs, h2]
   rfl
  ·cases h
 ·cases h
def intAt (c : List Value) (i : Nat) : Int := match c[i]? with
 | some (.int _ x) => x
 | _ => 0
def isIntAt (k : IntKind) (c : List Value) (i : Nat) : Bool := match c[i]? with
 | some (.int k' _) => decide (k' = k)
 | _ => false
def strAt (c : List Value) (i : Nat) : ByteArray := match c[i]? with
 | some (.string x) => x
 | _ => ByteArray.empty
def isStrAt (c : List Value) (i : Nat) : Bool := match c[i]? with
 | some (.string _) => true
 | _ => false
def boolAt (c : List Value) (i : Nat) : Bool := match c[i]? with
 | some (.bool x) => x
 | _ => false
def isBoolAt (c : List Value) (i : Nat) : Bool := match c[i]? with
 | some (.bool _) => true
 | _ => false
def ldTyped (t : TypeId) (c : List Value) (off : Nat) : DT Value := match P.underlying t with
 | some (.int k) => mustO (isIntAt k c off) (.done (.int k (intAt c off)))
 | some .string => mustO (isStrAt c off) (.done (.string (strAt c off)))
 | some .bool => mustO (isBoolAt c off) (.done (.bool (boolAt c off)))
 | _ => .fail
theorem ldTyped_ok {t : TypeId} {c : List Value} {off : Nat} {v : Value} (h : (ldTyped P t c off).Has v) : agg? P t = some false ∧ c[off]? = some v := by
 unfold ldTyped at h
 unfold agg?
 split at h
 ·rename_i k ht
  obtain ⟨h1, h⟩ := has_mustO h
  have h2 := DT.has_done h
  unfold isIntAt at h1
  unfold intAt at h2
  split at h1
  ·rename_i k' x hc
   have : k' = k := by simpa using h1
   subst this
   rw [hc] at h2 ⊢
   rw [ht, h2]
   exact ⟨rfl, rfl⟩
  ·cases h1
 ·rename_i ht
  obtain ⟨h1, h⟩ := has_mustO h
  have h2 := DT.has_done h
  unfold isStrAt at h1
  unfold strAt at h2
  split at h1
  ·rename_i x hc
   rw [hc] at h2 ⊢
   rw [ht, h2]
   exact ⟨rfl, rfl⟩
  ·cases h1
 ·rename_i ht
  obtain ⟨h1, h⟩ := has_mustO h
  have h2 := DT.has_done h
  unfold isBoolAt at h1
  unfold boolAt at h2
  split at h1
  ·rename_i x hc
   rw [hc] at h2 ⊢
   rw [ht, h2]
   exact ⟨rfl, rfl⟩
  ·cases h1
 ·cases h
def loadO (g : Nat → Option VObj) (t : TypeId) (a : Value) : EO := match a with
 | .pointer (some ⟨b, off, none⟩) => match g b with
  | some (.cells c _ _) => (ldTyped P t c off).bind fun v => valO v [b]
  | _ => .fail
 | _ => .fail
theorem loadO_ok {t : TypeId} {a : Value} {out : OOut} {l : List Nat} {g : Nat → Option VObj} (h : (loadO P g t a).Has (out, l)) : (loadV P t a).run g = some (out, l) := by
 unfold loadO at h
 split at h
 ·rename_i b off
  split at h
  ·rename_i c el ro hb
   obtain ⟨v, h1, h2⟩ := DT.has_bind h
   obtain ⟨rfl, rfl⟩ := has_valO h2
   obtain ⟨h3, h4⟩ := ldTyped_ok P h1
   unfold loadV ldV
   rw [Rd.run_bind]
   refine ⟨v, [b], [], ?_, rfl, rfl⟩
   simp only [Rd.run, hb, h3, h4]
  ·cases h
 ·cases h
def isNilAt (c : List Value) (i : Nat) : Bool := match c[i]? with
 | some (.slice none 0 0) => true
 | _ => false
def isSlAt (c : List Value) (i : Nat) : Bool := match c[i]? with
 | some (.slice (some ⟨2, _, none⟩) _ _) => true
 | _ => false
def slOff (c : List Value) (i : Nat) : Nat := match c[i]? with
 | some (.slice (some ⟨_, o, _⟩) _ _) => o
 | _ => 0
def slLen (c : List Value) (i : Nat) : Nat := match c[i]? with
 | some (.slice _ n _) => n
 | _ => 0
def slCap (c : List Value) (i : Nat) : Nat := match c[i]? with
 | some (.slice _ _ n) => n
 | _ => 0
def ldLike (z : Value) (c : List Value) (i : Nat) : DT Value := match z with
 | .int k _ => mustO (isIntAt k c i) (.done (.int k (intAt c i)))
 | .string _ => mustO (isStrAt c i) (.done (.string (strAt c i)))
 | .bool _ => mustO (isBoolAt c i) (.done (.bool (boolAt c i)))
 | .slice none 0 0 => .ask (isNilAt c i) fun b => match b with
  | true => .done (.slice none 0 0)
  | false => mustO (isSlAt c i) (.done (.slice (some ⟨2, slOff c i, none⟩) (slLen c i) (slCap c i)))
 | _ => .fail
theorem ldLike_ok {z : Value} {c : List Value} {i : Nat} {v : Value} (h : (ldLike z c i).Has v) : c[i]? = some v := by
 unfold ldLike at h
 split at h
 ·rename_i k _
  obtain ⟨h1, h⟩ := has_mustO h
  have h2 := DT.has_done h
  unfold isIntAt at h1
  unfold intAt at h2
  split at h1
  ·rename_i k' x hc
   have : k' = k := by simpa using h1
   subst this
   rw [hc] at h2 ⊢
   rw [h2]
  ·cases h1
 ·obtain ⟨h1, h⟩ := has_mustO h
  have h2 := DT.has_done h
  unfold isStrAt at h1
  unfold strAt at h2
  split at h1
  ·rename_i x hc; rw [hc] at h2 ⊢; rw [h2]
  ·cases h1
 ·obtain ⟨h1, h⟩ := has_mustO h
  have h2 := DT.has_done h
  unfold isBoolAt at h1
  unfold boolAt at h2
  split at h1
  ·rename_i x hc; rw [hc] at h2 ⊢; rw [h2]
  ·cases h1
 ·have h := DT.has_ask h
  cases hn : isNilAt c i with
  | true =>
   rw [hn] at h
   have h2 := DT.has_done h
   unfold isNilAt at hn
   split at hn
   ·rename_i hc; rw [hc, h2]
   ·cases hn
  | false =>
   rw [hn] at h
   obtain ⟨h1, h⟩ := has_mustO h
   have h2 := DT.has_done h
   unfold isSlAt at h1
   unfold slOff slLen slCap at h2
   split at h1
   ·rename_i o n m hc; rw [hc] at h2 ⊢; rw [h2]
   ·cases h1
 ·cases h
def ldLikes : List Value → List Value → Nat → DT (List Value)
 | [], _, _ => .done []
 | z :: zs, c, i => (ldLike z c i).bind fun v => (ldLikes zs c (i + 1)).bind fun r => .done (v :: r)
theorem ldLikes_ok : ∀ {zs c : List Value} {i : Nat} {r : List Value}, (ldLikes zs c i).Has r → r.length = zs.length ∧ ∀ j v, r[j]? = some v → c[i + j]? = some v
 | [], c, i, r, h => by rw [DT.has_done h]; exact ⟨rfl, fun j v hv => by simp at hv⟩
 | z :: zs, c, i, r, h => by
  unfold ldLikes at h
  obtain ⟨v, h1, h2⟩ := DT.has_bind h
  obtain ⟨r', h3, h4⟩ := DT.has_bind h2
  rw [DT.has_done h4]
  obtain ⟨h5, h6⟩ := ldLikes_ok h3
  refine ⟨by simp [h5], fun j u hu => ?_⟩
  cases j with
  | zero =>
   simp only [List.getElem?_cons_zero, Option.some.injEq] at hu
   subst hu
   exact ldLike_ok h1
  | succ j =>
   simp only [List.getElem?_cons_succ] at hu
   have := h6 j u hu
   rwa [show i + 1 + j = i + (j + 1) by omega] at this
def loadAggO (g : Nat → Option VObj) (t : TypeId) (a : Value) : EO := match a with
 | .pointer (some ⟨b, off, none⟩) => match g b, agg? P t, zeroOf P t, szOf P t with
  | some (.cells c _ _), some true, some (.agg z), some (n + 1) => match Nat.beq z.toList.length (n + 1) with
   | true => mustO (Nat.ble (off + (n + 1)) c.length) ((ldLikes z.toList c off).bind fun l => valO (.agg l.toArray) [b])
   | false => .fail
  | _, _, _, _ => .fail
 | _ => .fail
theorem loadAggO_ok {t : TypeId} {a : Value} {out : OOut} {l : List Nat} {g : Nat → Option VObj} (h : (loadAggO P g t a).Has (out, l)) : (loadV P t a).run g = some (out, l) := by
 unfold loadAggO at h
 split at h
 ·rename_i b off
  split at h
  ·rename_i c el ro z n hb hag hz hn
   split at h
   ·rename_i hlen
    have hlen := Nat.eq_of_beq_eq_true hlen
    obtain ⟨hle, h⟩ := has_mustO h
    obtain ⟨r, h1, h2⟩ := DT.has_bind h
    obtain ⟨rfl, rfl⟩ := has_valO h2
    obtain ⟨h3, h4⟩ := ldLikes_ok h1
    have hle' := Nat.le_of_ble_eq_true hle
    have hcut : cut c off (n + 1) = some r := by
     unfold cut
     rw [hle]
     refine congrArg some (List.ext_getElem? fun j => ?_)
     rw [List.getElem?_take]
     by_cases hj : j < n + 1
     ·rw [if_pos hj, List.getElem?_drop]
      have hjr : j < r.length := by omega
      rw [List.getElem?_eq_getElem hjr]
      exact (h4 j _ (List.getElem?_eq_getElem hjr)).trans rfl
     ·rw [if_neg hj, List.getElem?_eq_none (by omega)]
    unfold loadV ldV
    rw [Rd.run_bind]
    refine ⟨.agg r.toArray, [b], [], ?_, rfl, rfl⟩
    simp only [Rd.run, hb, hag, hn, hcut]
   ·cases h
  ·cases h
 ·cases h
def muxCells (off : Nat) (v : Value) : Nat → List Value → DT (List Value)
 | _, [] => .done []
 | i, c :: cs => match c, v with
  | .string s, .string s' => (muxCells off v (i + 1) cs).bind fun r => .done (.string (bif Nat.beq off i then s' else s) :: r)
  | .int k x, .int k' x' => match decide (k = k') with
   | true => (muxCells off v (i + 1) cs).bind fun r => .done (.int k (bif Nat.beq off i then x' else x) :: r)
   | false => .ask (Nat.beq off i) fun b => match b with
    | true => .fail
    | false => (muxCells off v (i + 1) cs).bind fun r => .done (c :: r)
  | _, _ => .ask (Nat.beq off i) fun b => match b with
   | true => .fail
   | false => (muxCells off v (i + 1) cs).bind fun r => .done (c :: r)
theorem muxCells_ok {off : Nat} {v : Value} : ∀ {i : Nat} {c r : List Value}, (muxCells off v i c).Has r → r.length = c.length ∧ ∀ j, r[j]? = if i + j = off ∧ j < c.length then some v else c[j]?
 | i, [], r, h => by
  have := DT.has_done h
  subst this
  exact ⟨rfl, fun j => by simp⟩
 | i, c :: cs, r, h => by
  have fin : ∀ (x : Value) (r' : List Value), (muxCells off v (i + 1) cs).Has r' → (x = if i = off then v else c) → (x :: r').length = (c :: cs).length ∧ ∀ j, (x :: r')[j]? = if i + j = off ∧ j < (c :: cs).length then some v else (c :: cs)[j]? := by
   intro x r' hr hx
   obtain ⟨h1, h2⟩ := muxCells_ok hr
   refine ⟨by simp [h1], fun j => ?_⟩
   cases j with
   | zero =>
    simp only [List.getElem?_cons_zero, Nat.add_zero, List.length_cons]
    rw [hx]
    by_cases e : i = off
    ·rw [if_pos e, if_pos ⟨e, by omega⟩]
    ·rw [if_neg e, if_neg fun h => e h.1]
   | succ j =>
    simp only [List.getElem?_cons_succ, List.length_cons]
    rw [h2 j]
    by_cases e : i + 1 + j = off ∧ j < cs.length
    ·rw [if_pos e, if_pos ⟨by omega, by omega⟩]
    ·rw [if_neg e, if_neg fun h => e ⟨by omega, by omega⟩]
  have hb : ∀ {b : Bool}, Nat.beq off i = b → (i = off ↔ b = true) := by
   intro b hb
   rw [beq_comm' off i] at hb
   rw [← hb]
   exact ⟨fun e => by rw [e]; exact Nat.beq_refl _, fun e => Nat.eq_of_beq_eq_true e⟩
  unfold muxCells at h
  split at h
  ·rename_i s s'
   obtain ⟨r', h1, h2⟩ := DT.has_bind h
   have := DT.has_done h2
   subst this
   refine fin _ r' h1 ?_
   cases hq : Nat.beq off i with
   | true => rw [if_pos ((hb hq).2 rfl)]; rfl
   | false => rw [if_neg fun e => by cases (hb hq).1 e]; rfl
  ·rename_i k x k' x'
   split at h
   ·rename_i hk
    have hk : k = k' := by simpa using hk
    subst hk
    obtain ⟨r', h1, h2⟩ := DT.has_bind h
    have := DT.has_done h2
    subst this
    refine fin _ r' h1 ?_
    cases hq : Nat.beq off i with
    | true => rw [if_pos ((hb hq).2 rfl)]; rfl
    | false => rw [if_neg fun e => by cases (hb hq).1 e]; rfl
   ·have h := DT.has_ask h
    cases hq : Nat.beq off i with
    | true => rw [hq] at h; cases h
    | false =>
     rw [hq] at h
     obtain ⟨r', h1, h2⟩ := DT.has_bind h
     have := DT.has_done h2
     subst this
     exact fin _ r' h1 (by rw [if_neg fun e => by cases (hb hq).1 e])
  ·have h := DT.has_ask h
   cases hq : Nat.beq off i with
   | true => rw [hq] at h; cases h
   | false =>
    rw [hq] at h
    obtain ⟨r', h1, h2⟩ := DT.has_bind h
    have := DT.has_done h2
    subst this
    exact fin _ r' h1 (by rw [if_neg fun e => by cases (hb hq).1 e])
where
 beq_comm' (a b : Nat) : Nat.beq a b = Nat.beq b a := by
  rw [Bool.eq_iff_iff]
  exact ⟨fun e => by rw [Nat.eq_of_beq_eq_true e]; exact Nat.beq_refl _, fun e => by rw [Nat.eq_of_beq_eq_true e]; exact Nat.beq_refl _⟩
def storeRowO (g : Nat → Option VObj) (t : TypeId) (a x : Value) : EO := match a, szOf P t with
 | .pointer (some ⟨b, off, none⟩), some size => match g b with
  | some (.cells c el false) => match Nat.beq x.cells.size size && x.cells.toList.all Value.oneCell' with
   | true => mustO (Nat.ble (off + size) c.length) (.done (⟨.skip, [(b, .cells (splice c off x.cells.toList) el false)], none⟩, [b]))
   | false => .fail
  | _ => .fail
 | _, _ => .fail
theorem storeRowO_ok {t : TypeId} {a x : Value} {out : OOut} {l : List Nat} {g : Nat → Option VObj} (h : (storeRowO P g t a x).Has (out, l)) : (storeV P t a x).run g = some (out, l) := by
 unfold storeRowO at h
 split at h
 ·rename_i b off size hs
  split at h
  ·rename_i c el hb
   split at h
   ·rename_i hx
    simp only [Bool.and_eq_true] at hx
    obtain ⟨h1, h⟩ := has_mustO h
    have h4 := DT.has_done h
    simp only [Prod.mk.injEq] at h4
    obtain ⟨rfl, rfl⟩ := h4
    unfold storeV
    simp only [hs, Rd.run, hb, hx.1, hx.2, h1, Bool.and_self]
   ·cases h
  ·cases h
 ·cases h
def plainSt (el : TypeId) : Bool := match P.underlying el with
 | some (.struct fs) => fs.toList.all fun f => match P.underlying f.type with
  | some (.int _) | some .string | some .bool => true
  | _ => false
 | _ => false
def rowOf (g : Nat → Option VObj) (t : TypeId) (a : Value) : Bool := match a with
 | .pointer (some ⟨b, _, _⟩) => match g b with
  | some (.cells _ el _) => Nat.beq el t || plainSt P el
  | _ => false
 | _ => false
def storeO (g : Nat → Option VObj) (t : TypeId) (a x : Value) : EO := match a, szOf P t with
 | .pointer (some ⟨b, off, none⟩), some 1 => match g b with
  | some (.cells c el false) => match Nat.beq x.cells.size 1 && x.cells.toList.all Value.oneCell' && x.oneCell' with
   | true => mustO (Nat.blt off c.length) ((muxCells off x 0 c).bind fun r => .done (⟨.skip, [(b, .cells r el false)], none⟩, [b]))
   | false => .fail
  | _ => .fail
 | _, _ => .fail
theorem oneCell_cells {x : Value} (h : x.oneCell' = true) : x.cells.toList = [x] := by
 cases x <;> first | rfl | cases h
theorem storeO_ok {t : TypeId} {a x : Value} {out : OOut} {l : List Nat} {g : Nat → Option VObj} (h : (storeO P g t a x).Has (out, l)) : (storeV P t a x).run g = some (out, l) := by
 unfold storeO at h
 split at h
 ·rename_i b off hs
  split at h
  ·rename_i c el hb
   split at h
   ·rename_i hx
    simp only [Bool.and_eq_true] at hx
    obtain ⟨⟨hx1, hx2⟩, hx3⟩ := hx
    obtain ⟨h1, h⟩ := has_mustO h
    obtain ⟨r, h2, h3⟩ := DT.has_bind h
    have h4 := DT.has_done h3
    simp only [Prod.mk.injEq] at h4
    obtain ⟨rfl, rfl⟩ := h4
    obtain ⟨h5, h6⟩ := muxCells_ok h2
    have hlt := blt_iff.1 h1
    have hr : r = splice c off [x] := by
     apply List.ext_getElem?
     intro j
     rw [h6 j, splice_get (by simp only [List.length_cons, List.length_nil]; omega) j]
     simp only [List.length_cons, List.length_nil, Nat.zero_add]
     by_cases e : j = off
     ·subst e; simp [hlt]
     ·have e1 : ¬ (j = off ∧ j < c.length) := fun h => e h.1
      rw [if_neg e1]
      by_cases e2 : off ≤ j ∧ j < off + 1
      ·exact absurd (by omega) e
      ·rw [if_neg e2]
    have hle : Nat.ble (off + 1) c.length = true := Nat.ble_eq_true_of_le hlt
    unfold storeV
    simp only [hs, Rd.run, hb, hx1, hx2, hle, Bool.and_self]
    rw [hr, oneCell_cells hx3]
   ·cases h
  ·cases h
 ·cases h
def convertO (g : Nat → Option VObj) (src dst : TypeId) (x : Value) : EO := match P.underlying src, P.underlying dst, x with
 | some (.slice el), some .string, .slice (some ⟨b, off, none⟩) len cap => match P.underlying el with
  | some (.int .u8) => match g b with
   | some (.cells c _ _) => mustO ((cut c off len).bind bytesOf).isSome (valO (.string ⟨(((cut c off len).bind bytesOf).getD []).toArray⟩) [b])
   | _ => .fail
  | _ => .fail
 | _, _, _ => .fail
theorem convertO_ok {src dst : TypeId} {x : Value} {n : Nat} {out : OOut} {l : List Nat} {g : Nat → Option VObj} (h : (convertO P g src dst x).Has (out, l)) : (convertV P src dst x n).run g = some (out, l) := by
 unfold convertO at h
 split at h
 ·rename_i el b off len cap h1 h2
  split at h
  ·rename_i he
   split at h
   ·rename_i c ce ro hb
    obtain ⟨h3, h⟩ := has_mustO h
    obtain ⟨rfl, rfl⟩ := has_valO h
    unfold convertV
    simp only [h1, h2, he, Rd.run, hb]
    cases hq : (cut c off len).bind bytesOf with
    | none => rw [hq] at h3; cases h3
    | some l => rfl
   ·cases h
  ·cases h
 ·cases h
def optNO : Nat → Option Value → (Nat → EO) → EO
 | d, none, k => k d
 | _, some (.int _ z), k => mustO (decide (0 ≤ z)) (k z.toNat)
 | _, _, _ => .fail
theorem optNO_ok {d : Nat} {o : Option Value} {k : Nat → EO} {a : OOut × List Nat} (h : (optNO d o k).Has a) : ∃ n, optN d o = some n ∧ (k n).Has a := by
 unfold optNO at h
 split at h
 ·exact ⟨_, rfl, h⟩
 ·obtain ⟨h1, h⟩ := has_mustO h
  exact ⟨_, nOf_int h1, h⟩
 ·cases h
def sliceO (g : Nat → Option VObj) (t : TypeId) (x : Value) (lo hi mx : Option Value) : EO := match P.underlying t, x, mx with
 | some (.slice el), .slice (some ⟨b, off, none⟩) len cap, none => optNO 0 lo fun l => optNO len hi fun h => match szOf P el with
  | some size => mustO (Nat.ble l h) (mustO (Nat.ble h cap) (match g b with
   | some (.cells c eb _) => match szOf P eb with
    | some sb => match Nat.ble size sb with
     | true => valO (.slice (some ⟨b, off + l * size, none⟩) (h - l) (cap - l)) [b]
     | false => .fail
    | none => .fail
   | _ => .fail))
  | none => .fail
 | some (.array k el), .pointer (some ⟨b, off, none⟩), none => optNO 0 lo fun l => optNO k hi fun h => match szOf P el with
  | some size => mustO (Nat.ble l h) (mustO (Nat.ble h k) (valO (.slice (some ⟨b, off + (if Nat.beq k l then 0 else l * size), none⟩) (h - l) (k - l)) []))
  | none => .fail
 | _, _, _ => .fail
theorem sliceO_ok {t : TypeId} {x : Value} {lo hi mx : Option Value} {out : OOut} {l : List Nat} {g : Nat → Option VObj} (h : (sliceO P g t x lo hi mx).Has (out, l)) : (sliceV P t x lo hi mx).run g = some (out, l) := by
 unfold sliceO at h
 split at h
 ·rename_i el b off len cap ht
  obtain ⟨n1, h1, h⟩ := optNO_ok h
  obtain ⟨n2, h2, h⟩ := optNO_ok h
  split at h
  ·rename_i size hs
   obtain ⟨h3, h⟩ := has_mustO h
   obtain ⟨h4, h⟩ := has_mustO h
   split at h
   ·rename_i c eb ro hb
    split at h
    ·rename_i sb hsb
     split at h
     ·rename_i hle
      obtain ⟨rfl, rfl⟩ := has_valO h
      have hfl : fl (.slice (some ⟨b, off, none⟩) len cap) = false := by unfold fl flat; rfl
      unfold sliceV
      simp only [hfl, ht, h1, h2, hs, h3, h4, Bool.and_self, Rd.run, hb, hsb, hle]
      rfl
     ·cases h
    ·cases h
   ·cases h
  ·cases h
 ·rename_i k el b off ht
  obtain ⟨n1, h1, h⟩ := optNO_ok h
  obtain ⟨n2, h2, h⟩ := optNO_ok h
  split at h
  ·rename_i size hs
   obtain ⟨h3, h⟩ := has_mustO h
   obtain ⟨h4, h⟩ := has_mustO h
   obtain ⟨rfl, rfl⟩ := has_valO h
   have hfl : fl (.pointer (some ⟨b, off, none⟩)) = false := by unfold fl flat; rfl
   unfold sliceV
   simp only [hfl, ht, h1, h2, hs, h3, h4, Bool.and_self]
   rfl
  ·cases h
 ·cases h
def pickO (c a b : Value) : EO := match c with
 | .bool d => .ask d fun d => match d with
  | true => valO a []
  | false => valO b []
 | _ => .fail
theorem pickO_ok {c a b : Value} {out : OOut} {l : List Nat} {g : Nat → Option VObj} (h : (pickO c a b).Has (out, l)) : (pickV c a b).run g = some (out, l) := by
 unfold pickO at h
 split at h
 ·rename_i d
  have h := DT.has_ask h
  cases d with
  | true => obtain ⟨rfl, rfl⟩ := has_valO h; rfl
  | false => obtain ⟨rfl, rfl⟩ := has_valO h; rfl
 ·cases h
def cellsO (g : Nat → Option VObj) (size : Nat) : Value → Nat → DT (List Value × List Nat)
 | .slice (some ⟨b, off, none⟩) _ _, n => match g b with
  | some (.cells c _ _) => mustO (Nat.ble (off + n * size) c.length) (.done ((c.drop off).take (n * size), [b]))
  | _ => .fail
 | .slice none _ _, _ => .done ([], [])
 | .string s, n => .done ((s.data.toList.take n).map fun b => .int .u8 b.toNat, [])
 | _, _ => .fail
theorem cellsO_ok {g : Nat → Option VObj} {size n : Nat} {x : Value} {p : List Value × List Nat} (h : (cellsO g size x n).Has p) : (cellsV size x n).run g = some p := by
 unfold cellsO at h
 split at h
 ·split at h
  ·rename_i c el ro hb
   obtain ⟨h1, h⟩ := has_mustO h
   rw [DT.has_done h]
   unfold cellsV
   simp only [Rd.run, hb, ofO, cut, h1]
  ·cases h
 ·rw [DT.has_done h]; rfl
 ·rw [DT.has_done h]; rfl
 ·cases h
def appendNewO (g : Nat → Option VObj) (elem : TypeId) (size len k : Nat) (base : Option Addr) (xs : List Value) (l1 : List Nat) (n : Nat) : EO := match base with
 | none => match len with
  | 0 => .done (⟨.val (.slice (some ⟨n, 0, none⟩) k k), [], some (.cells xs elem false)⟩, l1 ++ [])
  | _ => .fail
 | some ⟨b, off, none⟩ => match g b with
  | some (.cells c el false) => mustO (Nat.beq (off + len * size) c.length) (match Nat.beq el elem with
   | true => .done (⟨.val (.slice (some ⟨n, 0, none⟩) (len + k) (len + k)), [(b, .dead)], some (.cells (c.drop off ++ xs) elem false)⟩, l1 ++ [b])
   | false => .fail)
  | _ => .fail
 | _ => .fail
def appendInO (g : Nat → Option VObj) (size len cap k : Nat) (base : Option Addr) (xs : List Value) (l1 : List Nat) : EO := match base with
 | some ⟨b, off, none⟩ => match g b with
  | some (.cells c el false) => mustO (Nat.ble (len + k) cap) (mustO (Nat.ble (off + len * size + xs.length) c.length)
   (.done (⟨.val (.slice (some ⟨b, off, none⟩) (len + k) cap), [(b, .cells (splice c (off + len * size) xs) el false)], none⟩, l1 ++ [b])))
  | _ => .fail
 | _ => .fail
theorem appendNewO_ok {elem : TypeId} {size len k n : Nat} {base : Option Addr} {xs : List Value} {l1 l : List Nat} {out : OOut} {g : Nat → Option VObj} (h : (appendNewO g elem size len k base xs l1 n).Has (out, l)) :
  ∃ l2, (appendNew elem size len k base xs n).run g = some (out, l2) ∧ l = l1 ++ l2 := by
 unfold appendNewO at h
 split at h
 ·split at h
  ·have h := DT.has_done h
   simp only [Prod.mk.injEq] at h
   obtain ⟨rfl, rfl⟩ := h
   exact ⟨[], rfl, rfl⟩
  ·cases h
 ·rename_i b off
  split at h
  ·rename_i c el hb
   obtain ⟨h12, h⟩ := has_mustO h
   split at h
   ·rename_i h13
    have h := DT.has_done h
    simp only [Prod.mk.injEq] at h
    obtain ⟨rfl, rfl⟩ := h
    exact ⟨[b], by simp only [appendNew, Rd.run, hb, h12, h13, Bool.and_self], rfl⟩
   ·cases h
  ·cases h
 ·cases h
theorem appendInO_ok {size len cap k : Nat} {base : Option Addr} {xs : List Value} {l1 l : List Nat} {out : OOut} {g : Nat → Option VObj} (h : (appendInO g size len cap k base xs l1).Has (out, l)) :
  ∃ l2, (appendIn size len cap k base xs).run g = some (out, l2) ∧ l = l1 ++ l2 := by
 unfold appendInO at h
 split at h
 ·rename_i b off
  split at h
  ·rename_i c el hb
   obtain ⟨h12, h⟩ := has_mustO h
   obtain ⟨h13, h⟩ := has_mustO h
   have h := DT.has_done h
   simp only [Prod.mk.injEq] at h
   obtain ⟨rfl, rfl⟩ := h
   exact ⟨[b], by simp only [appendIn, Rd.run, hb, h12, h13, Bool.and_self], rfl⟩
  ·cases h
 ·cases h
def appendO (g : Nat → Option VObj) (argTypes : List TypeId) (args : List Value) (n : Nat) : EO := match argTypes, args with
 | sT :: xT :: _, .slice base len cap :: x :: _ => match P.underlying sT, P.underlying xT with
  | some (.slice elem), some xd => match szOf P elem, lenV x, zeroOf P elem, (P.info? elem).map (·.bytes) with
   | some size, some k, some z, some bytes => match !isInt xd && Nat.ble bytes 1000000 && Nat.beq z.cells.size size && Nat.blt 0 size && !selfP P elem with
    | false => .fail
    | true => (cellsO g size x k).bind fun p => mustO (Nat.ble (len + k) 10000000) (mustO (p.1.all Value.oneCell') (mustO (Nat.beq p.1.length (k * size)) (.ask (full len cap) fun d => match d with
     | true => appendNewO g elem size len k base p.1 p.2 n
     | false => appendInO g size len cap k base p.1 p.2)))
   | _, _, _, _ => .fail
  | _, _ => .fail
 | _, _ => .fail
theorem appendO_ok {argTypes : List TypeId} {args : List Value} {n : Nat} {out : OOut} {l : List Nat} {g : Nat → Option VObj} (h : (appendO P g argTypes args n).Has (out, l)) : (appendV P argTypes args n).run g = some (out, l) := by
 unfold appendO at h
 split at h
 ·rename_i sT xT r1 base len cap x r2
  split at h
  ·rename_i elem xd h1 h2
   split at h
   ·rename_i size k z bytes h3 h4 h5 h6
    split at h
    ·cases h
    ·rename_i h7
     obtain ⟨p, h8, h⟩ := DT.has_bind h
     obtain ⟨h9, h⟩ := has_mustO h
     obtain ⟨h10, h⟩ := has_mustO h
     obtain ⟨h11, h⟩ := has_mustO h
     have h := DT.has_ask h
     have h8 := cellsO_ok h8
     obtain ⟨xs, l1⟩ := p
     dsimp only at h9 h10 h11 h
     unfold appendV
     simp only [h1, h2, h3, h4, h5, h6, h7]
     rw [Rd.run_bind]
     cases hf : full len cap with
     | true =>
      rw [hf] at h
      obtain ⟨l2, h12, h13⟩ := appendNewO_ok h
      exact ⟨xs, l1, l2, h8, by simp only [h9, h10, h11, Bool.and_self]; exact h12, h13⟩
     | false =>
      rw [hf] at h
      obtain ⟨l2, h12, h13⟩ := appendInO_ok h
      exact ⟨xs, l1, l2, h8, by simp only [h9, h10, h11, Bool.and_self]; exact h12, h13⟩
   ·cases h
  ·cases h
 ·cases h
def divO (op : BinOp) (a b : Value) : EO := match op, a, b with
 | .quo, .int k x, .int k' y => match decide (k = k') with
  | true => mustO (!decide (y = 0)) (valO (.int k (k.wrap (x.tdiv y))) [])
  | false => .fail
 | .rem, .int k x, .int k' y => match decide (k = k') with
  | true => mustO (!decide (y = 0)) (valO (.int k (x.tmod y)) [])
  | false => .fail
 | .add, .string x, .string y => mustO (Nat.ble (x.size + y.size) 9223372036854775807) (valO (.string (x ++ y)) [])
 | _, _, _ => .fail
theorem ofPure_pure {s : Sem Value} {v : Value} (h : s = pure v) (hv : fl v = true) {g : Nat → Option VObj} : (ofPure P (do let u ← s; pure (.value u))).run g = some (⟨.val v, [], none⟩, []) := by
 subst h
 unfold ofPure
 have : pureRun P (do let u ← (pure v : Sem Value); pure (Next.value u)) = some (.ok (.value v)) := rfl
 rw [this]
 dsimp only
 rw [hv]
 rfl
theorem divO_ok {op : BinOp} {t : TypeId} {x y : Operand} {a b : Value} {out : OOut} {l : List Nat} {g : Nat → Option VObj} (h : (divO op a b).Has (out, l)) : (binV P op t x y a b).run g = some (out, l) := by
 unfold divO at h
 split at h
 ·rename_i k n k' m
  split at h
  ·rename_i hk
   have hk := of_decide_eq_true hk
   subst hk
   obtain ⟨hm, h⟩ := has_mustO h
   obtain ⟨rfl, rfl⟩ := has_valO h
   have hm : m ≠ 0 := by simpa using hm
   refine ofPure_pure P (s := (do eqGuard .quo t x y (.int k n) (.int k m); binOp .quo t (.int k n) (.int k m))) ?_ rfl
   show binOp .quo t (.int k n) (.int k m) = _
   simp only [binOp, ne_eq, not_true_eq_false, if_false, Op.intDiv, hm]
  ·cases h
 ·rename_i k n k' m
  split at h
  ·rename_i hk
   have hk := of_decide_eq_true hk
   subst hk
   obtain ⟨hm, h⟩ := has_mustO h
   obtain ⟨rfl, rfl⟩ := has_valO h
   have hm : m ≠ 0 := by simpa using hm
   refine ofPure_pure P (s := (do eqGuard .rem t x y (.int k n) (.int k m); binOp .rem t (.int k n) (.int k m))) ?_ rfl
   show binOp .rem t (.int k n) (.int k m) = _
   simp only [binOp, ne_eq, not_true_eq_false, if_false, Op.intDiv, hm]
  ·cases h
 ·rename_i n m
  obtain ⟨hm, h⟩ := has_mustO h
  obtain ⟨rfl, rfl⟩ := has_valO h
  have hm : ¬ ((n.size + m.size : Nat) : Int) > IntKind.i64.max := by have := Nat.le_of_ble_eq_true hm; have h2 : IntKind.i64.max = 9223372036854775807 := rfl; omega
  refine ofPure_pure P (s := (do eqGuard .add t x y (.string n) (.string m); binOp .add t (.string n) (.string m))) ?_ rfl
  show binOp .add t (.string n) (.string m) = _
  simp only [binOp, Op.stringOp, hm, if_false]
 ·cases h
theorem pureRun_bind {α β : Type} {f : α → Sem β} {a : α} : ∀ {P : Program} {x : Sem α}, pureRun P x = some (.ok a) → pureRun P (x >>= f) = pureRun P (f a) := by
 intro P x
 induction x with
 | pure b => intro h; simp only [pureRun, Option.some.injEq, Except.ok.injEq] at h; subst h; rfl
 | program k ih => intro h; exact ih P h
 | mark m k ih => intro h; exact ih h
 | halt x => intro h; cases x <;> simp [pureRun] at h
 | _ => intro h; simp [pureRun] at h
theorem pureRun_underlying {t : TypeId} {d : TypeDesc} (h : P.underlying t = some d) : pureRun P (underlying t) = some (.ok d) := by
 have : underlying t = Sem.program fun p => (match p.underlying t with
  | some d => pure d
  | none => stuck "no such type") := rfl
 rw [this]
 show pureRun P (match P.underlying t with
  | some d => pure d
  | none => stuck "no such type") = _
 rw [h]
 rfl
def letterO (t : TypeId) (x i : Value) : EO := match P.underlying t, x, i with
 | some .string, .string s, .int _ z => mustO (decide (0 ≤ z)) (mustO (Nat.blt z.toNat s.size) (valO (.int .u8 ((s.data.toList.getD z.toNat 0).toNat)) []))
 | _, _, _ => .fail
theorem letterO_ok {t : TypeId} {x i : Value} {out : OOut} {l : List Nat} {g : Nat → Option VObj} (h : (letterO P t x i).Has (out, l)) : (indexV P t x i).run g = some (out, l) := by
 unfold letterO at h
 split at h
 ·rename_i s k z ht
  obtain ⟨h1, h⟩ := has_mustO h
  obtain ⟨h2, h⟩ := has_mustO h
  obtain ⟨rfl, rfl⟩ := has_valO h
  have h1 : 0 ≤ z := by simpa using h1
  have h2 := blt_iff.1 h2
  have hg : s[z.toNat]? = some (s.data.toList.getD z.toNat 0) := by
   have h3 : z.toNat < s.data.toList.length := by simpa using h2
   rw [getElem?_pos s z.toNat h2, List.getD_eq_getElem?_getD, List.getElem?_eq_getElem h3]
   rfl
  unfold indexV
  show (ofPure P (do let v ← Instr.index t (.string s) (.int k z); pure (.value v))).run g = _
  unfold ofPure
  have : pureRun P (do let u ← Instr.index t (.string s) (.int k z); pure (Next.value u)) = some (.ok (.value (.int .u8 ((s.data.toList.getD z.toNat 0).toNat)))) := by
   refine (pureRun_bind (a := (.int .u8 ((s.data.toList.getD z.toNat 0).toNat) : Value)) ?_).trans rfl
   unfold Instr.index
   refine (pureRun_bind (a := (k, z)) rfl).trans ?_
   refine (pureRun_bind (pureRun_underlying P ht)).trans ?_
   simp only [h1, if_true, hg]
   rfl
  rw [this]
  rfl
 ·cases h
def optSO : Nat → Option Value → (Nat → EO) → EO
 | d, none, k => k d
 | _, some (.int _ z), k => mustO (decide (0 ≤ z)) (k z.toNat)
 | _, _, _ => .fail
def cutStrO (t : TypeId) (x : Value) (lo hi mx : Option Value) : EO := match P.underlying t, x, mx with
 | some .string, .string s, none => match lo.all fl && hi.all fl with
  | true => optSO 0 lo fun l => optSO s.size hi fun h => mustO (Nat.ble h s.size) (mustO (Nat.ble l h) (valO (.string (s.extract l h)) []))
  | false => .fail
 | _, _, _ => .fail
theorem optSO_ok {d : Nat} {o : Option Value} {k : Nat → EO} {a : OOut × List Nat} (h : (optSO d o k).Has a) : ∃ n, (k n).Has a ∧ ((o = none ∧ n = d) ∨ ∃ ik z, o = some (.int ik z) ∧ 0 ≤ z ∧ n = z.toNat) := by
 unfold optSO at h
 split at h
 ·exact ⟨_, h, .inl ⟨rfl, rfl⟩⟩
 ·rename_i ik z
  obtain ⟨h1, h⟩ := has_mustO h
  exact ⟨_, h, .inr ⟨ik, z, rfl, by simpa using h1, rfl⟩⟩
 ·cases h
theorem pureRun_bound {ik : IntKind} {z : Int} {y : Nat} {code : BoundsCode} (h0 : 0 ≤ z) (h1 : z.toNat ≤ y) : pureRun P (Instr.sliceBound (.int ik z) y code) = some (.ok z.toNat) := by
 unfold Instr.sliceBound
 refine (pureRun_bind (a := (ik, z)) rfl).trans ?_
 have : 0 ≤ z ∧ z ≤ (y : Int) := ⟨h0, by omega⟩
 simp only [this, and_self, if_true]
 rfl
theorem cutStrO_ok {t : TypeId} {x : Value} {lo hi mx : Option Value} {out : OOut} {l : List Nat} {g : Nat → Option VObj} (h : (cutStrO P t x lo hi mx).Has (out, l)) : (sliceV P t x lo hi mx).run g = some (out, l) := by
 unfold cutStrO at h
 split at h
 ·rename_i s ht
  split at h
  ·rename_i hfl
   obtain ⟨n1, h, hn1⟩ := optSO_ok h
   obtain ⟨n2, h, hn2⟩ := optSO_ok h
   obtain ⟨h2, h⟩ := has_mustO h
   obtain ⟨h1, h⟩ := has_mustO h
   obtain ⟨rfl, rfl⟩ := has_valO h
   have h1 := Nat.le_of_ble_eq_true h1
   have h2 := Nat.le_of_ble_eq_true h2
   unfold sliceV
   have hf1 : fl (.string s) = true := rfl
   rw [hf1]
   dsimp only
   rw [hfl]
   have hr : pureRun P (Instr.sliceAt t (.string s) lo hi none) = some (.ok (.string (s.extract n1 n2))) := by
    unfold Instr.sliceAt
    refine (pureRun_bind (pureRun_underlying P ht)).trans ?_
    dsimp only
    unfold Instr.slice
    refine (pureRun_bind (pureRun_underlying P ht)).trans ?_
    dsimp only
    refine (pureRun_bind (a := (n1, n2, s.size)) ?_).trans rfl
    rcases hn2 with ⟨rfl, rfl⟩ | ⟨ik, z, rfl, hz, rfl⟩ <;> rcases hn1 with ⟨rfl, rfl⟩ | ⟨ik', z', rfl, hz', rfl⟩
    ·rfl
    ·exact (pureRun_bind (f := fun l => pure (l, s.size, s.size)) (pureRun_bound P hz' h1)).trans rfl
    ·exact (pureRun_bind (f := fun h => pure (0, h, s.size)) (pureRun_bound P hz h2)).trans rfl
    ·exact (pureRun_bind (f := fun h => (Instr.sliceBound (.int ik' z') h .sliceB).bind fun l => pure (l, h, s.size)) (pureRun_bound P hz h2)).trans ((pureRun_bind (f := fun l => pure (l, z.toNat, s.size)) (pureRun_bound P hz' h1)).trans rfl)
   show (ofPure P _).run g = _
   unfold ofPure
   have hr2 : pureRun P (do let v ← Instr.sliceAt t (.string s) lo hi none; pure (Next.value v)) = some (.ok (.value (.string (s.extract n1 n2)))) := pureRun_bind hr
   rw [hr2]
   rfl
  ·cases h
 ·cases h
def clearO (g : Nat → Option VObj) (argTypes : List TypeId) (args : List Value) : EO := match argTypes, args with
 | t :: _, x :: _ => match P.underlying t, x with
  | some (.slice el), .slice (some ⟨b, off, none⟩) k _ => .ask (Nat.beq k 0) fun d => match d with
   | true => valO (.tuple #[]) []
   | false => match szOf P el, zeroOf P el, g b with
    | some size, some z, some (.cells c ce false) => mustO (Nat.ble (off + k * size) c.length) (match fl z && Nat.beq z.cells.size size && z.cells.toList.all Value.oneCell' with
     | true => .done (⟨.val (.tuple #[]), [(b, .cells (splice c off (repl z.cells.toList k)) ce false)], none⟩, [b])
     | false => .fail)
    | _, _, _ => .fail
  | _, _ => .fail
 | _, _ => .fail
theorem clearO_ok {argTypes : List TypeId} {args : List Value} {out : OOut} {l : List Nat} {g : Nat → Option VObj} (h : (clearO P g argTypes args).Has (out, l)) : (clearV P argTypes args).run g = some (out, l) := by
 unfold clearO at h
 unfold clearV
 split at h
 ·rename_i t _ x _
  dsimp only
  split at h
  ·rename_i el b off k cap ht
   have h := DT.has_ask h
   rw [ht]
   cases k with
   | zero =>
    obtain ⟨rfl, rfl⟩ := has_valO h
    rfl
   | succ k =>
    have hk : Nat.beq (k + 1) 0 = false := rfl
    rw [hk] at h
    dsimp only at h
    show (match szOf P el, zeroOf P el with
     | some size, some z => Rd.read b fun
      | .cells c ce false => match fl z && Nat.beq z.cells.size size && Nat.ble (off + (k + 1) * size) c.length && z.cells.toList.all Value.oneCell' with
       | true => .done ⟨.val (.tuple #[]), [(b, .cells (splice c off (repl z.cells.toList (k + 1))) ce false)], none⟩
       | false => .fail
      | _ => .fail
     | _, _ => .fail : Rd OOut).run g = _
    split at h
    ·rename_i size z c ce hs hz hg
     obtain ⟨hb, h⟩ := has_mustO h
     split at h
     ·rename_i hf
      rw [hs, hz]
      simp only [Rd.run, hg]
      simp only [Bool.and_eq_true] at hf
      obtain ⟨⟨f1, f2⟩, f3⟩ := hf
      rw [f1, f2, hb, f3]
      cases DT.has_done h
      rfl
     ·cases h
    ·cases h
  ·cases h
 ·cases h
def absentB (es : List MapEntry) (k : Value) : Bool := match findV k es 0 with
 | some none => true
 | _ => false
def knownB (es : List MapEntry) (k : Value) : Bool := (findV k es 0).isSome
def dropK (es : List MapEntry) (k : Value) : List MapEntry := match findV k es 0 with
 | some (some (i, _)) => es.eraseIdx i
 | _ => es
def mapUpdO (g : Nat → Option VObj) (t : TypeId) (x k v : Value) : EO := match P.underlying t with
 | some (.map kt _) => match keyFits P kt k, x with
  | true, .map (some r) => match g r with
   | some (.map es clock) => mustO (absentB es k) (.done (⟨.skip, [(r, .map (es ++ [{ key := k, val := v, born := clock }]) (clock + 1))], none⟩, [r]))
   | _ => .fail
  | _, _ => .fail
 | _ => .fail
theorem mapUpdO_ok {g : Nat → Option VObj} {t : TypeId} {x k v : Value} {out : OOut} {l : List Nat} (h : (mapUpdO P g t x k v).Has (out, l)) : (mapUpdateV P t x k v).run g = some (out, l) := by
 unfold mapUpdO at h
 unfold mapUpdateV
 split at h
 ·rename_i kt _ ht
  rw [ht]
  split at h
  ·rename_i r hk
   simp only [hk]
   split at h
   ·rename_i es clock hg
    obtain ⟨h1, h⟩ := has_mustO h
    have := DT.has_done h
    cases this
    unfold absentB at h1
    split at h1
    ·rename_i hf
     simp only [Rd.run, hg, hf]
    ·cases h1
   ·cases h
  ·cases h
 ·cases h
def deleteO (g : Nat → Option VObj) (argTypes : List TypeId) (args : List Value) : EO := match argTypes, args with
 | t :: _, .map (some r) :: k :: _ => match P.underlying t with
  | some (.map kt _) => match keyFits P kt k with
   | true => match g r with
    | some (.map es clock) => mustO (knownB es k) (.done (⟨.val (.tuple #[]), [(r, .map (dropK es k) clock)], none⟩, [r]))
    | _ => .fail
   | false => .fail
  | _ => .fail
 | _, _ => .fail
theorem deleteO_ok {g : Nat → Option VObj} {argTypes : List TypeId} {args : List Value} {out : OOut} {l : List Nat} (h : (deleteO P g argTypes args).Has (out, l)) : (deleteV P argTypes args).run g = some (out, l) := by
 unfold deleteO at h
 unfold deleteV
 split at h
 ·rename_i t _ r k _
  dsimp only
  split at h
  ·rename_i kt _ ht
   rw [ht]
   dsimp only
   split at h
   ·rename_i hk
    rw [hk]
    dsimp only
    split at h
    ·rename_i es clock hg
     obtain ⟨h1, h⟩ := has_mustO h
     have := DT.has_done h
     cases this
     unfold knownB at h1
     cases hf : findV k es 0 with
     | none => rw [hf] at h1; cases h1
     | some f =>
      cases f with
      | none => simp only [Rd.run, hg, hf, dropK]
      | some p => simp only [Rd.run, hg, hf, dropK]
    ·cases h
   ·cases h
  ·cases h
 ·cases h
def unsafeDataO (args : List Value) : EO := match args with
 | [.slice none _ _] => valO (.pointer none) []
 | [.slice (some ⟨b, off, none⟩) _ c] => mustO (Nat.blt 0 c) (valO (.pointer (some ⟨b, off, none⟩)) [])
 | _ => .fail
theorem unsafeDataO_ok {args : List Value} {out : OOut} {l : List Nat} {g : Nat → Option VObj} (h : (unsafeDataO args).Has (out, l)) : (unsafeDataV args).run g = some (out, l) := by
 unfold unsafeDataO at h
 split at h
 ·obtain ⟨rfl, rfl⟩ := has_valO h
  rfl
 ·rename_i b off n c
  obtain ⟨h1, h⟩ := has_mustO h
  obtain ⟨rfl, rfl⟩ := has_valO h
  cases c with
  | zero => cases h1
  | succ c => rfl
 ·cases h
def unsafeStrO (g : Nat → Option VObj) (argTypes : List TypeId) (args : List Value) : EO := match argTypes, args with
 | [_, _], [.pointer none, .int .i64 z] => mustO (decide (z = 0)) (valO (.string .empty) [])
 | [pt, _], [.pointer (some ⟨b, off, none⟩), .int .i64 z] => match P.underlying pt, g b with
  | some (.pointer e), some (.cells c el false) => mustO (decide (0 < z)) (mustO (decide (z ≤ 10000000)) (mustO ((cut c off z.toNat).bind bytesOf).isSome (match Nat.beq e el && (szOf P e == some 1) with
   | true => .done (⟨.val (.string ⟨(((cut c off z.toNat).bind bytesOf).getD []).toArray⟩), [(b, .dead)], none⟩, [b])
   | false => .fail)))
  | _, _ => .fail
 | _, _ => .fail
theorem unsafeStrO_ok {argTypes : List TypeId} {args : List Value} {out : OOut} {l : List Nat} {g : Nat → Option VObj} (h : (unsafeStrO P g argTypes args).Has (out, l)) : (unsafeStrV P argTypes args).run g = some (out, l) := by
 unfold unsafeStrO at h
 split at h
 ·obtain ⟨h1, h⟩ := has_mustO h
  obtain ⟨rfl, rfl⟩ := has_valO h
  obtain rfl := of_decide_eq_true h1
  rfl
 ·rename_i pt it b off z
  split at h
  ·rename_i e c el hp hg
   obtain ⟨h1, h⟩ := has_mustO h
   obtain ⟨h2, h⟩ := has_mustO h
   obtain ⟨h3, h⟩ := has_mustO h
   split at h
   ·rename_i hc
    simp only [Bool.and_eq_true] at hc
    cases DT.has_done h
    unfold unsafeStrV
    simp only [hp, Rd.run, hg, h1, h2, hc.1, hc.2, Bool.and_self]
    cases hq : (cut c off z.toNat).bind bytesOf with
    | none => rw [hq] at h3; cases h3
    | some l => rfl
   ·cases h
  ·cases h
 ·cases h
def mapOpen (g : Nat → Option VObj) (x : Value) : Bool := match x with
 | .map (some r) => match g r with
  | some (.map es _) => Nat.beq es.length es.length
  | _ => true
 | _ => true
def delClosed (g : Nat → Option VObj) (e : Operand → Value) (c : Call) : Bool := match c.callee with
 | .builtin .delete => match c.args.toList.map e with
  | x :: _ => mapOpen g x
  | _ => true
 | _ => true
def callO (e : Operand → Value) (g : Nat → Option VObj) (c : Call) (n : Nat) : EO := match c.callee with
 | .builtin .append => appendO P g c.argTypes.toList (c.args.toList.map e) n
 | .builtin .clear => clearO P g c.argTypes.toList (c.args.toList.map e)
 | .builtin .delete => deleteO P g c.argTypes.toList (c.args.toList.map e)
 | .builtin .unsafeSliceData => unsafeDataO (c.args.toList.map e)
 | .builtin .unsafeString => unsafeStrO P g c.argTypes.toList (c.args.toList.map e)
 | _ => .fail
def firstClosed (l : List Value) : Bool := match l with
 | v :: w :: _ => (match v with
  | .slice _ n c => Nat.beq n n && Nat.beq c c
  | _ => true) && (match w with
  | .slice _ n _ => Nat.beq n n
  | .string s => Nat.beq s.size s.size
  | _ => true)
 | _ => true
def callClosed (e : Operand → Value) (c : Call) : Bool := match c.callee with
 | .builtin .append => firstClosed (c.args.toList.map e)
 | .builtin .clear => firstClosed (c.args.toList.map e ++ [.nilFunc])
 | .builtin .unsafeSliceData => false
 | .builtin .unsafeString => false
 | _ => true
def divLike (op : BinOp) (a b : Value) : Option Bool := match op, a, b with
 | .quo, .int _ _, .int _ y => some (decide (y = y))
 | .rem, .int _ _, .int _ y => some (decide (y = y))
 | .add, .string x, .string y => some (Nat.beq (x.size + y.size) (x.size + y.size))
 | _, _, _ => none
def offOf : Value → Nat
 | .pointer (some ⟨_, off, _⟩) => off
 | _ => 0
def isClosed (n : Nat) : Bool := Nat.beq n n
def intClosed : Value → Bool
 | .int _ z => decide (z = z)
 | _ => true
def lenClosed : Value → Bool
 | .slice _ n c => Nat.beq n n && Nat.beq c c
 | _ => true
def bytesClosed (g : Nat → Option VObj) : Value → Bool
 | .slice (some ⟨b, off, _⟩) len _ => match g b with
  | some (.cells c _ _) => ((cut c off len).bind bytesOf).isSome
  | _ => true
 | _ => true
def nilLike (op : BinOp) (a b : Value) : Option (Nat × Bool) := match op, a, b with
 | .eql, .slice (some _) _ c, .slice none 0 0 => some (c, false)
 | .neq, .slice (some _) _ c, .slice none 0 0 => some (c, true)
 | _, _, _ => none
def nilO (t : TypeId) (c : Nat) (r : Bool) : EO := match P.underlying t with
 | some (.slice _) => mustO (Nat.blt 0 c) (valO (.bool r) [])
 | _ => .fail
theorem nilO_ok {op : BinOp} {t : TypeId} {x y : Operand} {a b : Value} {c : Nat} {r : Bool} {out : OOut} {l : List Nat} {g : Nat → Option VObj} (hl : nilLike op a b = some (c, r)) (h : (nilO P t c r).Has (out, l)) :
  (binV P op t x y a b).run g = some (out, l) := by
 unfold nilO at h
 split at h
 ·rename_i el ht
  obtain ⟨hc, h⟩ := has_mustO h
  obtain ⟨rfl, rfl⟩ := has_valO h
  unfold nilLike at hl
  split at hl
  ·cases hl
   unfold binV
   have : fl (.slice (some ‹Addr›) ‹Nat› c) = false := rfl
   rw [this]
   simp only [Bool.false_and, eqV, ht, nilEq, hc]
   rfl
  ·cases hl
   unfold binV
   have : fl (.slice (some ‹Addr›) ‹Nat› c) = false := rfl
   rw [this]
   simp only [Bool.false_and, eqV, ht, nilEq, hc]
   rfl
  ·cases hl
 ·cases h
def cellSeen (g : Nat → Option VObj) (v : Value) : Bool := match v with
 | .pointer (some ⟨b, off, none⟩) => match g b with
  | some (.cells c _ _) => match c[off]? with
   | some _ => true
   | none => true
  | _ => true
 | _ => true
def evO (t : Fr) (S : VS) (o : Oper) : EO := match o.op with
 | .pick c a b => pickO (evalL t c) (evalL t a) (evalL t b)
 | .load ty a => .alt (isClosed (offOf (evalL t a)) && cellSeen (gt S.mem) (evalL t a)) (DT.ofO ((ev P (evalL t) S.next o).run (gt S.mem))) (match agg? P ty with
  | some true => loadAggO P (gt S.mem) ty (evalL t a)
  | _ => loadO P (gt S.mem) ty (evalL t a))
 | .store ty a x => .alt (isClosed (offOf (evalL t a)) && cellSeen (gt S.mem) (evalL t a)) (DT.ofO ((ev P (evalL t) S.next o).run (gt S.mem))) (match rowOf P (gt S.mem) ty (evalL t a) with
  | true => storeRowO P (gt S.mem) ty (evalL t a) (evalL t x)
  | false => storeO P (gt S.mem) ty (evalL t a) (evalL t x))
 | .index ty x i => match evalL t x with
  | .string s => .alt (intClosed (evalL t i) && Nat.beq s.size s.size) (DT.ofO ((ev P (evalL t) S.next o).run (gt S.mem))) (letterO P ty (evalL t x) (evalL t i))
  | _ => DT.ofO ((ev P (evalL t) S.next o).run (gt S.mem))
 | .binOp op ty x y _ => match divLike op (evalL t x) (evalL t y) with
  | some p => .alt p (DT.ofO ((ev P (evalL t) S.next o).run (gt S.mem))) (divO op (evalL t x) (evalL t y))
  | none => match nilLike op (evalL t x) (evalL t y) with
   | some (c, r) => .alt (isClosed c) (DT.ofO ((ev P (evalL t) S.next o).run (gt S.mem))) (nilO P ty c r)
   | none => DT.ofO ((ev P (evalL t) S.next o).run (gt S.mem))
 | .indexAddr ty x i => .alt (intClosed (evalL t i) && lenClosed (evalL t x)) (DT.ofO ((ev P (evalL t) S.next o).run (gt S.mem))) (indexAddrO P ty (evalL t x) (evalL t i))
 | .convert src dst x => .alt (bytesClosed (gt S.mem) (evalL t x)) (DT.ofO ((ev P (evalL t) S.next o).run (gt S.mem))) (convertO P (gt S.mem) src dst (evalL t x))
 | .slice ty x lo hi mx => match evalL t x with
  | .string s => .alt (Nat.beq s.size s.size && (lo.map (evalL t)).all intClosed && (hi.map (evalL t)).all intClosed) (DT.ofO ((ev P (evalL t) S.next o).run (gt S.mem))) (cutStrO P ty (evalL t x) (lo.map (evalL t)) (hi.map (evalL t)) (mx.map (evalL t)))
  | _ => .alt (lenClosed (evalL t x) && (lo.map (evalL t)).all intClosed && (hi.map (evalL t)).all intClosed) (DT.ofO ((ev P (evalL t) S.next o).run (gt S.mem))) (sliceO P (gt S.mem) ty (evalL t x) (lo.map (evalL t)) (hi.map (evalL t)) (mx.map (evalL t)))
 | .mapUpdate ty m k x => .alt (mapOpen (gt S.mem) (evalL t m)) (DT.ofO ((ev P (evalL t) S.next o).run (gt S.mem))) (mapUpdO P (gt S.mem) ty (evalL t m) (evalL t k) (evalL t x))
 | .call c => .alt (callClosed (evalL t) c && delClosed (gt S.mem) (evalL t) c) (DT.ofO ((ev P (evalL t) S.next o).run (gt S.mem))) (callO P (evalL t) (gt S.mem) c S.next)
 | _ => DT.ofO ((ev P (evalL t) S.next o).run (gt S.mem))
theorem callO_ok {e : Operand → Value} {g : Nat → Option VObj} {c : Call} {ty : TypeId} {n : Nat} {out : OOut} {l : List Nat} (h : (callO P e g c n).Has (out, l)) : (callV P c e ty n).run g = some (out, l) := by
 unfold callO at h
 split at h
 ·rename_i hc
  have := appendO_ok P h
  unfold callV
  rw [hc]
  exact this
 ·rename_i hc
  have := clearO_ok P h
  unfold callV
  rw [hc]
  exact this
 ·rename_i hc
  have := deleteO_ok P h
  unfold callV
  rw [hc]
  exact this
 ·rename_i hc
  have := unsafeDataO_ok (g := g) h
  unfold callV
  rw [hc]
  exact this
 ·rename_i hc
  have := unsafeStrO_ok P h
  unfold callV
  rw [hc]
  exact this
 ·cases h
theorem evO_ok {t : Fr} {S : VS} {o : Oper} {out : OOut} {l : List Nat} (h : (evO P t S o).Has (out, l)) : (ev P (evalL t) S.next o).run (gt S.mem) = some (out, l) := by
 unfold evO at h
 obtain ⟨dst, op, type, pos, after, guard⟩ := o
 dsimp only at h
 split at h
 ·exact pickO_ok h
 ·rcases DT.has_alt h with h | h
  ·exact DT.has_ofO h
  ·split at h
   ·exact loadAggO_ok P h
   ·exact loadO_ok P h
 ·rcases DT.has_alt h with h | h
  ·exact DT.has_ofO h
  ·split at h
   ·exact storeRowO_ok P h
   ·exact storeO_ok P h
 ·split at h
  ·rcases DT.has_alt h with h | h
   ·exact DT.has_ofO h
   ·exact letterO_ok P h
  ·exact DT.has_ofO h
 ·split at h
  ·rcases DT.has_alt h with h | h
   ·exact DT.has_ofO h
   ·exact divO_ok P h
  ·split at h
   ·rename_i hnl
    rcases DT.has_alt h with h | h
    ·exact DT.has_ofO h
    ·exact nilO_ok P hnl h
   ·exact DT.has_ofO h
 ·rcases DT.has_alt h with h | h
  ·exact DT.has_ofO h
  ·exact indexAddrO_ok P h
 ·rcases DT.has_alt h with h | h
  ·exact DT.has_ofO h
  ·exact convertO_ok P h
 ·split at h
  ·rcases DT.has_alt h with h | h
   ·exact DT.has_ofO h
   ·exact cutStrO_ok P h
  ·rcases DT.has_alt h with h | h
   ·exact DT.has_ofO h
   ·exact sliceO_ok P h
 ·rcases DT.has_alt h with h | h
  ·exact DT.has_ofO h
  ·exact mapUpdO_ok P h
 ·rcases DT.has_alt h with h | h
  ·exact DT.has_ofO h
  ·exact callO_ok P h
 ·exact DT.has_ofO h
def stepO (t : Fr) (S : VS) (o : Oper) : DT (ORes × VS) := match viewOf P t S o with
 | some V => match o.op.operands.toList.all okOperand, V.i with
  | true, .int _ z => mustO (decide (0 ≤ z)) (mustO (Nat.blt z.toNat V.n) (mustO (Nat.blt z.toNat V.len) (DT.ofO (viewStep S V.b V.el (V.row z.toNat)))))
  | _, _ => .fail
 | none => match o.op.operands.toList.all okOperand with
  | false => .fail
  | true => (evO P t S o).bind fun p => DT.ofO (commit S p.2 p.1)
theorem stepO_ok {t : Fr} {S : VS} {o : Oper} {r : ORes × VS} (h : (stepO P t S o).Has r) : stepOp P t S o = some r := by
 unfold stepO at h
 unfold stepOp
 split at h
 ·rename_i V hV
  rw [hV]
  dsimp only
  split at h
  ·rename_i ik z hop hi
   obtain ⟨h1, h⟩ := has_mustO h
   obtain ⟨h2, h⟩ := has_mustO h
   obtain ⟨h3, h⟩ := has_mustO h
   rw [hop, hi, nOf_int h1]
   dsimp only
   rw [h2, h3]
   exact DT.has_ofO h
  ·cases h
 ·rename_i hV
  rw [hV]
  dsimp only
  unfold stepOp0
  split at h
  ·cases h
  ·rename_i hop
   obtain ⟨p, h1, h2⟩ := DT.has_bind h
   obtain ⟨out, l⟩ := p
   have := evO_ok P h1
   simp only [hop, this]
   exact DT.has_ofO h2
abbrev CallO := FuncId → List Value → VS → DT (CRes × VS)
def wantO {α : Type} (ops : List Oper) (o : Oper) (t : Fr) (k : Bool → DT α) : DT α := match o.guard with
 | none => k true
 | some (j, want) => match (ops[j]?).bind (·.dst) with
  | some d => match t.at d with
   | .bool b => .ask b fun b => match b, want with
    | true, true => k true
    | false, false => k true
    | _, _ => k false
   | _ => k false
  | none => k false
theorem wantO_ok {α : Type} {ops : List Oper} {o : Oper} {t : Fr} {k : Bool → DT α} {a : α} (h : (wantO ops o t k).Has a) : (k (Region.wanted o (yieldedL ops t))).Has a := by
 unfold wantO at h
 unfold Region.wanted yieldedL
 split at h
 ·rename_i hg; simp only [hg]; exact h
 ·rename_i j want hg
  simp only [hg]
  split at h
  ·rename_i d hd
   simp only [hd]
   split at h
   ·rename_i b hb
    have h := DT.has_ask h
    simp only [hb]
    cases b <;> cases want <;> exact h
   ·rename_i hne
    cases hv : t.at d with
    | bool b => exact absurd hv (hne b)
    | _ => simpa using h
  ·rename_i hd
   simp only [hd]
   simpa using h
def opO (call : CallO) (ops : List Oper) (o : Oper) (t : Fr) (S : VS) : DT (Option Value × Fr × VS) :=
 wantO ops o t fun w => match w with
  | false => DT.ofO ((put t o.dst undef).map fun t1 => (none, t1, S))
  | true => (stepO P t S o).bind fun p => match p.1 with
   | .val v => DT.ofO ((put t o.dst v).map fun t1 => (none, t1, p.2))
   | .skip => DT.ofO ((put t o.dst undef).map fun t1 => (none, t1, p.2))
   | .panic v => .done (some v, t, p.2)
   | .defer _ => .fail
   | .enter f args => (call f args p.2).bind fun q => match q.1 with
    | .ret v => DT.ofO ((put t o.dst v).map fun t1 => (none, t1, q.2))
    | .panic v => .done (some v, t, q.2)
theorem opO_ok {callO : CallO} {call : CallF} (hc : ∀ f args S r, (callO f args S).Has r → call f args S = some r) {ops : List Oper} {o : Oper} {t : Fr} {S : VS} {r : Option Value × Fr × VS}
  (h : (opO P callO ops o t S).Has r) : opV P call ops o t S = some r := by
 unfold opO at h
 have h := wantO_ok h
 unfold opV
 cases hw : Region.wanted o (yieldedL ops t) with
 | false => rw [hw] at h; exact DT.has_ofO h
 | true =>
  rw [hw] at h
  dsimp only at h ⊢
  obtain ⟨p, h1, h2⟩ := DT.has_bind h
  obtain ⟨r1, S1⟩ := p
  rw [stepO_ok P h1]
  dsimp only at h2 ⊢
  cases r1 with
  | val v => exact DT.has_ofO h2
  | skip => exact DT.has_ofO h2
  | panic v => rw [DT.has_done h2]
  | defer d => cases h2
  | enter f args =>
   dsimp only at h2 ⊢
   obtain ⟨q, h3, h4⟩ := DT.has_bind h2
   obtain ⟨cr, S2⟩ := q
   rw [hc _ _ _ _ h3]
   cases cr with
   | ret v => exact DT.has_ofO h4
   | panic v => rw [DT.has_done h4]
def opsO (call : CallO) (df : Bool) (ops : List Oper) : List Oper → Fr → VS → DT (VEx × Fr × VS)
 | [], t, S => .done (.normal, t, S)
 | o :: rest, t, S => match isDef o with
  | some c => match df with
   | true => match deferV P t o c with
    | some t1 => opsO call df ops rest t1 S
    | none => .fail
   | false => .fail
  | none => (opO P call ops o t S).bind fun p => match p.1 with
   | some v => .done (.panic v, p.2.1, p.2.2)
   | none => opsO call df ops rest p.2.1 p.2.2
theorem opsO_ok {callO : CallO} {call : CallF} (hc : ∀ f args S r, (callO f args S).Has r → call f args S = some r) {df : Bool} {ops : List Oper} : ∀ {rest : List Oper} {t : Fr} {S : VS} {r : VEx × Fr × VS},
  (opsO P callO df ops rest t S).Has r → opsV P call df ops rest t S = some r
 | [], t, S, r, h => by rw [DT.has_done h]; rfl
 | o :: rest, t, S, r, h => by
  unfold opsO at h
  unfold opsV
  split at h
  ·rename_i c hd
   rw [hd]
   dsimp only
   split at h
   ·split at h
    ·rename_i t1 hdv
     rw [hdv]
     exact opsO_ok hc h
    ·cases h
   ·cases h
  ·rename_i hd
   rw [hd]
   dsimp only
   obtain ⟨p, h1, h2⟩ := DT.has_bind h
   obtain ⟨ov, t1, S1⟩ := p
   rw [opO_ok P hc h1]
   cases ov with
   | some v => rw [DT.has_done h2]
   | none => exact opsO_ok hc h2
def drawO (call : CallO) (ops : List Oper) : List Oper → Fr → VS → DT (Fr × VS × List Fp)
 | [], t, S => .done (t, S, [])
 | o :: rest, t, S => (opO P call ops o t { S with rd := [], wr := [] }).bind fun p => match p.1 with
  | some _ => .fail
  | none => (drawO call ops rest p.2.1 { p.2.2 with rd := p.2.2.rd ++ S.rd, wr := p.2.2.wr ++ S.wr }).bind fun q => .done (q.1, q.2.1, ⟨p.2.2.rd, p.2.2.wr⟩ :: q.2.2)
theorem drawO_ok {callO : CallO} {call : CallF} (hc : ∀ f args S r, (callO f args S).Has r → call f args S = some r) {ops : List Oper} : ∀ {rest : List Oper} {t : Fr} {S : VS} {r : Fr × VS × List Fp},
  (drawO P callO ops rest t S).Has r → drawV P call ops rest t S = some r
 | [], t, S, r, h => by rw [DT.has_done h]; rfl
 | o :: rest, t, S, r, h => by
  unfold drawO at h
  obtain ⟨p, h1, h2⟩ := DT.has_bind h
  obtain ⟨ov, t1, S1⟩ := p
  unfold drawV
  rw [opO_ok P hc h1]
  cases ov with
  | some v => cases h2
  | none =>
   dsimp only at h2 ⊢
   obtain ⟨q, h3, h4⟩ := DT.has_bind h2
   obtain ⟨t2, S2, fps⟩ := q
   rw [drawO_ok hc h3, DT.has_done h4]
def iterO (f : Fr → VS → DT (VEx × Fr × VS)) : Nat → Fr → VS → DT (VEx × Fr × VS)
 | 0, _, _ => .fail
 | k + 1, t, S => (f t S).bind fun p => match p.1 with
  | .normal => iterO f k p.2.1 p.2.2
  | _ => .done p
theorem iterO_ok {f : Fr → VS → DT (VEx × Fr × VS)} {f' : Fr → VS → Option (VEx × Fr × VS)} (hf : ∀ t S r, (f t S).Has r → f' t S = some r) : ∀ {k : Nat} {t : Fr} {S : VS} {r : VEx × Fr × VS},
  (iterO f k t S).Has r → iter f' k t S = some r
 | 0, t, S, r, h => by cases h
 | k + 1, t, S, r, h => by
  unfold iterO at h
  obtain ⟨p, h1, h2⟩ := DT.has_bind h
  obtain ⟨e, t1, S1⟩ := p
  unfold iter
  rw [hf _ _ _ h1]
  cases e with
  | normal => exact iterO_ok hf h2
  | exit id => rw [DT.has_done h2]
  | ret => rw [DT.has_done h2]
  | panic v => rw [DT.has_done h2]
def codeO (call : CallO) (lf : Nat) (df : Bool) : Code → Fr → VS → DT (VEx × Fr × VS)
 | .skip, t, S => .done (.normal, t, S)
 | .region _ ops false, t, S => opsO P call df ops.toList ops.toList t S
 | .region _ ops true, t, S => (drawO P call ops.toList ops.toList t S).bind fun q => match drawOk ops q.2.2 with
  | true => .done (.normal, q.1, q.2.1)
  | false => .fail
 | .seq a b, t, S => (codeO call lf df a t S).bind fun p => match p.1 with
  | .normal => codeO call lf df b p.2.1 p.2.2
  | _ => .done p
 | .cond c a b, t, S => match evalL t c with
  | .bool d => .ask d fun d => match d with
   | true => codeO call lf df a t S
   | false => codeO call lf df b t S
  | _ => .fail
 | .block id c, t, S => (codeO call lf df c t S).bind fun p => match p.1 with
  | .exit j => match Nat.beq j id with
   | true => .done (.normal, p.2.1, p.2.2)
   | false => .done p
  | _ => .done p
 | .loop c, t, S => iterO (codeO call lf df c) lf t S
 | .exit id, t, S => .done (.exit id, t, S)
 | .ret, t, S => .done (.ret, t, S)
 | .scope c, t, S => codeO call lf df c t S
 | .label _, t, S => .done (.normal, t, S)
 | _, _, _ => .fail
theorem codeO_ok {callO : CallO} {call : CallF} (hc : ∀ f args S r, (callO f args S).Has r → call f args S = some r) (lf : Nat) {df : Bool} : ∀ {c : Code} {t : Fr} {S : VS} {r : VEx × Fr × VS},
  (codeO P callO lf df c t S).Has r → codeV P call lf df c t S = some r := by
 intro c
 induction c with
 | skip => intro t S r h; rw [DT.has_done h]; rfl
 | region id ops draw =>
  intro t S r h
  cases draw with
  | false => exact opsO_ok P hc h
  | true =>
   simp only [codeO] at h
   obtain ⟨q, h1, h2⟩ := DT.has_bind h
   obtain ⟨t1, S1, fps⟩ := q
   simp only [codeV]
   rw [drawO_ok P hc h1]
   dsimp only at h2 ⊢
   split at h2
   ·rename_i hk; rw [DT.has_done h2, hk]
   ·cases h2
 | seq a b iha ihb =>
  intro t S r h
  simp only [codeO] at h
  obtain ⟨p, h1, h2⟩ := DT.has_bind h
  obtain ⟨e, t1, S1⟩ := p
  simp only [codeV]
  rw [iha h1]
  cases e with
  | normal => exact ihb h2
  | exit id => rw [DT.has_done h2]
  | ret => rw [DT.has_done h2]
  | panic v => rw [DT.has_done h2]
 | cond c a b iha ihb =>
  intro t S r h
  simp only [codeO] at h
  simp only [codeV]
  split at h
  ·rename_i d hd
   have h := DT.has_ask h
   rw [hd]
   cases d with
   | true => exact iha h
   | false => exact ihb h
  ·cases h
 | block id c ih =>
  intro t S r h
  simp only [codeO] at h
  obtain ⟨p, h1, h2⟩ := DT.has_bind h
  obtain ⟨e, t1, S1⟩ := p
  simp only [codeV]
  rw [ih h1]
  cases e with
  | normal => rw [DT.has_done h2]
  | exit j =>
   dsimp only at h2 ⊢
   split at h2
   ·rename_i hj; rw [DT.has_done h2, hj]
   ·rename_i hj; rw [DT.has_done h2, hj]
  | ret => rw [DT.has_done h2]
  | panic v => rw [DT.has_done h2]
 | loop c ih =>
  intro t S r h
  simp only [codeO] at h
  exact iterO_ok (fun t S r h => ih h) h
 | exit id => intro t S r h; rw [DT.has_done h]; rfl
 | ret => intro t S r h; rw [DT.has_done h]; rfl
 | scope c ih => intro t S r h; simp only [codeO] at h; exact ih h
 | label l => intro t S r h; rw [DT.has_done h]; rfl
 | _ => intro t S r h; simp [codeO] at h; cases h
def opsQO : List Oper → Fr → VS → DT (Fr × VS)
 | [], t, S => .done (t, S)
 | o :: rest, t, S => match o.guard with
  | some _ => .fail
  | none => (stepO P t S o).bind fun p => match p.1 with
   | .val v => (DT.ofO (put t o.dst v)).bind fun t1 => opsQO rest t1 p.2
   | _ => .fail
theorem opsQO_ok : ∀ {rest : List Oper} {t : Fr} {S : VS} {r : Fr × VS}, (opsQO P rest t S).Has r → opsQ P rest t S = some r
 | [], t, S, r, h => by rw [DT.has_done h]; rfl
 | o :: rest, t, S, r, h => by
  unfold opsQO at h
  unfold opsQ
  split at h
  ·cases h
  ·rename_i hg
   rw [hg]
   dsimp only
   obtain ⟨p, h1, h2⟩ := DT.has_bind h
   obtain ⟨v, S1⟩ := p
   rw [stepO_ok P h1]
   cases v with
   | val v =>
    obtain ⟨t1, h3, h4⟩ := DT.has_bind h2
    dsimp only
    rw [DT.has_ofO h3]
    exact opsQO_ok h4
   | _ => cases h2
def codeDO (call : CallO) (lf : Nat) (md : Md) : Code → Fr → VS → DT (Md × VEx × Fr × VS)
 | .seq a b, t, S => (codeDO call lf md a t S).bind fun p => match p.2.1 with
  | .normal => (codeO P call lf false b p.2.2.1 p.2.2.2).bind fun q => .done (p.1, q.1, q.2.1, q.2.2)
  | _ => .done p
 | .region id ops false, t, S => match ops.toList with
  | o :: rest => match recOf o with
   | true => (DT.ofO (put t o.dst (recV md))).bind fun t1 => (opsQO P rest t1 S).bind fun q => .done (.ret, .normal, q.1, q.2)
   | false => (codeO P call lf false (.region id ops false) t S).bind fun q => .done (md, q.1, q.2.1, q.2.2)
  | [] => .fail
 | c, t, S => (codeO P call lf false c t S).bind fun q => .done (md, q.1, q.2.1, q.2.2)
theorem codeDO_ok {callO : CallO} {call : CallF} (hc : ∀ f args S r, (callO f args S).Has r → call f args S = some r) {lf : Nat} {md : Md} : ∀ {c : Code} {t : Fr} {S : VS} {r : Md × VEx × Fr × VS},
  (codeDO P callO lf md c t S).Has r → codeD P call lf md c t S = some r := by
 intro c
 have dflt : ∀ {c : Code} {t : Fr} {S : VS} {r : Md × VEx × Fr × VS}, ((codeO P callO lf false c t S).bind fun q => DT.done (md, q.1, q.2.1, q.2.2)).Has r → (codeV P call lf false c t S).map (fun r => (md, r)) = some r := by
  intro c t S r h
  obtain ⟨q, h1, h2⟩ := DT.has_bind h
  rw [codeO_ok P hc lf h1, DT.has_done h2]
  rfl
 induction c with
 | seq a b iha ihb =>
  intro t S r h
  unfold codeDO at h
  unfold codeD
  obtain ⟨p, h1, h2⟩ := DT.has_bind h
  obtain ⟨md1, e, t1, S1⟩ := p
  rw [iha h1]
  cases e with
  | normal =>
   obtain ⟨q, h3, h4⟩ := DT.has_bind h2
   dsimp only
   rw [codeO_ok P hc lf h3, DT.has_done h4]
   rfl
  | exit id => rw [DT.has_done h2]
  | ret => rw [DT.has_done h2]
  | panic v => rw [DT.has_done h2]
 | region id ops draw =>
  intro t S r h
  cases draw with
  | true => unfold codeDO at h; unfold codeD; exact dflt h
  | false =>
   unfold codeDO at h
   unfold codeD
   split at h
   ·rename_i o rest hops
    rw [hops]
    dsimp only
    split at h
    ·rename_i hrec
     rw [hrec]
     dsimp only
     obtain ⟨t1, h1, h2⟩ := DT.has_bind h
     obtain ⟨q, h3, h4⟩ := DT.has_bind h2
     rw [DT.has_ofO h1]
     dsimp only
     rw [opsQO_ok P h3, DT.has_done h4]
    ·rename_i hrec
     rw [hrec]
     dsimp only
     exact dflt h
   ·cases h
 | _ => intro t S r h; unfold codeDO at h; unfold codeD; exact dflt h
def callDO (call : CallO) (lf : Nat) (md : Md) (k : FuncId) (args : List Value) (S : VS) : DT (Md × VS) := match P.funcs[k]? with
 | none => .fail
 | some fn => match fn.body with
  | none => .fail
  | some c => match Fr.of args fn.ntmps with
   | none => .fail
   | some t0 => (codeDO P call lf md c t0 S).bind fun p => match p.2.1, p.2.2.1.ds, p.2.2.1.base with
    | .normal, [], [] => (DT.ofO (leave P p.2.2.1 fn p.2.2.2)).bind fun q => .done (p.1, q.2)
    | .ret, [], [] => (DT.ofO (leave P p.2.2.1 fn p.2.2.2)).bind fun q => .done (p.1, q.2)
    | _, _, _ => .fail
theorem callDO_ok {callO : CallO} {call : CallF} (hc : ∀ f args S r, (callO f args S).Has r → call f args S = some r) {lf : Nat} {md : Md} {k : FuncId} {args : List Value} {S : VS} {r : Md × VS}
  (h : (callDO P callO lf md k args S).Has r) : callD P call lf md k args S = some r := by
 unfold callDO at h
 unfold callD
 split at h
 ·cases h
 ·rename_i fn hfn
  rw [hfn]
  dsimp only
  split at h
  ·cases h
  ·rename_i c hb
   rw [hb]
   dsimp only
   split at h
   ·cases h
   ·rename_i t0 ht0
    rw [ht0]
    dsimp only
    obtain ⟨p, h1, h2⟩ := DT.has_bind h
    obtain ⟨md1, e, t1, S1⟩ := p
    rw [codeDO_ok P hc h1]
    dsimp only at h2 ⊢
    split at h2
    ·rename_i h3 h4
     obtain ⟨q, h5, h6⟩ := DT.has_bind h2
     rw [h3, h4]
     dsimp only
     rw [DT.has_ofO h5, DT.has_done h6]
    ·rename_i h3 h4
     obtain ⟨q, h5, h6⟩ := DT.has_bind h2
     rw [h3, h4]
     dsimp only
     rw [DT.has_ofO h5, DT.has_done h6]
    ·cases h2
def runDO (call : CallO) (lf : Nat) : List (FuncId × List Value) → Md → VS → DT (Md × VS)
 | [], md, S => .done (md, S)
 | (k, args) :: l, md, S => (callDO P call lf md k args S).bind fun p => runDO call lf l p.1 p.2
theorem runDO_ok {callO : CallO} {call : CallF} (hc : ∀ f args S r, (callO f args S).Has r → call f args S = some r) {lf : Nat} : ∀ {ds : List (FuncId × List Value)} {md : Md} {S : VS} {r : Md × VS},
  (runDO P callO lf ds md S).Has r → runD P call lf ds md S = some r
 | [], md, S, r, h => by rw [DT.has_done h]; rfl
 | (k, args) :: l, md, S, r, h => by
  unfold runDO at h
  obtain ⟨p, h1, h2⟩ := DT.has_bind h
  unfold runD
  rw [callDO_ok P hc h1]
  exact runDO_ok hc h2
def endO (call : CallO) (lf : Nat) (fn : Func) (md : Md) (t : Fr) (S : VS) : DT (CRes × VS) := match t.base with
 | [] => (runDO P call lf t.ds md S).bind fun p => match p.1 with
  | .ret => DT.ofO (leave P t fn p.2)
  | .pan v => .done (.panic v, p.2)
 | _ => .fail
theorem endO_ok {callO : CallO} {call : CallF} (hc : ∀ f args S r, (callO f args S).Has r → call f args S = some r) {lf : Nat} {fn : Func} {md : Md} {t : Fr} {S : VS} {r : CRes × VS}
  (h : (endO P callO lf fn md t S).Has r) : endV P call lf fn md t S = some r := by
 unfold endO at h
 unfold endV
 split at h
 ·rename_i hb
  rw [hb]
  dsimp only
  obtain ⟨p, h1, h2⟩ := DT.has_bind h
  obtain ⟨md1, S1⟩ := p
  rw [runDO_ok P hc h1]
  cases md1 with
  | ret => exact DT.has_ofO h2
  | pan v => rw [DT.has_done h2]
 ·cases h
def funO (spO : CallO → CallO) (lf : Nat) : Nat → CallO
 | 0, _, _, _ => .fail
 | d + 1, f, args, S => match P.funcs[f]? with
  | none => .fail
  | some fn => match fn.body with
   | none => .fail
   | some c => match Fr.of args fn.ntmps with
    | none => .fail
    | some t0 => (codeO P (spO (funO spO lf d)) lf true c t0 S).bind fun p => match p.1 with
     | .normal => endO P (spO (funO spO lf d)) lf fn .ret p.2.1 p.2.2
     | .ret => endO P (spO (funO spO lf d)) lf fn .ret p.2.1 p.2.2
     | .panic v => endO P (spO (funO spO lf d)) lf fn (.pan v) p.2.1 p.2.2
     | _ => .fail
theorem funO_ok {spO : CallO → CallO} {sp : CallF → CallF} (hsp : ∀ (c : CallO) (c' : CallF), (∀ f args S r, (c f args S).Has r → c' f args S = some r) → ∀ f args S r, (spO c f args S).Has r → sp c' f args S = some r) (lf : Nat) :
  ∀ {d : Nat} {f : FuncId} {args : List Value} {S : VS} {r : CRes × VS}, (funO P spO lf d f args S).Has r → funV P sp lf d f args S = some r
 | 0, f, args, S, r, h => by cases h
 | d + 1, f, args, S, r, h => by
  unfold funO at h
  unfold funV
  split at h
  ·cases h
  ·rename_i fn hfn
   split at h
   ·cases h
   ·rename_i c hb
    split at h
    ·cases h
    ·rename_i t0 ht0
     obtain ⟨p, h1, h2⟩ := DT.has_bind h
     obtain ⟨e, t1, S1⟩ := p
     have := codeO_ok P (hsp _ _ fun f args S r h => funO_ok hsp lf h) lf h1
     rw [hfn]
     dsimp only
     rw [hb]
     dsimp only
     rw [ht0]
     dsimp only
     rw [this]
     have hcc : ∀ f args S r, (spO (funO P spO lf d) f args S).Has r → sp (funV P sp lf d) f args S = some r := hsp _ _ fun f args S r h => funO_ok hsp lf h
     cases e with
     | normal => exact endO_ok P hcc h2
     | ret => exact endO_ok P hcc h2
     | panic v => exact endO_ok P hcc h2
     | exit id => cases h2
end
end Go.Proofs.YtgepfmamfdmclaaGreatDoor.Vm
namespace Go.Proofs.YtgepfmamfdmclaaGreatDoor.Vm
open Go.RowKit
def stepP (p : Nat × Nat) : Nat × Nat := if p.1 = 0 then (p.2 + 1, 0) else (p.1 - 1, p.2 + 1)
def nthP : Nat → Nat × Nat
 | 0 => (0, 0)
 | n + 1 => stepP (nthP n)
theorem nthP_all : ∀ (s b : Nat), b ≤ s → ∃ n, nthP n = (s - b, b)
 | 0, 0, _ => ⟨0, rfl⟩
 | s + 1, 0, _ => by
  obtain ⟨n, h⟩ := nthP_all s s (Nat.le_refl s)
  exact ⟨n + 1, by simp [nthP, h, stepP]⟩
 | s, b + 1, hb => by
  obtain ⟨n, h⟩ := nthP_all s b (by omega)
  have h1 : s - b ≠ 0 := by omega
  exact ⟨n + 1, by simp [nthP, h, stepP, h1]; omega⟩
termination_by s b => (s, b)
theorem nthP_some (a b : Nat) : ∃ n, nthP n = (a, b) := by
 obtain ⟨n, h⟩ := nthP_all (a + b) b (by omega)
 exact ⟨n, by rw [h]; congr 1; omega⟩
def decW (n : Nat) : Where := ⟨(nthP (nthP n).1).1, (nthP (nthP n).1).2, (nthP (nthP n).2).1, (nthP (nthP n).2).2⟩
theorem decW_all (r : Where) : ∃ n, decW n = r := by
 obtain ⟨a, ha⟩ := nthP_some r.blk r.sh
 obtain ⟨b, hb⟩ := nthP_some r.sz r.phys
 obtain ⟨n, hn⟩ := nthP_some a b
 exact ⟨n, by simp [decW, hn, ha, hb]⟩
theorem not_small (n : Nat) : small (n + 262144) = false := by
 cases hs : small (n + 262144) with
 | false => rfl
 | true => have := small_iff.1 hs; omega
def Full (ρ : Ren) : Prop := ∀ r : Where, ∃ y, small y = false ∧ ρ y = some r
theorem list_moved {ρ ρ' : Ren} : ∀ {l l' : List Value}, l.length = l'.length → (∀ (i : Nat) (v v' : Value), l[i]? = some v → l'[i]? = some v' → ∃ u, VR ρ' u v') →
  ∃ lu : List Value, LR ρ' lu l'
 | [], [], _, _ => ⟨[], LR.nil _⟩
 | v :: l, v' :: l', hl, h => by
  obtain ⟨u, hu⟩ := h 0 v v' rfl rfl
  obtain ⟨lu, hlu⟩ := list_moved (ρ := ρ) (ρ' := ρ') (l := l) (l' := l') (by simpa using hl) fun i a b ha hb => h (i + 1) a b (by simpa using ha) (by simpa using hb)
  exact ⟨u :: lu, LR.cons hu hlu⟩
 | [], _ :: _, hl, _ => by simp at hl
 | _ :: _, [], hl, _ => by simp at hl
theorem VR.moved {ρ ρ' : Ren} (hm : ∀ x r, ρ x = some r → ∃ y, ρ' y = some r) {v v' : Value} (h : VR ρ v v') : ∃ u, VR ρ' u v' := by
 induction h with
 | scal v h => exact ⟨v, .scal v h⟩
 | ptr b off r h => obtain ⟨y, hy⟩ := hm b r h; exact ⟨_, .ptr y off r hy⟩
 | sl b off len cap cap' r h hc => obtain ⟨y, hy⟩ := hm b r h; exact ⟨_, .sl y off len cap cap' r hy hc⟩
 | slE a a' => exact ⟨_, .slE a a'⟩
 | rawP b off t => exact ⟨_, .rawP b off t⟩
 | rawS b off t len cap => exact ⟨_, .rawS b off t len cap⟩
 | map b r h => obtain ⟨y, hy⟩ := hm b r h; exact ⟨_, .map y r hy⟩
 | func fn f f' c c' h h1 h2 h3 h4 ih2 ih4 =>
  obtain ⟨lf, hf⟩ := list_moved (ρ := ρ) h1 ih2
  obtain ⟨lc, hc⟩ := list_moved (ρ := ρ) h3 ih4
  exact ⟨.func fn lf.toArray lc.toArray, .func fn _ _ _ _ h (by simpa using hf.len) (by simpa using hf.at_) (by simpa using hc.len) (by simpa using hc.at_)⟩
 | iface t v v' h ih => obtain ⟨u, hu⟩ := ih; exact ⟨.iface t u, .iface t u v' hu⟩
 | agg c c' h1 h2 ih => obtain ⟨lu, hu⟩ := list_moved (ρ := ρ) h1 ih; exact ⟨.agg lu.toArray, VR.agg_iff (by simpa using hu)⟩
 | tuple c c' h1 h2 ih => obtain ⟨lu, hu⟩ := list_moved (ρ := ρ) h1 ih; exact ⟨.tuple lu.toArray, VR.tuple_iff (by simpa using hu)⟩
theorem VR.full {ρ ρ' : Ren} (hf : Full ρ') {v v' : Value} (h : VR ρ v v') : ∃ u, VR ρ' u v' := h.moved fun x r _ => let ⟨y, _, hy⟩ := hf r; ⟨y, hy⟩
def idxN : List Nat → Nat → Option Nat
 | [], _ => none
 | y :: l, x => match Nat.beq y x with
  | true => some 0
  | false => match idxN l x with
   | some i => some (i + 1)
   | none => none
theorem idxN_some : ∀ {σ : List Nat} {x i : Nat}, idxN σ x = some i → σ[i]? = some x
 | [], x, i, h => by cases h
 | y :: l, x, i, h => by
  unfold idxN at h
  split at h
  ·rename_i hb
   cases h
   simp [Nat.eq_of_beq_eq_true hb]
  ·split at h
   ·rename_i j hj
    cases h
    simpa using idxN_some hj
   ·cases h
def rnL (f : Value → Option Value) : List Value → Option (List Value)
 | [] => some []
 | v :: l => match f v, rnL f l with
  | some u, some r => some (u :: r)
  | _, _ => none
def rnV (τ : Nat → Option Nat) : Nat → Value → Option Value
 | _, .pointer (some ⟨b, off, none⟩) => match τ b with
  | some i => some (.pointer (some ⟨i, off, none⟩))
  | none => none
 | _, .slice (some ⟨b, off, none⟩) len cap => match τ b with
  | some i => some (.slice (some ⟨i, off, none⟩) len cap)
  | none => none
 | _, .map (some b) => match τ b with
  | some i => some (.map (some i))
  | none => none
 | _, .pointer (some ⟨b, off, some t⟩) => some (.pointer (some ⟨b, off, some t⟩))
 | _, .slice (some ⟨b, off, some t⟩) len cap => some (.slice (some ⟨b, off, some t⟩) len cap)
 | d + 1, .func fn f c => match rnL (rnV τ d) f.toList, rnL (rnV τ d) c.toList with
  | some f', some c' => some (.func fn f'.toArray c'.toArray)
  | _, _ => none
 | d + 1, .iface t v => match rnV τ d v with
  | some u => some (.iface t u)
  | none => none
 | d + 1, .agg c => match rnL (rnV τ d) c.toList with
  | some c' => some (.agg c'.toArray)
  | none => none
 | d + 1, .tuple c => match rnL (rnV τ d) c.toList with
  | some c' => some (.tuple c'.toArray)
  | none => none
 | _, v => match isScal v with
  | true => some v
  | false => none
theorem rnL_ok {ρ ρ' : Ren} {f : Value → Option Value} (hf : ∀ v u v', f v = some u → VR ρ v v' → VR ρ' u v') : ∀ {l r l' : List Value}, rnL f l = some r → LR ρ l l' → LR ρ' r l'
 | [], r, l', h, hl => by cases h; rw [hl.inv_nil]; exact LR.nil _
 | v :: l, r, l', h, hl => by
  unfold rnL at h
  split at h
  ·rename_i u q hu hq
   cases h
   obtain ⟨v', l2, rfl, h1, h2⟩ := hl.inv_cons
   exact LR.cons (hf v u v' hu h1) (rnL_ok hf hq h2)
  ·cases h
theorem rnV_ok {ρ ρ' : Ren} {τ : Nat → Option Nat} (hσ : ∀ y i r, τ y = some i → ρ y = some r → ρ' i = some r) : ∀ (d : Nat) (v u v' : Value), rnV τ d v = some u → VR ρ v v' → VR ρ' u v' := by
 intro d
 induction d with
 | zero =>
  intro v u v' h hv
  unfold rnV at h
  split at h
  ·rename_i b off
   split at h
   ·rename_i i hi
    cases h
    obtain ⟨r, hr, rfl⟩ := hv.ptr_inv
    exact .ptr i off r (hσ _ _ _ hi hr)
   ·cases h
  ·rename_i b off len cap
   split at h
   ·rename_i i hi
    cases h
    cases hv with
    | scal _ h => cases h
    | sl _ _ _ _ cap' r hr hc => exact .sl i off len cap cap' r (hσ _ _ _ hi hr) hc
    | slE _ a' => exact .slE _ _
   ·cases h
  ·rename_i b
   split at h
   ·rename_i i hi
    cases h
    obtain ⟨r, hr, rfl⟩ := hv.map_inv
    exact .map i r (hσ _ _ _ hi hr)
   ·cases h
  ·rename_i b off t
   cases h
   cases hv with
   | scal _ h => cases h
   | rawP => exact .rawP _ _ _
  ·rename_i b off t len cap
   cases h
   cases hv with
   | scal _ h => cases h
   | slE _ a' => exact .slE _ _
   | rawS => exact .rawS _ _ _ _ _
  ·omega
  ·omega
  ·omega
  ·omega
  ·split at h
   ·rename_i hs
    cases h
    rw [VR.scal_inv hs hv]
    exact .scal _ hs
   ·cases h
 | succ d ih =>
  intro v u v' h hv
  unfold rnV at h
  split at h
  ·rename_i b off
   split at h
   ·rename_i i hi
    cases h
    obtain ⟨r, hr, rfl⟩ := hv.ptr_inv
    exact .ptr i off r (hσ _ _ _ hi hr)
   ·cases h
  ·rename_i b off len cap
   split at h
   ·rename_i i hi
    cases h
    cases hv with
    | scal _ h => cases h
    | sl _ _ _ _ cap' r hr hc => exact .sl i off len cap cap' r (hσ _ _ _ hi hr) hc
    | slE _ a' => exact .slE _ _
   ·cases h
  ·rename_i b
   split at h
   ·rename_i i hi
    cases h
    obtain ⟨r, hr, rfl⟩ := hv.map_inv
    exact .map i r (hσ _ _ _ hi hr)
   ·cases h
  ·rename_i b off t
   cases h
   cases hv with
   | scal _ h => cases h
   | rawP => exact .rawP _ _ _
  ·rename_i b off t len cap
   cases h
   cases hv with
   | scal _ h => cases h
   | slE _ a' => exact .slE _ _
   | rawS => exact .rawS _ _ _ _ _
  ·rename_i d' fn f c hd
   obtain rfl := Nat.succ.inj hd
   split at h
   ·rename_i f1 c1 h1 h2
    cases h
    cases hv with
    | scal _ h => cases h
    | func _ _ f' _ c' hfn a1 a2 a3 a4 =>
     have b1 := rnL_ok (fun v u v' => ih v u v') h1 (⟨a1, a2⟩ : LR ρ f.toList f'.toList)
     have b2 := rnL_ok (fun v u v' => ih v u v') h2 (⟨a3, a4⟩ : LR ρ c.toList c'.toList)
     exact .func _ _ _ _ _ hfn (by simpa using b1.len) (by simpa using b1.at_) (by simpa using b2.len) (by simpa using b2.at_)
   ·cases h
  ·rename_i hd
   obtain rfl := Nat.succ.inj hd
   split at h
   ·rename_i u1 h1
    cases h
    obtain ⟨v1, rfl, h2⟩ := hv.iface_inv
    exact .iface _ _ _ (ih _ _ _ h1 h2)
   ·cases h
  ·rename_i hd
   obtain rfl := Nat.succ.inj hd
   split at h
   ·rename_i c1 h1
    cases h
    obtain ⟨c', rfl, h2⟩ := hv.agg_inv
    exact .agg_iff (by simpa using rnL_ok (fun v u v' => ih v u v') h1 h2)
   ·cases h
  ·rename_i hd
   obtain rfl := Nat.succ.inj hd
   split at h
   ·rename_i c1 h1
    cases h
    obtain ⟨c', rfl, h2⟩ := hv.tuple_inv
    exact .tuple_iff (by simpa using rnL_ok (fun v u v' => ih v u v') h1 h2)
   ·cases h
  ·split at h
   ·rename_i hs
    cases h
    rw [VR.scal_inv hs hv]
    exact .scal _ hs
   ·cases h
theorem rnL_len {f : Value → Option Value} : ∀ {l r : List Value}, rnL f l = some r → r.length = l.length
 | [], r, h => by cases h; rfl
 | v :: l, r, h => by
  unfold rnL at h
  split at h
  ·rename_i u q hu hq
   cases h
   simp [rnL_len hq]
  ·cases h
def rnEs (σ : Nat → Option Nat) : List MapEntry → Option (List MapEntry)
 | [] => some []
 | e :: l => match rnV σ 6 e.key, rnV σ 6 e.val, rnEs σ l with
  | some k, some v, some r => some ({ e with key := k, val := v } :: r)
  | _, _, _ => none
def stabV (τ : Nat → Option Nat) : Value → Bool
 | .pointer (some ⟨b, _, none⟩) => match τ b with | some i => Nat.beq i b | none => false
 | .slice (some ⟨b, _, none⟩) _ _ => match τ b with | some i => Nat.beq i b | none => false
 | .pointer (some ⟨_, _, some _⟩) => true
 | .slice (some ⟨_, _, some _⟩) _ _ => true
 | v => isScal v
theorem stabV_ok {τ : Nat → Option Nat} {v : Value} (h : stabV τ v = true) : rnV τ 6 v = some v := by
 unfold stabV at h
 split at h
 ·split at h
  ·rename_i i hi
   have := Nat.eq_of_beq_eq_true h
   subst this
   simp only [rnV, hi]
  ·cases h
 ·split at h
  ·rename_i i hi
   have := Nat.eq_of_beq_eq_true h
   subst this
   simp only [rnV, hi]
  ·cases h
 ·simp only [rnV]
 ·simp only [rnV]
 ·unfold isScal at h
  split at h <;> first | rfl | cases h
def stabE (τ : Nat → Option Nat) (e : MapEntry) : Value := match stabV τ e.key && stabV τ e.val with
 | true => .bool true
 | false => .tuple #[]
theorem stabEs_ok {τ : Nat → Option Nat} : ∀ {es : List MapEntry}, (es.map (stabE τ)).all isScal = true → rnEs τ es = some es
 | [], _ => rfl
 | e :: l, h => by
  simp only [List.map_cons, List.all_cons, Bool.and_eq_true] at h
  have h1 : (stabV τ e.key && stabV τ e.val) = true := by
   have := h.1
   unfold stabE at this
   split at this
   ·assumption
   ·cases this
  rw [Bool.and_eq_true] at h1
  unfold rnEs
  rw [stabV_ok h1.1, stabV_ok h1.2, stabEs_ok h.2]
inductive ON (σ : Nat → Option Nat) : VObj → VObj → Prop where
 | plain (c : List Value) (el : TypeId) (ro : Bool) (h : c.all isScal = true) : ON σ (.cells c el ro) (.cells c el ro)
 | cells (c c' : List Value) (el : TypeId) (ro : Bool) (h : rnL (rnV σ 6) c = some c') : ON σ (.cells c el ro) (.cells c' el ro)
 | map (es es' : List MapEntry) (clock : Nat) (h : rnEs σ es = some es') : ON σ (.map es clock) (.map es' clock)
 | siter (s : ByteArray) (pos : Nat) : ON σ (.siter s pos) (.siter s pos)
 | rows (n size : Nat) (row : Nat → List SV) : ON σ (.rows n size row) (.rows n size row)
 | abs (d : AbsD) : ON σ (.abs d) (.abs d)
 | dead (o : VObj) : ON σ o .dead
theorem rnEs_ok {ρ ρ' : Ren} {σ : Nat → Option Nat} (hσ : ∀ y i r, σ y = some i → ρ y = some r → ρ' i = some r) : ∀ {es es1 : List MapEntry} {es' : List MapEntry}, rnEs σ es = some es1 → es.length = es'.length →
  (∀ (i : Nat) (e e' : MapEntry), es[i]? = some e → es'[i]? = some e' → EntryR ρ e e') → es1.length = es'.length ∧ ∀ (i : Nat) (e e' : MapEntry), es1[i]? = some e → es'[i]? = some e' → EntryR ρ' e e'
 | [], es1, es', h, hl, hr => by cases h; exact ⟨hl, fun i e e' h => by simp at h⟩
 | e :: es, es1, [], h, hl, hr => by simp at hl
 | e :: es, es1, e' :: es', h, hl, hr => by
  unfold rnEs at h
  split at h
  ·rename_i k v r hk hv hq
   cases h
   obtain ⟨h1, h2⟩ := rnEs_ok hσ hq (by simpa using hl) fun i a b ha hb => hr (i + 1) a b (by simpa using ha) (by simpa using hb)
   have h0 := hr 0 e e' rfl rfl
   refine ⟨by simp [h1], fun i a b ha hb => ?_⟩
   cases i with
   | zero =>
    simp only [List.getElem?_cons_zero, Option.some.injEq] at ha hb
    subst ha hb
    exact ⟨rnV_ok hσ _ _ _ _ hk h0.key, rnV_ok hσ _ _ _ _ hv h0.val, h0.born⟩
   | succ i => exact h2 i a b (by simpa using ha) (by simpa using hb)
  ·cases h
theorem ON.or {P : Program} {ρ ρ' : Ren} {σ : Nat → Option Nat} (hσ : ∀ y i r, σ y = some i → ρ y = some r → ρ' i = some r) {ob o : VObj} (h : ON σ ob o) {r : Where} (hl : Live o r = true) : (∀ o', OR P ρ r ob o' → OR P ρ' r o o') := by
 intro o' ho
 cases h with
 | plain c el ro hc =>
  cases ho with
  | cells _ _ el' _ c' fr hx hp hs he hz hf hcc =>
   refine .cells c el el' ro c' fr hx hp hs he hz hf fun i v hv => ?_
   obtain ⟨v', a, b⟩ := hcc i v hv
   have hsc := List.all_eq_true.1 hc v (List.mem_of_getElem? hv)
   have := VR.scal_inv hsc b
   subst this
   exact ⟨_, a, .scal _ hsc⟩
 | cells c c1 el ro hc =>
  cases ho with
  | cells _ _ el' _ c' fr hx hp hs he hz hf hcc =>
   have hlen := rnL_len hc
   refine .cells c1 el el' ro c' fr hx hp (by rw [hlen]; exact hs) he hz hf ?_
   have hlr : LR ρ c ((List.range c.length).map fun i => (c'[r.sh + i]?).getD undef) := by
    refine ⟨by simp, fun i v v' hv hv' => ?_⟩
    obtain ⟨v2, a, b⟩ := hcc i v hv
    have hi : i < c.length := (List.getElem?_eq_some_iff.1 hv).1
    rw [List.getElem?_map, List.getElem?_range hi] at hv'
    simp only [Option.map_some, Option.some.injEq, a, Option.getD_some] at hv'
    rw [← hv']
    exact b
   have h2 := rnL_ok (rnV_ok hσ 6) hc hlr
   intro i v hv
   obtain ⟨v', b1, b2⟩ := h2.get hv
   have hi : i < c.length := by rw [← hlen]; exact (List.getElem?_eq_some_iff.1 hv).1
   rw [List.getElem?_map, List.getElem?_range hi] at b1
   simp only [Option.map_some, Option.some.injEq] at b1
   have hin : r.sh + i < c'.size := by omega
   rw [Array.getElem?_eq_getElem hin] at b1
   simp only [Option.getD_some] at b1
   exact ⟨_, Array.getElem?_eq_getElem hin, by rw [b1]; exact b2⟩
 | map es es1 clock hes =>
  cases ho with
  | map _ es' _ h1 h2 =>
   obtain ⟨h3, h4⟩ := rnEs_ok hσ hes h1 h2
   exact .map es1 es' clock h3 h4
 | siter s pos => cases ho; exact .siter s pos
 | rows n size row => cases hl
 | abs d => cases hl
 | dead => cases hl
theorem ON.ne {σ : Nat → Option Nat} {ob o : VObj} (h : ON σ ob o) (hne : o ≠ .dead) : ob ≠ .dead := by
 cases h <;> first | exact absurd rfl hne | (intro e; cases e)
theorem ON.live {σ : Nat → Option Nat} {ob o : VObj} (h : ON σ ob o) {r : Where} (hl : Live o r = true) : Live ob r = true ∧ (o.ro = false → ob.ro = false) := by
 cases h with
 | plain => exact ⟨hl, fun h => h⟩
 | cells c c1 el ro hc =>
  refine ⟨?_, fun h => h⟩
  cases c with
  | nil => cases hc; exact hl
  | cons v c => rfl
 | map => exact ⟨rfl, fun h => h⟩
 | siter => exact ⟨rfl, fun h => h⟩
 | rows => cases hl
 | abs => cases hl
 | dead => cases hl
theorem WR.recast {P : Program} {B : Nat → Prop} {w₀ w : World} {ρ ρ' : Ren} {m m' : Nat → Option VObj} (h : WR P B w₀ ρ m w) (σ : Nat → Option Nat)
  (hm : ∀ x o, m' x = some o → o ≠ .dead → ∃ y ob, σ x = some y ∧ m y = some ob ∧ ob ≠ .dead ∧ ρ' x = ρ y ∧ (∀ r, Live o r = true → Live ob r = true ∧ (o.ro = false → ob.ro = false) ∧ ∀ o', OR P ρ r ob o' → OR P ρ' r o o') ∧
   (∀ n size row, o = .rows n size row → ob = o) ∧ (∀ el ro, o = .cells [] el ro → ob = o) ∧ ∀ d, o = .abs d → ob = o)
  (hinj : ∀ x y z, σ x = some z → σ y = some z → x = y) (hfresh : ∀ x, m' x = none → ρ' x = none) : WR P B w₀ ρ' m' w where
 env := h.env
 below := h.below
 size := h.size
 live := by
  intro x o r hx hr hl
  obtain ⟨y, ob, h1, h2, _, h3, h4, _⟩ := hm x o hx (by rintro rfl; cases hl)
  obtain ⟨h5, h6, h7⟩ := h4 r hl
  obtain ⟨o', h8, h9, h10⟩ := h.live y ob r h2 (h3 ▸ hr) h5
  exact ⟨o', h8, h7 o' h9, fun e => h10 (h6 e)⟩
 inj := by
  intro x y ox oy rx ry hx hy hrx hry hlx hly hd he
  obtain ⟨a, oa, a1, a2, _, a3, a4, _⟩ := hm x ox hx (by rintro rfl; cases hlx)
  obtain ⟨b, ob, b1, b2, _, b3, b4, _⟩ := hm y oy hy (by rintro rfl; cases hly)
  obtain ⟨a5, a6, _⟩ := a4 rx hlx
  obtain ⟨b5, b6, _⟩ := b4 ry hly
  have := h.inj a b oa ob rx ry a2 b2 (a3 ▸ hrx) (b3 ▸ hry) a5 b5 (hd.imp a6 b6) he
  subst this
  exact hinj x y a a1 b1
 fresh := hfresh
 rows := by
  intro x n size row hx
  obtain ⟨y, ob, h1, h2, _, h3, _, h5, _⟩ := hm x _ hx (by intro e; cases e)
  rw [h5 n size row rfl] at h2
  obtain ⟨r, h6, h7⟩ := h.rows y n size row h2
  exact ⟨r, by rw [h3, h6], h7⟩
 nil := by
  intro x el ro r hx hr
  obtain ⟨y, ob, h1, h2, _, h3, _, _, h5, _⟩ := hm x _ hx (by intro e; cases e)
  rw [h5 el ro rfl] at h2
  exact h.nil y el ro r h2 (h3 ▸ hr)
 named := by
  intro x o hx hne
  obtain ⟨y, ob, h1, h2, h3, h4, _⟩ := hm x o hx hne
  rw [h4]
  exact h.named y ob h2 h3
 abs := by
  obtain ⟨F, a1, a2, a3⟩ := h.abs
  refine ⟨fun x k => ∃ y d, σ x = some y ∧ m' x = some (.abs d) ∧ F y k, fun x d hx => ?_, ?_, ?_⟩
  ·obtain ⟨y, ob, h1, h2, _, h3, _, _, _, h5⟩ := hm x _ hx (by intro e; cases e)
   rw [h5 d rfl] at h2
   obtain ⟨r, S, c, e, f⟩ := a1 y d h2
   exact ⟨r, S, by rw [h3, c], e, fun k hk => ⟨y, d, h1, hx, f k hk⟩⟩
  ·rintro x k ⟨y, d, g1, g2, g3⟩
   obtain ⟨_, b2, b3, b4⟩ := a2 y k g3
   refine ⟨⟨d, g2⟩, b2, b3, fun z o r hz hr hl => ?_⟩
   obtain ⟨y2, ob, h1, h2, _, h3, h4, _⟩ := hm z o hz (by rintro rfl; cases hl)
   exact b4 y2 ob r h2 (h3 ▸ hr) (h4 r hl).1
  ·rintro x1 x2 k ⟨y1, _, g1, _, g3⟩ ⟨y2, _, q1, _, q3⟩
   have := a3 y1 y2 k g3 q3
   subst this
   exact hinj x1 x2 y1 g1 q1
def setsO : List VObj → Nat → Tr VObj → Tr VObj
 | [], _, t => t
 | o :: l, i, t => setsO l (i + 1) (Tr.set 18 t i o)
def vsOf (l : List VObj) : VS := ⟨setsO l 0 .nil, l.length, [], []⟩
theorem setsO_gt : ∀ (l : List VObj) (i : Nat) (t : Tr VObj) (x : Nat), i + l.length ≤ 262144 → gt (setsO l i t) x = if i ≤ x ∧ x < i + l.length then l[x - i]? else gt t x
 | [], i, t, x, h => by
  rw [if_neg (by simp only [List.length_nil]; omega)]; rfl
 | o :: l, i, t, x, h => by
  simp only [List.length_cons] at h
  show gt (setsO l (i + 1) (Tr.set 18 t i o)) x = _
  rw [setsO_gt l (i + 1) _ x (by omega), gt_set (small_iff.2 (by omega))]
  simp only [List.length_cons]
  by_cases h1 : x = i
  ·subst h1
   rw [if_neg (by omega), upd_same, if_pos (by omega), Nat.sub_self]; rfl
  ·rw [upd_other _ h1]
   by_cases h2 : i ≤ x ∧ x < i + (l.length + 1)
   ·rw [if_pos (by omega), if_pos h2, show x - i = x - (i + 1) + 1 by omega]; rfl
   ·rw [if_neg (by omega), if_neg h2]
theorem gt_nil (x : Nat) : gt (.nil : Tr VObj) x = none := by
 unfold gt
 split
 ·rw [Tr.get_nil]
 ·rfl
theorem gt_vsOf {l : List VObj} (h : l.length ≤ 262144) (x : Nat) : gt (vsOf l).mem x = l[x]? := by
 show gt (setsO l 0 .nil) x = _
 rw [setsO_gt l 0 .nil x (by omega), gt_nil]
 by_cases hx : x < l.length
 ·rw [if_pos (by omega), Nat.sub_zero]
 ·rw [if_neg (by omega), List.getElem?_eq_none (by omega)]
def memOf (objs : List VObj) : Nat → Option VObj := fun x => match small x with
 | true => objs[x]?
 | false => some .dead
theorem memOf_small {objs : List VObj} {x : Nat} (h : small x = true) : memOf objs x = objs[x]? := by unfold memOf; rw [h]
theorem memOf_great {objs : List VObj} {x : Nat} (h : small x = false) : memOf objs x = some .dead := by unfold memOf; rw [h]
abbrev frOf (vals : List Value) : Fr := ⟨Fr.sets vals 0 .nil, vals.length, [], []⟩
def valsU (n : Nat) (u : Nat → Value) (l : List (Nat × Value)) : List Value := l.foldl (fun L p => L.set p.1 p.2) ((List.range n).map u)
def frU (n : Nat) (u : Nat → Value) (l : List (Nat × Value)) : Fr := frOf (valsU n u l)
theorem FR.of_list {ρ : Ren} {vals : List Value} {a : Act} {b : List Deferred} (h : LR ρ vals a.tmps.toList) (hd : a.defers = b) (hn : vals.length ≤ 1024) : FR ρ ((frOf vals).rebase b) a := by
 have hlen : vals.length = a.tmps.size := by have := h.len; simpa using this
 refine ⟨hlen.symm, hn, fun i => ?_, by rw [hd]; exact .nil⟩
 show VR ρ (Fr.at ⟨Fr.sets vals 0 .nil, vals.length, [], []⟩ i) _
 unfold Fr.at
 dsimp only
 by_cases hi : i < vals.length
 ·rw [blt_iff.2 hi]
  dsimp only
  rw [Fr.sets_get (by omega) (by omega), if_pos (by omega), Nat.sub_zero]
  obtain ⟨v', h1, h2⟩ := h.get (List.getElem?_eq_getElem hi)
  rw [List.getElem?_eq_getElem hi, Array.getD_eq_getD_getElem?]
  have h3 : a.tmps[i]? = some v' := by simpa using h1
  rw [h3]
  exact h2
 ·have hb : Nat.blt i vals.length = false := by cases hb : Nat.blt i vals.length with
   | false => rfl
   | true => exact absurd (blt_iff.1 hb) hi
  rw [hb]
  dsimp only
  rw [Array.getD_eq_getD_getElem?, Array.getElem?_eq_none (by omega)]
  exact VR.undef ρ
theorem LR.set {ρ : Ren} {l l' : List Value} (h : LR ρ l l') {i : Nat} {v v' : Value} (hv' : l'[i]? = some v') (hv : VR ρ v v') : LR ρ (l.set i v) l' :=
 ⟨by simp [h.len], fun k u u' hu hu' => by
  by_cases e : k = i
  ·subst e
   have hk : k < l.length := by rw [h.len]; exact (List.getElem?_eq_some_iff.1 hu').1
   rw [List.getElem?_set_self hk] at hu
   cases hu
   rw [hv'] at hu'
   cases hu'
   exact hv
  ·rw [List.getElem?_set_ne (Ne.symm e)] at hu
   exact h.at_ k u u' hu hu'⟩
theorem foldset_len : ∀ (l : List (Nat × Value)) (L : List Value), (l.foldl (fun L p => L.set p.1 p.2) L).length = L.length
 | [], L => rfl
 | p :: l, L => by rw [List.foldl_cons, foldset_len l, List.length_set]
theorem foldset_LR {ρ : Ren} {L' : List Value} : ∀ (l : List (Nat × Value)) (L : List Value), LR ρ L L' → (∀ p ∈ l, ∃ v', L'[p.1]? = some v' ∧ VR ρ p.2 v') → LR ρ (l.foldl (fun L p => L.set p.1 p.2) L) L'
 | [], L, h, _ => h
 | p :: l, L, h, hl => by
  rw [List.foldl_cons]
  obtain ⟨v', h1, h2⟩ := hl p List.mem_cons_self
  exact foldset_LR l _ (h.set h1 h2) fun q hq => hl q (List.mem_cons_of_mem _ hq)
theorem FR.make {ρ : Ren} {a : Act} {n : Nat} {b : List Deferred} (hsz : a.tmps.size = n) (hn : n ≤ 1024) (hd : a.defers = b) (hok : ∀ i, ∃ u, VR ρ u (a.tmps.getD i undef)) {l : List (Nat × Value)}
  (hl : ∀ p ∈ l, p.1 < n ∧ VR ρ p.2 (a.tmps.getD p.1 undef)) : ∃ u : Nat → Value, FR ρ ((frU n u l).rebase b) a := by
 refine ⟨fun i => Classical.choose (hok i), ?_⟩
 have at_ : ∀ i, i < n → a.tmps.toList[i]? = some (a.tmps.getD i undef) := fun i hi => by
  rw [Array.getElem?_toList, Array.getD_eq_getD_getElem?, Array.getElem?_eq_getElem (by omega)]; rfl
 refine FR.of_list (foldset_LR l _ ⟨by simp [hsz], fun i v v' hv hv' => ?_⟩ fun p hp => ⟨_, at_ _ (hl p hp).1, (hl p hp).2⟩) hd (by unfold valsU; rw [foldset_len]; simpa using hn)
 have hi : i < n := by simpa using (List.getElem?_eq_some_iff.1 hv).1
 rw [List.getElem?_map, List.getElem?_range hi] at hv
 simp only [Option.map_some, Option.some.injEq] at hv
 rw [at_ i hi] at hv'
 cases hv'
 rw [← hv]
 exact Classical.choose_spec (hok i)
structure Desc where
 sl : List (Nat × Value)
 objs : List VObj
structure Ctx where
 B : Nat → Prop
 w₀ : World
 k : Nat
 ρ₀ : Ren
 n : Nat
 named : ∀ x, x < k → ∃ r, ρ₀ x = some r
def coll (D : Nat) : Deferred := { target := .collected D, args := #[] }
structure Hd (P : Program) (X : Ctx) (d : Desc) (ρ : Ren) (u : Nat → Value) (M : List Nat) (a : Act) (w : World) : Prop where
 full : Full ρ
 kept : ∀ x, x < X.k → ρ x = X.ρ₀ x
 fr : FR ρ ((frU X.n u d.sl).rebase (M.map coll)) a
 mem : WR P X.B X.w₀ ρ (memOf d.objs) w
 few : d.objs.length ≤ 262144
 quiet : ∀ D ∈ M, w.heap[D]? = some (.deferred (some []))
 once : M.Nodup
 outside : ∀ D ∈ M, ¬ X.B D
def Holds (P : Program) (X : Ctx) (d : Desc) (a : Act) (w : World) : Prop := ∃ ρ u M, Hd P X d ρ u M a w
inductive All2 {α β : Type} (R : α → β → Prop) : List α → List β → Prop where
 | nil : All2 R [] []
 | cons {a : α} {b : β} {l : List α} {l' : List β} (h : R a b) (t : All2 R l l') : All2 R (a :: l) (b :: l')
theorem All2.len {α β : Type} {R : α → β → Prop} {l : List α} {l' : List β} (h : All2 R l l') : l.length = l'.length := by
 induction h with
 | nil => rfl
 | cons _ _ ih => simp [ih]
theorem All2.get {α β : Type} {R : α → β → Prop} {l : List α} {l' : List β} (h : All2 R l l') : ∀ {i : Nat} {b : β}, l'[i]? = some b → ∃ a, l[i]? = some a ∧ R a b := by
 induction h with
 | nil => intro i b hb; simp at hb
 | cons h t ih =>
  intro i b hb
  cases i with
  | zero => simp only [List.getElem?_cons_zero, Option.some.injEq] at hb; subst hb; exact ⟨_, rfl, h⟩
  | succ i => simpa using ih (by simpa using hb)
def keepOk : Nat → List Nat → Nat → Bool
 | 0, _, _ => true
 | k + 1, y :: l, i => Nat.beq y i && keepOk k l (i + 1)
 | _ + 1, [], _ => false
theorem keepOk_get : ∀ {k i : Nat} {l : List Nat}, keepOk k l i = true → ∀ x, x < k → l[x]? = some (i + x)
 | 0, i, l, h, x, hx => by omega
 | k + 1, i, y :: l, h, x, hx => by
  simp only [keepOk, Bool.and_eq_true] at h
  cases x with
  | zero => simp [Nat.eq_of_beq_eq_true h.1]
  | succ x => simpa [show i + 1 + x = i + (x + 1) by omega] using keepOk_get h.2 x (by omega)
 | k + 1, i, [], h, x, hx => by cases h
def nodupB : List Nat → Bool
 | [] => true
 | y :: l => !(l.any (Nat.beq y)) && nodupB l
theorem nodupB_get : ∀ {l : List Nat}, nodupB l = true → ∀ {x y z : Nat}, l[x]? = some z → l[y]? = some z → x = y
 | [], h, x, y, z, hx, hy => by simp at hx
 | a :: l, h, x, y, z, hx, hy => by
  simp only [nodupB, Bool.and_eq_true, Bool.not_eq_true', List.any_eq_false] at h
  have hne : ∀ i, l[i]? ≠ some a := fun i hi => by
   have := h.1 a (List.mem_of_getElem? hi)
   simp at this
  cases x with
  | zero =>
   simp only [List.getElem?_cons_zero, Option.some.injEq] at hx
   subst hx
   cases y with
   | zero => rfl
   | succ y => exact absurd (by simpa using hy) (hne y)
  | succ x =>
   cases y with
   | zero =>
    simp only [List.getElem?_cons_zero, Option.some.injEq] at hy
    subst hy
    exact absurd (by simpa using hx) (hne x)
   | succ y => exact congrArg (· + 1) (nodupB_get h.2 (x := x) (y := y) (z := z) (by simpa using hx) (by simpa using hy))
def rnS (σ : Nat → Option Nat) : List Nat → List Value → Option (List (Nat × Value))
 | [], [] => some []
 | i :: l, v :: vs => match rnV σ 6 v, rnS σ l vs with
  | some u, some r => some ((i, u) :: r)
  | _, _ => none
 | _, _ => none
theorem rnS_mem {σ : Nat → Option Nat} : ∀ {sl : List Nat} {vs : List Value} {r : List (Nat × Value)}, rnS σ sl vs = some r → ∀ p ∈ r, ∃ (j : Nat) (v : Value), sl[j]? = some p.1 ∧ vs[j]? = some v ∧ rnV σ 6 v = some p.2
 | [], [], r, h, p, hp => by cases h; cases hp
 | i :: l, v :: vs, r, h, p, hp => by
  unfold rnS at h
  split at h
  ·rename_i u q hu hq
   cases h
   rcases List.mem_cons.1 hp with rfl | hp
   ·exact ⟨0, v, rfl, rfl, hu⟩
   ·obtain ⟨j, v', h1, h2, h3⟩ := rnS_mem hq p hp
    exact ⟨j + 1, v', by simpa using h1, by simpa using h2, h3⟩
  ·cases h
 | [], _ :: _, r, h, p, hp => by cases h
 | _ :: _, [], r, h, p, hp => by cases h
theorem Holds.of_raw {P : Program} {X : Ctx} {ρ ρ' : Ren} {m : Nat → Option VObj} {t : Fr} {M : List Nat} {a : Act} {w : World} (hfull : Full ρ) (hle : ρ.le ρ') (hk : ∀ x, x < X.k → ρ x = X.ρ₀ x)
  (hfr : FR ρ' t a) (htn : t.n = X.n) (htd : t.ds = []) (htb : t.base = M.map coll) (hquiet : ∀ D ∈ M, w.heap[D]? = some (.deferred (some []))) (honce : M.Nodup) (hout : ∀ D ∈ M, ¬ X.B D) (hw : WR P X.B X.w₀ ρ' m w) {sl : List Nat} {vals : List Value} (hsl : sl.map t.at = vals) {bl : List (Nat × VObj)} (hbl : ∀ p ∈ bl, m p.1 = some p.2) {d : Desc}
  (hkeep : keepOk X.k (bl.map (·.1)) 0 = true) (hnd : nodupB (bl.map (·.1)) = true) (hvs : rnS (idxN (bl.map (·.1))) sl vals = some d.sl) (hob : All2 (ON (idxN (bl.map (·.1)))) (bl.map (·.2)) d.objs)
  (hsln : sl.all (fun i => Nat.blt i X.n) = true) (hfew : Nat.ble d.objs.length 262144 = true) : Holds P X d a w := by
 subst hsl
 let σ : List Nat := bl.map (·.1)
 let ρ2 : Ren := fun x => match small x with
  | true => (σ[x]?).bind ρ'
  | false => ρ' x
 have hsm : ∀ x, small x = true → ρ2 x = (σ[x]?).bind ρ' := fun x h => by show (match small x with | true => _ | false => _) = _; rw [h]
 have hgr : ∀ x, small x = false → ρ2 x = ρ' x := fun x h => by show (match small x with | true => _ | false => _) = _; rw [h]
 have hfew' := Nat.le_of_ble_eq_true hfew
 have hlen : bl.length = d.objs.length := by have := hob.len; simpa using this
 have hfull2 : Full ρ2 := fun r => by
  obtain ⟨y, h1, h2⟩ := hfull r
  exact ⟨y, h1, by rw [hgr y h1]; exact hle _ _ h2⟩
 have hσsm : ∀ i y, σ[i]? = some y → small i = true := fun i y h => small_iff.2 (by
  have : i < σ.length := (List.getElem?_eq_some_iff.1 h).1
  have e : σ.length = bl.length := by simp [σ]
  have : (2 : Nat) ^ 18 = 262144 := rfl
  omega)
 have hσ : ∀ i y r, σ[i]? = some y → ρ' y = some r → ρ2 i = some r := fun i y r h1 h2 => by rw [hsm i (hσsm i y h1), h1]; exact h2
 have hσ' : ∀ y i r, idxN σ y = some i → ρ' y = some r → ρ2 i = some r := fun y i r h1 h2 => hσ i y r (idxN_some h1) h2
 obtain ⟨u, hu⟩ : ∃ u : Nat → Value, FR ρ2 ((frU X.n u d.sl).rebase (M.map coll)) a := by
  refine FR.make (by rw [hfr.size, htn]) (by rw [← htn]; exact hfr.small) ((hfr.none_left htd).trans htb) (fun i => (hfr.at_ i).full hfull2) fun p hp => ?_
  obtain ⟨j, v, h1, h2, h3⟩ := rnS_mem hvs p hp
  rw [List.getElem?_map, h1] at h2
  simp only [Option.map_some, Option.some.injEq] at h2
  subst h2
  exact ⟨blt_iff.1 (List.all_eq_true.1 hsln p.1 (List.mem_of_getElem? h1)), rnV_ok hσ' 6 _ _ _ h3 (hfr.at_ p.1)⟩
 refine ⟨ρ2, u, M, hfull2, fun x hx => ?_, hu, ?_, hfew', hquiet, honce, hout⟩
 ·have := keepOk_get hkeep x hx
  rw [Nat.zero_add] at this
  obtain ⟨r, hr⟩ := X.named x hx
  rw [hσ x x r this (hle _ _ ((hk x hx).trans hr)), hr]
 ·have hbi : ∀ (i : Nat) (o : VObj), d.objs[i]? = some o → ∃ y ob, σ[i]? = some y ∧ m y = some ob ∧ ON (idxN σ) ob o := fun i o hi => by
   obtain ⟨ob, h1, h2⟩ := hob.get hi
   rw [List.getElem?_map] at h1
   cases hb : bl[i]? with
   | none => rw [hb] at h1; cases h1
   | some p =>
    rw [hb] at h1
    simp only [Option.map_some, Option.some.injEq] at h1
    subst h1
    exact ⟨p.1, p.2, by simp [σ, hb], hbl p (List.mem_of_getElem? hb), h2⟩
  refine hw.recast (fun x => match small x with
   | true => σ[x]?
   | false => none) (fun x o hx hne => ?_) (fun x y z hx hy => ?_) fun x hx => ?_
  ·cases hs : small x with
   | false => rw [memOf_great hs] at hx; cases hx; exact absurd rfl hne
   | true =>
    rw [memOf_small hs] at hx
    obtain ⟨y, ob, h1, h2, h3⟩ := hbi x o hx
    refine ⟨y, ob, h1, h2, h3.ne hne, ?_, fun r hl => ⟨(h3.live hl).1, (h3.live hl).2, h3.or hσ' hl⟩, fun n size row e => ?_, fun el ro e => ?_, fun d e => ?_⟩
    ·rw [hsm x hs, h1]; rfl
    ·subst e; cases h3; rfl
    ·subst e
     cases h3 with
     | plain => rfl
     | cells c _ _ _ h =>
      cases c with
      | nil => rfl
      | cons v c => have := rnL_len h; simp at this
    ·subst e; cases h3; rfl
  ·have key : ∀ q, (match small q with | true => σ[q]? | false => none) = some z → σ[q]? = some z := fun q hq => by
    cases hs : small q with
    | true => rw [hs] at hq; exact hq
    | false => rw [hs] at hq; cases hq
   exact nodupB_get hnd (key x hx) (key y hy)
  ·cases hs : small x with
   | false => rw [memOf_great hs] at hx; cases hx
   | true =>
    rw [memOf_small hs] at hx
    rw [hsm x hs]
    have : σ[x]? = none := by
     rw [List.getElem?_eq_none_iff] at hx ⊢
     simp [σ]
     omega
    rw [this]
    rfl
def flat2 : Code → List Code
 | .seq a b => flat2 a ++ flat2 b
 | c => [c]
def wpL (P : Program) : List Code → (Exit → Act → World → Prop) → Act → World → Prop
 | [], Q, a, w => Q .normal a w
 | c :: l, Q, a, w => c.wp P (Exit.then (wpL P l Q) Q) a w
theorem wpL_mono {P : Program} : ∀ {l : List Code} {Q Q' : Exit → Act → World → Prop} {a : Act} {w : World}, wpL P l Q a w → (∀ e a w, Q e a w → Q' e a w) → wpL P l Q' a w
 | [], Q, Q', a, w, h, hq => hq _ _ _ h
 | c :: l, Q, Q', a, w, h, hq => wp_mono h fun e a w he => by
  cases e with
  | normal => exact wpL_mono he hq
  | _ => exact hq _ _ _ he
theorem wpL_append {P : Program} : ∀ {l l' : List Code} {Q : Exit → Act → World → Prop} {a : Act} {w : World}, wpL P l (Exit.then (wpL P l' Q) Q) a w → wpL P (l ++ l') Q a w
 | [], l', Q, a, w, h => h
 | c :: l, l', Q, a, w, h => wp_mono h fun e a w he => by
  cases e with
  | normal => exact wpL_append he
  | _ => exact he
theorem wp_of_flat {P : Program} : ∀ {c : Code} {Q : Exit → Act → World → Prop} {a : Act} {w : World}, wpL P (flat2 c) Q a w → c.wp P Q a w := by
 intro c
 induction c with
 | seq a b iha ihb =>
  intro Q t w h
  have h : wpL P (flat2 a ++ flat2 b) Q t w := h
  refine wp_seq (iha ?_)
  -- take apart what stands one behind the other
  have key : ∀ (l l' : List Code) (Q : Exit → Act → World → Prop) (t : Act) (w : World), wpL P (l ++ l') Q t w → wpL P l (Exit.then (wpL P l' Q) Q) t w := by
   intro l
   induction l with
   | nil => intro l' Q t w h; exact h
   | cons c l ih =>
    intro l' Q t w h
    refine wp_mono (show c.wp P (Exit.then (wpL P (l ++ l') Q) Q) t w from h) fun e t w he => ?_
    cases e with
    | normal => exact ih l' Q t w he
    | _ => exact he
  refine wpL_mono (key _ _ _ _ _ h) fun e t w he => ?_
  cases e with
  | normal => exact ihb he
  | _ => exact he
 | _ =>
  intro Q t w h
  refine wp_mono (show Code.wp P _ (Exit.then (wpL P [] Q) Q) t w from h) fun e t w he => ?_
  cases e <;> exact he
def codesO (P : Program) (call : CallO) (lf : Nat) : List Code → Fr → VS → DT (VEx × Fr × VS)
 | [], t, S => .done (.normal, t, S)
 | c :: l, t, S => (codeO P call lf false c t S).bind fun p => match p.1 with
  | .normal => codesO P call lf l p.2.1 p.2.2
  | _ => .done p
def codesV (P : Program) (call : CallF) (lf : Nat) : List Code → Fr → VS → Option (VEx × Fr × VS)
 | [], t, S => some (.normal, t, S)
 | c :: l, t, S => match codeV P call lf false c t S with
  | some (.normal, t1, S1) => codesV P call lf l t1 S1
  | r => r
structure CallsOk (P : Program) (cO : CallO) : Prop where
 ex : ∃ cV : CallF, CallOk P cV ∧ ∀ f args S r, (cO f args S).Has r → cV f args S = some r
theorem codesO_ok {P : Program} {callO : CallO} {call : CallF} (hc : ∀ f args S r, (callO f args S).Has r → call f args S = some r) (lf : Nat) : ∀ {l : List Code} {t : Fr} {S : VS} {r : VEx × Fr × VS},
  (codesO P callO lf l t S).Has r → codesV P call lf l t S = some r
 | [], t, S, r, h => by rw [DT.has_done h]; rfl
 | c :: l, t, S, r, h => by
  unfold codesO at h
  obtain ⟨p, h1, h2⟩ := DT.has_bind h
  obtain ⟨e, t1, S1⟩ := p
  unfold codesV
  rw [codeO_ok P hc lf h1]
  cases e with
  | normal => exact codesO_ok hc lf h2
  | exit id => rw [DT.has_done h2]
  | ret => rw [DT.has_done h2]
  | panic v => rw [DT.has_done h2]
theorem codesV_ext {P : Program} {call : CallF} (hc : CallOk P call) (lf : Nat) : ∀ {l : List Code} {t t1 : Fr} {S S1 : VS} {x : VEx}, codesV P call lf l t S = some (x, t1, S1) → Ext S S1
 | [], t, t1, S, S1, x, h => by
  simp only [codesV, Option.some.injEq, Prod.mk.injEq] at h
  obtain ⟨_, _, rfl⟩ := h
  exact Ext.refl S
 | c :: l, t, t1, S, S1, x, h => by
  unfold codesV at h
  split at h
  ·rename_i t2 S2 hx
   exact (codeV_ext hc lf hx).trans (codesV_ext hc lf h)
  ·exact codeV_ext hc lf h
theorem codesV_ok {P : Program} (hP : plainNames P = true) (hmix : P.follows .mixedOrders = true) {call : CallF} (hc : CallOk P call) (lf : Nat) : ∀ {l : List Code} {t t1 : Fr} {S S1 : VS} {x : VEx}, codesV P call lf l t S = some (x, t1, S1) →
  ∀ {B : Nat → Prop} {w₀ : World} {ρ : Ren} {m : Nat → Option VObj} {w : World} {a : Act}, FR ρ t a → WR P B w₀ ρ m w → Agree S S1 m →
  ∀ {Q : Exit → Act → World → Prop}, (∀ (ρ' : Ren) (e : Exit) (a' : Act) (w' : World), ρ.le ρ' → XR ρ' x e → FR ρ' t1 a' → WR P B w₀ ρ' (post m S1) w' → Q e a' w') → wpL P l Q a w
 | [], t, t1, S, S1, x, h, B, w₀, ρ, m, w, a, ht, hw, hm, Q, hQ => by
  simp only [codesV, Option.some.injEq, Prod.mk.injEq] at h
  obtain ⟨rfl, rfl, rfl⟩ := h
  exact hQ ρ _ a w (Ren.le_refl ρ) .normal ht (by rw [post_self hm]; exact hw)
 | c :: l, t, t1, S, S1, x, h, B, w₀, ρ, m, w, a, ht, hw, hm, Q, hQ => by
  unfold codesV at h
  split at h
  ·rename_i t2 S2 hx
   have e2 := codesV_ext hc lf h
   refine (wpIn_wide (n := 0)).1 (codeV_ok hP hmix hc lf (r := none) (fun h => by cases h) c hx ht hw (hm.first e2) fun ρ' e a' w' hle hxr hfr hwr => ?_)
   cases hxr
   refine codesV_ok hP hmix hc lf h hfr hwr (hm.next (codeV_ext hc lf hx)) fun ρ2 e2' a2 w2 hle2 hx2 hfr2 hwr2 => ?_
   rw [post_post e2] at hwr2
   exact hQ ρ2 e2' a2 w2 (Ren.le_trans hle hle2) hx2 hfr2 hwr2
  ·rename_i hne
   refine (wpIn_wide (n := 0)).1 (codeV_ok hP hmix hc lf (r := none) (fun h => by cases h) c h ht hw hm fun ρ' e a' w' hle hxr hfr hwr => ?_)
   cases hxr with
   | normal => exact absurd h (hne _ _)
   | _ => exact hQ ρ' _ a' w' hle (by constructor <;> assumption) hfr hwr
theorem codesV_base {P : Program} {call : CallF} {lf : Nat} (b : List Deferred) : ∀ {l : List Code} {t t1 : Fr} {S S1 : VS} {x : VEx}, codesV P call lf l t S = some (x, t1, S1) → codesV P call lf l (t.rebase b) S = some (x, t1.rebase b, S1)
 | [], t, t1, S, S1, x, h => by
  simp only [codesV, Option.some.injEq, Prod.mk.injEq] at h
  obtain ⟨rfl, rfl, rfl⟩ := h
  rfl
 | c :: l, t, t1, S, S1, x, h => by
  unfold codesV at h ⊢
  rw [codeV_rebase]
  cases hx : codeV P call lf false c t S with
  | none => rw [hx] at h; cases h
  | some p =>
   obtain ⟨e, t2, S2⟩ := p
   rw [hx] at h
   cases e with
   | normal => exact codesV_base b h
   | exit j => simp only [Option.some.injEq, Prod.mk.injEq] at h; obtain ⟨rfl, rfl, rfl⟩ := h; rfl
   | ret => simp only [Option.some.injEq, Prod.mk.injEq] at h; obtain ⟨rfl, rfl, rfl⟩ := h; rfl
   | panic v => simp only [Option.some.injEq, Prod.mk.injEq] at h; obtain ⟨rfl, rfl, rfl⟩ := h; rfl
theorem quiet_rows {w : World} {M : List Nat} (hq : ∀ D ∈ M, w.heap[D]? = some (.deferred (some []))) : ∀ D ∈ M, ∃ o, w.heap[D]? = some o ∧ noRow o = true := fun D hD => ⟨_, hq D hD, rfl⟩
def collectC : List Nat → VS → Option (List (Nat × VObj))
 | [], _ => some []
 | x :: l, S => match gt S.mem x, collectC l S with
  | some o, some r => some ((x, o) :: r)
  | _, _ => none
theorem collectC_ok : ∀ {bs : List Nat} {S : VS} {r : List (Nat × VObj)}, collectC bs S = some r → ∀ p ∈ r, gt S.mem p.1 = some p.2
 | [], S, r, h, p, hp => by
  simp only [collectC, Option.some.injEq] at h
  rw [← h] at hp
  cases hp
 | x :: l, S, r, h, p, hp => by
  unfold collectC at h
  split at h
  ·rename_i o r' h1 h3
   simp only [Option.some.injEq] at h
   rw [← h] at hp
   rcases List.mem_cons.1 hp with rfl | hp
   ·exact h1
   ·exact collectC_ok h3 p hp
  ·cases h
def TriL (P : Program) (n k : Nat) (l : List Code) (d : Desc) (Q : VEx → Desc → Prop) : Prop :=
 ∀ (X : Ctx), X.n = n → X.k = k → ∀ (a : Act) (w : World), Holds P X d a w → wpL P l (fun e a' w' => ∃ x d', Q x d' ∧ XR (fun _ => none) x e ∧ Holds P X d' a' w') a w
theorem TriL.mono {P : Program} {n k : Nat} {l : List Code} {d : Desc} {Q Q' : VEx → Desc → Prop} (h : TriL P n k l d Q) (hq : ∀ x d', Q x d' → Q' x d') : TriL P n k l d Q' :=
 fun X hn hk a w hd => wpL_mono (h X hn hk a w hd) fun e a w ⟨x, d', h1, h2, h3⟩ => ⟨x, d', hq x d' h1, h2, h3⟩
theorem TriL.nil {P : Program} {n k : Nat} {d : Desc} {Q : VEx → Desc → Prop} (h : Q .normal d) : TriL P n k [] d Q := fun X hn hk a w hd => ⟨.normal, d, h, .normal, hd⟩
def flatX : VEx → Bool
 | .panic v => fl v
 | _ => true
def inner : List Code → Code
 | .block _ c :: _ => c
 | .loop c :: _ => c
 | .scope c :: _ => c
 | _ => .skip
def isBlock : List Code → Option Nat
 | .block id _ :: _ => some id
 | _ => none
def isLoop : List Code → Bool
 | .loop _ :: _ => true
 | _ => false
def QB (id : Nat) (N : Desc → Prop) (Q : VEx → Desc → Prop) : VEx → Desc → Prop
 | .normal, d => N d
 | .exit j, d => match Nat.beq j id with
  | true => N d
  | false => Q (.exit j) d
 | x, d => Q x d
theorem TriL.block {P : Program} {n k id : Nat} {l : List Code} {d : Desc} {Q : VEx → Desc → Prop} (hl : isBlock l = some id) (h : TriL P n k (flat2 (inner l)) d (QB id (fun d' => TriL P n k l.tail d' Q) Q)) : TriL P n k l d Q := by
 intro X hn hk a w hd
 unfold isBlock at hl
 split at hl
 ·rename_i id' c l'
  cases hl
  refine wp_block (wp_mono (wp_of_flat (h X hn hk a w hd)) fun e a' w' he => ?_)
  obtain ⟨x, d', h1, h2, h3⟩ := he
  cases h2 with
  | normal => exact h1 X hn hk a' w' h3
  | exit j =>
   by_cases hj : j = id
   ·subst hj
    simp only [QB, Nat.beq_refl] at h1
    simp only [Exit.inBlock, if_true]
    exact h1 X hn hk a' w' h3
   ·have hb : Nat.beq j id = false := by
     cases hb : Nat.beq j id with
     | false => rfl
     | true => exact absurd (Nat.eq_of_beq_eq_true hb) hj
    simp only [QB, hb] at h1
    simp only [Exit.inBlock, hj, if_false]
    exact ⟨_, d', h1, .exit j, h3⟩
  | ret => exact ⟨_, d', h1, .ret, h3⟩
  | panic v v' hv => exact ⟨_, d', h1, .panic v v' hv, h3⟩
 ·cases hl
theorem TriL.loop {P : Program} {n k : Nat} {l : List Code} {Q : VEx → Desc → Prop} {σ : Type} (I : σ → Desc) (μ : σ → Nat) (ok : σ → Prop) (hl : isLoop l = true)
  (h : ∀ s, ok s → TriL P n k (flat2 (inner l)) (I s) (fun x d' => match x with
   | .normal => ∃ s', ok s' ∧ μ s' < μ s ∧ d' = I s'
   | x => Q x d')) : ∀ s, ok s → TriL P n k l (I s) Q := by
 intro s hs X hn hk a w hd
 unfold isLoop at hl
 split at hl
 ·rename_i c l'
  have key : ∀ m s a w, ok s → μ s ≤ m → Holds P X (I s) a w → Code.rounds P c (Exit.then (wpL P l' fun e a' w' => ∃ x d', Q x d' ∧ XR (fun _ => none) x e ∧ Holds P X d' a' w') fun e a' w' => ∃ x d', Q x d' ∧ XR (fun _ => none) x e ∧ Holds P X d' a' w') (m + 1) a w := by
   intro m
   induction m with
   | zero =>
    intro s a w hs hm hd
    rw [rounds_succ]
    refine wp_mono (wp_of_flat (h s hs X hn hk a w hd)) fun e a' w' he => ?_
    obtain ⟨x, d', h1, h2, h3⟩ := he
    cases h2 with
    | normal => obtain ⟨s', _, hlt, _⟩ := h1; omega
    | exit j => exact ⟨_, d', h1, .exit j, h3⟩
    | ret => exact ⟨_, d', h1, .ret, h3⟩
    | panic v v' hv => exact ⟨_, d', h1, .panic v v' hv, h3⟩
   | succ m ih =>
    intro s a w hs hm hd
    rw [rounds_succ]
    refine wp_mono (wp_of_flat (h s hs X hn hk a w hd)) fun e a' w' he => ?_
    obtain ⟨x, d', h1, h2, h3⟩ := he
    cases h2 with
    | normal =>
     obtain ⟨s', hs', hlt, rfl⟩ := h1
     exact ih s' a' w' hs' (by omega) h3
    | exit j => exact ⟨_, d', h1, .exit j, h3⟩
    | ret => exact ⟨_, d', h1, .ret, h3⟩
    | panic v v' hv => exact ⟨_, d', h1, .panic v v' hv, h3⟩
  exact wp_loop_rounds _ (key _ s a w hs (Nat.le_refl _) hd)
 ·cases hl
def slotOf : List (Nat × Value) → Nat → Option Value
 | [], _ => none
 | p :: l, i => match slotOf l i with
  | some v => some v
  | none => match Nat.beq p.1 i with
   | true => some p.2
   | false => none
theorem valsU_get {n : Nat} {u : Nat → Value} : ∀ (l : List (Nat × Value)) (L : List Value) (i : Nat) (v : Value), slotOf l i = some v → i < L.length → (l.foldl (fun L p => L.set p.1 p.2) L)[i]? = some v
 | [], L, i, v, h, hi => by cases h
 | p :: l, L, i, v, h, hi => by
  rw [List.foldl_cons]
  unfold slotOf at h
  split at h
  ·rename_i v' hv
   cases h
   exact valsU_get (n := n) (u := u) l _ i v hv (by simpa using hi)
  ·rename_i hn
   split at h
   ·rename_i hb
    cases h
    have hb := Nat.eq_of_beq_eq_true hb
    subst hb
    have key : ∀ (l : List (Nat × Value)) (L : List Value) (i : Nat), slotOf l i = none → (l.foldl (fun L p => L.set p.1 p.2) L)[i]? = L[i]? := by
     intro l
     induction l with
     | nil => intro L i _; rfl
     | cons q l ih =>
      intro L i h
      rw [List.foldl_cons]
      unfold slotOf at h
      split at h
      ·cases h
      ·rename_i h'
       rw [ih _ _ h']
       split at h
       ·cases h
       ·rename_i hb
        rw [List.getElem?_set_ne]
        intro e
        rw [e, Nat.beq_refl] at hb
        cases hb
    rw [key l _ _ hn, List.getElem?_set_self hi]
   ·cases h
theorem frU_at {n : Nat} {u : Nat → Value} {l : List (Nat × Value)} {i : Nat} {v : Value} (hn : n ≤ 1024) (hi : i < n) (h : slotOf l i = some v) : (frU n u l).at i = v := by
 have hlen : (valsU n u l).length = n := by unfold valsU; rw [foldset_len]; simp
 have := valsU_get (n := n) (u := u) l ((List.range n).map u) i v h (by simpa using hi)
 unfold frU frOf Fr.at
 dsimp only
 rw [blt_iff.2 (by omega)]
 dsimp only
 rw [Fr.sets_get (by omega) (by omega), if_pos (by omega), Nat.sub_zero]
 have : (valsU n u l)[i]? = some v := this
 rw [this]
def numb : List Value → Nat → List (Nat × Value)
 | [], _ => []
 | v :: l, i => (i, v) :: numb l (i + 1)
theorem numb_mem : ∀ {l : List Value} {i : Nat} {p : Nat × Value}, p ∈ numb l i → ∃ j, p.1 = i + j ∧ l[j]? = some p.2
 | [], i, p, h => by cases h
 | v :: l, i, p, h => by
  rcases List.mem_cons.1 h with rfl | h
  ·exact ⟨0, rfl, rfl⟩
  ·obtain ⟨j, h1, h2⟩ := numb_mem h
   exact ⟨j + 1, by omega, by simpa using h2⟩
theorem WR.putQuiet {P : Program} {B : Nat → Prop} {w₀ w : World} {ρ : Ren} {g : Nat → Option VObj} (h : WR P B w₀ ρ g w) {D : Nat} {o : Obj} (hB : ¬ B D) (hD : w.heap[D]? = some o) (ho : noRow o = true) (o2 : Obj) : WR P B w₀ ρ g (w.putObj D o2) where
 env := h.env
 below := h.below.trans ⟨rfl, rfl, rfl, by simp, fun k hk => World.putObj_heap_other (fun e => hB (e ▸ hk))⟩
 size := fun k hk => by simpa using h.size k hk
 live := fun x ob r hx hr hl => by
  obtain ⟨o', h1, h2, h3⟩ := h.live x ob r hx hr hl
  refine ⟨o', ?_, h2, h3⟩
  rw [World.putObj_heap_other]
  ·exact h1
  ·intro e
   rw [e, hD] at h1
   cases h1
   rw [h2.row] at ho
   cases ho
 inj := h.inj
 fresh := h.fresh
 rows := h.rows
 nil := h.nil
 named := h.named
 abs := by
  obtain ⟨F, a1, a2, a3⟩ := h.abs
  refine ⟨fun x k => F x k ∧ k ≠ D, fun x d hx => ?_, fun x k hk => ?_, fun x y k p q => a3 x y k p.1 q.1⟩
  ·obtain ⟨r, S, c, hat, f⟩ := a1 x d hx
   have far : ∀ k, S k → k ≠ D := fun k hk e => by
    obtain ⟨q, hq, hr⟩ := hat.row k hk
    rw [e, hD] at hq
    cases hq
    cases o <;> first | (cases hr; done) | (cases ho; done)
   exact ⟨r, S, c, hat.frame fun k hk => World.putObj_heap_other (far k hk), fun k hk => ⟨f k hk, far k hk⟩⟩
  ·obtain ⟨b1, b2, b3⟩ := a2 x k hk.1
   exact ⟨b1, by simpa using b2, b3⟩
theorem leavesM {P : Program} {B : Nat → Prop} {w₀ : World} {ρ : Ren} {g : Nat → Option VObj} {fn : Func} {tmps : Array Value} {R : Ending → World → Prop} {mode : FrameMode} (hm : mode ≠ .run) (hl : ∀ w2, WR P B w₀ ρ g w2 → LeavesIn Fence.wide 0 P fn tmps R [] mode w2) :
  ∀ (M : List Nat) (w : World), M.Nodup → (∀ D ∈ M, ¬ B D ∧ w.heap[D]? = some (.deferred (some []))) → WR P B w₀ ρ g w → LeavesInM Fence.wide 0 P fn tmps R (M.map coll) mode w
 | [], w, _, _, hw => hl w hw
 | D :: M, w, hn, hq, hw => by
  obtain ⟨h1, h2⟩ := hq D List.mem_cons_self
  have hn' := List.nodup_cons.1 hn
  refine ⟨hm, .inl ⟨D, _, rfl, run_takeDeferred h2, leavesM hm hl M _ hn'.2 (fun E hE => ?_) (hw.putQuiet h1 h2 rfl _)⟩⟩
  obtain ⟨h3, h4⟩ := hq E (List.mem_cons_of_mem _ hE)
  refine ⟨h3, ?_⟩
  rw [World.putObj_heap_other]
  ·exact h4
  ·rintro rfl
   exact hn'.1 hE
theorem resV_rebase {P : Program} (b : List Deferred) (t : Fr) : ∀ l : List ResultVar, resV P (t.rebase b) l = resV P t l
 | [] => rfl
 | .tmp i :: l => by unfold resV; rw [resV_rebase b t l]; rfl
 | .cell a ty :: l => by unfold resV; rw [resV_rebase b t l]; rfl
def FnT (P : Program) (f : FuncId) (args : List Value) (objs : List VObj) (Q : CRes → List VObj → Prop) : Prop :=
 ∀ (B : Nat → Prop) (w₀ : World) (ρ : Ren) (w : World) (args' : Array Value), Full ρ → (∀ x, x < objs.length → ∃ r, ρ x = some r) → LR ρ args args'.toList → WR P B w₀ ρ (memOf objs) w →
  Calls P f args' w fun e w' => ∃ r objs' ρ', Q r objs' ∧ CR ρ' r e ∧ Full ρ' ∧ WR P B w₀ ρ' (memOf objs') w' ∧ objs'.length ≤ 262144 ∧ ∀ x, x < objs.length → ρ' x = ρ x
def Fin (P : Program) (fn : Func) (Q : CRes → List VObj → Prop) : VEx → Desc → Prop
 | .normal, d => ∃ vs l, (∀ u, (resV P (frU fn.ntmps u d.sl) fn.results.toList).run (gt (vsOf d.objs).mem) = some (vs, l)) ∧ Q (.ret (resOf vs)) d.objs
 | .ret, d => ∃ vs l, (∀ u, (resV P (frU fn.ntmps u d.sl) fn.results.toList).run (gt (vsOf d.objs).mem) = some (vs, l)) ∧ Q (.ret (resOf vs)) d.objs
 | .panic v, d => Q (.panic v) d.objs
 | _, _ => False
theorem FnT.of_tri {P : Program} {f : FuncId} {fn : Func} {c : Code} (hf : P.funcs[f]? = some fn) (hb : fn.body = some c) {args : List Value} {objs : List VObj} {Q : CRes → List VObj → Prop}
  (hn : (Nat.ble args.length fn.ntmps && Nat.ble fn.ntmps 1024 && Nat.ble objs.length 262144) = true) (h : TriL P fn.ntmps objs.length (flat2 c) ⟨numb args 0, objs⟩ (Fin P fn Q)) : FnT P f args objs Q := by
 intro B w₀ ρ w args' hfull hnamed hargs hw
 simp only [Bool.and_eq_true] at hn
 obtain ⟨⟨hn1, hn2⟩, hn3⟩ := hn
 have hn1 := Nat.le_of_ble_eq_true hn1
 have hn2 := Nat.le_of_ble_eq_true hn2
 refine (callsIn_wide (n := 0)).1 (callsIn_of_wp_marks hf hb trivial (wpIn_wide.2 ?_) rfl)
 have hof : Fr.of args fn.ntmps = some ⟨Fr.sets args 0 .nil, fn.ntmps, [], []⟩ := by
  unfold Fr.of
  rw [Nat.ble_eq_true_of_le hn1, Nat.ble_eq_true_of_le hn2]
  rfl
 have hfr := Fr.of_ok hargs hof
 have hlen : args.length = args'.size := by have := hargs.len; simpa using this
 obtain ⟨u, hu⟩ : ∃ u : Nat → Value, FR ρ ((frU fn.ntmps u (numb args 0)).rebase (([] : List Nat).map coll)) { tmps := args' ++ Array.replicate (fn.ntmps - args'.size) undef, defers := [] } := by
  refine FR.make (b := []) (by simp; omega) hn2 rfl (fun i => (hfr.at_ i).full hfull) fun p hp => ?_
  obtain ⟨j, h1, h2⟩ := numb_mem hp
  have hj : j < args.length := (List.getElem?_eq_some_iff.1 h2).1
  rw [Nat.zero_add] at h1
  refine ⟨by omega, ?_⟩
  obtain ⟨v', h3, h4⟩ := hargs.get h2
  rw [h1, Array.getD_eq_getD_getElem?, Array.getElem?_append_left (by omega)]
  have h5 : args'[j]? = some v' := by simpa using h3
  rw [h5]
  exact h4
 refine wp_of_flat (wpL_mono (h ⟨B, w₀, objs.length, ρ, fn.ntmps, hnamed⟩ rfl rfl _ w ⟨ρ, u, [], hfull, fun _ _ => rfl, hu, hw, Nat.le_of_ble_eq_true hn3, (fun D hD => by cases hD), .nil, fun D hD => by cases hD⟩) fun e a' w' he => ?_)
 obtain ⟨x, d', h1, h2, ρ', u', M, hd⟩ := he
 have lm : ∀ mode, mode ≠ FrameMode.run → (∀ w2, WR P B w₀ ρ' (memOf d'.objs) w2 → LeavesIn Fence.wide 0 P fn a'.tmps (fun e w' => ∃ r objs' ρ', Q r objs' ∧ CR ρ' r e ∧ Full ρ' ∧ WR P B w₀ ρ' (memOf objs') w' ∧ objs'.length ≤ 262144 ∧ ∀ x, x < objs.length → ρ' x = ρ x) [] mode w2) →
   LeavesInM Fence.wide 0 P fn a'.tmps (fun e w' => ∃ r objs' ρ', Q r objs' ∧ CR ρ' r e ∧ Full ρ' ∧ WR P B w₀ ρ' (memOf objs') w' ∧ objs'.length ≤ 262144 ∧ ∀ x, x < objs.length → ρ' x = ρ x) a'.defers mode w' := fun mode hm hl => by
  rw [hd.fr.none_left rfl]
  exact leavesM hm hl M w' hd.once (fun D hD => ⟨hd.outside D hD, hd.quiet D hD⟩) hd.mem
 have fin : (∃ vs l, (∀ u, (resV P (frU fn.ntmps u d'.sl) fn.results.toList).run (gt (vsOf d'.objs).mem) = some (vs, l)) ∧ Q (.ret (resOf vs)) d'.objs) → ∀ w2, WR P B w₀ ρ' (memOf d'.objs) w2 → ∃ v, (results fn a'.tmps).run P w2 = .ok v w2 ∧
   ∃ r objs' ρ', Q r objs' ∧ CR ρ' r (.returned v) ∧ Full ρ' ∧ WR P B w₀ ρ' (memOf objs') w2 ∧ objs'.length ≤ 262144 ∧ ∀ x, x < objs.length → ρ' x = ρ x := by
  rintro ⟨vs, l, h3, h4⟩ w2 hw2
  have h5 : (resV P (frU fn.ntmps u' d'.sl) fn.results.toList).run (memOf d'.objs) = some (vs, l) := Rd.run_congr (h3 u') fun y hy => by
   obtain ⟨o, ho⟩ := Rd.read_mem (h3 u') y hy
   rw [memOf_small (small_of_gt ho), gt_vsOf hd.few]
  obtain ⟨v', h6, h7⟩ := results_ok (t := (frU fn.ntmps u' d'.sl).rebase (M.map coll)) hw2 hd.fr (by rw [resV_rebase]; exact h5)
  exact ⟨v', h6, .ret (resOf vs), d'.objs, ρ', h4, h7, hd.full, hw2, hd.few, hd.kept⟩
 cases h2 with
 | normal => exact lm _ (by intro e; cases e) (fin h1)
 | ret => exact lm _ (by intro e; cases e) (fin h1)
 | exit id => exact h1.elim
 | panic v v' hv => exact lm _ (by intro e; cases e) fun w2 hw2 => ⟨.panic v, d'.objs, ρ', h1, ⟨v', rfl, hv.mono (fun x r h => by cases h)⟩, hd.full, hw2, hd.few, hd.kept⟩
inductive QT (α : Type) where
 | done (a : α)
 | fail
 | ask (d : Bool) (k : Bool → QT α)
def QT.run {α : Type} : QT α → Option α
 | .done a => some a
 | .fail => none
 | .ask d k => (k d).run
def QT.dt {α : Type} : QT α → DT α
 | .done a => .done a
 | .fail => .fail
 | .ask d k => .ask d fun b => (k b).dt
def QT.bind {α β : Type} : QT α → (α → QT β) → QT β
 | .done a, f => f a
 | .fail, _ => .fail
 | .ask d k, f => .ask d fun b => (k b).bind f
def QT.must {α : Type} (d : Bool) (k : QT α) : QT α := .ask d fun b => match b with
 | true => k
 | false => .fail
theorem QT.dt_has {α : Type} {q : QT α} {a : α} (h : q.dt.Has a) : q.run = some a := by
 induction q with
 | done b => have := DT.has_done h; subst this; rfl
 | fail => cases h
 | ask d k ih => exact ih d (DT.has_ask h)
theorem QT.run_bind {α β : Type} {q : QT α} {f : α → QT β} {b : β} (h : (q.bind f).run = some b) : ∃ a, q.run = some a ∧ (f a).run = some b := by
 induction q with
 | done a => exact ⟨a, rfl, h⟩
 | fail => cases h
 | ask d k ih => exact ih d h
theorem QT.run_must {α : Type} {d : Bool} {k : QT α} {a : α} (h : (QT.must d k).run = some a) : d = true ∧ k.run = some a := by
 cases d with
 | true => exact ⟨rfl, h⟩
 | false => cases h
structure Sum where
 names : List Value → (Nat → Option VObj) → Option (List Nat)
 spec : List Value → List VObj → QT (CRes × List VObj)
def FnOk (P : Program) (f : FuncId) (s : Sum) : Prop :=
 ∀ (args : List Value) (objs : List VObj) (r : CRes) (objs' : List VObj), (s.spec args objs).run = some (r, objs') → FnT P f args objs fun r' o' => r' = r ∧ o' = objs'
section
variable (P : Program)
def scalF : Nat → TypeId → Bool
 | 0, t => match P.underlying t with
  | some .bool | some (.int _) | some .string | some (.float _) => true
  | _ => false
 | d + 1, t => match P.underlying t with
  | some .bool | some (.int _) | some .string | some (.float _) => true
  | some (.struct fs) => fs.toList.all fun f => scalF d f.type
  | some (.array _ e) => scalF d e
  | _ => false
def scalT (t : TypeId) : Bool := scalF P 3 t
def rnO (τ : Nat → Option Nat) : VObj → QT VObj
 | .cells c el ro => match scalT P el with
  | true => .must (c.all isScal) (.done (.cells c el ro))
  | false => match rnL (rnV τ 6) c with
   | some c' => .done (.cells c' el ro)
   | none => .fail
 | .map es clock => .ask ((es.map (stabE τ)).all isScal) fun b => match b with
  | true => .done (.map es clock)
  | false => match rnEs τ es with
   | some es' => .done (.map es' clock)
   | none => .fail
 | .siter s p => .done (.siter s p)
 | .rows n s r => .done (.rows n s r)
 | .abs d => .done (.abs d)
 | .dead => .fail
def rnOs (τ : Nat → Option Nat) : List VObj → QT (List VObj)
 | [] => .done []
 | o :: l => (rnO P τ o).bind fun o' => (rnOs τ l).bind fun r => .done (o' :: r)
def getAll (g : Nat → Option VObj) : List Nat → Option (List VObj)
 | [] => some []
 | x :: l => match g x, getAll g l with
  | some o, some r => some (o :: r)
  | _, _ => none
def backOs (τ : Nat → Option Nat) : List VObj → List VObj → QT (List VObj)
 | ob :: obs, o :: l => match ob.ro with
  | true => (backOs τ obs l).bind fun r => .done (ob :: r)
  | false => match o with
   | .dead => (backOs τ obs l).bind fun r => .done (.dead :: r)
   | o => (rnO P τ o).bind fun o' => match o'.ro with
    | true => .fail
    | false => (backOs τ obs l).bind fun r => .done (o' :: r)
 | [], l => (rnOs P τ l).bind fun r => match r.all (fun o => !o.ro) with
  | true => .done r
  | false => .fail
 | _ :: _, [] => .fail
def layOld : List Nat → List VObj → List VObj → Tr VObj × List Nat → Option (Tr VObj × List Nat × List VObj)
 | x :: σ, ob :: obs, o :: l, (t, wr) => match ob.ro with
  | true => layOld σ obs l (t, wr)
  | false => layOld σ obs l (t.set 18 x o, x :: wr)
 | [], [], l, (t, wr) => some (t, wr, l)
 | _, _, _, _ => none
def seqN : Nat → Nat → List Nat
 | _, 0 => []
 | k, n + 1 => k :: seqN (k + 1) n
def backR (τ : Nat → Option Nat) : CRes → Option CRes
 | .ret v => match rnV τ 6 v with
  | some u => some (.ret u)
  | none => none
 | .panic v => match fl v with
  | true => some (.panic v)
  | false => none
def applyS (s : Sum) (args : List Value) (S : VS) : QT (CRes × VS) := match s.names args (gt S.mem) with
 | none => .fail
 | some σ => match getAll (gt S.mem) σ, rnL (rnV (idxN σ) 6) args, nodupB σ && Nat.ble σ.length 262144 with
  | some obs, some args1, true => (rnOs P (idxN σ) obs).bind fun objs1 => (s.spec args1 objs1).bind fun p =>
   (backOs P (fun i => (σ ++ seqN S.next (p.2.length - σ.length))[i]?) obs p.2).bind fun objs2 =>
    match backR (fun i => (σ ++ seqN S.next (p.2.length - σ.length))[i]?) p.1, layOld σ obs objs2 (S.mem, S.wr) with
    | some r, some (t, wr, news) => match layN news ⟨t, S.next, σ ++ S.rd, wr⟩ with
     | some S1 => .done (r, S1)
     | none => .fail
    | _, _ => .fail
  | _, _, _ => .fail
end
section
variable {P : Program}
theorem rnO_ok {τ : Nat → Option Nat} {o o' : VObj} (h : (rnO P τ o).run = some o') : ON τ o o' ∧ o'.ro = o.ro ∧ o ≠ .dead ∧ o' ≠ .dead := by
 unfold rnO at h
 split at h
 ·split at h
  ·obtain ⟨h1, h⟩ := QT.run_must h
   cases h
   exact ⟨.plain _ _ _ h1, rfl, (by intro e; cases e), (by intro e; cases e)⟩
  ·split at h
   ·rename_i hc
    cases h
    exact ⟨.cells _ _ _ _ hc, rfl, (by intro e; cases e), (by intro e; cases e)⟩
   ·cases h
 ·rename_i es clock
  cases hb : (es.map (stabE τ)).all isScal with
  | true =>
   simp only [QT.run, hb] at h
   cases h
   exact ⟨.map _ _ _ (stabEs_ok hb), rfl, (by intro e; cases e), (by intro e; cases e)⟩
  | false =>
   simp only [QT.run, hb] at h
   split at h
   ·rename_i hes
    cases h
    exact ⟨.map _ _ _ hes, rfl, (by intro e; cases e), (by intro e; cases e)⟩
   ·cases h
 ·cases h; exact ⟨.siter _ _, rfl, (by intro e; cases e), (by intro e; cases e)⟩
 ·cases h; exact ⟨.rows _ _ _, rfl, (by intro e; cases e), (by intro e; cases e)⟩
 ·cases h; exact ⟨.abs _, rfl, (by intro e; cases e), (by intro e; cases e)⟩
 ·cases h
theorem rnOs_ok {τ : Nat → Option Nat} : ∀ {l l' : List VObj}, (rnOs P τ l).run = some l' → All2 (fun o o' => ON τ o o' ∧ o'.ro = o.ro ∧ o ≠ .dead ∧ o' ≠ .dead) l l'
 | [], l', h => by cases h; exact .nil
 | o :: l, l', h => by
  unfold rnOs at h
  obtain ⟨o', h1, h⟩ := QT.run_bind h
  obtain ⟨r, h2, h⟩ := QT.run_bind h
  cases h
  exact .cons (rnO_ok h1) (rnOs_ok h2)
theorem backOs_ok {τ : Nat → Option Nat} : ∀ {obs l l' : List VObj}, (backOs P τ obs l).run = some l' → l'.length = l.length ∧ obs.length ≤ l.length ∧
  ∀ (i : Nat) (o o' : VObj), l[i]? = some o → l'[i]? = some o' → (∀ ob : VObj, obs[i]? = some ob → ob.ro = false) → ON τ o o' ∧ o'.ro = false ∧ True
 | [], l, l', h => by
  unfold backOs at h
  obtain ⟨r, h1, h⟩ := QT.run_bind h
  split at h
  ·rename_i hall
   cases h
   have h2 := rnOs_ok h1
   refine ⟨h2.len.symm, by simp, fun i o o' ho ho' _ => ?_⟩
   obtain ⟨o2, h3, h4, h5, h6, h7⟩ := h2.get ho'
   rw [ho] at h3
   cases h3
   have := List.all_eq_true.1 hall o' (List.mem_of_getElem? ho')
   exact ⟨h4, by simpa using this, trivial⟩
  ·cases h
 | ob :: obs, [], l', h => by cases h
 | ob :: obs, o :: l, l', h => by
  unfold backOs at h
  split at h
  ·rename_i hro
   obtain ⟨r, h1, h⟩ := QT.run_bind h
   cases h
   obtain ⟨h2, h3, h4⟩ := backOs_ok h1
   refine ⟨by simp [h2], by simpa using h3, fun i a a' ha ha' hob => ?_⟩
   cases i with
   | zero => have := hob ob rfl; rw [hro] at this; cases this
   | succ i => exact h4 i a a' (by simpa using ha) (by simpa using ha') fun q hq => hob q (by simpa using hq)
  ·split at h
   ·obtain ⟨r, h1, h⟩ := QT.run_bind h
    cases h
    obtain ⟨h2, h3, h4⟩ := backOs_ok h1
    refine ⟨by simp [h2], by simpa using h3, fun i a a' ha ha' hob => ?_⟩
    cases i with
    | zero =>
     simp only [List.getElem?_cons_zero, Option.some.injEq] at ha ha'
     subst ha ha'
     exact ⟨.dead _, rfl, trivial⟩
    | succ i => exact h4 i a a' (by simpa using ha) (by simpa using ha') fun q hq => hob q (by simpa using hq)
   ·obtain ⟨o', h0, h⟩ := QT.run_bind h
    split at h
    ·cases h
    ·rename_i hro'
     obtain ⟨r, h1, h⟩ := QT.run_bind h
     cases h
     obtain ⟨h2, h3, h4⟩ := backOs_ok h1
     refine ⟨by simp [h2], by simpa using h3, fun i a a' ha ha' hob => ?_⟩
     cases i with
     | zero =>
      simp only [List.getElem?_cons_zero, Option.some.injEq] at ha ha'
      subst ha ha'
      exact ⟨(rnO_ok h0).1, by simpa using hro', trivial⟩
     | succ i => exact h4 i a a' (by simpa using ha) (by simpa using ha') fun q hq => hob q (by simpa using hq)
theorem getAll_ok {g : Nat → Option VObj} : ∀ {σ : List Nat} {obs : List VObj}, getAll g σ = some obs → σ.length = obs.length ∧ ∀ (i x : Nat), σ[i]? = some x → ∃ o, obs[i]? = some o ∧ g x = some o
 | [], obs, h => by cases h; exact ⟨rfl, fun i x h => by simp at h⟩
 | y :: σ, obs, h => by
  unfold getAll at h
  split at h
  ·rename_i o r h1 h2
   cases h
   obtain ⟨h3, h4⟩ := getAll_ok h2
   refine ⟨by simp [h3], fun i x hx => ?_⟩
   cases i with
   | zero => simp only [List.getElem?_cons_zero, Option.some.injEq] at hx; subst hx; exact ⟨o, rfl, h1⟩
   | succ i => simpa using h4 i x (by simpa using hx)
  ·cases h
def updO (m : Nat → Option VObj) : List Nat → List VObj → List VObj → Nat → Option VObj
 | x :: σ, ob :: obs, o :: l => updO (bif ob.ro then m else upd m x o) σ obs l
 | _, _, _ => m
theorem updO_other {x : Nat} : ∀ {σ : List Nat} {obs l : List VObj} {m : Nat → Option VObj}, (∀ (i : Nat) (ob : VObj), σ[i]? = some x → obs[i]? = some ob → ob.ro = true) → updO m σ obs l x = m x
 | [], obs, l, m, h => by cases obs <;> rfl
 | y :: σ, [], l, m, h => rfl
 | y :: σ, ob :: obs, [], m, h => rfl
 | y :: σ, ob :: obs, o :: l, m, h => by
  show updO (bif ob.ro then m else upd m y o) σ obs l x = m x
  have h' : ∀ (i : Nat) (ob' : VObj), σ[i]? = some x → obs[i]? = some ob' → ob'.ro = true := fun i ob' h1 h2 => h (i + 1) ob' (by simpa using h1) (by simpa using h2)
  rw [updO_other h']
  cases hro : ob.ro with
  | true => rfl
  | false =>
   show upd m y o x = m x
   rw [upd_other]
   rintro rfl
   have := h 0 ob rfl rfl
   rw [hro] at this
   cases this
theorem updO_same {x : Nat} : ∀ {σ : List Nat} {obs l : List VObj} {m : Nat → Option VObj} {i : Nat} {ob o : VObj}, nodupB σ = true → σ[i]? = some x → obs[i]? = some ob → l[i]? = some o → ob.ro = false → updO m σ obs l x = some o
 | [], obs, l, m, i, ob, o, hn, h1, h2, h3, h4 => by simp at h1
 | y :: σ, [], l, m, i, ob, o, hn, h1, h2, h3, h4 => by simp at h2
 | y :: σ, b :: obs, [], m, i, ob, o, hn, h1, h2, h3, h4 => by simp at h3
 | y :: σ, b :: obs, a :: l, m, i, ob, o, hn, h1, h2, h3, h4 => by
  have hn0 := hn
  simp only [nodupB, Bool.and_eq_true] at hn
  show updO (bif b.ro then m else upd m y a) σ obs l x = some o
  cases i with
  | zero =>
   simp only [List.getElem?_cons_zero, Option.some.injEq] at h1 h2 h3
   subst h1 h2 h3
   rw [h4]
   show updO (upd m y a) σ obs l y = some a
   rw [updO_other, upd_same]
   intro j ob' hj _
   have := nodupB_get hn0 (x := 0) (y := j + 1) (z := y) rfl (by simpa using hj)
   omega
  | succ i => exact updO_same hn.2 (by simpa using h1) (by simpa using h2) (by simpa using h3) h4
theorem layOld_ok : ∀ {σ : List Nat} {obs l : List VObj} {t t' : Tr VObj} {wr wr' : List Nat} {news : List VObj}, layOld σ obs l (t, wr) = some (t', wr', news) → (∀ x ∈ σ, small x = true) →
  gt t' = updO (gt t) σ obs l ∧ σ.length = obs.length ∧ (∃ olds, l = olds ++ news ∧ olds.length = σ.length) ∧ (∀ x, x ∈ wr → x ∈ wr') ∧
  (∀ x, x ∈ wr' → x ∈ wr ∨ x ∈ σ) ∧ ∀ (i x : Nat) (ob : VObj), σ[i]? = some x → obs[i]? = some ob → ob.ro = false → x ∈ wr'
 | [], [], l, t, t', wr, wr', news, h, hs => by
  simp only [layOld, Option.some.injEq, Prod.mk.injEq] at h
  obtain ⟨rfl, rfl, rfl⟩ := h
  exact ⟨rfl, rfl, ⟨[], rfl, rfl⟩, fun _ h => h, fun _ h => .inl h, fun i x ob h => by simp at h⟩
 | x :: σ, ob :: obs, o :: l, t, t', wr, wr', news, h, hs => by
  unfold layOld at h
  split at h
  ·rename_i hro
   obtain ⟨h1, h2, ⟨olds, h3, h4⟩, h5, h6, h7⟩ := layOld_ok h fun y hy => hs y (List.mem_cons_of_mem _ hy)
   refine ⟨?_, by simp [h2], ⟨o :: olds, by simp [h3], by simp [h4]⟩, h5, fun y hy => (h6 y hy).imp id (List.mem_cons_of_mem _), fun i y ob' a b c => ?_⟩
   ·rw [h1]; show _ = updO (bif ob.ro then gt t else upd (gt t) x o) σ obs l; rw [hro]; rfl
   ·cases i with
    | zero => simp only [List.getElem?_cons_zero, Option.some.injEq] at b; subst b; rw [hro] at c; cases c
    | succ i => exact h7 i y ob' (by simpa using a) (by simpa using b) c
  ·rename_i hro
   obtain ⟨h1, h2, ⟨olds, h3, h4⟩, h5, h6, h7⟩ := layOld_ok h fun y hy => hs y (List.mem_cons_of_mem _ hy)
   refine ⟨?_, by simp [h2], ⟨o :: olds, by simp [h3], by simp [h4]⟩, fun y hy => h5 y (List.mem_cons_of_mem _ hy), fun y hy => ?_, fun i y ob' a b c => ?_⟩
   ·rw [h1, gt_set (hs x List.mem_cons_self)]
    show _ = updO (bif ob.ro then gt t else upd (gt t) x o) σ obs l
    rw [hro]
    rfl
   ·rcases h6 y hy with hy | hy
    ·rcases List.mem_cons.1 hy with rfl | hy
     ·exact .inr List.mem_cons_self
     ·exact .inl hy
    ·exact .inr (List.mem_cons_of_mem _ hy)
   ·cases i with
    | zero => simp only [List.getElem?_cons_zero, Option.some.injEq] at a; subst a; exact h5 _ List.mem_cons_self
    | succ i => exact h7 i y ob' (by simpa using a) (by simpa using b) c
 | [], _ :: _, l, t, t', wr, wr', news, h, hs => by cases h
 | _ :: _, [], l, t, t', wr, wr', news, h, hs => by cases h
 | _ :: _, _ :: _, [], t, t', wr, wr', news, h, hs => by cases h
theorem seqN_get : ∀ {n k i : Nat}, (seqN k n)[i]? = if i < n then some (k + i) else none
 | 0, k, i => by simp [seqN]
 | n + 1, k, i => by
  cases i with
  | zero => simp [seqN]
  | succ i =>
   simp only [seqN, List.getElem?_cons_succ]
   rw [seqN_get]
   by_cases h : i < n
   ·rw [if_pos h, if_pos (by omega)]; congr 1; omega
   ·rw [if_neg h, if_neg (by omega)]
theorem SR.mono {w₀ w : World} {B B' : Nat → Prop} (hB : ∀ b, B b → B' b ∧ w.heap[b]? = w₀.heap[b]?) {s : SV} {v : Value} (h : SR P w₀ B s v) : SR P w B' s v := by
 induction h with
 | val v h => exact .val v h
 | nil el a => exact .nil el a
 | cells n c el b off cap c' el' fr h1 h2 h3 h4 h5 h6 => exact .cells n c el b off cap c' el' fr (hB b h1).1 ((hB b h1).2.trans h2) h3 h4 h5 h6
 | rnil size row a => exact .rnil size row a
 | rows n size row b off cap c' el' fr h1 h2 h3 h4 h5 h6 u h7 h8 ih => exact .rows n size row b off cap c' el' fr (hB b h1).1 ((hB b h1).2.trans h2) h3 h4 h5 h6 u h7 ih
theorem RowsAt.mono {w₀ w : World} {B B' : Nat → Prop} (hB : ∀ b, B b → B' b ∧ w.heap[b]? = w₀.heap[b]?) {r : Where} {n size : Nat} {row : Nat → List SV} (h : RowsAt P w₀ B r n size row) : RowsAt P w B' r n size row := by
 obtain ⟨c', el', fr, h1, h2, h3, h4⟩ := h.at_
 exact ⟨(hB _ h.blk).1, h.sz, c', el', fr, (hB _ h.blk).2.trans h1, h2, h3, fun i hi => ⟨(h4 i hi).1, fun k sv hk => let ⟨v', a, b⟩ := (h4 i hi).2 k sv hk; ⟨v', a, b.mono hB⟩⟩⟩
end
end Go.Proofs.YtgepfmamfdmclaaGreatDoor.Vm
namespace Go.Proofs.YtgepfmamfdmclaaGreatDoor.Vm
open Go.RowKit
section
variable {P : Program}
structure Applied (P : Program) (s : Sum) (args : List Value) (S S' : VS) (r : CRes) where
 σ : List Nat
 obs : List VObj
 args1 : List Value
 objs1 : List VObj
 r1 : CRes
 objs2 : List VObj
 back : List VObj
 t : Tr VObj
 wr : List Nat
 news : List VObj
 hob : getAll (gt S.mem) σ = some obs
 harg : rnL (rnV (idxN σ) 6) args = some args1
 hnd : nodupB σ = true
 hfew : σ.length ≤ 262144
 hobs1 : All2 (fun o o' => ON (idxN σ) o o' ∧ o'.ro = o.ro ∧ o ≠ .dead ∧ o' ≠ .dead) obs objs1
 hspec : (s.spec args1 objs1).run = some (r1, objs2)
 hback : (backOs P (fun i => (σ ++ seqN S.next (objs2.length - σ.length))[i]?) obs objs2).run = some back
 hr : backR (fun i => (σ ++ seqN S.next (objs2.length - σ.length))[i]?) r1 = some r
 hlay : layOld σ obs back (S.mem, S.wr) = some (t, wr, news)
 hnew : layN news ⟨t, S.next, σ ++ S.rd, wr⟩ = some S'
theorem applied_of {s : Sum} {args : List Value} {S S' : VS} {r : CRes} (h : (applyS P s args S).run = some (r, S')) : Nonempty (Applied P s args S S' r) := by
 unfold applyS at h
 split at h
 ·cases h
 ·rename_i σ hσ
  split at h
  ·rename_i obs args1 h1 h2 h3
   simp only [Bool.and_eq_true] at h3
   obtain ⟨objs1, h4, h⟩ := QT.run_bind h
   obtain ⟨⟨r1, objs2⟩, h5, h⟩ := QT.run_bind h
   obtain ⟨back, h6, h⟩ := QT.run_bind h
   dsimp only at h h6
   split at h
   ·rename_i r' t wr news h7 h8
    split at h
    ·rename_i S1 h9
     simp only [QT.run, Option.some.injEq, Prod.mk.injEq] at h
     obtain ⟨rfl, rfl⟩ := h
     exact ⟨⟨σ, obs, args1, objs1, r1, objs2, back, t, wr, news, h1, h2, h3.1, Nat.le_of_ble_eq_true h3.2, rnOs_ok h4, h5, h6, h7, h8, h9⟩⟩
    ·cases h
   ·cases h
  ·cases h
theorem Applied.allSmall {s : Sum} {args : List Value} {S S' : VS} {r : CRes} (A : Applied P s args S S' r) : ∀ x ∈ A.σ, small x = true := fun x hx => by
 obtain ⟨i, hi⟩ := List.getElem?_of_mem hx
 obtain ⟨o, _, h⟩ := (getAll_ok A.hob).2 i x hi
 exact small_of_gt h
theorem Applied.ext {s : Sum} {args : List Value} {S S' : VS} {r : CRes} (A : Applied P s args S S' r) : Ext S S' := by
 obtain ⟨h1, h2, _, h4, h5, h6⟩ := layOld_ok A.hlay A.allSmall
 obtain ⟨e, hrd, _, _⟩ := layN_spec A.hnew
 refine Ext.trans (b := ⟨A.t, S.next, A.σ ++ S.rd, A.wr⟩) ⟨fun x hx => List.mem_append_right _ hx, h4, fun x hx => ?_, fun hS x hx => ?_⟩ e
 ·show gt A.t x = gt S.mem x
  rw [h1, updO_other]
  intro i ob hi hob
  cases hro : ob.ro with
  | true => rfl
  | false => exact absurd (h6 i x ob hi hob hro) hx
 ·rcases hx with hx | hx
  ·rcases List.mem_append.1 hx with hx | hx
   ·exact A.allSmall x hx
   ·exact hS x (.inl hx)
  ·rcases h5 x hx with hx | hx
   ·exact hS x (.inr hx)
   ·exact A.allSmall x hx
theorem Applied.call {f : FuncId} {s : Sum} (hs : FnOk P f s) {args : List Value} {S S' : VS} {r : CRes} (A : Applied P s args S S' r) {B : Nat → Prop} {w₀ : World} {ρ : Ren} {m : Nat → Option VObj} {w : World} {args' : Array Value}
    (ha : LR ρ args args'.toList) (hw : WR P B w₀ ρ m w) (hm : Agree S S' m) : Calls P f args' w fun e w' => ∃ ρ', ρ.le ρ' ∧ CR ρ' r e ∧ WR P B w₀ ρ' (post m S') w' := by
  obtain ⟨σ, obs, args1, objs1, r1, objs2, back, t, wr, news, hob, harg, hnd, hfew, hobs1, hspec, hback, hr, hlay, hnew⟩ := A
  have hA : Applied P s args S S' r := ⟨σ, obs, args1, objs1, r1, objs2, back, t, wr, news, hob, harg, hnd, hfew, hobs1, hspec, hback, hr, hlay, hnew⟩
  obtain ⟨hg1, hg2⟩ := getAll_ok hob
  have hsmall : ∀ x ∈ σ, small x = true := fun x hx => by
    obtain ⟨i, hi⟩ := List.getElem?_of_mem hx
    obtain ⟨o, _, h⟩ := hg2 i x hi
    exact small_of_gt h
  obtain ⟨l1, l2, ⟨olds, l3, l3'⟩, l4, l5, l6⟩ := layOld_ok hlay hsmall
  obtain ⟨e1, hrd, hfree, hpost⟩ := layN_spec hnew
  obtain ⟨b1, b2, b3⟩ := backOs_ok hback
  -- the caller's memory at the old names
  have hmσ : ∀ (i x : Nat), σ[i]? = some x → ∃ o, obs[i]? = some o ∧ m x = some o := fun i x hi => by
    obtain ⟨o, h1, h2⟩ := hg2 i x hi
    refine ⟨o, h1, ?_⟩
    rw [hm x (.inl (by rw [hrd]; exact List.mem_append_left _ (List.mem_of_getElem? hi)))]
    exact h2
  obtain ⟨F, fa, fb, fc⟩ := hw.abs
  have hlen1 : objs1.length = σ.length := by rw [← hobs1.len, hg1]
  have hne : ∀ (i : Nat) (o : VObj), obs[i]? = some o → o ≠ .dead := fun i o hi => by
    obtain ⟨o', ho'⟩ : ∃ o', objs1[i]? = some o' := by
      have : i < objs1.length := by rw [← hobs1.len]; exact (List.getElem?_eq_some_iff.1 hi).1
      exact ⟨_, List.getElem?_eq_getElem this⟩
    obtain ⟨o2, h1, _, _, h2, _⟩ := hobs1.get ho'
    rw [hi] at h1
    cases h1
    exact h2
  have hρσ : ∀ (i x : Nat), σ[i]? = some x → ∃ q, ρ x = some q := fun i x hi => by
    obtain ⟨o, h1, h2⟩ := hmσ i x hi
    exact hw.named x o h2 (hne i o h1)
  -- the callee's names
  let ρ1 : Ren := fun x => match small x with
    | true => (σ[x]?).bind ρ
    | false => some (decW (x - 262144))
  have hs1 : ∀ x, small x = true → ρ1 x = (σ[x]?).bind ρ := fun x h => by show (match small x with | true => _ | false => _) = _; rw [h]
  have hs2 : ∀ x, small x = false → ρ1 x = some (decW (x - 262144)) := fun x h => by show (match small x with | true => _ | false => _) = _; rw [h]
  have hsmi : ∀ (i x : Nat), σ[i]? = some x → small i = true := fun i x h => small_iff.2 (by
    have : i < σ.length := (List.getElem?_eq_some_iff.1 h).1
    have : (2 : Nat) ^ 18 = 262144 := rfl
    omega)
  have hσρ : ∀ y i q, idxN σ y = some i → ρ y = some q → ρ1 i = some q := fun y i q h1 h2 => by
    have h3 := idxN_some h1
    rw [hs1 i (hsmi i y h3), h3]
    exact h2
  have hfull : Full ρ1 := fun q => by
    obtain ⟨n, h⟩ := decW_all q
    exact ⟨n + 262144, not_small n, by rw [hs2 _ (not_small n)]; simp [h]⟩
  let B1 : Nat → Prop := fun b => b < w.heap.size ∧ (∀ (i x : Nat) (o : VObj) (q : Where), σ[i]? = some x → obs[i]? = some o → ρ x = some q → o.ro = false → Live o q = true → q.blk ≠ b) ∧ ∀ (i x : Nat) (d : AbsD), σ[i]? = some x → obs[i]? = some (.abs d) → ¬ F x b
  have hBB : ∀ b, B b → B1 b := fun b hb => ⟨hw.size b hb, fun i x o q h1 h2 h3 h4 h5 e => by
    obtain ⟨o', h6, h7⟩ := hmσ i x h1
    rw [h2] at h6
    cases h6
    obtain ⟨_, _, _, h8⟩ := hw.live x o q h7 h3 h5
    exact h8 h4 (e ▸ hb), fun i x d _ _ hF => (fb x b hF).2.2.1 hb⟩
  have hBm : ∀ b, B b → B1 b ∧ w.heap[b]? = w₀.heap[b]? := fun b hb => ⟨hBB b hb, hw.below.block b hb⟩
  have hobj : ∀ (i : Nat) (o' : VObj), objs1[i]? = some o' → ∃ x o, σ[i]? = some x ∧ obs[i]? = some o ∧ m x = some o ∧ ON (idxN σ) o o' ∧ o'.ro = o.ro := fun i o' hi => by
    obtain ⟨o, h1, h2, h3, _, _⟩ := hobs1.get hi
    have hlt : i < σ.length := by rw [← hlen1]; exact (List.getElem?_eq_some_iff.1 hi).1
    obtain ⟨o2, h4, h5⟩ := hmσ i _ (List.getElem?_eq_getElem hlt)
    rw [h1] at h4
    cases h4
    exact ⟨_, o, List.getElem?_eq_getElem hlt, h1, h5, h2, h3⟩
  have hmem1 : ∀ x o', memOf objs1 x = some o' → o' ≠ .dead → small x = true ∧ objs1[x]? = some o' := fun x o' hx hne => by
    cases hsx : small x with
    | true => rw [memOf_small hsx] at hx; exact ⟨rfl, hx⟩
    | false => rw [memOf_great hsx] at hx; cases hx; exact absurd rfl hne
  have hw1 : WR P B1 w ρ1 (memOf objs1) w :=
    { below := BelowK.refl _ _
      env := hw.env.next hw.below hBB
      size := fun k hk => hk.1
      live := by
        intro x o' q hx hq hl
        obtain ⟨hsx, hx'⟩ := hmem1 x o' hx (by rintro rfl; cases hl)
        obtain ⟨y, o, h1, h2, h3, h4, h5⟩ := hobj x o' hx'
        rw [hs1 x hsx, h1] at hq
        have hq : ρ y = some q := hq
        obtain ⟨hl', _⟩ := h4.live hl
        obtain ⟨oo, h6, h7, h8⟩ := hw.live y o q h3 hq hl'
        exact ⟨oo, h6, h4.or hσρ hl oo h7, fun hro hb => hb.2.1 x y o q h1 h2 hq (h5 ▸ hro) hl' rfl⟩
      inj := by
        intro x y ox oy rx ry hx hy hrx hry hlx hly hd he
        obtain ⟨hsx, hx'⟩ := hmem1 x ox hx (by rintro rfl; cases hlx)
        obtain ⟨hsy, hy'⟩ := hmem1 y oy hy (by rintro rfl; cases hly)
        obtain ⟨a, oa, a1, a2, a3, a4, a5⟩ := hobj x ox hx'
        obtain ⟨b, ob, c1, c2, c3, c4, c5⟩ := hobj y oy hy'
        rw [hs1 x hsx, a1] at hrx
        rw [hs1 y hsy, c1] at hry
        have := hw.inj a b oa ob rx ry a3 c3 hrx hry (a4.live hlx).1 (c4.live hly).1 (hd.imp (fun h => a5 ▸ h) (fun h => c5 ▸ h)) he
        subst this
        exact nodupB_get hnd a1 c1
      fresh := by
        intro x hx
        cases hsx : small x with
        | true =>
          rw [memOf_small hsx] at hx
          rw [hs1 x hsx]
          have : σ[x]? = none := by
            rw [List.getElem?_eq_none_iff] at hx ⊢
            omega
          rw [this]; rfl
        | false => rw [memOf_great hsx] at hx; cases hx
      rows := by
        intro x n size row hx
        obtain ⟨hsx, hx'⟩ := hmem1 x _ hx (by intro e; cases e)
        obtain ⟨y, o, h1, h2, h3, h4, h5⟩ := hobj x _ hx'
        cases h4
        obtain ⟨q, h6, h7⟩ := hw.rows y n size row h3
        exact ⟨q, by rw [hs1 x hsx, h1]; exact h6, fun hn => (h7 hn).mono hBm⟩
      nil := by
        intro x el ro q hx hq
        obtain ⟨hsx, hx'⟩ := hmem1 x _ hx (by intro e; cases e)
        obtain ⟨y, o, h1, h2, h3, h4, h5⟩ := hobj x _ hx'
        rw [hs1 x hsx, h1] at hq
        have hq : ρ y = some q := hq
        cases h4 with
        | plain => exact hw.nil y el ro q h3 hq
        | cells c _ _ _ h =>
          cases c with
          | nil => exact hw.nil y el ro q h3 hq
          | cons v c => have := rnL_len h; simp at this
      named := by
        intro x o' hx hne'
        obtain ⟨hsx, hx'⟩ := hmem1 x o' hx hne'
        obtain ⟨y, o, h1, h2, h3, h4, h5⟩ := hobj x o' hx'
        obtain ⟨q, hq⟩ := hρσ x y h1
        exact ⟨q, by rw [hs1 x hsx, h1]; exact hq⟩
      abs := by
        refine ⟨fun i k => ∃ x d, σ[i]? = some x ∧ obs[i]? = some (.abs d) ∧ F x k, fun i d hi => ?_, ?_, ?_⟩
        · obtain ⟨hsx, hx'⟩ := hmem1 i _ hi (by intro e; cases e)
          obtain ⟨y, o, h1, h2, h3, h4, h5⟩ := hobj i _ hx'
          cases h4
          obtain ⟨r, S, c, e, f⟩ := fa y d h3
          exact ⟨r, S, by rw [hs1 i hsx, h1]; exact c, e, fun k hk => ⟨y, d, h1, h2, f k hk⟩⟩
        · rintro i k ⟨x, d, g1, g2, g3⟩
          obtain ⟨_, b2, b3, b4⟩ := fb x k g3
          have hlt : i < objs1.length := by rw [← hobs1.len]; exact (List.getElem?_eq_some_iff.1 g2).1
          obtain ⟨o2, q1, q2, q3, _, q5⟩ := hobs1.get (List.getElem?_eq_getElem hlt)
          rw [g2] at q1
          cases q1
          have hi : memOf objs1 i = some (.abs d) := by
            rw [memOf_small (hsmi i x g1), List.getElem?_eq_getElem hlt]
            generalize objs1[i] = oo at q2 q5
            cases q2 with
            | abs => rfl
            | dead => exact absurd rfl q5
          refine ⟨⟨d, hi⟩, b2, fun hk => hk.2.2 i x d g1 g2 g3, fun z o' q hz hq hl => ?_⟩
          obtain ⟨hsx, hx'⟩ := hmem1 z o' hz (by rintro rfl; cases hl)
          obtain ⟨y, o, h1, h2, h3, h4, h5⟩ := hobj z o' hx'
          rw [hs1 z hsx, h1] at hq
          exact b4 y o q h3 hq (h4.live hl).1
        · rintro i j k ⟨x, _, g1, _, g3⟩ ⟨x', _, g1', _, g3'⟩
          have := fc x x' k g3 g3'
          subst this
          exact nodupB_get hnd g1 g1' }
  have hnamed1 : ∀ x, x < objs1.length → ∃ q, ρ1 x = some q := fun x hx => by
    have hlt : x < σ.length := by omega
    obtain ⟨q, hq⟩ := hρσ x _ (List.getElem?_eq_getElem hlt)
    exact ⟨q, by rw [hs1 x (hsmi x _ (List.getElem?_eq_getElem hlt)), List.getElem?_eq_getElem hlt]; exact hq⟩
  have ha1 : LR ρ1 args1 args'.toList := rnL_ok (rnV_ok hσρ 6) harg ha
  refine (hs args1 objs1 r1 objs2 hspec B1 w ρ1 w args' hfull hnamed1 ha1 hw1).mono fun e w' he => ?_
  obtain ⟨r2, o2', ρ2, ⟨hr2, ho2⟩, hcr, hfull2, hw2, hfew2, hkeep⟩ := he
  rw [hr2] at hcr
  rw [ho2] at hw2 hfew2
  clear hr2 ho2 r2 o2'
  -- the caller's names behind the call
  let N : Nat := objs2.length - σ.length
  have hlenb : back.length = objs2.length := b1
  have hlenn : news.length = N := by
    have := congrArg List.length l3
    rw [List.length_append] at this
    show news.length = objs2.length - σ.length
    omega
  have hle : σ.length ≤ objs2.length := by omega
  let ρ' : Ren := fun y => if S.next ≤ y ∧ y < S.next + N then ρ2 (σ.length + (y - S.next)) else ρ y
  have hnone : ∀ j, j < N → m (S.next + j) = none := fun j hj => by
    obtain ⟨h1, h2⟩ := hfree j (by omega)
    have h1 : gt t (S.next + j) = none := h1
    have h2 : S.next + j ∈ S'.wr := h2
    rw [hm _ (.inr h2)]
    rw [l1, updO_other] at h1
    · exact h1
    · intro i ob hi hob
      cases hro : ob.ro with
      | true => rfl
      | false =>
        exfalso
        have hi' : i < back.length := by have := (List.getElem?_eq_some_iff.1 hi).1; omega
        rw [updO_same hnd hi hob (List.getElem?_eq_getElem hi') hro] at h1
        cases h1
  have hnin : ∀ (i x : Nat), σ[i]? = some x → ¬ (S.next ≤ x ∧ x < S.next + N) := fun i x hi hx => by
    obtain ⟨o, _, h2⟩ := hmσ i x hi
    have := hnone (x - S.next) (by omega)
    rw [show S.next + (x - S.next) = x by omega, h2] at this
    cases this
  have hρ'n : ∀ j, j < N → ρ' (S.next + j) = ρ2 (σ.length + j) := fun j hj => by
    show (if _ then _ else _) = _
    rw [if_pos ⟨by omega, by omega⟩, show S.next + j - S.next = j by omega]
  have hρ'o : ∀ y, ¬ (S.next ≤ y ∧ y < S.next + N) → ρ' y = ρ y := fun y hy => by
    show (if _ then _ else _) = _
    rw [if_neg hy]
  have hρ'σ : ∀ (i x : Nat), σ[i]? = some x → ρ' x = ρ2 i := fun i x hi => by
    have hlt : i < σ.length := (List.getElem?_eq_some_iff.1 hi).1
    rw [hρ'o x (hnin i x hi), hkeep i (by omega), hs1 i (hsmi i x hi), hi]
    rfl
  have hle' : ρ.le ρ' := fun y q hy => by
    by_cases hin : S.next ≤ y ∧ y < S.next + N
    · have := hw.fresh _ (hnone (y - S.next) (by omega))
      rw [show S.next + (y - S.next) = y by omega, hy] at this
      cases this
    · rw [hρ'o y hin, hy]
  let τ : Nat → Option Nat := fun i => (σ ++ seqN S.next (objs2.length - σ.length))[i]?
  have hτ : ∀ i y, τ i = some y → (σ[i]? = some y) ∨ (σ.length ≤ i ∧ i - σ.length < N ∧ y = S.next + (i - σ.length)) := fun i y h => by
    have h : (σ ++ seqN S.next N)[i]? = some y := h
    by_cases hi : i < σ.length
    · rw [List.getElem?_append_left hi] at h; exact .inl h
    · rw [List.getElem?_append_right (by omega), seqN_get] at h
      split at h
      · rename_i h3; cases h; exact .inr ⟨by omega, h3, rfl⟩
      · cases h
  have hτρ : ∀ i y q, τ i = some y → ρ2 i = some q → ρ' y = some q := fun i y q h1 h2 => by
    rcases hτ i y h1 with h3 | ⟨h3, h4, rfl⟩
    · rw [hρ'σ i y h3, h2]
    · rw [hρ'n _ h4, show σ.length + (i - σ.length) = i by omega, h2]
  have hcr' : CR ρ' r e := by
    unfold backR at hr
    split at hr
    · rename_i v
      split at hr
      · rename_i u hu
        cases hr
        cases e with
        | returned v' => exact rnV_ok hτρ 6 v u v' hu hcr
        | panicked chain => cases hcr
        | outgrown => cases hcr
      · cases hr
    · rename_i v
      split at hr
      · rename_i hfl
        cases hr
        cases e with
        | returned v' => cases hcr
        | panicked chain =>
          obtain ⟨v', h1, h2⟩ := hcr
          have := fl_inv hfl h2
          subst this
          exact ⟨v', h1, fl_refl hfl⟩
        | outgrown => cases hcr
      · cases hr
  -- the memory behind the call
  let m0 : Nat → Option VObj := updO m σ obs back
  have hm0 : Agree ⟨t, S.next, σ ++ S.rd, wr⟩ S' m0 := fun x hx => by
    show updO m σ obs back x = gt t x
    rw [l1]
    by_cases hex : ∃ (i : Nat) (ob : VObj), σ[i]? = some x ∧ obs[i]? = some ob ∧ ob.ro = false
    · obtain ⟨i, ob, h1, h2, h3⟩ := hex
      have hi' : i < back.length := by have := (List.getElem?_eq_some_iff.1 h1).1; omega
      rw [updO_same hnd h1 h2 (List.getElem?_eq_getElem hi') h3, updO_same hnd h1 h2 (List.getElem?_eq_getElem hi') h3]
    · have hall : ∀ (i : Nat) (ob : VObj), σ[i]? = some x → obs[i]? = some ob → ob.ro = true := fun i ob h1 h2 => by
        cases h3 : ob.ro with
        | true => rfl
        | false => exact absurd ⟨i, ob, h1, h2, h3⟩ hex
      rw [updO_other hall, updO_other hall]
      exact hm x hx
  have hpost' : post m S' = updN m0 S.next news := by
    have h1 := hpost m0 hm0
    have h1 : post m0 S' = updN m0 S.next news := h1
    rw [← h1]
    funext x
    unfold post
    by_cases hx : x ∈ S'.wr
    · rw [if_pos hx, if_pos hx]
    · rw [if_neg hx, if_neg hx]
      show m x = updO m σ obs back x
      rw [updO_other]
      intro i ob h1 h2
      cases h3 : ob.ro with
      | true => rfl
      | false => exact absurd (e1.wr x (l6 i x ob h1 h2 h3)) hx
  have hupN : ∀ (l : List VObj) (k j : Nat) (g : Nat → Option VObj), j < l.length → updN g k l (k + j) = l[j]? := by
    intro l
    induction l with
    | nil => intro k j g h; simp at h
    | cons o l ih =>
      intro k j g h
      cases j with
      | zero =>
        show updN (upd g k o) (k + 1) l (k + 0) = _
        rw [updN_other (.inl (by omega)), Nat.add_zero, upd_same]
        rfl
      | succ j =>
        show updN (upd g k o) (k + 1) l (k + (j + 1)) = _
        rw [show k + (j + 1) = k + 1 + j by omega, ih (k + 1) j _ (by simpa using h)]
        rfl
  -- each name of the caller's: another's, or one of the callee's
  have hname : ∀ y o, post m S' y = some o → (m y = some o ∧ ρ' y = ρ y ∧ ∀ (i : Nat) (ob : VObj), σ[i]? = some y → obs[i]? = some ob → ob.ro = true) ∨
      ∃ i o2, τ i = some y ∧ small i = true ∧ memOf objs2 i = some o2 ∧ ON τ o2 o ∧ o.ro = false ∧ True ∧ ρ' y = ρ2 i := fun y o hy => by
    rw [hpost'] at hy
    by_cases hin : S.next ≤ y ∧ y < S.next + N
    · right
      have hj : y - S.next < news.length := by omega
      rw [show y = S.next + (y - S.next) by omega, hupN news _ _ _ hj] at hy
      have hbk : back[σ.length + (y - S.next)]? = some o := by
        rw [l3, List.getElem?_append_right (by omega), show σ.length + (y - S.next) - olds.length = y - S.next by omega]
        exact hy
      have hi : σ.length + (y - S.next) < objs2.length := by rw [← hlenb]; exact (List.getElem?_eq_some_iff.1 hbk).1
      obtain ⟨c1, c2, c3⟩ := b3 _ _ o (List.getElem?_eq_getElem hi) hbk (fun ob hob => by
        have := (List.getElem?_eq_some_iff.1 hob).1
        omega)
      have hsi : small (σ.length + (y - S.next)) = true := small_iff.2 (by have : (2 : Nat) ^ 18 = 262144 := rfl; omega)
      refine ⟨σ.length + (y - S.next), _, ?_, hsi, by rw [memOf_small hsi, List.getElem?_eq_getElem hi], c1, c2, c3, ?_⟩
      · show (σ ++ seqN S.next N)[σ.length + (y - S.next)]? = some y
        rw [List.getElem?_append_right (by omega), seqN_get, if_pos (by omega)]
        congr 1
        omega
      · have := hρ'n (y - S.next) (by omega)
        rwa [show S.next + (y - S.next) = y by omega] at this
    · rw [updN_other (by omega)] at hy
      have hy : updO m σ obs back y = some o := hy
      by_cases hex : ∃ (i : Nat) (ob : VObj), σ[i]? = some y ∧ obs[i]? = some ob ∧ ob.ro = false
      · right
        obtain ⟨i, ob, h1, h2, h3⟩ := hex
        have hi' : i < back.length := by have := (List.getElem?_eq_some_iff.1 h1).1; omega
        rw [updO_same hnd h1 h2 (List.getElem?_eq_getElem hi') h3] at hy
        have hbk : back[i]? = some o := by rw [List.getElem?_eq_getElem hi', ← hy]
        have hi2 : i < objs2.length := by omega
        obtain ⟨c1, c2, c3⟩ := b3 _ _ o (List.getElem?_eq_getElem hi2) hbk (fun ob' hob => by rw [h2] at hob; cases hob; exact h3)
        refine ⟨i, _, ?_, hsmi i y h1, by rw [memOf_small (hsmi i y h1), List.getElem?_eq_getElem hi2], c1, c2, c3, hρ'σ i y h1⟩
        show (σ ++ seqN S.next N)[i]? = some y
        rw [List.getElem?_append_left (List.getElem?_eq_some_iff.1 h1).1, h1]
      · left
        have hall : ∀ (i : Nat) (ob : VObj), σ[i]? = some y → obs[i]? = some ob → ob.ro = true := fun i ob h1 h2 => by
          cases h3 : ob.ro with
          | true => rfl
          | false => exact absurd ⟨i, ob, h1, h2, h3⟩ hex
        rw [updO_other hall] at hy
        exact ⟨hy, hρ'o y hin, hall⟩
  have hτinj : ∀ i j y, τ i = some y → τ j = some y → i = j := fun i j y h1 h2 => by
    rcases hτ i y h1 with h3 | ⟨h3, h4, h5⟩ <;> rcases hτ j y h2 with h6 | ⟨h6, h7, h8⟩
    · exact nodupB_get hnd h3 h6
    · exact absurd ⟨by omega, by omega⟩ (hnin i y h3)
    · exact absurd ⟨by omega, by omega⟩ (hnin j y h6)
    · omega
  have hold : ∀ y o q, m y = some o → ρ y = some q → Live o q = true → (∀ (i : Nat) (ob : VObj), σ[i]? = some y → obs[i]? = some ob → ob.ro = true) → B1 q.blk := fun y o q h1 h2 h3 h4 => by
    obtain ⟨oo, h5, _⟩ := hw.live y o q h1 h2 h3
    refine ⟨(Array.getElem?_eq_some_iff.1 h5).1, fun i x o' q' g1 g2 g3 g4 g5 e => ?_, fun i x d _ _ hF => (fb x q.blk hF).2.2.2 y o q h1 h2 h3 rfl⟩
    obtain ⟨o2, g6, g7⟩ := hmσ i x g1
    rw [g2] at g6
    cases g6
    have := hw.inj x y o' o q' q g7 h1 g3 h2 g5 h3 (.inl g4) e
    subst this
    have := h4 i o' g1 g2
    rw [g4] at this
    cases this
  refine ⟨ρ', hle', hcr',
    { env := hw.env
      below := hw.below.trans ⟨hw2.below.os, hw2.below.tape, hw2.below.output, hw2.below.size, fun k hk => hw2.below.block k (hBB k hk)⟩
      size := fun k hk => Nat.lt_of_lt_of_le (hw.size k hk) hw2.below.size
      live := ?_, inj := ?_, fresh := ?_, rows := ?_, nil := ?_, named := ?_, abs := ?_ }⟩
  · intro y o q hy hq hl
    rcases hname y o hy with ⟨h1, h2, h3⟩ | ⟨i, o2, h1, h2, h3, h4, h5, _, h6⟩
    · rw [h2] at hq
      obtain ⟨oo, g1, g2, g3⟩ := hw.live y o q h1 hq hl
      exact ⟨oo, by rw [hw2.below.block _ (hold y o q h1 hq hl h3)]; exact g1, g2.mono hle', g3⟩
    · rw [h6] at hq
      obtain ⟨oo, g1, g2, g3⟩ := hw2.live i o2 q h3 hq (h4.live hl).1
      exact ⟨oo, g1, h4.or hτρ hl oo g2, fun hro hb => g3 ((h4.live hl).2 hro) (hBB _ hb)⟩
  · intro x y ox oy rx ry hx hy hrx hry hlx hly hd he
    rcases hname x ox hx with ⟨h1, h2, h3⟩ | ⟨i, o2, h1, h2, h3, h4, h5, _, h6⟩ <;> rcases hname y oy hy with ⟨g1, g2, g3⟩ | ⟨j, o3, g1, g2, g3, g4, g5, _, g6⟩
    · rw [h2] at hrx
      rw [g2] at hry
      exact hw.inj x y ox oy rx ry h1 g1 hrx hry hlx hly hd he
    · rw [h2] at hrx
      rw [g6] at hry
      obtain ⟨_, _, _, g7⟩ := hw2.live j o3 ry g3 hry (g4.live hly).1
      exact absurd (hold x ox rx h1 hrx hlx h3) (he ▸ g7 ((g4.live hly).2 g5))
    · rw [h6] at hrx
      rw [g2] at hry
      obtain ⟨_, _, _, h7⟩ := hw2.live i o2 rx h3 hrx (h4.live hlx).1
      exact absurd (hold y oy ry g1 hry hly g3) (he ▸ h7 ((h4.live hlx).2 h5))
    · rw [h6] at hrx
      rw [g6] at hry
      have := hw2.inj i j o2 o3 rx ry h3 g3 hrx hry (h4.live hlx).1 (g4.live hly).1 (.inl ((h4.live hlx).2 h5)) he
      subst this
      rw [h1] at g1
      cases g1
      rfl
  · intro y hy
    by_cases hin : S.next ≤ y ∧ y < S.next + N
    · rw [hpost', show y = S.next + (y - S.next) by omega, hupN news _ _ _ (by omega)] at hy
      rw [List.getElem?_eq_none_iff] at hy
      omega
    · rw [hpost', updN_other (by omega)] at hy
      have hy : updO m σ obs back y = none := hy
      rw [hρ'o y hin]
      by_cases hex : ∃ (i : Nat) (ob : VObj), σ[i]? = some y ∧ obs[i]? = some ob ∧ ob.ro = false
      · obtain ⟨i, ob, h1, h2, h3⟩ := hex
        have hi' : i < back.length := by have := (List.getElem?_eq_some_iff.1 h1).1; omega
        rw [updO_same hnd h1 h2 (List.getElem?_eq_getElem hi') h3] at hy
        cases hy
      · rw [updO_other (fun i ob h1 h2 => by
          cases h3 : ob.ro with
          | true => rfl
          | false => exact absurd ⟨i, ob, h1, h2, h3⟩ hex)] at hy
        exact hw.fresh y hy
  · intro y n size row hy
    rcases hname y _ hy with ⟨h1, h2, h3⟩ | ⟨i, o2, h1, h2, h3, h4, h5, _, h6⟩
    · obtain ⟨q, g1, g2⟩ := hw.rows y n size row h1
      exact ⟨q, by rw [h2]; exact g1, g2⟩
    · cases h5
  · intro y el ro q hy hq
    rcases hname y _ hy with ⟨h1, h2, h3⟩ | ⟨i, o2, h1, h2, h3, h4, h5, _, h6⟩
    · rw [h2] at hq; exact hw.nil y el ro q h1 hq
    · rw [h6] at hq
      cases h4 with
      | plain => exact hw2.nil i el ro q h3 hq
      | cells c _ _ _ h =>
        cases c with
        | nil => exact hw2.nil i el ro q h3 hq
        | cons v c => have := rnL_len h; simp at this
  · intro y o hy hne'
    rcases hname y o hy with ⟨h1, h2, h3⟩ | ⟨i, o2, h1, h2, h3, h4, h5, _, h6⟩
    · rw [h2]; exact hw.named y o h1 hne'
    · rw [h6]; exact hw2.named i o2 h3 (h4.ne hne')
  · obtain ⟨F2, ga, gb, gc⟩ := hw2.abs
    have far : ∀ (y : Nat) (d : AbsD) (k : Nat), (∀ (i : Nat) (ob : VObj), σ[i]? = some y → obs[i]? = some ob → ob.ro = true) → F y k → B1 k := fun y d k hro hk => by
      obtain ⟨_, b2, b3, b4⟩ := fb y k hk
      refine ⟨b2, fun i x o q g1 g2 g3 g4 g5 => ?_, fun i x d' g1 g2 hF => ?_⟩
      · obtain ⟨o2, g6, g7⟩ := hmσ i x g1
        rw [g2] at g6
        cases g6
        exact b4 x o q g7 g3 g5
      · have := fc x y k hF hk
        subst this
        have := hro i _ g1 g2
        cases this
    refine ⟨fun y k => (∃ d, post m S' y = some (.abs d) ∧ F y k ∧ B1 k) ∨ ∃ i d, τ i = some y ∧ post m S' y = some (.abs d) ∧ F2 i k, fun y d hy => ?_, fun y k hk => ?_, fun y1 y2 k hk1 hk2 => ?_⟩
    · rcases hname y _ hy with ⟨h1, h2, h3⟩ | ⟨i, o2, h1, h2, h3, h4, h5, _, h6⟩
      · obtain ⟨r, S, c, e, f⟩ := fa y d h1
        exact ⟨r, S, by rw [h2, c], e.frame fun k hk => hw2.below.block k (far y d k h3 (f k hk)), fun k hk => .inl ⟨d, hy, f k hk, far y d k h3 (f k hk)⟩⟩
      · cases h4
        obtain ⟨r, S, c, e, f⟩ := ga i d h3
        exact ⟨r, S, by rw [h6, c], e, fun k hk => .inr ⟨i, d, h1, hy, f k hk⟩⟩
    · rcases hk with ⟨d, p1, p3, p4⟩ | ⟨i, d, p1, p2, p4⟩
      · obtain ⟨_, b2, b3, b4⟩ := fb y k p3
        refine ⟨⟨d, p1⟩, Nat.lt_of_lt_of_le b2 hw2.below.size, b3, fun z o r hz hr hl => ?_⟩
        rcases hname z o hz with ⟨h1, h2, h3⟩ | ⟨i, o2, h1, h2, h3, h4, h5, _, h6⟩
        · rw [h2] at hr; exact b4 z o r h1 hr hl
        · rw [h6] at hr
          obtain ⟨_, _, _, g3⟩ := hw2.live i o2 r h3 hr (h4.live hl).1
          exact fun e => g3 ((h4.live hl).2 h5) (e ▸ p4)
      · obtain ⟨_, q2, q3, q4⟩ := gb i k p4
        refine ⟨⟨d, p2⟩, q2, fun hB => q3 (hBB k hB), fun z o r hz hr hl => ?_⟩
        rcases hname z o hz with ⟨h1, h2, h3⟩ | ⟨j, o2, h1, h2, h3, h4, h5, _, h6⟩
        · rw [h2] at hr; exact fun e => q3 (e ▸ hold z o r h1 hr hl h3)
        · rw [h6] at hr; exact q4 j o2 r h3 hr (h4.live hl).1
    · rcases hk1 with ⟨d, p1, p3, p4⟩ | ⟨i, d, p1, p2, p4⟩ <;> rcases hk2 with ⟨d', s1, s3, s4⟩ | ⟨j, d', s1, s2, s4⟩
      · exact fc y1 y2 k p3 s3
      · exact absurd p4 (gb j k s4).2.2.1
      · exact absurd s4 (gb i k p4).2.2.1
      · have := gc i j k p4 s4
        subst this
        rw [p1] at s1
        cases s1
        rfl
end
def callS (P : Program) (tbl : FuncId → Option Sum) (base : CallO) : CallO := fun f args S => match tbl f with
 | some s => (applyS P s args S).dt
 | none => base f args S
def callSV (P : Program) (tbl : FuncId → Option Sum) (base : CallF) : CallF := fun f args S => match tbl f with
 | some s => (applyS P s args S).run
 | none => base f args S
def callT (P : Program) (tbl : FuncId → Option Sum) (lf d : Nat) : CallO := callS P tbl (funO P (callS P tbl) lf d)
theorem callT_ok {P : Program} (hP : plainNames P = true) (hmix : P.follows .mixedOrders = true) {tbl : FuncId → Option Sum} (ht : ∀ f s, tbl f = some s → FnOk P f s) (lf d : Nat) : CallsOk P (callT P tbl lf d) := by
  have h1 : ∀ call, CallOk P call → CallOk P (callSV P tbl call) := fun call hc =>
    { ext := by
        intro f args S r S' h
        unfold callSV at h
        split at h
        · rename_i s hs
          obtain ⟨A⟩ := applied_of h
          exact A.ext
        · exact hc.ext h
      ok := by
        intro f args S r S' h B w₀ ρ m w args' ha hw hm
        unfold callSV at h
        split at h
        · rename_i s hs
          obtain ⟨A⟩ := applied_of h
          exact A.call (ht f s hs) ha hw hm
        · exact hc.ok h ha hw hm }
  have h2 : ∀ (c : CallO) (c' : CallF), (∀ f args S r, (c f args S).Has r → c' f args S = some r) → ∀ f args S r, (callS P tbl c f args S).Has r → callSV P tbl c' f args S = some r := by
    intro c c' hc f args S r h
    unfold callS at h
    unfold callSV
    split at h
    · exact QT.dt_has h
    · exact hc f args S r h
  exact ⟨callSV P tbl (funV P (callSV P tbl) lf d), h1 _ (funV_call hP hmix h1 lf d), h2 _ _ fun f args S r h => funO_ok P h2 lf h⟩
end Go.Proofs.YtgepfmamfdmclaaGreatDoor.Vm
namespace Go.Proofs.YtgepfmamfdmclaaGreatDoor.Vm
open Go.RowKit
theorem TriL.done {P : Program} {n k : Nat} {l : List Code} {d : Desc} {Q : VEx → Desc → Prop} (hl : l.isEmpty = true) (h : Q .normal d) : TriL P n k l d Q := by
 cases l with
 | nil => exact TriL.nil h
 | cons c l => cases hl
def bodyC (P : Program) (f : FuncId) : Code := match (P.funcs[f]?).bind (·.body) with
 | some c => c
 | none => .skip
def resC (P : Program) (f : FuncId) : List ResultVar := match P.funcs[f]? with
 | some fn => fn.results.toList
 | none => []
def slotsC (P : Program) (f : FuncId) : Nat := match P.funcs[f]? with
 | some fn => fn.ntmps
 | none => 0
def FinC (P : Program) (f : FuncId) (n : Nat) (Q : CRes → List VObj → Prop) : VEx → Desc → Prop
 | .normal, d => ∃ vs l, (∀ u, (resV P (frU n u d.sl) (resC P f)).run (gt (vsOf d.objs).mem) = some (vs, l)) ∧ Q (.ret (resOf vs)) d.objs
 | .ret, d => ∃ vs l, (∀ u, (resV P (frU n u d.sl) (resC P f)).run (gt (vsOf d.objs).mem) = some (vs, l)) ∧ Q (.ret (resOf vs)) d.objs
 | .panic v, d => Q (.panic v) d.objs
 | _, _ => False
theorem FnT.of {P : Program} {f : FuncId} {n : Nat} {args : List Value} {objs : List VObj} {Q : CRes → List VObj → Prop}
  (hf : (((P.funcs[f]?).bind (·.body)).isSome && Nat.beq (slotsC P f) n && Nat.ble args.length n && Nat.ble n 1024 && Nat.ble objs.length 262144) = true)
  (h : TriL P n objs.length (flat2 (bodyC P f)) ⟨numb args 0, objs⟩ (FinC P f n Q)) : FnT P f args objs Q := by
 simp only [Bool.and_eq_true] at hf
 obtain ⟨⟨⟨⟨h1, h2⟩, h3⟩, h4⟩, h5⟩ := hf
 cases hfn : P.funcs[f]? with
 | none => rw [hfn] at h1; cases h1
 | some fn =>
  cases hb : fn.body with
  | none => rw [hfn] at h1; dsimp only [Option.bind_some] at h1; rw [hb] at h1; cases h1
  | some c =>
   have e1 : bodyC P f = c := by unfold bodyC; rw [hfn]; dsimp only [Option.bind_some]; rw [hb]
   have e2 : resC P f = fn.results.toList := by unfold resC; rw [hfn]
   have e3 : fn.ntmps = n := by have := Nat.eq_of_beq_eq_true h2; unfold slotsC at this; rw [hfn] at this; exact this
   subst e3
   refine FnT.of_tri hfn hb (by rw [h3, h4, h5]; rfl) ?_
   rw [e1] at h
   refine h.mono fun x d' hx => ?_
   unfold FinC at hx
   rw [e2] at hx
   cases x <;> exact hx
def bytesC (b : ByteArray) : List Value := b.data.toList.map fun x => .int .u8 x.toNat
def strsC (l : List ByteArray) : List Value := l.map Value.string
def intsC (l : List Int) : List Value := l.map (Value.int .i64)
theorem bytesC_length (b : ByteArray) : (bytesC b).length = b.size := by unfold bytesC; simp
theorem strsC_length (l : List ByteArray) : (strsC l).length = l.length := by unfold strsC; simp
theorem intsC_length (l : List Int) : (intsC l).length = l.length := by unfold intsC; simp
theorem pl_bytes (b : ByteArray) : (bytesC b).all isScal = true := by unfold bytesC; rw [List.all_map]; exact List.all_eq_true.2 fun _ _ => rfl
theorem pl_strs (l : List ByteArray) : (strsC l).all isScal = true := by unfold strsC; simp [isScal]
theorem pl_ints (l : List Int) : (intsC l).all isScal = true := by unfold intsC; simp [isScal]
theorem pl_append {a b : List Value} (ha : a.all isScal = true) (hb : b.all isScal = true) : (a ++ b).all isScal = true := by rw [List.all_append, ha, hb]; rfl
theorem pl_drop {a : List Value} (ha : a.all isScal = true) (n : Nat) : (a.drop n).all isScal = true := by
 rw [List.all_eq_true] at ha ⊢
 exact fun x hx => ha x (List.mem_of_mem_drop hx)
theorem pl_take {a : List Value} (ha : a.all isScal = true) (n : Nat) : (a.take n).all isScal = true := by
 rw [List.all_eq_true] at ha ⊢
 exact fun x hx => ha x (List.mem_of_mem_take hx)
theorem pl_splice {a b : List Value} (ha : a.all isScal = true) (hb : b.all isScal = true) (n : Nat) : (splice a n b).all isScal = true := by
 unfold splice
 exact pl_append (pl_append (pl_take ha n) hb) (pl_drop ha _)
theorem pl_u8 (b : List UInt8) : (b.map fun x => Value.int .u8 (x.toNat : Int)).all isScal = true := by simp [isScal]
theorem one_of_plain {c : List Value} (h : c.all isScal = true) : c.all Value.oneCell' = true := by
 rw [List.all_eq_true] at h ⊢
 intro x hx
 have := h x hx
 cases x <;> first | rfl | cases this
theorem bytesOf_map : ∀ l : List UInt8, bytesOf (l.map fun x => Value.int .u8 (x.toNat : Int)) = some l
 | [] => rfl
 | x :: l => by
  simp only [List.map_cons, bytesOf, bytesOf_map l]
  simp
theorem bytesOf_bytesC (b : ByteArray) : bytesOf (bytesC b) = some b.data.toList := bytesOf_map _
theorem cut_all {c : List Value} {n : Nat} (h : n = c.length) : cut c 0 n = some c := by
 unfold cut
 rw [Nat.ble_eq_true_of_le (by omega)]
 simp [h]
theorem isIntAt_ints {l : List Int} {i : Nat} (h : i < l.length) : isIntAt .i64 (intsC l) i = true := by unfold isIntAt intsC; simp [h]
theorem isIntAt_bytes {b : ByteArray} {i : Nat} (h : i < b.size) : isIntAt .u8 (bytesC b) i = true := by
 unfold isIntAt bytesC
 have : i < b.data.toList.length := by simpa using h
 simp [List.getElem?_map, List.getElem?_eq_getElem this]
theorem wrap_nat {x : Int} (h0 : -9223372036854775808 ≤ x) (h1 : x ≤ 9223372036854775807) : IntKind.i64.wrap x = x := by
 rw [IntKind.wrap_i64]; omega
end Go.Proofs.YtgepfmamfdmclaaGreatDoor.Vm
