/- The small machine with open questions: what depends on an unknown is asked, and answered by a script. -/
import Derived.Test.YtdbjloigfkckfaaGreatDoorVm15
namespace Go.Proofs.YtdbjloigfkckfaaGreatDoor.Vm
open Go.RowKit
set_option linter.unusedVariables false
set_option linter.unusedSimpArgs false

inductive DT (α : Type) where
  | done (a : α)
  | fail
  | ask (d : Bool) (k : Bool → DT α)
  | alt (p : Bool) (x y : DT α)

inductive DT.Has {α : Type} : DT α → α → Prop where
  | done (a : α) : Has (.done a) a
  | ask (d : Bool) (k : Bool → DT α) (a : α) (h : Has (k d) a) : Has (.ask d k) a
  | left (p : Bool) (x y : DT α) (a : α) (h : Has x a) : Has (.alt p x y) a
  | right (p : Bool) (x y : DT α) (a : α) (h : Has y a) : Has (.alt p x y) a

def DT.bind {α β : Type} : DT α → (α → DT β) → DT β
  | .done a, f => f a
  | .fail, _ => .fail
  | .ask d k, f => .ask d fun b => (k b).bind f
  | .alt p x y, f => .alt p (x.bind f) (y.bind f)

def DT.ofO {α : Type} : Option α → DT α
  | some a => .done a
  | none => .fail

theorem DT.has_done {α : Type} {a b : α} (h : (DT.done a).Has b) : b = a := by cases h; rfl
theorem DT.has_fail {α : Type} {b : α} (h : (DT.fail : DT α).Has b) : False := by cases h
theorem DT.has_ask {α : Type} {d : Bool} {k : Bool → DT α} {b : α} (h : (DT.ask d k).Has b) : (k d).Has b := by cases h; assumption
theorem DT.has_alt {α : Type} {p : Bool} {x y : DT α} {b : α} (h : (DT.alt p x y).Has b) : x.Has b ∨ y.Has b := by
  cases h with
  | left _ _ _ _ h => exact .inl h
  | right _ _ _ _ h => exact .inr h
theorem DT.has_ofO {α : Type} {o : Option α} {b : α} (h : (DT.ofO o).Has b) : o = some b := by
  cases o with
  | none => cases h
  | some a => rw [DT.has_done h]
theorem DT.has_bind {α β : Type} : ∀ {x : DT α} {f : α → DT β} {b : β}, (x.bind f).Has b → ∃ a, x.Has a ∧ (f a).Has b := by
  intro x
  induction x with
  | done a => intro f b h; exact ⟨a, .done a, h⟩
  | fail => intro f b h; cases h
  | ask d k ih =>
    intro f b h
    obtain ⟨a, h1, h2⟩ := ih d (DT.has_ask h)
    exact ⟨a, .ask d k a h1, h2⟩
  | alt p x y ihx ihy =>
    intro f b h
    rcases DT.has_alt h with h | h
    · obtain ⟨a, h1, h2⟩ := ihx h; exact ⟨a, .left _ _ _ _ h1, h2⟩
    · obtain ⟨a, h1, h2⟩ := ihy h; exact ⟨a, .right _ _ _ _ h1, h2⟩

abbrev Scr := List (Nat × Bool)
/-- A script answers some questions (so many are passed over, each by what it is); what it answered is told. -/
def DT.go {α : Type} : DT α → Scr → Option (α × List (Bool × Bool))
  | .done a, _ => some (a, [])
  | .fail, _ => none
  | .ask d k, s => match s with
    | [] => match d with
      | true => (k true).go []
      | false => (k false).go []
    | (0, b) :: s => match b with
      | true => match (k true).go s with
        | some (a, o) => some (a, (d, true) :: o)
        | none => none
      | false => match (k false).go s with
        | some (a, o) => some (a, (d, false) :: o)
        | none => none
    | (n + 1, b) :: s => match d with
      | true => (k true).go ((n, b) :: s)
      | false => (k false).go ((n, b) :: s)
  | .alt p x y, s => match s with
    | [] => match p with
      | true => x.go []
      | false => y.go []
    | (0, b) :: s => match b with
      | true => x.go s
      | false => y.go s
    | (n + 1, b) :: s => match p with
      | true => x.go ((n, b) :: s)
      | false => y.go ((n, b) :: s)

/-- As far as nothing is open. -/
inductive AT (α : Type) where
  | done (n : Nat) (a : α)
  | fail (n : Nat)
def mark {α : Type} (n : Nat) (x : AT α) : AT α := x
def DT.adv {α : Type} : DT α → Nat → AT α
  | .done a, n => .done n a
  | .fail, n => .fail n
  | .ask d k, n => match d with
    | true => mark n ((k true).adv (n + 1))
    | false => mark n ((k false).adv (n + 1))
  | .alt p x y, n => match p with
    | true => mark n (x.adv (n + 1))
    | false => mark n (y.adv (n + 1))
/-- Behind so many questions. -/
def DT.nth {α : Type} : DT α → Nat → DT α
  | .ask d k, n + 1 => match d with
    | true => (k true).nth n
    | false => (k false).nth n
  | .alt p x y, n + 1 => match p with
    | true => x.nth n
    | false => y.nth n
  | x, _ => x

theorem DT.go_has {α : Type} : ∀ {x : DT α} {s : Scr} {a : α} {o : List (Bool × Bool)}, x.go s = some (a, o) → (∀ p ∈ o, p.1 = p.2) → x.Has a := by
  intro x
  induction x with
  | done b => intro s a o h _; simp only [DT.go, Option.some.injEq, Prod.mk.injEq] at h; rw [← h.1]; exact .done b
  | fail => intro s a o h; cases h
  | ask d k ih =>
    intro s a o h ho
    unfold DT.go at h
    split at h
    · split at h
      · exact .ask _ _ _ (ih _ h ho)
      · exact .ask _ _ _ (ih _ h ho)
    · split at h
      · split at h
        · rename_i b' o' hg
          simp only [Option.some.injEq, Prod.mk.injEq] at h
          obtain ⟨rfl, rfl⟩ := h
          have h1 : d = true := ho (d, true) (by simp)
          subst h1
          exact .ask _ _ _ (ih _ hg fun p hp => ho p (by simp [hp]))
        · cases h
      · split at h
        · rename_i b' o' hg
          simp only [Option.some.injEq, Prod.mk.injEq] at h
          obtain ⟨rfl, rfl⟩ := h
          have h1 : d = false := ho (d, false) (by simp)
          subst h1
          exact .ask _ _ _ (ih _ hg fun p hp => ho p (by simp [hp]))
        · cases h
    · split at h
      · exact .ask _ _ _ (ih _ h ho)
      · exact .ask _ _ _ (ih _ h ho)
  | alt p x y ihx ihy =>
    intro s a o h ho
    unfold DT.go at h
    split at h
    · split at h
      · exact .left _ _ _ _ (ihx h ho)
      · exact .right _ _ _ _ (ihy h ho)
    · split at h
      · exact .left _ _ _ _ (ihx h ho)
      · exact .right _ _ _ _ (ihy h ho)
    · split at h
      · exact .left _ _ _ _ (ihx h ho)
      · exact .right _ _ _ _ (ihy h ho)

abbrev EO := DT (OOut × List Nat)
def valO (v : Value) (l : List Nat) : EO := .done (⟨.val v, [], none⟩, l)
theorem has_valO {v : Value} {l l' : List Nat} {out : OOut} (h : (valO v l).Has (out, l')) : out = ⟨.val v, [], none⟩ ∧ l' = l := by
  have := DT.has_done h
  simpa using this

/-- A question that must be answered so. -/
def mustO {α : Type} (d : Bool) (k : DT α) : DT α := .ask d fun b => match b with
  | true => k
  | false => .fail
theorem has_mustO {α : Type} {d : Bool} {k : DT α} {a : α} (h : (mustO d k).Has a) : d = true ∧ k.Has a := by
  have := DT.has_ask h
  cases d with
  | true => exact ⟨rfl, this⟩
  | false => exact (DT.has_fail this).elim

section
variable (P : Program)

def indexAddrO (t : TypeId) (x i : Value) : EO := match P.underlying t, x, i with
  | some (.array k el), .pointer (some ⟨b, off, none⟩), .int _ z => match szOf P el with
    | some size => mustO (decide (0 ≤ z)) (mustO (Nat.blt z.toNat k) (valO (.pointer (some ⟨b, off + z.toNat * size, none⟩)) []))
    | none => .fail
  | some (.slice el), .slice (some ⟨b, off, none⟩) len _, .int _ z => match szOf P el with
    | some size => mustO (decide (0 ≤ z)) (mustO (Nat.blt z.toNat len) (valO (.pointer (some ⟨b, off + z.toNat * size, none⟩)) []))
    | none => .fail
  | _, _, _ => .fail

theorem nOf_int {k : IntKind} {z : Int} (h : decide (0 ≤ z) = true) : nOf (.int k z) = some z.toNat := by
  have : 0 ≤ z := by simpa using h
  cases z with
  | ofNat n => rfl
  | negSucc n => omega

theorem indexAddrO_ok {t : TypeId} {x i : Value} {out : OOut} {l : List Nat} {g : Nat → Option VObj} (h : (indexAddrO P t x i).Has (out, l)) : (indexAddrV P t x i).run g = some (out, l) := by
  unfold indexAddrO at h
  unfold indexAddrV
  split at h
  · rename_i k el b off ik z ht
    split at h
    · rename_i size hs
      obtain ⟨h1, h⟩ := has_mustO h
      obtain ⟨h2, h⟩ := has_mustO h
      obtain ⟨rfl, rfl⟩ := has_valO h
      simp only [ht, nOf_int h1, hs, h2]
      rfl
    · cases h
  · rename_i el b off len cap ik z ht
    split at h
    · rename_i size hs
      obtain ⟨h1, h⟩ := has_mustO h
      obtain ⟨h2, h⟩ := has_mustO h
      obtain ⟨rfl, rfl⟩ := has_valO h
      simp only [ht, nOf_int h1, hs, h2]
      rfl
    · cases h
  · cases h

def intAt (c : List Value) (i : Nat) : Int := match c[i]? with
  | some (.int _ x) => x
  | _ => 0
def isIntAt (k : IntKind) (c : List Value) (i : Nat) : Bool := match c[i]? with
  | some (.int k' _) => decide (k' = k)
  | _ => false
def strAt (c : List Value) (i : Nat) : ByteArray := match c[i]? with
  | some (.string x) => x
  | _ => ByteArray.empty
def isStrAt (c : List Value) (i : Nat) : Bool := match c[i]? with
  | some (.string _) => true
  | _ => false
def boolAt (c : List Value) (i : Nat) : Bool := match c[i]? with
  | some (.bool x) => x
  | _ => false
def isBoolAt (c : List Value) (i : Nat) : Bool := match c[i]? with
  | some (.bool _) => true
  | _ => false

def ldTyped (t : TypeId) (c : List Value) (off : Nat) : DT Value := match P.underlying t with
  | some (.int k) => mustO (isIntAt k c off) (.done (.int k (intAt c off)))
  | some .string => mustO (isStrAt c off) (.done (.string (strAt c off)))
  | some .bool => mustO (isBoolAt c off) (.done (.bool (boolAt c off)))
  | _ => .fail

theorem ldTyped_ok {t : TypeId} {c : List Value} {off : Nat} {v : Value} (h : (ldTyped P t c off).Has v) : agg? P t = some false ∧ c[off]? = some v := by
  unfold ldTyped at h
  unfold agg?
  split at h
  · rename_i k ht
    obtain ⟨h1, h⟩ := has_mustO h
    have h2 := DT.has_done h
    unfold isIntAt at h1
    unfold intAt at h2
    split at h1
    · rename_i k' x hc
      have : k' = k := by simpa using h1
      subst this
      rw [hc] at h2 ⊢
      rw [ht, h2]
      exact ⟨rfl, rfl⟩
    · cases h1
  · rename_i ht
    obtain ⟨h1, h⟩ := has_mustO h
    have h2 := DT.has_done h
    unfold isStrAt at h1
    unfold strAt at h2
    split at h1
    · rename_i x hc
      rw [hc] at h2 ⊢
      rw [ht, h2]
      exact ⟨rfl, rfl⟩
    · cases h1
  · rename_i ht
    obtain ⟨h1, h⟩ := has_mustO h
    have h2 := DT.has_done h
    unfold isBoolAt at h1
    unfold boolAt at h2
    split at h1
    · rename_i x hc
      rw [hc] at h2 ⊢
      rw [ht, h2]
      exact ⟨rfl, rfl⟩
    · cases h1
  · cases h

def loadO (g : Nat → Option VObj) (t : TypeId) (a : Value) : EO := match a with
  | .pointer (some ⟨b, off, none⟩) => match g b with
    | some (.cells c _ _) => (ldTyped P t c off).bind fun v => valO v [b]
    | _ => .fail
  | _ => .fail

theorem loadO_ok {t : TypeId} {a : Value} {out : OOut} {l : List Nat} {g : Nat → Option VObj} (h : (loadO P g t a).Has (out, l)) : (loadV P t a).run g = some (out, l) := by
  unfold loadO at h
  split at h
  · rename_i b off
    split at h
    · rename_i c el ro hb
      obtain ⟨v, h1, h2⟩ := DT.has_bind h
      obtain ⟨rfl, rfl⟩ := has_valO h2
      obtain ⟨h3, h4⟩ := ldTyped_ok P h1
      unfold loadV ldV
      rw [Rd.run_bind]
      refine ⟨v, [b], [], ?_, rfl, rfl⟩
      simp only [Rd.run, hb, h3, h4]
    · cases h
  · cases h

/-- A slice that stands in a row: none, or one of the block 2 (so the callers name it). -/
def isNilAt (c : List Value) (i : Nat) : Bool := match c[i]? with
  | some (.slice none 0 0) => true
  | _ => false
def isSlAt (c : List Value) (i : Nat) : Bool := match c[i]? with
  | some (.slice (some ⟨2, _, none⟩) _ _) => true
  | _ => false
def slOff (c : List Value) (i : Nat) : Nat := match c[i]? with
  | some (.slice (some ⟨_, o, _⟩) _ _) => o
  | _ => 0
def slLen (c : List Value) (i : Nat) : Nat := match c[i]? with
  | some (.slice _ n _) => n
  | _ => 0
def slCap (c : List Value) (i : Nat) : Nat := match c[i]? with
  | some (.slice _ _ n) => n
  | _ => 0

/-- A cell of the kind of z. -/
def ldLike (z : Value) (c : List Value) (i : Nat) : DT Value := match z with
  | .int k _ => mustO (isIntAt k c i) (.done (.int k (intAt c i)))
  | .string _ => mustO (isStrAt c i) (.done (.string (strAt c i)))
  | .bool _ => mustO (isBoolAt c i) (.done (.bool (boolAt c i)))
  | .slice none 0 0 => .ask (isNilAt c i) fun b => match b with
    | true => .done (.slice none 0 0)
    | false => mustO (isSlAt c i) (.done (.slice (some ⟨2, slOff c i, none⟩) (slLen c i) (slCap c i)))
  | _ => .fail

theorem ldLike_ok {z : Value} {c : List Value} {i : Nat} {v : Value} (h : (ldLike z c i).Has v) : c[i]? = some v := by
  unfold ldLike at h
  split at h
  · rename_i k _
    obtain ⟨h1, h⟩ := has_mustO h
    have h2 := DT.has_done h
    unfold isIntAt at h1
    unfold intAt at h2
    split at h1
    · rename_i k' x hc
      have : k' = k := by simpa using h1
      subst this
      rw [hc] at h2 ⊢
      rw [h2]
    · cases h1
  · obtain ⟨h1, h⟩ := has_mustO h
    have h2 := DT.has_done h
    unfold isStrAt at h1
    unfold strAt at h2
    split at h1
    · rename_i x hc; rw [hc] at h2 ⊢; rw [h2]
    · cases h1
  · obtain ⟨h1, h⟩ := has_mustO h
    have h2 := DT.has_done h
    unfold isBoolAt at h1
    unfold boolAt at h2
    split at h1
    · rename_i x hc; rw [hc] at h2 ⊢; rw [h2]
    · cases h1
  · have h := DT.has_ask h
    cases hn : isNilAt c i with
    | true =>
      rw [hn] at h
      have h2 := DT.has_done h
      unfold isNilAt at hn
      split at hn
      · rename_i hc; rw [hc, h2]
      · cases hn
    | false =>
      rw [hn] at h
      obtain ⟨h1, h⟩ := has_mustO h
      have h2 := DT.has_done h
      unfold isSlAt at h1
      unfold slOff slLen slCap at h2
      split at h1
      · rename_i o n m hc; rw [hc] at h2 ⊢; rw [h2]
      · cases h1
  · cases h

def ldLikes : List Value → List Value → Nat → DT (List Value)
  | [], _, _ => .done []
  | z :: zs, c, i => (ldLike z c i).bind fun v => (ldLikes zs c (i + 1)).bind fun r => .done (v :: r)

theorem ldLikes_ok : ∀ {zs c : List Value} {i : Nat} {r : List Value}, (ldLikes zs c i).Has r → r.length = zs.length ∧ ∀ j v, r[j]? = some v → c[i + j]? = some v
  | [], c, i, r, h => by rw [DT.has_done h]; exact ⟨rfl, fun j v hv => by simp at hv⟩
  | z :: zs, c, i, r, h => by
    unfold ldLikes at h
    obtain ⟨v, h1, h2⟩ := DT.has_bind h
    obtain ⟨r', h3, h4⟩ := DT.has_bind h2
    rw [DT.has_done h4]
    obtain ⟨h5, h6⟩ := ldLikes_ok h3
    refine ⟨by simp [h5], fun j u hu => ?_⟩
    cases j with
    | zero =>
      simp only [List.getElem?_cons_zero, Option.some.injEq] at hu
      subst hu
      exact ldLike_ok h1
    | succ j =>
      simp only [List.getElem?_cons_succ] at hu
      have := h6 j u hu
      rwa [show i + 1 + j = i + (j + 1) by omega] at this

def loadAggO (g : Nat → Option VObj) (t : TypeId) (a : Value) : EO := match a with
  | .pointer (some ⟨b, off, none⟩) => match g b, agg? P t, zeroOf P t, szOf P t with
    | some (.cells c _ _), some true, some (.agg z), some (n + 1) => match Nat.beq z.toList.length (n + 1) with
      | true => mustO (Nat.ble (off + (n + 1)) c.length) ((ldLikes z.toList c off).bind fun l => valO (.agg l.toArray) [b])
      | false => .fail
    | _, _, _, _ => .fail
  | _ => .fail

theorem loadAggO_ok {t : TypeId} {a : Value} {out : OOut} {l : List Nat} {g : Nat → Option VObj} (h : (loadAggO P g t a).Has (out, l)) : (loadV P t a).run g = some (out, l) := by
  unfold loadAggO at h
  split at h
  · rename_i b off
    split at h
    · rename_i c el ro z n hb hag hz hn
      split at h
      · rename_i hlen
        have hlen := Nat.eq_of_beq_eq_true hlen
        obtain ⟨hle, h⟩ := has_mustO h
        obtain ⟨r, h1, h2⟩ := DT.has_bind h
        obtain ⟨rfl, rfl⟩ := has_valO h2
        obtain ⟨h3, h4⟩ := ldLikes_ok h1
        have hle' := Nat.le_of_ble_eq_true hle
        have hcut : cut c off (n + 1) = some r := by
          unfold cut
          rw [hle]
          refine congrArg some (List.ext_getElem? fun j => ?_)
          rw [List.getElem?_take]
          by_cases hj : j < n + 1
          · rw [if_pos hj, List.getElem?_drop]
            have hjr : j < r.length := by omega
            rw [List.getElem?_eq_getElem hjr]
            exact (h4 j _ (List.getElem?_eq_getElem hjr)).trans rfl
          · rw [if_neg hj, List.getElem?_eq_none (by omega)]
        unfold loadV ldV
        rw [Rd.run_bind]
        refine ⟨.agg r.toArray, [b], [], ?_, rfl, rfl⟩
        simp only [Rd.run, hb, hag, hn, hcut]
      · cases h
    · cases h
  · cases h

/-- A value laid at a place that is not known: each cell of its kind is the old one or the new one. -/
def muxCells (off : Nat) (v : Value) : Nat → List Value → DT (List Value)
  | _, [] => .done []
  | i, c :: cs => match c, v with
    | .string s, .string s' => (muxCells off v (i + 1) cs).bind fun r => .done (.string (bif Nat.beq off i then s' else s) :: r)
    | .int k x, .int k' x' => match decide (k = k') with
      | true => (muxCells off v (i + 1) cs).bind fun r => .done (.int k (bif Nat.beq off i then x' else x) :: r)
      | false => .ask (Nat.beq off i) fun b => match b with
        | true => .fail
        | false => (muxCells off v (i + 1) cs).bind fun r => .done (c :: r)
    | _, _ => .ask (Nat.beq off i) fun b => match b with
      | true => .fail
      | false => (muxCells off v (i + 1) cs).bind fun r => .done (c :: r)

theorem muxCells_ok {off : Nat} {v : Value} : ∀ {i : Nat} {c r : List Value}, (muxCells off v i c).Has r → r.length = c.length ∧ ∀ j, r[j]? = if i + j = off ∧ j < c.length then some v else c[j]?
  | i, [], r, h => by
    have := DT.has_done h
    subst this
    exact ⟨rfl, fun j => by simp⟩
  | i, c :: cs, r, h => by
    have fin : ∀ (x : Value) (r' : List Value), (muxCells off v (i + 1) cs).Has r' → (x = if i = off then v else c) → (x :: r').length = (c :: cs).length ∧ ∀ j, (x :: r')[j]? = if i + j = off ∧ j < (c :: cs).length then some v else (c :: cs)[j]? := by
      intro x r' hr hx
      obtain ⟨h1, h2⟩ := muxCells_ok hr
      refine ⟨by simp [h1], fun j => ?_⟩
      cases j with
      | zero =>
        simp only [List.getElem?_cons_zero, Nat.add_zero, List.length_cons]
        rw [hx]
        by_cases e : i = off
        · rw [if_pos e, if_pos ⟨e, by omega⟩]
        · rw [if_neg e, if_neg fun h => e h.1]
      | succ j =>
        simp only [List.getElem?_cons_succ, List.length_cons]
        rw [h2 j]
        by_cases e : i + 1 + j = off ∧ j < cs.length
        · rw [if_pos e, if_pos ⟨by omega, by omega⟩]
        · rw [if_neg e, if_neg fun h => e ⟨by omega, by omega⟩]
    have hb : ∀ {b : Bool}, Nat.beq off i = b → (i = off ↔ b = true) := by
      intro b hb
      rw [beq_comm' off i] at hb
      rw [← hb]
      exact ⟨fun e => by rw [e]; exact Nat.beq_refl _, fun e => Nat.eq_of_beq_eq_true e⟩
    unfold muxCells at h
    split at h
    · rename_i s s'
      obtain ⟨r', h1, h2⟩ := DT.has_bind h
      have := DT.has_done h2
      subst this
      refine fin _ r' h1 ?_
      cases hq : Nat.beq off i with
      | true => rw [if_pos ((hb hq).2 rfl)]; rfl
      | false => rw [if_neg fun e => by cases (hb hq).1 e]; rfl
    · rename_i k x k' x'
      split at h
      · rename_i hk
        have hk : k = k' := by simpa using hk
        subst hk
        obtain ⟨r', h1, h2⟩ := DT.has_bind h
        have := DT.has_done h2
        subst this
        refine fin _ r' h1 ?_
        cases hq : Nat.beq off i with
        | true => rw [if_pos ((hb hq).2 rfl)]; rfl
        | false => rw [if_neg fun e => by cases (hb hq).1 e]; rfl
      · have h := DT.has_ask h
        cases hq : Nat.beq off i with
        | true => rw [hq] at h; cases h
        | false =>
          rw [hq] at h
          obtain ⟨r', h1, h2⟩ := DT.has_bind h
          have := DT.has_done h2
          subst this
          exact fin _ r' h1 (by rw [if_neg fun e => by cases (hb hq).1 e])
    · have h := DT.has_ask h
      cases hq : Nat.beq off i with
      | true => rw [hq] at h; cases h
      | false =>
        rw [hq] at h
        obtain ⟨r', h1, h2⟩ := DT.has_bind h
        have := DT.has_done h2
        subst this
        exact fin _ r' h1 (by rw [if_neg fun e => by cases (hb hq).1 e])
where
  beq_comm' (a b : Nat) : Nat.beq a b = Nat.beq b a := by
    rw [Bool.eq_iff_iff]
    exact ⟨fun e => by rw [Nat.eq_of_beq_eq_true e]; exact Nat.beq_refl _, fun e => by rw [Nat.eq_of_beq_eq_true e]; exact Nat.beq_refl _⟩

/-- Into a row of such values. -/
def storeRowO (g : Nat → Option VObj) (t : TypeId) (a x : Value) : EO := match a, szOf P t with
  | .pointer (some ⟨b, off, none⟩), some size => match g b with
    | some (.cells c el false) => match Nat.beq x.cells.size size && x.cells.toList.all Value.oneCell' with
      | true => mustO (Nat.ble (off + size) c.length) (.done (⟨.skip, [(b, .cells (splice c off x.cells.toList) el false)], none⟩, [b]))
      | false => .fail
    | _ => .fail
  | _, _ => .fail

theorem storeRowO_ok {t : TypeId} {a x : Value} {out : OOut} {l : List Nat} {g : Nat → Option VObj} (h : (storeRowO P g t a x).Has (out, l)) : (storeV P t a x).run g = some (out, l) := by
  unfold storeRowO at h
  split at h
  · rename_i b off size hs
    split at h
    · rename_i c el hb
      split at h
      · rename_i hx
        simp only [Bool.and_eq_true] at hx
        obtain ⟨h1, h⟩ := has_mustO h
        have h4 := DT.has_done h
        simp only [Prod.mk.injEq] at h4
        obtain ⟨rfl, rfl⟩ := h4
        unfold storeV
        simp only [hs, Rd.run, hb, hx.1, hx.2, h1, Bool.and_self]
      · cases h
    · cases h
  · cases h

/-- Is it a row of such values? -/
def rowOf (g : Nat → Option VObj) (t : TypeId) (a : Value) : Bool := match a with
  | .pointer (some ⟨b, _, _⟩) => match g b with
    | some (.cells _ el _) => Nat.beq el t
    | _ => false
  | _ => false

def storeO (g : Nat → Option VObj) (t : TypeId) (a x : Value) : EO := match a, szOf P t with
  | .pointer (some ⟨b, off, none⟩), some 1 => match g b with
    | some (.cells c el false) => match Nat.beq x.cells.size 1 && x.cells.toList.all Value.oneCell' && x.oneCell' with
      | true => mustO (Nat.blt off c.length) ((muxCells off x 0 c).bind fun r => .done (⟨.skip, [(b, .cells r el false)], none⟩, [b]))
      | false => .fail
    | _ => .fail
  | _, _ => .fail

theorem oneCell_cells {x : Value} (h : x.oneCell' = true) : x.cells.toList = [x] := by
  cases x <;> first | rfl | cases h

theorem storeO_ok {t : TypeId} {a x : Value} {out : OOut} {l : List Nat} {g : Nat → Option VObj} (h : (storeO P g t a x).Has (out, l)) : (storeV P t a x).run g = some (out, l) := by
  unfold storeO at h
  split at h
  · rename_i b off hs
    split at h
    · rename_i c el hb
      split at h
      · rename_i hx
        simp only [Bool.and_eq_true] at hx
        obtain ⟨⟨hx1, hx2⟩, hx3⟩ := hx
        obtain ⟨h1, h⟩ := has_mustO h
        obtain ⟨r, h2, h3⟩ := DT.has_bind h
        have h4 := DT.has_done h3
        simp only [Prod.mk.injEq] at h4
        obtain ⟨rfl, rfl⟩ := h4
        obtain ⟨h5, h6⟩ := muxCells_ok h2
        have hlt := blt_iff.1 h1
        have hr : r = splice c off [x] := by
          apply List.ext_getElem?
          intro j
          rw [h6 j, splice_get (by simp only [List.length_cons, List.length_nil]; omega) j]
          simp only [List.length_cons, List.length_nil, Nat.zero_add]
          by_cases e : j = off
          · subst e; simp [hlt]
          · have e1 : ¬ (j = off ∧ j < c.length) := fun h => e h.1
            rw [if_neg e1]
            by_cases e2 : off ≤ j ∧ j < off + 1
            · exact absurd (by omega) e
            · rw [if_neg e2]
        have hle : Nat.ble (off + 1) c.length = true := Nat.ble_eq_true_of_le hlt
        unfold storeV
        simp only [hs, Rd.run, hb, hx1, hx2, hle, Bool.and_self]
        rw [hr, oneCell_cells hx3]
      · cases h
    · cases h
  · cases h

def convertO (g : Nat → Option VObj) (src dst : TypeId) (x : Value) : EO := match P.underlying src, P.underlying dst, x with
  | some (.slice el), some .string, .slice (some ⟨b, off, none⟩) len cap => match P.underlying el with
    | some (.int .u8) => match g b with
      | some (.cells c _ _) => mustO ((cut c off len).bind bytesOf).isSome (valO (.string ⟨(((cut c off len).bind bytesOf).getD []).toArray⟩) [b])
      | _ => .fail
    | _ => .fail
  | _, _, _ => .fail

theorem convertO_ok {src dst : TypeId} {x : Value} {n : Nat} {out : OOut} {l : List Nat} {g : Nat → Option VObj} (h : (convertO P g src dst x).Has (out, l)) : (convertV P src dst x n).run g = some (out, l) := by
  unfold convertO at h
  split at h
  · rename_i el b off len cap h1 h2
    split at h
    · rename_i he
      split at h
      · rename_i c ce ro hb
        obtain ⟨h3, h⟩ := has_mustO h
        obtain ⟨rfl, rfl⟩ := has_valO h
        unfold convertV
        simp only [h1, h2, he, Rd.run, hb]
        cases hq : (cut c off len).bind bytesOf with
        | none => rw [hq] at h3; cases h3
        | some l => rfl
      · cases h
    · cases h
  · cases h

def optNO : Nat → Option Value → (Nat → EO) → EO
  | d, none, k => k d
  | _, some (.int _ z), k => mustO (decide (0 ≤ z)) (k z.toNat)
  | _, _, _ => .fail

theorem optNO_ok {d : Nat} {o : Option Value} {k : Nat → EO} {a : OOut × List Nat} (h : (optNO d o k).Has a) : ∃ n, optN d o = some n ∧ (k n).Has a := by
  unfold optNO at h
  split at h
  · exact ⟨_, rfl, h⟩
  · obtain ⟨h1, h⟩ := has_mustO h
    exact ⟨_, nOf_int h1, h⟩
  · cases h

def sliceO (g : Nat → Option VObj) (t : TypeId) (x : Value) (lo hi mx : Option Value) : EO := match P.underlying t, x, mx with
  | some (.slice el), .slice (some ⟨b, off, none⟩) len cap, none => optNO 0 lo fun l => optNO len hi fun h => match szOf P el with
    | some size => mustO (Nat.ble l h) (mustO (Nat.ble h cap) (match g b with
      | some (.cells c eb _) => match szOf P eb with
        | some sb => match Nat.ble size sb with
          | true => valO (.slice (some ⟨b, off + l * size, none⟩) (h - l) (cap - l)) [b]
          | false => .fail
        | none => .fail
      | _ => .fail))
    | none => .fail
  | _, _, _ => .fail

theorem sliceO_ok {t : TypeId} {x : Value} {lo hi mx : Option Value} {out : OOut} {l : List Nat} {g : Nat → Option VObj} (h : (sliceO P g t x lo hi mx).Has (out, l)) : (sliceV P t x lo hi mx).run g = some (out, l) := by
  unfold sliceO at h
  split at h
  · rename_i el b off len cap ht
    obtain ⟨n1, h1, h⟩ := optNO_ok h
    obtain ⟨n2, h2, h⟩ := optNO_ok h
    split at h
    · rename_i size hs
      obtain ⟨h3, h⟩ := has_mustO h
      obtain ⟨h4, h⟩ := has_mustO h
      split at h
      · rename_i c eb ro hb
        split at h
        · rename_i sb hsb
          split at h
          · rename_i hle
            obtain ⟨rfl, rfl⟩ := has_valO h
            have hfl : fl (.slice (some ⟨b, off, none⟩) len cap) = false := by unfold fl flat; rfl
            unfold sliceV
            simp only [hfl, ht, h1, h2, hs, h3, h4, Bool.and_self, Rd.run, hb, hsb, hle]
            rfl
          · cases h
        · cases h
      · cases h
    · cases h
  · cases h

def pickO (c a b : Value) : EO := match c with
  | .bool d => .ask d fun d => match d with
    | true => valO a []
    | false => valO b []
  | _ => .fail

theorem pickO_ok {c a b : Value} {out : OOut} {l : List Nat} {g : Nat → Option VObj} (h : (pickO c a b).Has (out, l)) : (pickV c a b).run g = some (out, l) := by
  unfold pickO at h
  split at h
  · rename_i d
    have h := DT.has_ask h
    cases d with
    | true => obtain ⟨rfl, rfl⟩ := has_valO h; rfl
    | false => obtain ⟨rfl, rfl⟩ := has_valO h; rfl
  · cases h

/-- So many cells of a slice, or a string's bytes. -/
def cellsO (g : Nat → Option VObj) (size : Nat) : Value → Nat → DT (List Value × List Nat)
  | .slice (some ⟨b, off, none⟩) _ _, n => match g b with
    | some (.cells c _ _) => mustO (Nat.ble (off + n * size) c.length) (.done ((c.drop off).take (n * size), [b]))
    | _ => .fail
  | .slice none _ _, _ => .done ([], [])
  | .string s, n => .done ((s.data.toList.take n).map fun b => .int .u8 b.toNat, [])
  | _, _ => .fail

theorem cellsO_ok {g : Nat → Option VObj} {size n : Nat} {x : Value} {p : List Value × List Nat} (h : (cellsO g size x n).Has p) : (cellsV size x n).run g = some p := by
  unfold cellsO at h
  split at h
  · split at h
    · rename_i c el ro hb
      obtain ⟨h1, h⟩ := has_mustO h
      rw [DT.has_done h]
      unfold cellsV
      simp only [Rd.run, hb, ofO, cut, h1]
    · cases h
  · rw [DT.has_done h]; rfl
  · rw [DT.has_done h]; rfl
  · cases h

/-- An append by questions. -/
def appendNewO (g : Nat → Option VObj) (elem : TypeId) (size len k : Nat) (base : Option Addr) (xs : List Value) (l1 : List Nat) (n : Nat) : EO := match base with
  | none => match len with
    | 0 => .done (⟨.val (.slice (some ⟨n, 0, none⟩) k k), [], some (.cells xs elem false)⟩, l1 ++ [])
    | _ => .fail
  | some ⟨b, off, none⟩ => match g b with
    | some (.cells c el false) => mustO (Nat.beq (off + len * size) c.length) (match Nat.beq el elem with
      | true => .done (⟨.val (.slice (some ⟨n, 0, none⟩) (len + k) (len + k)), [(b, .dead)], some (.cells (c.drop off ++ xs) elem false)⟩, l1 ++ [b])
      | false => .fail)
    | _ => .fail
  | _ => .fail
def appendInO (g : Nat → Option VObj) (size len cap k : Nat) (base : Option Addr) (xs : List Value) (l1 : List Nat) : EO := match base with
  | some ⟨b, off, none⟩ => match g b with
    | some (.cells c el false) => mustO (Nat.ble (len + k) cap) (mustO (Nat.ble (off + len * size + xs.length) c.length)
      (.done (⟨.val (.slice (some ⟨b, off, none⟩) (len + k) cap), [(b, .cells (splice c (off + len * size) xs) el false)], none⟩, l1 ++ [b])))
    | _ => .fail
  | _ => .fail
theorem appendNewO_ok {elem : TypeId} {size len k n : Nat} {base : Option Addr} {xs : List Value} {l1 l : List Nat} {out : OOut} {g : Nat → Option VObj} (h : (appendNewO g elem size len k base xs l1 n).Has (out, l)) :
    ∃ l2, (appendNew elem size len k base xs n).run g = some (out, l2) ∧ l = l1 ++ l2 := by
  unfold appendNewO at h
  split at h
  · split at h
    · have h := DT.has_done h
      simp only [Prod.mk.injEq] at h
      obtain ⟨rfl, rfl⟩ := h
      exact ⟨[], rfl, rfl⟩
    · cases h
  · rename_i b off
    split at h
    · rename_i c el hb
      obtain ⟨h12, h⟩ := has_mustO h
      split at h
      · rename_i h13
        have h := DT.has_done h
        simp only [Prod.mk.injEq] at h
        obtain ⟨rfl, rfl⟩ := h
        exact ⟨[b], by simp only [appendNew, Rd.run, hb, h12, h13, Bool.and_self], rfl⟩
      · cases h
    · cases h
  · cases h
theorem appendInO_ok {size len cap k : Nat} {base : Option Addr} {xs : List Value} {l1 l : List Nat} {out : OOut} {g : Nat → Option VObj} (h : (appendInO g size len cap k base xs l1).Has (out, l)) :
    ∃ l2, (appendIn size len cap k base xs).run g = some (out, l2) ∧ l = l1 ++ l2 := by
  unfold appendInO at h
  split at h
  · rename_i b off
    split at h
    · rename_i c el hb
      obtain ⟨h12, h⟩ := has_mustO h
      obtain ⟨h13, h⟩ := has_mustO h
      have h := DT.has_done h
      simp only [Prod.mk.injEq] at h
      obtain ⟨rfl, rfl⟩ := h
      exact ⟨[b], by simp only [appendIn, Rd.run, hb, h12, h13, Bool.and_self], rfl⟩
    · cases h
  · cases h

def appendO (g : Nat → Option VObj) (argTypes : List TypeId) (args : List Value) (n : Nat) : EO := match argTypes, args with
  | sT :: xT :: _, .slice base len cap :: x :: _ => match P.underlying sT, P.underlying xT with
    | some (.slice elem), some xd => match szOf P elem, lenV x, zeroOf P elem, (P.info? elem).map (·.bytes) with
      | some size, some k, some z, some bytes => match !isInt xd && Nat.ble bytes 1000000 && Nat.beq z.cells.size size && Nat.blt 0 size with
        | false => .fail
        | true => (cellsO g size x k).bind fun p => mustO (Nat.ble (len + k) 1000000) (mustO (p.1.all Value.oneCell') (mustO (Nat.beq p.1.length (k * size)) (.ask (full len cap) fun d => match d with
          | true => appendNewO g elem size len k base p.1 p.2 n
          | false => appendInO g size len cap k base p.1 p.2)))
      | _, _, _, _ => .fail
    | _, _ => .fail
  | _, _ => .fail

theorem appendO_ok {argTypes : List TypeId} {args : List Value} {n : Nat} {out : OOut} {l : List Nat} {g : Nat → Option VObj} (h : (appendO P g argTypes args n).Has (out, l)) : (appendV P argTypes args n).run g = some (out, l) := by
  unfold appendO at h
  split at h
  · rename_i sT xT r1 base len cap x r2
    split at h
    · rename_i elem xd h1 h2
      split at h
      · rename_i size k z bytes h3 h4 h5 h6
        split at h
        · cases h
        · rename_i h7
          obtain ⟨p, h8, h⟩ := DT.has_bind h
          obtain ⟨h9, h⟩ := has_mustO h
          obtain ⟨h10, h⟩ := has_mustO h
          obtain ⟨h11, h⟩ := has_mustO h
          have h := DT.has_ask h
          have h8 := cellsO_ok h8
          obtain ⟨xs, l1⟩ := p
          dsimp only at h9 h10 h11 h
          unfold appendV
          simp only [h1, h2, h3, h4, h5, h6, h7]
          rw [Rd.run_bind]
          cases hf : full len cap with
          | true =>
            rw [hf] at h
            obtain ⟨l2, h12, h13⟩ := appendNewO_ok h
            exact ⟨xs, l1, l2, h8, by simp only [h9, h10, h11, Bool.and_self]; exact h12, h13⟩
          | false =>
            rw [hf] at h
            obtain ⟨l2, h12, h13⟩ := appendInO_ok h
            exact ⟨xs, l1, l2, h8, by simp only [h9, h10, h11, Bool.and_self]; exact h12, h13⟩
      · cases h
    · cases h
  · cases h

/-- Divisions, and sums of strings. -/
def divO (op : BinOp) (a b : Value) : EO := match op, a, b with
  | .quo, .int k x, .int k' y => match decide (k = k') with
    | true => mustO (!decide (y = 0)) (valO (.int k (k.wrap (x.tdiv y))) [])
    | false => .fail
  | .rem, .int k x, .int k' y => match decide (k = k') with
    | true => mustO (!decide (y = 0)) (valO (.int k (x.tmod y)) [])
    | false => .fail
  | .add, .string x, .string y => mustO (decide (((x.size + y.size : Nat) : Int) ≤ IntKind.i64.max)) (valO (.string (x ++ y)) [])
  | _, _, _ => .fail

theorem ofPure_pure {s : Sem Value} {v : Value} (h : s = pure v) (hv : fl v = true) {g : Nat → Option VObj} : (ofPure P (do let u ← s; pure (.value u))).run g = some (⟨.val v, [], none⟩, []) := by
  subst h
  unfold ofPure
  have : pureRun P (do let u ← (pure v : Sem Value); pure (Next.value u)) = some (.ok (.value v)) := rfl
  rw [this]
  dsimp only
  rw [hv]
  rfl

theorem divO_ok {op : BinOp} {t : TypeId} {x y : Operand} {a b : Value} {out : OOut} {l : List Nat} {g : Nat → Option VObj} (h : (divO op a b).Has (out, l)) : (binV P op t x y a b).run g = some (out, l) := by
  unfold divO at h
  split at h
  · rename_i k n k' m
    split at h
    · rename_i hk
      have hk := of_decide_eq_true hk
      subst hk
      obtain ⟨hm, h⟩ := has_mustO h
      obtain ⟨rfl, rfl⟩ := has_valO h
      have hm : m ≠ 0 := by simpa using hm
      refine ofPure_pure P (s := (do eqGuard .quo t x y (.int k n) (.int k m); binOp .quo t (.int k n) (.int k m))) ?_ rfl
      show binOp .quo t (.int k n) (.int k m) = _
      simp only [binOp, ne_eq, not_true_eq_false, if_false, Op.intDiv, hm]
    · cases h
  · rename_i k n k' m
    split at h
    · rename_i hk
      have hk := of_decide_eq_true hk
      subst hk
      obtain ⟨hm, h⟩ := has_mustO h
      obtain ⟨rfl, rfl⟩ := has_valO h
      have hm : m ≠ 0 := by simpa using hm
      refine ofPure_pure P (s := (do eqGuard .rem t x y (.int k n) (.int k m); binOp .rem t (.int k n) (.int k m))) ?_ rfl
      show binOp .rem t (.int k n) (.int k m) = _
      simp only [binOp, ne_eq, not_true_eq_false, if_false, Op.intDiv, hm]
    · cases h
  · rename_i n m
    obtain ⟨hm, h⟩ := has_mustO h
    obtain ⟨rfl, rfl⟩ := has_valO h
    have hm : ¬ ((n.size + m.size : Nat) : Int) > IntKind.i64.max := by have := of_decide_eq_true hm; omega
    refine ofPure_pure P (s := (do eqGuard .add t x y (.string n) (.string m); binOp .add t (.string n) (.string m))) ?_ rfl
    show binOp .add t (.string n) (.string m) = _
    simp only [binOp, Op.stringOp, hm, if_false]
  · cases h

theorem pureRun_bind {α β : Type} {f : α → Sem β} {a : α} : ∀ {P : Program} {x : Sem α}, pureRun P x = some (.ok a) → pureRun P (x >>= f) = pureRun P (f a) := by
  intro P x
  induction x with
  | pure b => intro h; simp only [pureRun, Option.some.injEq, Except.ok.injEq] at h; subst h; rfl
  | program k ih => intro h; exact ih P h
  | mark m k ih => intro h; exact ih h
  | halt x => intro h; cases x <;> simp [pureRun] at h
  | _ => intro h; simp [pureRun] at h
theorem pureRun_underlying {t : TypeId} {d : TypeDesc} (h : P.underlying t = some d) : pureRun P (underlying t) = some (.ok d) := by
  have : underlying t = Sem.program fun p => (match p.underlying t with
    | some d => pure d
    | none => stuck "no such type") := rfl
  rw [this]
  show pureRun P (match P.underlying t with
    | some d => pure d
    | none => stuck "no such type") = _
  rw [h]
  rfl

/-- A letter of a string. -/
def letterO (t : TypeId) (x i : Value) : EO := match P.underlying t, x, i with
  | some .string, .string s, .int _ z => mustO (decide (0 ≤ z)) (mustO (Nat.blt z.toNat s.size) (valO (.int .u8 ((s.data.toList.getD z.toNat 0).toNat)) []))
  | _, _, _ => .fail

theorem letterO_ok {t : TypeId} {x i : Value} {out : OOut} {l : List Nat} {g : Nat → Option VObj} (h : (letterO P t x i).Has (out, l)) : (indexV P t x i).run g = some (out, l) := by
  unfold letterO at h
  split at h
  · rename_i s k z ht
    obtain ⟨h1, h⟩ := has_mustO h
    obtain ⟨h2, h⟩ := has_mustO h
    obtain ⟨rfl, rfl⟩ := has_valO h
    have h1 : 0 ≤ z := by simpa using h1
    have h2 := blt_iff.1 h2
    have hg : s[z.toNat]? = some (s.data.toList.getD z.toNat 0) := by
      have h3 : z.toNat < s.data.toList.length := by simpa using h2
      rw [getElem?_pos s z.toNat h2, List.getD_eq_getElem?_getD, List.getElem?_eq_getElem h3]
      rfl
    unfold indexV
    show (ofPure P (do let v ← Instr.index t (.string s) (.int k z); pure (.value v))).run g = _
    unfold ofPure
    have : pureRun P (do let u ← Instr.index t (.string s) (.int k z); pure (Next.value u)) = some (.ok (.value (.int .u8 ((s.data.toList.getD z.toNat 0).toNat)))) := by
      refine (pureRun_bind (a := (.int .u8 ((s.data.toList.getD z.toNat 0).toNat) : Value)) ?_).trans rfl
      unfold Instr.index
      refine (pureRun_bind (a := (k, z)) rfl).trans ?_
      refine (pureRun_bind (pureRun_underlying P ht)).trans ?_
      simp only [h1, if_true, hg]
      rfl
    rw [this]
    rfl
  · cases h

/-- A piece of a string. -/
def optSO : Nat → Option Value → (Nat → EO) → EO
  | d, none, k => k d
  | _, some (.int _ z), k => mustO (decide (0 ≤ z)) (k z.toNat)
  | _, _, _ => .fail
def cutStrO (t : TypeId) (x : Value) (lo hi mx : Option Value) : EO := match P.underlying t, x, mx with
  | some .string, .string s, none => match lo.all fl && hi.all fl with
    | true => optSO 0 lo fun l => optSO s.size hi fun h => mustO (Nat.ble h s.size) (mustO (Nat.ble l h) (valO (.string (s.extract l h)) []))
    | false => .fail
  | _, _, _ => .fail

theorem optSO_ok {d : Nat} {o : Option Value} {k : Nat → EO} {a : OOut × List Nat} (h : (optSO d o k).Has a) : ∃ n, (k n).Has a ∧ ((o = none ∧ n = d) ∨ ∃ ik z, o = some (.int ik z) ∧ 0 ≤ z ∧ n = z.toNat) := by
  unfold optSO at h
  split at h
  · exact ⟨_, h, .inl ⟨rfl, rfl⟩⟩
  · rename_i ik z
    obtain ⟨h1, h⟩ := has_mustO h
    exact ⟨_, h, .inr ⟨ik, z, rfl, by simpa using h1, rfl⟩⟩
  · cases h

theorem pureRun_bound {ik : IntKind} {z : Int} {y : Nat} {code : BoundsCode} (h0 : 0 ≤ z) (h1 : z.toNat ≤ y) : pureRun P (Instr.sliceBound (.int ik z) y code) = some (.ok z.toNat) := by
  unfold Instr.sliceBound
  refine (pureRun_bind (a := (ik, z)) rfl).trans ?_
  have : 0 ≤ z ∧ z ≤ (y : Int) := ⟨h0, by omega⟩
  simp only [this, and_self, if_true]
  rfl

theorem cutStrO_ok {t : TypeId} {x : Value} {lo hi mx : Option Value} {out : OOut} {l : List Nat} {g : Nat → Option VObj} (h : (cutStrO P t x lo hi mx).Has (out, l)) : (sliceV P t x lo hi mx).run g = some (out, l) := by
  unfold cutStrO at h
  split at h
  · rename_i s ht
    split at h
    · rename_i hfl
      obtain ⟨n1, h, hn1⟩ := optSO_ok h
      obtain ⟨n2, h, hn2⟩ := optSO_ok h
      obtain ⟨h2, h⟩ := has_mustO h
      obtain ⟨h1, h⟩ := has_mustO h
      obtain ⟨rfl, rfl⟩ := has_valO h
      have h1 := Nat.le_of_ble_eq_true h1
      have h2 := Nat.le_of_ble_eq_true h2
      unfold sliceV
      have hf1 : fl (.string s) = true := rfl
      rw [hf1]
      dsimp only
      rw [hfl]
      have hr : pureRun P (Instr.sliceAt t (.string s) lo hi none) = some (.ok (.string (s.extract n1 n2))) := by
        unfold Instr.sliceAt
        refine (pureRun_bind (pureRun_underlying P ht)).trans ?_
        dsimp only
        unfold Instr.slice
        refine (pureRun_bind (pureRun_underlying P ht)).trans ?_
        dsimp only
        refine (pureRun_bind (a := (n1, n2, s.size)) ?_).trans rfl
        rcases hn2 with ⟨rfl, rfl⟩ | ⟨ik, z, rfl, hz, rfl⟩ <;> rcases hn1 with ⟨rfl, rfl⟩ | ⟨ik', z', rfl, hz', rfl⟩
        · rfl
        · exact (pureRun_bind (f := fun l => pure (l, s.size, s.size)) (pureRun_bound P hz' h1)).trans rfl
        · exact (pureRun_bind (f := fun h => pure (0, h, s.size)) (pureRun_bound P hz h2)).trans rfl
        · exact (pureRun_bind (f := fun h => (Instr.sliceBound (.int ik' z') h .sliceB).bind fun l => pure (l, h, s.size)) (pureRun_bound P hz h2)).trans ((pureRun_bind (f := fun l => pure (l, z.toNat, s.size)) (pureRun_bound P hz' h1)).trans rfl)
      show (ofPure P _).run g = _
      unfold ofPure
      have hr2 : pureRun P (do let v ← Instr.sliceAt t (.string s) lo hi none; pure (Next.value v)) = some (.ok (.value (.string (s.extract n1 n2)))) := pureRun_bind hr
      rw [hr2]
      rfl
    · cases h
  · cases h

def clearO (g : Nat → Option VObj) (argTypes : List TypeId) (args : List Value) : EO := match argTypes, args with
  | t :: _, x :: _ => match P.underlying t, x with
    | some (.slice el), .slice (some ⟨b, off, none⟩) k _ => .ask (Nat.beq k 0) fun d => match d with
      | true => valO (.tuple #[]) []
      | false => match szOf P el, zeroOf P el, g b with
        | some size, some z, some (.cells c ce false) => mustO (Nat.ble (off + k * size) c.length) (match fl z && Nat.beq z.cells.size size && z.cells.toList.all Value.oneCell' with
          | true => .done (⟨.val (.tuple #[]), [(b, .cells (splice c off (repl z.cells.toList k)) ce false)], none⟩, [b])
          | false => .fail)
        | _, _, _ => .fail
    | _, _ => .fail
  | _, _ => .fail
theorem clearO_ok {argTypes : List TypeId} {args : List Value} {out : OOut} {l : List Nat} {g : Nat → Option VObj} (h : (clearO P g argTypes args).Has (out, l)) : (clearV P argTypes args).run g = some (out, l) := by
  unfold clearO at h
  unfold clearV
  split at h
  · rename_i t _ x _
    dsimp only
    split at h
    · rename_i el b off k cap ht
      have h := DT.has_ask h
      rw [ht]
      cases k with
      | zero =>
        obtain ⟨rfl, rfl⟩ := has_valO h
        rfl
      | succ k =>
        have hk : Nat.beq (k + 1) 0 = false := rfl
        rw [hk] at h
        dsimp only at h
        show (match szOf P el, zeroOf P el with
          | some size, some z => Rd.read b fun
            | .cells c ce false => match fl z && Nat.beq z.cells.size size && Nat.ble (off + (k + 1) * size) c.length && z.cells.toList.all Value.oneCell' with
              | true => .done ⟨.val (.tuple #[]), [(b, .cells (splice c off (repl z.cells.toList (k + 1))) ce false)], none⟩
              | false => .fail
            | _ => .fail
          | _, _ => .fail : Rd OOut).run g = _
        split at h
        · rename_i size z c ce hs hz hg
          obtain ⟨hb, h⟩ := has_mustO h
          split at h
          · rename_i hf
            rw [hs, hz]
            simp only [Rd.run, hg]
            simp only [Bool.and_eq_true] at hf
            obtain ⟨⟨f1, f2⟩, f3⟩ := hf
            rw [f1, f2, hb, f3]
            cases DT.has_done h
            rfl
          · cases h
        · cases h
    · cases h
  · cases h
def callO (e : Operand → Value) (g : Nat → Option VObj) (c : Call) (n : Nat) : EO := match c.callee with
  | .builtin .append => appendO P g c.argTypes.toList (c.args.toList.map e) n
  | .builtin .clear => clearO P g c.argTypes.toList (c.args.toList.map e)
  | _ => .fail

def firstClosed (l : List Value) : Bool := match l with
  | v :: w :: _ => (match v with
    | .slice _ n c => Nat.beq n n && Nat.beq c c
    | _ => true) && (match w with
    | .slice _ n _ => Nat.beq n n
    | .string s => Nat.beq s.size s.size
    | _ => true)
  | _ => true
def callClosed (e : Operand → Value) (c : Call) : Bool := match c.callee with
  | .builtin .append => firstClosed (c.args.toList.map e)
  | .builtin .clear => firstClosed (c.args.toList.map e ++ [.nilFunc])
  | _ => true

/-- A division, a sum of strings: is it closed? -/
def divLike (op : BinOp) (a b : Value) : Option Bool := match op, a, b with
  | .quo, .int _ _, .int _ y => some (decide (y = y))
  | .rem, .int _ _, .int _ y => some (decide (y = y))
  | .add, .string x, .string y => some (Nat.beq (x.size + y.size) (x.size + y.size))
  | _, _, _ => none
def offOf : Value → Nat
  | .pointer (some ⟨_, off, _⟩) => off
  | _ => 0
def isClosed (n : Nat) : Bool := Nat.beq n n
def intClosed : Value → Bool
  | .int _ z => decide (z = z)
  | _ => true
def lenClosed : Value → Bool
  | .slice _ n c => Nat.beq n n && Nat.beq c c
  | _ => true
def bytesClosed (g : Nat → Option VObj) : Value → Bool
  | .slice (some ⟨b, off, _⟩) len _ => match g b with
    | some (.cells c _ _) => ((cut c off len).bind bytesOf).isSome
    | _ => true
  | _ => true

/-- A slice that is compared with nil. -/
def nilLike (op : BinOp) (a b : Value) : Option (Nat × Bool) := match op, a, b with
  | .eql, .slice (some _) _ c, .slice none 0 0 => some (c, false)
  | .neq, .slice (some _) _ c, .slice none 0 0 => some (c, true)
  | _, _, _ => none
def nilO (t : TypeId) (c : Nat) (r : Bool) : EO := match P.underlying t with
  | some (.slice _) => mustO (Nat.blt 0 c) (valO (.bool r) [])
  | _ => .fail
theorem nilO_ok {op : BinOp} {t : TypeId} {x y : Operand} {a b : Value} {c : Nat} {r : Bool} {out : OOut} {l : List Nat} {g : Nat → Option VObj} (hl : nilLike op a b = some (c, r)) (h : (nilO P t c r).Has (out, l)) :
    (binV P op t x y a b).run g = some (out, l) := by
  unfold nilO at h
  split at h
  · rename_i el ht
    obtain ⟨hc, h⟩ := has_mustO h
    obtain ⟨rfl, rfl⟩ := has_valO h
    unfold nilLike at hl
    split at hl
    · cases hl
      unfold binV
      have : fl (.slice (some ‹Addr›) ‹Nat› c) = false := rfl
      rw [this]
      simp only [Bool.false_and, eqV, ht, nilEq, hc]
      rfl
    · cases hl
      unfold binV
      have : fl (.slice (some ‹Addr›) ‹Nat› c) = false := rfl
      rw [this]
      simp only [Bool.false_and, eqV, ht, nilEq, hc]
      rfl
    · cases hl
  · cases h

/-- Is the cell there to be seen? (It guides the run alone.) -/
def cellSeen (g : Nat → Option VObj) (v : Value) : Bool := match v with
  | .pointer (some ⟨b, off, none⟩) => match g b with
    | some (.cells c _ _) => match c[off]? with
      | some _ => true
      | none => true
    | _ => true
  | _ => true
/-- An operation; where the plain machine would not know how to go on, by questions. -/
def evO (t : Fr) (S : VS) (o : Oper) : EO := match o.op with
  | .pick c a b => pickO (evalL t c) (evalL t a) (evalL t b)
  | .load ty a => .alt (isClosed (offOf (evalL t a)) && cellSeen (gt S.mem) (evalL t a)) (DT.ofO ((ev P (evalL t) S.next o).run (gt S.mem))) (match agg? P ty with
    | some true => loadAggO P (gt S.mem) ty (evalL t a)
    | _ => loadO P (gt S.mem) ty (evalL t a))
  | .store ty a x => .alt (isClosed (offOf (evalL t a)) && cellSeen (gt S.mem) (evalL t a)) (DT.ofO ((ev P (evalL t) S.next o).run (gt S.mem))) (match rowOf (gt S.mem) ty (evalL t a) with
    | true => storeRowO P (gt S.mem) ty (evalL t a) (evalL t x)
    | false => storeO P (gt S.mem) ty (evalL t a) (evalL t x))
  | .index ty x i => match evalL t x with
    | .string s => .alt (intClosed (evalL t i) && Nat.beq s.size s.size) (DT.ofO ((ev P (evalL t) S.next o).run (gt S.mem))) (letterO P ty (evalL t x) (evalL t i))
    | _ => DT.ofO ((ev P (evalL t) S.next o).run (gt S.mem))
  | .binOp op ty x y _ => match divLike op (evalL t x) (evalL t y) with
    | some p => .alt p (DT.ofO ((ev P (evalL t) S.next o).run (gt S.mem))) (divO op (evalL t x) (evalL t y))
    | none => match nilLike op (evalL t x) (evalL t y) with
      | some (c, r) => .alt (isClosed c) (DT.ofO ((ev P (evalL t) S.next o).run (gt S.mem))) (nilO P ty c r)
      | none => DT.ofO ((ev P (evalL t) S.next o).run (gt S.mem))
  | .indexAddr ty x i => .alt (intClosed (evalL t i) && lenClosed (evalL t x)) (DT.ofO ((ev P (evalL t) S.next o).run (gt S.mem))) (indexAddrO P ty (evalL t x) (evalL t i))
  | .convert src dst x => .alt (bytesClosed (gt S.mem) (evalL t x)) (DT.ofO ((ev P (evalL t) S.next o).run (gt S.mem))) (convertO P (gt S.mem) src dst (evalL t x))
  | .slice ty x lo hi mx => match evalL t x with
    | .string s => .alt (Nat.beq s.size s.size && (lo.map (evalL t)).all intClosed && (hi.map (evalL t)).all intClosed) (DT.ofO ((ev P (evalL t) S.next o).run (gt S.mem))) (cutStrO P ty (evalL t x) (lo.map (evalL t)) (hi.map (evalL t)) (mx.map (evalL t)))
    | _ => .alt (lenClosed (evalL t x) && (lo.map (evalL t)).all intClosed && (hi.map (evalL t)).all intClosed) (DT.ofO ((ev P (evalL t) S.next o).run (gt S.mem))) (sliceO P (gt S.mem) ty (evalL t x) (lo.map (evalL t)) (hi.map (evalL t)) (mx.map (evalL t)))
  | .call c => .alt (callClosed (evalL t) c) (DT.ofO ((ev P (evalL t) S.next o).run (gt S.mem))) (callO P (evalL t) (gt S.mem) c S.next)
  | _ => DT.ofO ((ev P (evalL t) S.next o).run (gt S.mem))

theorem callO_ok {e : Operand → Value} {g : Nat → Option VObj} {c : Call} {ty : TypeId} {n : Nat} {out : OOut} {l : List Nat} (h : (callO P e g c n).Has (out, l)) : (callV P c e ty n).run g = some (out, l) := by
  unfold callO at h
  split at h
  · rename_i hc
    have := appendO_ok P h
    unfold callV
    rw [hc]
    exact this
  · rename_i hc
    have := clearO_ok P h
    unfold callV
    rw [hc]
    exact this
  · cases h

theorem evO_ok {t : Fr} {S : VS} {o : Oper} {out : OOut} {l : List Nat} (h : (evO P t S o).Has (out, l)) : (ev P (evalL t) S.next o).run (gt S.mem) = some (out, l) := by
  unfold evO at h
  obtain ⟨dst, op, type, pos, after, guard⟩ := o
  dsimp only at h
  split at h
  · exact pickO_ok h
  · rcases DT.has_alt h with h | h
    · exact DT.has_ofO h
    · split at h
      · exact loadAggO_ok P h
      · exact loadO_ok P h
  · rcases DT.has_alt h with h | h
    · exact DT.has_ofO h
    · split at h
      · exact storeRowO_ok P h
      · exact storeO_ok P h
  · split at h
    · rcases DT.has_alt h with h | h
      · exact DT.has_ofO h
      · exact letterO_ok P h
    · exact DT.has_ofO h
  · split at h
    · rcases DT.has_alt h with h | h
      · exact DT.has_ofO h
      · exact divO_ok P h
    · split at h
      · rename_i hnl
        rcases DT.has_alt h with h | h
        · exact DT.has_ofO h
        · exact nilO_ok P hnl h
      · exact DT.has_ofO h
  · rcases DT.has_alt h with h | h
    · exact DT.has_ofO h
    · exact indexAddrO_ok P h
  · rcases DT.has_alt h with h | h
    · exact DT.has_ofO h
    · exact convertO_ok P h
  · split at h
    · rcases DT.has_alt h with h | h
      · exact DT.has_ofO h
      · exact cutStrO_ok P h
    · rcases DT.has_alt h with h | h
      · exact DT.has_ofO h
      · exact sliceO_ok P h
  · rcases DT.has_alt h with h | h
    · exact DT.has_ofO h
    · exact callO_ok P h
  · exact DT.has_ofO h

def stepO (t : Fr) (S : VS) (o : Oper) : DT (ORes × VS) := match viewOf P t S o with
  | some V => match o.op.operands.toList.all okOperand, V.i with
    | true, .int _ z => mustO (decide (0 ≤ z)) (mustO (Nat.blt z.toNat V.n) (mustO (Nat.blt z.toNat V.len) (DT.ofO (viewStep S V.b V.el (V.row z.toNat)))))
    | _, _ => .fail
  | none => match o.op.operands.toList.all okOperand with
    | false => .fail
    | true => (evO P t S o).bind fun p => DT.ofO (commit S p.2 p.1)

theorem stepO_ok {t : Fr} {S : VS} {o : Oper} {r : ORes × VS} (h : (stepO P t S o).Has r) : stepOp P t S o = some r := by
  unfold stepO at h
  unfold stepOp
  split at h
  · rename_i V hV
    rw [hV]
    dsimp only
    split at h
    · rename_i ik z hop hi
      obtain ⟨h1, h⟩ := has_mustO h
      obtain ⟨h2, h⟩ := has_mustO h
      obtain ⟨h3, h⟩ := has_mustO h
      rw [hop, hi, nOf_int h1]
      dsimp only
      rw [h2, h3]
      exact DT.has_ofO h
    · cases h
  · rename_i hV
    rw [hV]
    dsimp only
    unfold stepOp0
    split at h
    · cases h
    · rename_i hop
      obtain ⟨p, h1, h2⟩ := DT.has_bind h
      obtain ⟨out, l⟩ := p
      have := evO_ok P h1
      simp only [hop, this]
      exact DT.has_ofO h2

abbrev CallO := FuncId → List Value → VS → DT (CRes × VS)

/-- Is it wanted? -/
def wantO {α : Type} (ops : List Oper) (o : Oper) (t : Fr) (k : Bool → DT α) : DT α := match o.guard with
  | none => k true
  | some (j, want) => match (ops[j]?).bind (·.dst) with
    | some d => match t.at d with
      | .bool b => .ask b fun b => match b, want with
        | true, true => k true
        | false, false => k true
        | _, _ => k false
      | _ => k false
    | none => k false

theorem wantO_ok {α : Type} {ops : List Oper} {o : Oper} {t : Fr} {k : Bool → DT α} {a : α} (h : (wantO ops o t k).Has a) : (k (Region.wanted o (yieldedL ops t))).Has a := by
  unfold wantO at h
  unfold Region.wanted yieldedL
  split at h
  · rename_i hg; simp only [hg]; exact h
  · rename_i j want hg
    simp only [hg]
    split at h
    · rename_i d hd
      simp only [hd]
      split at h
      · rename_i b hb
        have h := DT.has_ask h
        simp only [hb]
        cases b <;> cases want <;> exact h
      · rename_i hne
        cases hv : t.at d with
        | bool b => exact absurd hv (hne b)
        | _ => simpa using h
    · rename_i hd
      simp only [hd]
      simpa using h

def opO (call : CallO) (ops : List Oper) (o : Oper) (t : Fr) (S : VS) : DT (Option Value × Fr × VS) :=
  wantO ops o t fun w => match w with
    | false => DT.ofO ((put t o.dst undef).map fun t1 => (none, t1, S))
    | true => (stepO P t S o).bind fun p => match p.1 with
      | .val v => DT.ofO ((put t o.dst v).map fun t1 => (none, t1, p.2))
      | .skip => DT.ofO ((put t o.dst undef).map fun t1 => (none, t1, p.2))
      | .panic v => .done (some v, t, p.2)
      | .defer _ => .fail
      | .enter f args => (call f args p.2).bind fun q => match q.1 with
        | .ret v => DT.ofO ((put t o.dst v).map fun t1 => (none, t1, q.2))
        | .panic v => .done (some v, t, q.2)

theorem opO_ok {callO : CallO} {call : CallF} (hc : ∀ f args S r, (callO f args S).Has r → call f args S = some r) {ops : List Oper} {o : Oper} {t : Fr} {S : VS} {r : Option Value × Fr × VS}
    (h : (opO P callO ops o t S).Has r) : opV P call ops o t S = some r := by
  unfold opO at h
  have h := wantO_ok h
  unfold opV
  cases hw : Region.wanted o (yieldedL ops t) with
  | false => rw [hw] at h; exact DT.has_ofO h
  | true =>
    rw [hw] at h
    dsimp only at h ⊢
    obtain ⟨p, h1, h2⟩ := DT.has_bind h
    obtain ⟨r1, S1⟩ := p
    rw [stepO_ok P h1]
    dsimp only at h2 ⊢
    cases r1 with
    | val v => exact DT.has_ofO h2
    | skip => exact DT.has_ofO h2
    | panic v => rw [DT.has_done h2]
    | defer d => cases h2
    | enter f args =>
      dsimp only at h2 ⊢
      obtain ⟨q, h3, h4⟩ := DT.has_bind h2
      obtain ⟨cr, S2⟩ := q
      rw [hc _ _ _ _ h3]
      cases cr with
      | ret v => exact DT.has_ofO h4
      | panic v => rw [DT.has_done h4]

def opsO (call : CallO) (df : Bool) (ops : List Oper) : List Oper → Fr → VS → DT (VEx × Fr × VS)
  | [], t, S => .done (.normal, t, S)
  | o :: rest, t, S => match isDef o with
    | some c => match df with
      | true => match deferV P t o c with
        | some t1 => opsO call df ops rest t1 S
        | none => .fail
      | false => .fail
    | none => (opO P call ops o t S).bind fun p => match p.1 with
      | some v => .done (.panic v, p.2.1, p.2.2)
      | none => opsO call df ops rest p.2.1 p.2.2

theorem opsO_ok {callO : CallO} {call : CallF} (hc : ∀ f args S r, (callO f args S).Has r → call f args S = some r) {df : Bool} {ops : List Oper} : ∀ {rest : List Oper} {t : Fr} {S : VS} {r : VEx × Fr × VS},
    (opsO P callO df ops rest t S).Has r → opsV P call df ops rest t S = some r
  | [], t, S, r, h => by rw [DT.has_done h]; rfl
  | o :: rest, t, S, r, h => by
    unfold opsO at h
    unfold opsV
    split at h
    · rename_i c hd
      rw [hd]
      dsimp only
      split at h
      · split at h
        · rename_i t1 hdv
          rw [hdv]
          exact opsO_ok hc h
        · cases h
      · cases h
    · rename_i hd
      rw [hd]
      dsimp only
      obtain ⟨p, h1, h2⟩ := DT.has_bind h
      obtain ⟨ov, t1, S1⟩ := p
      rw [opO_ok P hc h1]
      cases ov with
      | some v => rw [DT.has_done h2]
      | none => exact opsO_ok hc h2

def drawO (call : CallO) (ops : List Oper) : List Oper → Fr → VS → DT (Fr × VS × List Fp)
  | [], t, S => .done (t, S, [])
  | o :: rest, t, S => (opO P call ops o t { S with rd := [], wr := [] }).bind fun p => match p.1 with
    | some _ => .fail
    | none => (drawO call ops rest p.2.1 { p.2.2 with rd := p.2.2.rd ++ S.rd, wr := p.2.2.wr ++ S.wr }).bind fun q => .done (q.1, q.2.1, ⟨p.2.2.rd, p.2.2.wr⟩ :: q.2.2)

theorem drawO_ok {callO : CallO} {call : CallF} (hc : ∀ f args S r, (callO f args S).Has r → call f args S = some r) {ops : List Oper} : ∀ {rest : List Oper} {t : Fr} {S : VS} {r : Fr × VS × List Fp},
    (drawO P callO ops rest t S).Has r → drawV P call ops rest t S = some r
  | [], t, S, r, h => by rw [DT.has_done h]; rfl
  | o :: rest, t, S, r, h => by
    unfold drawO at h
    obtain ⟨p, h1, h2⟩ := DT.has_bind h
    obtain ⟨ov, t1, S1⟩ := p
    unfold drawV
    rw [opO_ok P hc h1]
    cases ov with
    | some v => cases h2
    | none =>
      dsimp only at h2 ⊢
      obtain ⟨q, h3, h4⟩ := DT.has_bind h2
      obtain ⟨t2, S2, fps⟩ := q
      rw [drawO_ok hc h3, DT.has_done h4]

def iterO (f : Fr → VS → DT (VEx × Fr × VS)) : Nat → Fr → VS → DT (VEx × Fr × VS)
  | 0, _, _ => .fail
  | k + 1, t, S => (f t S).bind fun p => match p.1 with
    | .normal => iterO f k p.2.1 p.2.2
    | _ => .done p

theorem iterO_ok {f : Fr → VS → DT (VEx × Fr × VS)} {f' : Fr → VS → Option (VEx × Fr × VS)} (hf : ∀ t S r, (f t S).Has r → f' t S = some r) : ∀ {k : Nat} {t : Fr} {S : VS} {r : VEx × Fr × VS},
    (iterO f k t S).Has r → iter f' k t S = some r
  | 0, t, S, r, h => by cases h
  | k + 1, t, S, r, h => by
    unfold iterO at h
    obtain ⟨p, h1, h2⟩ := DT.has_bind h
    obtain ⟨e, t1, S1⟩ := p
    unfold iter
    rw [hf _ _ _ h1]
    cases e with
    | normal => exact iterO_ok hf h2
    | exit id => rw [DT.has_done h2]
    | ret => rw [DT.has_done h2]
    | panic v => rw [DT.has_done h2]

def codeO (call : CallO) (lf : Nat) (df : Bool) : Code → Fr → VS → DT (VEx × Fr × VS)
  | .skip, t, S => .done (.normal, t, S)
  | .region _ ops false, t, S => opsO P call df ops.toList ops.toList t S
  | .region _ ops true, t, S => (drawO P call ops.toList ops.toList t S).bind fun q => match drawOk ops q.2.2 with
    | true => .done (.normal, q.1, q.2.1)
    | false => .fail
  | .seq a b, t, S => (codeO call lf df a t S).bind fun p => match p.1 with
    | .normal => codeO call lf df b p.2.1 p.2.2
    | _ => .done p
  | .cond c a b, t, S => match evalL t c with
    | .bool d => .ask d fun d => match d with
      | true => codeO call lf df a t S
      | false => codeO call lf df b t S
    | _ => .fail
  | .block id c, t, S => (codeO call lf df c t S).bind fun p => match p.1 with
    | .exit j => match Nat.beq j id with
      | true => .done (.normal, p.2.1, p.2.2)
      | false => .done p
    | _ => .done p
  | .loop c, t, S => iterO (codeO call lf df c) lf t S
  | .exit id, t, S => .done (.exit id, t, S)
  | .ret, t, S => .done (.ret, t, S)
  | .scope c, t, S => codeO call lf df c t S
  | .label _, t, S => .done (.normal, t, S)
  | _, _, _ => .fail

theorem codeO_ok {callO : CallO} {call : CallF} (hc : ∀ f args S r, (callO f args S).Has r → call f args S = some r) (lf : Nat) {df : Bool} : ∀ {c : Code} {t : Fr} {S : VS} {r : VEx × Fr × VS},
    (codeO P callO lf df c t S).Has r → codeV P call lf df c t S = some r := by
  intro c
  induction c with
  | skip => intro t S r h; rw [DT.has_done h]; rfl
  | region id ops draw =>
    intro t S r h
    cases draw with
    | false => exact opsO_ok P hc h
    | true =>
      simp only [codeO] at h
      obtain ⟨q, h1, h2⟩ := DT.has_bind h
      obtain ⟨t1, S1, fps⟩ := q
      simp only [codeV]
      rw [drawO_ok P hc h1]
      dsimp only at h2 ⊢
      split at h2
      · rename_i hk; rw [DT.has_done h2, hk]
      · cases h2
  | seq a b iha ihb =>
    intro t S r h
    simp only [codeO] at h
    obtain ⟨p, h1, h2⟩ := DT.has_bind h
    obtain ⟨e, t1, S1⟩ := p
    simp only [codeV]
    rw [iha h1]
    cases e with
    | normal => exact ihb h2
    | exit id => rw [DT.has_done h2]
    | ret => rw [DT.has_done h2]
    | panic v => rw [DT.has_done h2]
  | cond c a b iha ihb =>
    intro t S r h
    simp only [codeO] at h
    simp only [codeV]
    split at h
    · rename_i d hd
      have h := DT.has_ask h
      rw [hd]
      cases d with
      | true => exact iha h
      | false => exact ihb h
    · cases h
  | block id c ih =>
    intro t S r h
    simp only [codeO] at h
    obtain ⟨p, h1, h2⟩ := DT.has_bind h
    obtain ⟨e, t1, S1⟩ := p
    simp only [codeV]
    rw [ih h1]
    cases e with
    | normal => rw [DT.has_done h2]
    | exit j =>
      dsimp only at h2 ⊢
      split at h2
      · rename_i hj; rw [DT.has_done h2, hj]
      · rename_i hj; rw [DT.has_done h2, hj]
    | ret => rw [DT.has_done h2]
    | panic v => rw [DT.has_done h2]
  | loop c ih =>
    intro t S r h
    simp only [codeO] at h
    exact iterO_ok (fun t S r h => ih h) h
  | exit id => intro t S r h; rw [DT.has_done h]; rfl
  | ret => intro t S r h; rw [DT.has_done h]; rfl
  | scope c ih => intro t S r h; simp only [codeO] at h; exact ih h
  | label l => intro t S r h; rw [DT.has_done h]; rfl
  | _ => intro t S r h; simp [codeO] at h; cases h

def opsQO : List Oper → Fr → VS → DT (Fr × VS)
  | [], t, S => .done (t, S)
  | o :: rest, t, S => match o.guard with
    | some _ => .fail
    | none => (stepO P t S o).bind fun p => match p.1 with
      | .val v => (DT.ofO (put t o.dst v)).bind fun t1 => opsQO rest t1 p.2
      | _ => .fail
theorem opsQO_ok : ∀ {rest : List Oper} {t : Fr} {S : VS} {r : Fr × VS}, (opsQO P rest t S).Has r → opsQ P rest t S = some r
  | [], t, S, r, h => by rw [DT.has_done h]; rfl
  | o :: rest, t, S, r, h => by
    unfold opsQO at h
    unfold opsQ
    split at h
    · cases h
    · rename_i hg
      rw [hg]
      dsimp only
      obtain ⟨p, h1, h2⟩ := DT.has_bind h
      obtain ⟨v, S1⟩ := p
      rw [stepO_ok P h1]
      cases v with
      | val v =>
        obtain ⟨t1, h3, h4⟩ := DT.has_bind h2
        dsimp only
        rw [DT.has_ofO h3]
        exact opsQO_ok h4
      | _ => cases h2
def codeDO (call : CallO) (lf : Nat) (md : Md) : Code → Fr → VS → DT (Md × VEx × Fr × VS)
  | .seq a b, t, S => (codeDO call lf md a t S).bind fun p => match p.2.1 with
    | .normal => (codeO P call lf false b p.2.2.1 p.2.2.2).bind fun q => .done (p.1, q.1, q.2.1, q.2.2)
    | _ => .done p
  | .region id ops false, t, S => match ops.toList with
    | o :: rest => match recOf o with
      | true => (DT.ofO (put t o.dst (recV md))).bind fun t1 => (opsQO P rest t1 S).bind fun q => .done (.ret, .normal, q.1, q.2)
      | false => (codeO P call lf false (.region id ops false) t S).bind fun q => .done (md, q.1, q.2.1, q.2.2)
    | [] => .fail
  | c, t, S => (codeO P call lf false c t S).bind fun q => .done (md, q.1, q.2.1, q.2.2)
theorem codeDO_ok {callO : CallO} {call : CallF} (hc : ∀ f args S r, (callO f args S).Has r → call f args S = some r) {lf : Nat} {md : Md} : ∀ {c : Code} {t : Fr} {S : VS} {r : Md × VEx × Fr × VS},
    (codeDO P callO lf md c t S).Has r → codeD P call lf md c t S = some r := by
  intro c
  have dflt : ∀ {c : Code} {t : Fr} {S : VS} {r : Md × VEx × Fr × VS}, ((codeO P callO lf false c t S).bind fun q => DT.done (md, q.1, q.2.1, q.2.2)).Has r → (codeV P call lf false c t S).map (fun r => (md, r)) = some r := by
    intro c t S r h
    obtain ⟨q, h1, h2⟩ := DT.has_bind h
    rw [codeO_ok P hc lf h1, DT.has_done h2]
    rfl
  induction c with
  | seq a b iha ihb =>
    intro t S r h
    unfold codeDO at h
    unfold codeD
    obtain ⟨p, h1, h2⟩ := DT.has_bind h
    obtain ⟨md1, e, t1, S1⟩ := p
    rw [iha h1]
    cases e with
    | normal =>
      obtain ⟨q, h3, h4⟩ := DT.has_bind h2
      dsimp only
      rw [codeO_ok P hc lf h3, DT.has_done h4]
      rfl
    | exit id => rw [DT.has_done h2]
    | ret => rw [DT.has_done h2]
    | panic v => rw [DT.has_done h2]
  | region id ops draw =>
    intro t S r h
    cases draw with
    | true => unfold codeDO at h; unfold codeD; exact dflt h
    | false =>
      unfold codeDO at h
      unfold codeD
      split at h
      · rename_i o rest hops
        rw [hops]
        dsimp only
        split at h
        · rename_i hrec
          rw [hrec]
          dsimp only
          obtain ⟨t1, h1, h2⟩ := DT.has_bind h
          obtain ⟨q, h3, h4⟩ := DT.has_bind h2
          rw [DT.has_ofO h1]
          dsimp only
          rw [opsQO_ok P h3, DT.has_done h4]
        · rename_i hrec
          rw [hrec]
          dsimp only
          exact dflt h
      · cases h
  | _ => intro t S r h; unfold codeDO at h; unfold codeD; exact dflt h
def callDO (call : CallO) (lf : Nat) (md : Md) (k : FuncId) (args : List Value) (S : VS) : DT (Md × VS) := match P.funcs[k]? with
  | none => .fail
  | some fn => match fn.body with
    | none => .fail
    | some c => match Fr.of args fn.ntmps with
      | none => .fail
      | some t0 => (codeDO P call lf md c t0 S).bind fun p => match p.2.1, p.2.2.1.ds, p.2.2.1.base with
        | .normal, [], [] => (DT.ofO (leave P p.2.2.1 fn p.2.2.2)).bind fun q => .done (p.1, q.2)
        | .ret, [], [] => (DT.ofO (leave P p.2.2.1 fn p.2.2.2)).bind fun q => .done (p.1, q.2)
        | _, _, _ => .fail
theorem callDO_ok {callO : CallO} {call : CallF} (hc : ∀ f args S r, (callO f args S).Has r → call f args S = some r) {lf : Nat} {md : Md} {k : FuncId} {args : List Value} {S : VS} {r : Md × VS}
    (h : (callDO P callO lf md k args S).Has r) : callD P call lf md k args S = some r := by
  unfold callDO at h
  unfold callD
  split at h
  · cases h
  · rename_i fn hfn
    rw [hfn]
    dsimp only
    split at h
    · cases h
    · rename_i c hb
      rw [hb]
      dsimp only
      split at h
      · cases h
      · rename_i t0 ht0
        rw [ht0]
        dsimp only
        obtain ⟨p, h1, h2⟩ := DT.has_bind h
        obtain ⟨md1, e, t1, S1⟩ := p
        rw [codeDO_ok P hc h1]
        dsimp only at h2 ⊢
        split at h2
        · rename_i h3 h4
          obtain ⟨q, h5, h6⟩ := DT.has_bind h2
          rw [h3, h4]
          dsimp only
          rw [DT.has_ofO h5, DT.has_done h6]
        · rename_i h3 h4
          obtain ⟨q, h5, h6⟩ := DT.has_bind h2
          rw [h3, h4]
          dsimp only
          rw [DT.has_ofO h5, DT.has_done h6]
        · cases h2
def runDO (call : CallO) (lf : Nat) : List (FuncId × List Value) → Md → VS → DT (Md × VS)
  | [], md, S => .done (md, S)
  | (k, args) :: l, md, S => (callDO P call lf md k args S).bind fun p => runDO call lf l p.1 p.2
theorem runDO_ok {callO : CallO} {call : CallF} (hc : ∀ f args S r, (callO f args S).Has r → call f args S = some r) {lf : Nat} : ∀ {ds : List (FuncId × List Value)} {md : Md} {S : VS} {r : Md × VS},
    (runDO P callO lf ds md S).Has r → runD P call lf ds md S = some r
  | [], md, S, r, h => by rw [DT.has_done h]; rfl
  | (k, args) :: l, md, S, r, h => by
    unfold runDO at h
    obtain ⟨p, h1, h2⟩ := DT.has_bind h
    unfold runD
    rw [callDO_ok P hc h1]
    exact runDO_ok hc h2
def endO (call : CallO) (lf : Nat) (fn : Func) (md : Md) (t : Fr) (S : VS) : DT (CRes × VS) := match t.base with
  | [] => (runDO P call lf t.ds md S).bind fun p => match p.1 with
    | .ret => DT.ofO (leave P t fn p.2)
    | .pan v => .done (.panic v, p.2)
  | _ => .fail
theorem endO_ok {callO : CallO} {call : CallF} (hc : ∀ f args S r, (callO f args S).Has r → call f args S = some r) {lf : Nat} {fn : Func} {md : Md} {t : Fr} {S : VS} {r : CRes × VS}
    (h : (endO P callO lf fn md t S).Has r) : endV P call lf fn md t S = some r := by
  unfold endO at h
  unfold endV
  split at h
  · rename_i hb
    rw [hb]
    dsimp only
    obtain ⟨p, h1, h2⟩ := DT.has_bind h
    obtain ⟨md1, S1⟩ := p
    rw [runDO_ok P hc h1]
    cases md1 with
    | ret => exact DT.has_ofO h2
    | pan v => rw [DT.has_done h2]
  · cases h
def funO (spO : CallO → CallO) (lf : Nat) : Nat → CallO
  | 0, _, _, _ => .fail
  | d + 1, f, args, S => match P.funcs[f]? with
    | none => .fail
    | some fn => match fn.body with
      | none => .fail
      | some c => match Fr.of args fn.ntmps with
        | none => .fail
        | some t0 => (codeO P (spO (funO spO lf d)) lf true c t0 S).bind fun p => match p.1 with
          | .normal => endO P (spO (funO spO lf d)) lf fn .ret p.2.1 p.2.2
          | .ret => endO P (spO (funO spO lf d)) lf fn .ret p.2.1 p.2.2
          | .panic v => endO P (spO (funO spO lf d)) lf fn (.pan v) p.2.1 p.2.2
          | _ => .fail

theorem funO_ok {spO : CallO → CallO} {sp : CallF → CallF} (hsp : ∀ (c : CallO) (c' : CallF), (∀ f args S r, (c f args S).Has r → c' f args S = some r) → ∀ f args S r, (spO c f args S).Has r → sp c' f args S = some r) (lf : Nat) :
    ∀ {d : Nat} {f : FuncId} {args : List Value} {S : VS} {r : CRes × VS}, (funO P spO lf d f args S).Has r → funV P sp lf d f args S = some r
  | 0, f, args, S, r, h => by cases h
  | d + 1, f, args, S, r, h => by
    unfold funO at h
    unfold funV
    split at h
    · cases h
    · rename_i fn hfn
      split at h
      · cases h
      · rename_i c hb
        split at h
        · cases h
        · rename_i t0 ht0
          obtain ⟨p, h1, h2⟩ := DT.has_bind h
          obtain ⟨e, t1, S1⟩ := p
          have := codeO_ok P (hsp _ _ fun f args S r h => funO_ok hsp lf h) lf h1
          rw [hfn]
          dsimp only
          rw [hb]
          dsimp only
          rw [ht0]
          dsimp only
          rw [this]
          have hcc : ∀ f args S r, (spO (funO P spO lf d) f args S).Has r → sp (funV P sp lf d) f args S = some r := hsp _ _ fun f args S r h => funO_ok hsp lf h
          cases e with
          | normal => exact endO_ok P hcc h2
          | ret => exact endO_ok P hcc h2
          | panic v => exact endO_ok P hcc h2
          | exit id => cases h2
end
end Go.Proofs.YtdbjloigfkckfaaGreatDoor.Vm
