/- The small machine, its second text: how its values and its memory stand to the model's. -/
import Derived.Test.YtdbjloigfkckfaaGreatDoorVm1
import Derived.Laws.Cells
namespace Go.Proofs.YtdbjloigfkckfaaGreatDoor.Vm
open Go.RowKit
set_option linter.unusedVariables false
set_option linter.unusedSimpArgs false

/- Tries. -/
theorem beq_zero (n : Nat) : Nat.beq n 0 = decide (n = 0) := by
  cases n <;> simp [Nat.beq]

theorem Tr.get_nil {α : Type} (k n : Nat) : Tr.get k (.nil : Tr α) n = none := by cases k <;> rfl

theorem Tr.get_set {α : Type} : ∀ (k : Nat) (t : Tr α) (n m : Nat) (o : α), n < 2 ^ k → m < 2 ^ k → Tr.get k (Tr.set k t n o) m = if m = n then some o else Tr.get k t m
  | 0, t, n, m, o, hn, hm => by
    have h1 : n = 0 := by simpa using hn
    have h2 : m = 0 := by simpa using hm
    subst h1 h2
    cases t <;> simp [Tr.set, Tr.get]
  | k + 1, t, n, m, o, hn, hm => by
    have hn' : n / 2 < 2 ^ k := by rw [Nat.pow_succ] at hn; omega
    have hm' : m / 2 < 2 ^ k := by rw [Nat.pow_succ] at hm; omega
    have key : ∀ t, Tr.get k (Tr.set k t (n / 2) o) (m / 2) = if m / 2 = n / 2 then some o else Tr.get k t (m / 2) := fun t => Tr.get_set k t _ _ o hn' hm'
    have hnn : n % 2 = 0 ∨ n % 2 = 1 := by omega
    have hmm : m % 2 = 0 ∨ m % 2 = 1 := by omega
    have e0 : Nat.beq 0 0 = true := rfl
    have e1 : Nat.beq 1 0 = false := rfl
    cases t with
    | nil =>
      rcases hnn with hn2 | hn2 <;> rcases hmm with hm2 | hm2 <;> simp only [Tr.set, Tr.get, hn2, hm2, e0, e1, key, Tr.get_nil]
      · by_cases e : m = n
        · subst e; simp
        · have : m / 2 ≠ n / 2 := by omega
          simp [e, this]
      · have : m ≠ n := by omega
        simp [this]
      · have : m ≠ n := by omega
        simp [this]
      · by_cases e : m = n
        · subst e; simp
        · have : m / 2 ≠ n / 2 := by omega
          simp [e, this]
    | node l v r =>
      rcases hnn with hn2 | hn2 <;> rcases hmm with hm2 | hm2 <;> simp only [Tr.set, Tr.get, hn2, hm2, e0, e1, key]
      · by_cases e : m = n
        · subst e; simp
        · have : m / 2 ≠ n / 2 := by omega
          simp [e, this]
      · have : m ≠ n := by omega
        simp [this]
      · have : m ≠ n := by omega
        simp [this]
      · by_cases e : m = n
        · subst e; simp
        · have : m / 2 ≠ n / 2 := by omega
          simp [e, this]

theorem small_iff {n : Nat} : small n = true ↔ n < 2 ^ 18 := by
  unfold small
  rw [show (2 : Nat) ^ 18 = 262144 from rfl]
  simp [Nat.blt]
  omega

/-- A memory with one block laid anew. -/
def upd (g : Nat → Option VObj) (x : Nat) (o : VObj) : Nat → Option VObj := fun y => if y = x then some o else g y
theorem upd_same (g : Nat → Option VObj) (x : Nat) (o : VObj) : upd g x o x = some o := by simp [upd]
theorem upd_other {g : Nat → Option VObj} {x y : Nat} (o : VObj) (h : y ≠ x) : upd g x o y = g y := by simp [upd, h]

theorem gt_set {t : Tr VObj} {x : Nat} {o : VObj} (h : small x = true) : gt (t.set 18 x o) = upd (gt t) x o := by
  funext y
  unfold gt upd
  by_cases hy : small y = true
  · simp only [hy]
    rw [Tr.get_set 18 _ _ _ _ (small_iff.1 h) (small_iff.1 hy)]
  · have : y ≠ x := by rintro rfl; exact hy h
    simp [hy, this]

theorem small_of_gt {t : Tr VObj} {x : Nat} {o : VObj} (h : gt t x = some o) : small x = true := by
  unfold gt at h
  cases hs : small x with
  | true => rfl
  | false => rw [hs] at h; cases h

/- Readings. -/
theorem Rd.run_bind {α β : Type} (g : Nat → Option VObj) (r : Rd α) (f : α → Rd β) (b : β) (l : List Nat) : (r.bind f).run g = some (b, l) ↔
    ∃ a l1 l2, r.run g = some (a, l1) ∧ (f a).run g = some (b, l2) ∧ l = l1 ++ l2 := by
  induction r generalizing l with
  | done a =>
    constructor
    · intro h; exact ⟨a, [], l, rfl, h, rfl⟩
    · rintro ⟨a', l1, l2, h1, h2, rfl⟩
      simp only [Rd.run, Option.some.injEq, Prod.mk.injEq] at h1
      obtain ⟨rfl, rfl⟩ := h1
      exact h2
  | fail => simp [Rd.bind, Rd.run]
  | read x k ih =>
    simp only [Rd.bind, Rd.run]
    cases hx : g x with
    | none => simp
    | some o =>
      simp only []
      constructor
      · intro h
        cases hk : ((k o).bind f).run g with
        | none => rw [hk] at h; cases h
        | some p =>
          obtain ⟨b', l'⟩ := p
          rw [hk] at h
          simp only [Option.some.injEq, Prod.mk.injEq] at h
          obtain ⟨rfl, rfl⟩ := h
          obtain ⟨a, l1, l2, h1, h2, rfl⟩ := (ih o l').1 hk
          exact ⟨a, x :: l1, l2, by rw [h1], h2, rfl⟩
      · rintro ⟨a, l1, l2, h1, h2, rfl⟩
        cases hk : (k o).run g with
        | none => rw [hk] at h1; cases h1
        | some p =>
          obtain ⟨a', l'⟩ := p
          rw [hk] at h1
          simp only [Option.some.injEq, Prod.mk.injEq] at h1
          obtain ⟨rfl, rfl⟩ := h1
          rw [(ih o (l' ++ l2)).2 ⟨a', l', l2, hk, h2, rfl⟩]
          rfl

theorem Rd.run_read {α : Type} {g : Nat → Option VObj} {x : Nat} {k : VObj → Rd α} {a : α} {l : List Nat} (h : (Rd.read x k).run g = some (a, l)) :
    ∃ o l', g x = some o ∧ (k o).run g = some (a, l') ∧ l = x :: l' := by
  simp only [Rd.run] at h
  cases hx : g x with
  | none => rw [hx] at h; cases h
  | some o =>
    rw [hx] at h
    simp only [] at h
    cases hk : (k o).run g with
    | none => rw [hk] at h; cases h
    | some p =>
      obtain ⟨b, l'⟩ := p
      rw [hk] at h
      simp only [Option.some.injEq, Prod.mk.injEq] at h
      obtain ⟨rfl, rfl⟩ := h
      exact ⟨o, l', rfl, hk, rfl⟩

theorem Rd.run_congr {α : Type} {g g' : Nat → Option VObj} : ∀ {r : Rd α} {a : α} {l : List Nat}, r.run g = some (a, l) → (∀ x ∈ l, g' x = g x) → r.run g' = some (a, l) := by
  intro r
  induction r with
  | done a => intro a l h _; exact h
  | fail => intro a l h; cases h
  | read x k ih =>
    intro a l h hl
    obtain ⟨o, l', h1, h2, rfl⟩ := Rd.run_read h
    have hx : g' x = some o := by rw [hl x (by simp), h1]
    simp only [Rd.run, hx, ih o h2 (fun y hy => hl y (by simp [hy]))]

theorem Rd.run_ofO {α : Type} {g : Nat → Option VObj} {x : Option α} {a : α} {l : List Nat} (h : (ofO x).run g = some (a, l)) : x = some a := by
  cases x with
  | none => cases h
  | some b => simp [ofO, Rd.run] at h; rw [h.1]

theorem Rd.read_mem {α : Type} {g : Nat → Option VObj} : ∀ {r : Rd α} {a : α} {l : List Nat}, r.run g = some (a, l) → ∀ x ∈ l, ∃ o, g x = some o := by
  intro r
  induction r with
  | done a => intro a l h x hx; simp [Rd.run] at h; rw [h.2] at hx; cases hx
  | fail => intro a l h; cases h
  | read x k ih =>
    intro a l h y hy
    obtain ⟨o, l', h1, h2, rfl⟩ := Rd.run_read h
    rcases List.mem_cons.1 hy with rfl | hy
    · exact ⟨o, h1⟩
    · exact ih o h2 y hy

/- Values. -/
/-- Where a block of the machine lies: the model's block, how far in it begins, how many cells an element has, how many cells the block has. -/
structure Where where
  blk : Nat
  sh : Nat
  sz : Nat
  phys : Nat
abbrev Ren := Nat → Option Where

def isScal : Value → Bool
  | .bool _ | .int _ _ | .float _ _ | .complex _ _ _ | .string _ | .pointer none | .map none | .chan none | .nilFunc | .nilIface | .slice none 0 0 => true
  | _ => false

def okFn : Fn → Bool
  | .func _ | .method _ => true
  | _ => false

def CapOk (r : Where) (off cap cap' : Nat) : Prop := cap' = cap ∨ (cap ≤ cap' ∧ r.sh + off + cap' * r.sz ≤ r.phys)

inductive VR (ρ : Ren) : Value → Value → Prop where
  | scal (v : Value) (h : isScal v = true) : VR ρ v v
  | ptr (b off : Nat) (r : Where) (h : ρ b = some r) : VR ρ (.pointer (some ⟨b, off, none⟩)) (.pointer (some ⟨r.blk, r.sh + off, none⟩))
  | sl (b off len cap cap' : Nat) (r : Where) (h : ρ b = some r) (hc : CapOk r off cap cap') : VR ρ (.slice (some ⟨b, off, none⟩) len cap) (.slice (some ⟨r.blk, r.sh + off, none⟩) len cap')
  | slE (a : Addr) (a' : Option Addr) : VR ρ (.slice (some a) 0 0) (.slice a' 0 0)
  | map (b : Nat) (r : Where) (h : ρ b = some r) : VR ρ (.map (some b)) (.map (some r.blk))
  | func (fn : Fn) (f f' c c' : Array Value) (h : okFn fn = true) (h1 : f.toList.length = f'.toList.length)
      (h2 : ∀ (i : Nat) (v v' : Value), f.toList[i]? = some v → f'.toList[i]? = some v' → VR ρ v v') (h3 : c.toList.length = c'.toList.length)
      (h4 : ∀ (i : Nat) (v v' : Value), c.toList[i]? = some v → c'.toList[i]? = some v' → VR ρ v v') : VR ρ (.func fn f c) (.func fn f' c')
  | iface (t : TypeId) (v v' : Value) (h : VR ρ v v') : VR ρ (.iface t v) (.iface t v')
  | agg (c c' : Array Value) (h1 : c.toList.length = c'.toList.length)
      (h2 : ∀ (i : Nat) (v v' : Value), c.toList[i]? = some v → c'.toList[i]? = some v' → VR ρ v v') : VR ρ (.agg c) (.agg c')
  | tuple (c c' : Array Value) (h1 : c.toList.length = c'.toList.length)
      (h2 : ∀ (i : Nat) (v v' : Value), c.toList[i]? = some v → c'.toList[i]? = some v' → VR ρ v v') : VR ρ (.tuple c) (.tuple c')

/-- Two lists, value for value. -/
structure LR (ρ : Ren) (l l' : List Value) : Prop where
  len : l.length = l'.length
  at_ : ∀ (i : Nat) (v v' : Value), l[i]? = some v → l'[i]? = some v' → VR ρ v v'

def Ren.le (ρ ρ' : Ren) : Prop := ∀ x r, ρ x = some r → ρ' x = some r
theorem Ren.le_refl (ρ : Ren) : ρ.le ρ := fun _ _ h => h
theorem Ren.le_trans {a b c : Ren} (h : a.le b) (k : b.le c) : a.le c := fun x r e => k x r (h x r e)

theorem VR.mono {ρ ρ' : Ren} (hl : ρ.le ρ') {v v' : Value} (h : VR ρ v v') : VR ρ' v v' := by
  induction h with
  | scal v h => exact .scal v h
  | ptr b off r h => exact .ptr b off r (hl _ _ h)
  | sl b off len cap cap' r h hc => exact .sl b off len cap cap' r (hl _ _ h) hc
  | slE a a' => exact .slE a a'
  | map b r h => exact .map b r (hl _ _ h)
  | func fn f f' c c' h h1 h2 h3 h4 ih2 ih4 => exact .func fn f f' c c' h h1 ih2 h3 ih4
  | iface t v v' h ih => exact .iface t v v' ih
  | agg c c' h1 h2 ih => exact .agg c c' h1 ih
  | tuple c c' h1 h2 ih => exact .tuple c c' h1 ih

theorem LR.mono {ρ ρ' : Ren} (hl : ρ.le ρ') {l l' : List Value} (h : LR ρ l l') : LR ρ' l l' := ⟨h.len, fun i v v' h1 h2 => (h.at_ i v v' h1 h2).mono hl⟩
theorem LR.nil (ρ : Ren) : LR ρ [] [] := ⟨rfl, fun i v v' h => by simp at h⟩
theorem LR.cons {ρ : Ren} {v v' : Value} {l l' : List Value} (h : VR ρ v v') (hl : LR ρ l l') : LR ρ (v :: l) (v' :: l') :=
  ⟨by simp [hl.len], fun i u u' h1 h2 => by
    cases i with
    | zero => simp at h1 h2; subst h1 h2; exact h
    | succ i => simp at h1 h2; exact hl.at_ i u u' h1 h2⟩
theorem LR.head {ρ : Ren} {v v' : Value} {l l' : List Value} (h : LR ρ (v :: l) (v' :: l')) : VR ρ v v' := h.at_ 0 v v' rfl rfl
theorem LR.tail {ρ : Ren} {v v' : Value} {l l' : List Value} (h : LR ρ (v :: l) (v' :: l')) : LR ρ l l' :=
  ⟨by simpa using h.len, fun i u u' h1 h2 => h.at_ (i + 1) u u' (by simpa using h1) (by simpa using h2)⟩
theorem LR.inv_nil {ρ : Ren} {l : List Value} (h : LR ρ [] l) : l = [] := by have := h.len; cases l <;> simp_all
theorem LR.inv_cons {ρ : Ren} {v : Value} {l l' : List Value} (h : LR ρ (v :: l) l') : ∃ v' r, l' = v' :: r ∧ VR ρ v v' ∧ LR ρ l r := by
  cases l' with
  | nil => have := h.len; simp at this
  | cons v' r => exact ⟨v', r, rfl, h.head, h.tail⟩
theorem LR.append {ρ : Ren} : ∀ {a a' b b' : List Value}, LR ρ a a' → LR ρ b b' → LR ρ (a ++ b) (a' ++ b')
  | [], a', b, b', h, hb => by rw [h.inv_nil]; exact hb
  | v :: a, a', b, b', h, hb => by
    obtain ⟨v', r, rfl, h1, h2⟩ := h.inv_cons
    exact LR.cons h1 (h2.append hb)
theorem LR.drop {ρ : Ren} {l l' : List Value} (h : LR ρ l l') (n : Nat) : LR ρ (l.drop n) (l'.drop n) :=
  ⟨by simp [h.len], fun i v v' h1 h2 => h.at_ (n + i) v v' (by simpa using h1) (by simpa using h2)⟩
theorem LR.take {ρ : Ren} {l l' : List Value} (h : LR ρ l l') (n : Nat) : LR ρ (l.take n) (l'.take n) :=
  ⟨by simp [h.len], fun i v v' h1 h2 => by
    rw [List.getElem?_take] at h1 h2
    split at h1
    · rename_i hi; rw [if_pos hi] at h2; exact h.at_ i v v' h1 h2
    · cases h1⟩
theorem LR.get {ρ : Ren} {l l' : List Value} (h : LR ρ l l') {i : Nat} {v : Value} (hv : l[i]? = some v) : ∃ v', l'[i]? = some v' ∧ VR ρ v v' := by
  have hi : i < l.length := (List.getElem?_eq_some_iff.1 hv).1
  have hi' : i < l'.length := h.len ▸ hi
  exact ⟨l'[i], List.getElem?_eq_getElem hi', h.at_ i v _ hv (List.getElem?_eq_getElem hi')⟩
theorem LR.map {ρ : Ren} {α : Type} (f f' : α → Value) : ∀ (l : List α), (∀ a ∈ l, VR ρ (f a) (f' a)) → LR ρ (l.map f) (l.map f')
  | [], _ => LR.nil ρ
  | a :: l, h => LR.cons (h a (by simp)) (LR.map f f' l fun b hb => h b (by simp [hb]))

theorem VR.agg_iff {ρ : Ren} {c c' : Array Value} (h : LR ρ c.toList c'.toList) : VR ρ (.agg c) (.agg c') := .agg c c' h.len h.at_
theorem VR.tuple_iff {ρ : Ren} {c c' : Array Value} (h : LR ρ c.toList c'.toList) : VR ρ (.tuple c) (.tuple c') := .tuple c c' h.len h.at_
theorem VR.agg_of {ρ : Ren} {l l' : List Value} (h : LR ρ l l') : VR ρ (.agg l.toArray) (.agg l'.toArray) := .agg_iff (by simpa using h)
theorem VR.tuple_of {ρ : Ren} {l l' : List Value} (h : LR ρ l l') : VR ρ (.tuple l.toArray) (.tuple l'.toArray) := .tuple_iff (by simpa using h)
theorem VR.agg_inv {ρ : Ren} {c : Array Value} {v : Value} (h : VR ρ (.agg c) v) : ∃ c', v = .agg c' ∧ LR ρ c.toList c'.toList := by
  cases h with
  | scal _ h => cases h
  | agg c c' h1 h2 => exact ⟨c', rfl, h1, h2⟩
theorem VR.tuple_inv {ρ : Ren} {c : Array Value} {v : Value} (h : VR ρ (.tuple c) v) : ∃ c', v = .tuple c' ∧ LR ρ c.toList c'.toList := by
  cases h with
  | scal _ h => cases h
  | tuple c c' h1 h2 => exact ⟨c', rfl, h1, h2⟩
theorem VR.ptr_inv {ρ : Ren} {b off : Nat} {v : Value} (h : VR ρ (.pointer (some ⟨b, off, none⟩)) v) : ∃ r, ρ b = some r ∧ v = .pointer (some ⟨r.blk, r.sh + off, none⟩) := by
  cases h with
  | scal _ h => cases h
  | ptr _ _ r h => exact ⟨r, h, rfl⟩
theorem VR.int_inv {ρ : Ren} {k : IntKind} {n : Int} {v : Value} (h : VR ρ (.int k n) v) : v = .int k n := by cases h; rfl
theorem VR.string_inv {ρ : Ren} {s : ByteArray} {v : Value} (h : VR ρ (.string s) v) : v = .string s := by cases h; rfl
theorem VR.bool_inv {ρ : Ren} {b : Bool} {v : Value} (h : VR ρ (.bool b) v) : v = .bool b := by cases h; rfl
theorem VR.iface_inv {ρ : Ren} {t : TypeId} {u v : Value} (h : VR ρ (.iface t u) v) : ∃ u', v = .iface t u' ∧ VR ρ u u' := by
  cases h with
  | scal _ h => cases h
  | iface _ _ u' h => exact ⟨u', rfl, h⟩
theorem VR.map_inv {ρ : Ren} {b : Nat} {v : Value} (h : VR ρ (.map (some b)) v) : ∃ r, ρ b = some r ∧ v = .map (some r.blk) := by
  cases h with
  | scal _ h => cases h
  | map _ r h => exact ⟨r, h, rfl⟩
theorem VR.func_inv {ρ : Ren} {fn : Fn} {f c : Array Value} {v : Value} (h : VR ρ (.func fn f c) v) : ∃ f' c', v = .func fn f' c' ∧ LR ρ f.toList f'.toList ∧ LR ρ c.toList c'.toList := by
  cases h with
  | scal _ h => cases h
  | func _ _ f' _ c' h h1 h2 h3 h4 => exact ⟨f', c', rfl, ⟨h1, h2⟩, ⟨h3, h4⟩⟩

theorem VR.undef (ρ : Ren) : VR ρ undef undef := .tuple _ _ rfl fun i v v' h => by simp at h

theorem VR.scal_inv {ρ : Ren} {v u : Value} (h : isScal v = true) (r : VR ρ v u) : u = v := by
  cases r <;> first | rfl | cases h

theorem VR.cells {ρ : Ren} {v v' : Value} (h : VR ρ v v') : LR ρ v.cells.toList v'.cells.toList := by
  cases h with
  | scal _ h =>
    have : v.cells = #[v] := by cases v <;> first | rfl | cases h
    rw [this]
    exact LR.cons (.scal v h) (LR.nil ρ)
  | agg c c' h1 h2 => exact ⟨h1, h2⟩
  | ptr b off r h => exact LR.cons (.ptr b off r h) (LR.nil ρ)
  | sl b off len cap cap' r h hc => exact LR.cons (.sl b off len cap cap' r h hc) (LR.nil ρ)
  | slE a a' => exact LR.cons (.slE a a') (LR.nil ρ)
  | map b r h => exact LR.cons (.map b r h) (LR.nil ρ)
  | func fn f f' c c' h h1 h2 h3 h4 => exact LR.cons (.func fn f f' c c' h h1 h2 h3 h4) (LR.nil ρ)
  | iface t v v' h => exact LR.cons (.iface t v v' h) (LR.nil ρ)
  | tuple c c' h1 h2 => exact LR.cons (.tuple c c' h1 h2) (LR.nil ρ)

theorem VR.oneCell {ρ : Ren} {v v' : Value} (h : VR ρ v v') : v'.oneCell' = v.oneCell' := by cases h <;> rfl

/- A value in which no address stands is the same on both sides. -/
theorem flat_refl (ρ : Ren) : ∀ (d : Nat) (v : Value), flat d v = true → VR ρ v v := by
  intro d
  induction d with
  | zero =>
    intro v h
    unfold flat at h
    split at h <;> first
      | exact .scal _ rfl
      | (simp only [Bool.and_eq_true, List.isEmpty_iff] at h
         exact .func _ _ _ _ _ rfl rfl (fun i a b h1 => by rw [h.1] at h1; simp at h1) rfl (fun i a b h1 => by rw [h.2] at h1; simp at h1))
      | cases h
      | omega
  | succ d ih =>
    intro v h
    unfold flat at h
    split at h <;> first
      | exact .scal _ rfl
      | (simp only [Bool.and_eq_true, List.isEmpty_iff] at h
         exact .func _ _ _ _ _ rfl rfl (fun i a b h1 => by rw [h.1] at h1; simp at h1) rfl (fun i a b h1 => by rw [h.2] at h1; simp at h1))
      | cases h
      | (rename_i e; cases e; exact .iface _ _ _ (ih _ h))
      | (rename_i e; cases e; refine .agg _ _ rfl fun i a b h1 h2 => ?_; rw [h1] at h2; cases h2; exact ih _ (List.all_eq_true.1 h _ (List.mem_of_getElem? h1)))
      | (rename_i e; cases e; refine .tuple _ _ rfl fun i a b h1 h2 => ?_; rw [h1] at h2; cases h2; exact ih _ (List.all_eq_true.1 h _ (List.mem_of_getElem? h1)))

end Go.Proofs.YtdbjloigfkckfaaGreatDoor.Vm
