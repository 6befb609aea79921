/- Arguments of plain types: taken apart. -/
import Derived.Test.YtdbjloigfkckfaaGreatDoorSv
namespace Go.Proofs.YtdbjloigfkckfaaGreatDoor.Vm
open Go.RowKit
set_option linter.unusedVariables false
set_option linter.unusedSimpArgs false

section
variable {P : Program} {w : World} {B : Nat → Prop}
theorem mt_bool {d : Nat} {t : TypeId} {svs : List SV} (ht : P.underlying t = some .bool) (h : Mt P (d + 1) t svs) : ∃ b, svs = [.val (.bool b)] := by
  unfold Mt at h; rw [ht] at h; exact h
theorem mt_int {d : Nat} {t : TypeId} {k : IntKind} {svs : List SV} (ht : P.underlying t = some (.int k)) (h : Mt P (d + 1) t svs) : ∃ n, svs = [.val (.int k n)] ∧ k.min ≤ n ∧ n ≤ k.max := by
  unfold Mt at h; rw [ht] at h; exact h
theorem mt_string {d : Nat} {t : TypeId} {svs : List SV} (ht : P.underlying t = some .string) (h : Mt P (d + 1) t svs) : ∃ s : ByteArray, svs = [.val (.string s)] ∧ s.size ≤ reachBytes := by
  unfold Mt at h; rw [ht] at h; exact h
theorem mt_struct {d : Nat} {t : TypeId} {fs : Array Field} {svs : List SV} (ht : P.underlying t = some (.struct fs)) (h : Mt P (d + 1) t svs) :
    ∃ parts : List (List SV), svs = parts.flatten ∧ All2 (fun (f : Field) p => Mt P d f.type p) fs.toList parts := by
  unfold Mt at h; rw [ht] at h; exact h
theorem mt_cells {d : Nat} {t e : TypeId} {svs : List SV} (ht : P.underlying t = some (.slice e)) (ho : oneT P e = true) (h : Mt P (d + 1) t svs) :
    ∃ c : List Value, svs = [.cells c.length c e] ∧ c.length * P.bytesOf e ≤ reachBytes ∧ ∀ v ∈ c, Mt P d e [.val v] := by
  unfold Mt at h; rw [ht] at h; dsimp only at h; rw [ho] at h; exact h
theorem mt_rows {d : Nat} {t e : TypeId} {svs : List SV} (ht : P.underlying t = some (.slice e)) (ho : oneT P e = false) (h : Mt P (d + 1) t svs) :
    ∃ (n : Nat) (row : Nat → List SV), svs = [.rows n (P.cellsOf e) row] ∧ n * P.bytesOf e ≤ reachBytes ∧ ∀ i, i < n → Mt P d e (row i) := by
  unfold Mt at h; rw [ht] at h; dsimp only at h; rw [ho] at h; exact h

theorem all2_nil {α β : Type} {R : α → β → Prop} {l : List β} (h : All2 R [] l) : l = [] := by cases h; rfl
theorem all2_cons {α β : Type} {R : α → β → Prop} {a : α} {as : List α} {l : List β} (h : All2 R (a :: as) l) : ∃ b bs, l = b :: bs ∧ R a b ∧ All2 R as bs := by
  cases h with
  | cons h t => exact ⟨_, _, rfl, h, t⟩

/-- A row of bytes. -/
theorem mt_bytes {d : Nat} {t e : TypeId} {svs : List SV} (ht : P.underlying t = some (.slice e)) (he : P.underlying e = some (.int .u8)) (ho : oneT P e = true) (hb : P.bytesOf e = 1) (h : Mt P (d + 2) t svs) :
    ∃ b : ByteArray, svs = [.cells b.size (bytesC b) e] ∧ b.size ≤ reachBytes := by
  obtain ⟨c, rfl, h1, h2⟩ := mt_cells ht ho h
  rw [hb, Nat.mul_one] at h1
  have key : ∀ c : List Value, (∀ v ∈ c, Mt P (d + 1) e [.val v]) → ∃ l : List UInt8, c = l.map fun x => Value.int .u8 (x.toNat : Int) := by
    intro c
    induction c with
    | nil => intro _; exact ⟨[], rfl⟩
    | cons v c ih =>
      intro hv
      obtain ⟨l, rfl⟩ := ih fun v hv' => hv v (List.mem_cons_of_mem _ hv')
      obtain ⟨n, e1, hn0, hn1⟩ := mt_int he (hv v List.mem_cons_self)
      simp only [List.cons.injEq, SV.val.injEq, and_true] at e1
      subst e1
      have h0 : (0 : Int) ≤ n := hn0
      have h255 : n ≤ (255 : Int) := hn1
      refine ⟨UInt8.ofNat n.toNat :: l, ?_⟩
      simp only [List.map_cons]
      congr 2
      have : (UInt8.ofNat n.toNat).toNat = n.toNat := by
        rw [UInt8.toNat_ofNat']
        exact Nat.mod_eq_of_lt (by omega)
      rw [this]
      omega
  obtain ⟨l, rfl⟩ := key c h2
  refine ⟨⟨l.toArray⟩, ?_, ?_⟩
  · have : bytesC ⟨l.toArray⟩ = l.map fun x => Value.int .u8 (x.toNat : Int) := by unfold bytesC; simp
    rw [this]
    congr 1
    congr 1
    show _ = (l.toArray).size
    simp
  · have : (⟨l.toArray⟩ : ByteArray).size = l.length := by show (l.toArray).size = _; simp
    rw [this]; simpa using h1
/-- A row of strings. -/
theorem mt_strs {d : Nat} {t e : TypeId} {svs : List SV} (ht : P.underlying t = some (.slice e)) (he : P.underlying e = some .string) (ho : oneT P e = true) (h : Mt P (d + 2) t svs) :
    ∃ l : List ByteArray, svs = [.cells l.length (strsC l) e] ∧ l.length * P.bytesOf e ≤ reachBytes ∧ ∀ s ∈ l, s.size ≤ reachBytes := by
  obtain ⟨c, rfl, h1, h2⟩ := mt_cells ht ho h
  have key : ∀ c : List Value, (∀ v ∈ c, Mt P (d + 1) e [.val v]) → ∃ l : List ByteArray, c = strsC l ∧ ∀ s ∈ l, s.size ≤ reachBytes := by
    intro c
    induction c with
    | nil => intro _; exact ⟨[], rfl, fun s hs => by cases hs⟩
    | cons v c ih =>
      intro hv
      obtain ⟨l, rfl, hl⟩ := ih fun v hv' => hv v (List.mem_cons_of_mem _ hv')
      obtain ⟨s, e1, hs⟩ := mt_string he (hv v List.mem_cons_self)
      simp only [List.cons.injEq, SV.val.injEq, and_true] at e1
      subst e1
      exact ⟨s :: l, rfl, fun x hx => by rcases List.mem_cons.1 hx with rfl | hx; exact hs; exact hl x hx⟩
  obtain ⟨l, rfl, hl⟩ := key c h2
  exact ⟨l, by rw [strsC_length], by rw [strsC_length] at h1; exact h1, hl⟩
/-- A row of ints. -/
theorem mt_ints {d : Nat} {t e : TypeId} {svs : List SV} (ht : P.underlying t = some (.slice e)) (he : P.underlying e = some (.int .i64)) (ho : oneT P e = true) (h : Mt P (d + 2) t svs) :
    ∃ l : List Int, svs = [.cells l.length (intsC l) e] ∧ l.length * P.bytesOf e ≤ reachBytes ∧ ∀ x ∈ l, IntKind.i64.min ≤ x ∧ x ≤ IntKind.i64.max := by
  obtain ⟨c, rfl, h1, h2⟩ := mt_cells ht ho h
  have key : ∀ c : List Value, (∀ v ∈ c, Mt P (d + 1) e [.val v]) → ∃ l : List Int, c = intsC l ∧ ∀ x ∈ l, IntKind.i64.min ≤ x ∧ x ≤ IntKind.i64.max := by
    intro c
    induction c with
    | nil => intro _; exact ⟨[], rfl, fun s hs => by cases hs⟩
    | cons v c ih =>
      intro hv
      obtain ⟨l, rfl, hl⟩ := ih fun v hv' => hv v (List.mem_cons_of_mem _ hv')
      obtain ⟨n, e1, h0, h1⟩ := mt_int he (hv v List.mem_cons_self)
      simp only [List.cons.injEq, SV.val.injEq, and_true] at e1
      subst e1
      exact ⟨n :: l, rfl, fun x hx => by rcases List.mem_cons.1 hx with rfl | hx; exact ⟨h0, h1⟩; exact hl x hx⟩
  obtain ⟨l, rfl, hl⟩ := key c h2
  exact ⟨l, by rw [intsC_length], by rw [intsC_length] at h1; exact h1, hl⟩

theorem SR.rows_congr {n size : Nat} {row row' : Nat → List SV} {v : Value} (h : SR P w B (.rows n size row) v) (he : ∀ i, i < n → row i = row' i) : SR P w B (.rows n size row') v := by
  cases h with
  | rnil size row a => exact .rnil size row' a
  | rows _ _ _ b off cap c' el' fr hB hbb hl hn hcap hlen u hu hr =>
    exact .rows n size row' b off cap c' el' fr hB hbb hl hn hcap (fun i hi => by rw [← he i hi]; exact hlen i hi) u hu fun i k sv hi hk => hr i k sv hi (by rw [he i hi]; exact hk)
/-- Rows as a list. -/
theorem rows_list {α : Type} {n size : Nat} {row : Nat → List SV} {v : Value} (mk : α → List SV) (d0 : α) (ok : α → Prop) (hs : SR P w B (.rows n size row) v) (h : ∀ i, i < n → ∃ x, row i = mk x ∧ ok x) :
    ∃ l : List α, l.length = n ∧ (∀ x ∈ l, ok x) ∧ SR P w B (.rows l.length size fun i => mk (l.getD i d0)) v := by
  let l : List α := (List.range n).map fun i => if hi : i < n then (h i hi).choose else d0
  have hl : l.length = n := by simp [l]
  have hg : ∀ i (hi : i < n), l[i]? = some (h i hi).choose := fun i hi => by simp [l, hi]
  refine ⟨l, hl, fun x hx => ?_, ?_⟩
  · obtain ⟨i, hi⟩ := List.getElem?_of_mem hx
    have hin : i < n := by rw [← hl]; exact (List.getElem?_eq_some_iff.1 hi).1
    rw [hg i hin] at hi
    cases hi
    exact (h i hin).choose_spec.2
  · rw [hl]
    refine hs.rows_congr fun i hi => ?_
    rw [List.getD_eq_getElem?_getD, hg i hi]
    exact (h i hi).choose_spec.1
end
end Go.Proofs.YtdbjloigfkckfaaGreatDoor.Vm
