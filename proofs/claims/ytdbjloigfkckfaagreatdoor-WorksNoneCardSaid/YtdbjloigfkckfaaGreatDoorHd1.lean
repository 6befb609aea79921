/- The small machine's logic, first text: names anew. -/
import Derived.Test.YtdbjloigfkckfaaGreatDoorVm16
namespace Go.Proofs.YtdbjloigfkckfaaGreatDoor.Vm
open Go.RowKit
set_option linter.unusedVariables false
set_option linter.unusedSimpArgs false

/- Every place has a name. -/
def stepP (p : Nat × Nat) : Nat × Nat := if p.1 = 0 then (p.2 + 1, 0) else (p.1 - 1, p.2 + 1)
def nthP : Nat → Nat × Nat
  | 0 => (0, 0)
  | n + 1 => stepP (nthP n)
theorem nthP_all : ∀ (s b : Nat), b ≤ s → ∃ n, nthP n = (s - b, b)
  | 0, 0, _ => ⟨0, rfl⟩
  | s + 1, 0, _ => by
    obtain ⟨n, h⟩ := nthP_all s s (Nat.le_refl s)
    exact ⟨n + 1, by simp [nthP, h, stepP]⟩
  | s, b + 1, hb => by
    obtain ⟨n, h⟩ := nthP_all s b (by omega)
    have h1 : s - b ≠ 0 := by omega
    exact ⟨n + 1, by simp [nthP, h, stepP, h1]; omega⟩
termination_by s b => (s, b)
theorem nthP_some (a b : Nat) : ∃ n, nthP n = (a, b) := by
  obtain ⟨n, h⟩ := nthP_all (a + b) b (by omega)
  exact ⟨n, by rw [h]; congr 1; omega⟩
def decW (n : Nat) : Where := ⟨(nthP (nthP n).1).1, (nthP (nthP n).1).2, (nthP (nthP n).2).1, (nthP (nthP n).2).2⟩
theorem decW_all (r : Where) : ∃ n, decW n = r := by
  obtain ⟨a, ha⟩ := nthP_some r.blk r.sh
  obtain ⟨b, hb⟩ := nthP_some r.sz r.phys
  obtain ⟨n, hn⟩ := nthP_some a b
  exact ⟨n, by simp [decW, hn, ha, hb]⟩

theorem not_small (n : Nat) : small (n + 262144) = false := by
  cases hs : small (n + 262144) with
  | false => rfl
  | true => have := small_iff.1 hs; omega

/-- Each place has a great name. -/
def Full (ρ : Ren) : Prop := ∀ r : Where, ∃ y, small y = false ∧ ρ y = some r

theorem list_moved {ρ ρ' : Ren} : ∀ {l l' : List Value}, l.length = l'.length → (∀ (i : Nat) (v v' : Value), l[i]? = some v → l'[i]? = some v' → ∃ u, VR ρ' u v') →
    ∃ lu : List Value, LR ρ' lu l'
  | [], [], _, _ => ⟨[], LR.nil _⟩
  | v :: l, v' :: l', hl, h => by
    obtain ⟨u, hu⟩ := h 0 v v' rfl rfl
    obtain ⟨lu, hlu⟩ := list_moved (ρ := ρ) (ρ' := ρ') (l := l) (l' := l') (by simpa using hl) fun i a b ha hb => h (i + 1) a b (by simpa using ha) (by simpa using hb)
    exact ⟨u :: lu, LR.cons hu hlu⟩
  | [], _ :: _, hl, _ => by simp at hl
  | _ :: _, [], hl, _ => by simp at hl

/-- What stood to a value by some names stands to it by others. -/
theorem VR.moved {ρ ρ' : Ren} (hm : ∀ x r, ρ x = some r → ∃ y, ρ' y = some r) {v v' : Value} (h : VR ρ v v') : ∃ u, VR ρ' u v' := by
  induction h with
  | scal v h => exact ⟨v, .scal v h⟩
  | ptr b off r h => obtain ⟨y, hy⟩ := hm b r h; exact ⟨_, .ptr y off r hy⟩
  | sl b off len cap cap' r h hc => obtain ⟨y, hy⟩ := hm b r h; exact ⟨_, .sl y off len cap cap' r hy hc⟩
  | slE a a' => exact ⟨_, .slE a a'⟩
  | map b r h => obtain ⟨y, hy⟩ := hm b r h; exact ⟨_, .map y r hy⟩
  | func fn f f' c c' h h1 h2 h3 h4 ih2 ih4 =>
    obtain ⟨lf, hf⟩ := list_moved (ρ := ρ) h1 ih2
    obtain ⟨lc, hc⟩ := list_moved (ρ := ρ) h3 ih4
    exact ⟨.func fn lf.toArray lc.toArray, .func fn _ _ _ _ h (by simpa using hf.len) (by simpa using hf.at_) (by simpa using hc.len) (by simpa using hc.at_)⟩
  | iface t v v' h ih => obtain ⟨u, hu⟩ := ih; exact ⟨.iface t u, .iface t u v' hu⟩
  | agg c c' h1 h2 ih => obtain ⟨lu, hu⟩ := list_moved (ρ := ρ) h1 ih; exact ⟨.agg lu.toArray, VR.agg_iff (by simpa using hu)⟩
  | tuple c c' h1 h2 ih => obtain ⟨lu, hu⟩ := list_moved (ρ := ρ) h1 ih; exact ⟨.tuple lu.toArray, VR.tuple_iff (by simpa using hu)⟩
theorem VR.full {ρ ρ' : Ren} (hf : Full ρ') {v v' : Value} (h : VR ρ v v') : ∃ u, VR ρ' u v' := h.moved fun x r _ => let ⟨y, _, hy⟩ := hf r; ⟨y, hy⟩

/- Values by new names. -/
def idxN : List Nat → Nat → Option Nat
  | [], _ => none
  | y :: l, x => match Nat.beq y x with
    | true => some 0
    | false => match idxN l x with
      | some i => some (i + 1)
      | none => none
theorem idxN_some : ∀ {σ : List Nat} {x i : Nat}, idxN σ x = some i → σ[i]? = some x
  | [], x, i, h => by cases h
  | y :: l, x, i, h => by
    unfold idxN at h
    split at h
    · rename_i hb
      cases h
      simp [Nat.eq_of_beq_eq_true hb]
    · split at h
      · rename_i j hj
        cases h
        simpa using idxN_some hj
      · cases h

def rnL (f : Value → Option Value) : List Value → Option (List Value)
  | [] => some []
  | v :: l => match f v, rnL f l with
    | some u, some r => some (u :: r)
    | _, _ => none

def rnV (τ : Nat → Option Nat) : Nat → Value → Option Value
  | _, .pointer (some ⟨b, off, none⟩) => match τ b with
    | some i => some (.pointer (some ⟨i, off, none⟩))
    | none => none
  | _, .slice (some ⟨b, off, none⟩) len cap => match τ b with
    | some i => some (.slice (some ⟨i, off, none⟩) len cap)
    | none => none
  | _, .map (some b) => match τ b with
    | some i => some (.map (some i))
    | none => none
  | d + 1, .func fn f c => match rnL (rnV τ d) f.toList, rnL (rnV τ d) c.toList with
    | some f', some c' => some (.func fn f'.toArray c'.toArray)
    | _, _ => none
  | d + 1, .iface t v => match rnV τ d v with
    | some u => some (.iface t u)
    | none => none
  | d + 1, .agg c => match rnL (rnV τ d) c.toList with
    | some c' => some (.agg c'.toArray)
    | none => none
  | d + 1, .tuple c => match rnL (rnV τ d) c.toList with
    | some c' => some (.tuple c'.toArray)
    | none => none
  | _, v => match isScal v with
    | true => some v
    | false => none

theorem rnL_ok {ρ ρ' : Ren} {f : Value → Option Value} (hf : ∀ v u v', f v = some u → VR ρ v v' → VR ρ' u v') : ∀ {l r l' : List Value}, rnL f l = some r → LR ρ l l' → LR ρ' r l'
  | [], r, l', h, hl => by cases h; rw [hl.inv_nil]; exact LR.nil _
  | v :: l, r, l', h, hl => by
    unfold rnL at h
    split at h
    · rename_i u q hu hq
      cases h
      obtain ⟨v', l2, rfl, h1, h2⟩ := hl.inv_cons
      exact LR.cons (hf v u v' hu h1) (rnL_ok hf hq h2)
    · cases h

theorem rnV_ok {ρ ρ' : Ren} {τ : Nat → Option Nat} (hσ : ∀ y i r, τ y = some i → ρ y = some r → ρ' i = some r) : ∀ (d : Nat) (v u v' : Value), rnV τ d v = some u → VR ρ v v' → VR ρ' u v' := by
  intro d
  induction d with
  | zero =>
    intro v u v' h hv
    unfold rnV at h
    split at h
    · rename_i b off
      split at h
      · rename_i i hi
        cases h
        obtain ⟨r, hr, rfl⟩ := hv.ptr_inv
        exact .ptr i off r (hσ _ _ _ hi hr)
      · cases h
    · rename_i b off len cap
      split at h
      · rename_i i hi
        cases h
        cases hv with
        | scal _ h => cases h
        | sl _ _ _ _ cap' r hr hc => exact .sl i off len cap cap' r (hσ _ _ _ hi hr) hc
        | slE _ a' => exact .slE _ _
      · cases h
    · rename_i b
      split at h
      · rename_i i hi
        cases h
        obtain ⟨r, hr, rfl⟩ := hv.map_inv
        exact .map i r (hσ _ _ _ hi hr)
      · cases h
    · omega
    · omega
    · omega
    · omega
    · split at h
      · rename_i hs
        cases h
        rw [VR.scal_inv hs hv]
        exact .scal _ hs
      · cases h
  | succ d ih =>
    intro v u v' h hv
    unfold rnV at h
    split at h
    · rename_i b off
      split at h
      · rename_i i hi
        cases h
        obtain ⟨r, hr, rfl⟩ := hv.ptr_inv
        exact .ptr i off r (hσ _ _ _ hi hr)
      · cases h
    · rename_i b off len cap
      split at h
      · rename_i i hi
        cases h
        cases hv with
        | scal _ h => cases h
        | sl _ _ _ _ cap' r hr hc => exact .sl i off len cap cap' r (hσ _ _ _ hi hr) hc
        | slE _ a' => exact .slE _ _
      · cases h
    · rename_i b
      split at h
      · rename_i i hi
        cases h
        obtain ⟨r, hr, rfl⟩ := hv.map_inv
        exact .map i r (hσ _ _ _ hi hr)
      · cases h
    · rename_i d' fn f c hd
      obtain rfl := Nat.succ.inj hd
      split at h
      · rename_i f1 c1 h1 h2
        cases h
        cases hv with
        | scal _ h => cases h
        | func _ _ f' _ c' hfn a1 a2 a3 a4 =>
          have b1 := rnL_ok (fun v u v' => ih v u v') h1 (⟨a1, a2⟩ : LR ρ f.toList f'.toList)
          have b2 := rnL_ok (fun v u v' => ih v u v') h2 (⟨a3, a4⟩ : LR ρ c.toList c'.toList)
          exact .func _ _ _ _ _ hfn (by simpa using b1.len) (by simpa using b1.at_) (by simpa using b2.len) (by simpa using b2.at_)
      · cases h
    · rename_i hd
      obtain rfl := Nat.succ.inj hd
      split at h
      · rename_i u1 h1
        cases h
        obtain ⟨v1, rfl, h2⟩ := hv.iface_inv
        exact .iface _ _ _ (ih _ _ _ h1 h2)
      · cases h
    · rename_i hd
      obtain rfl := Nat.succ.inj hd
      split at h
      · rename_i c1 h1
        cases h
        obtain ⟨c', rfl, h2⟩ := hv.agg_inv
        exact .agg_iff (by simpa using rnL_ok (fun v u v' => ih v u v') h1 h2)
      · cases h
    · rename_i hd
      obtain rfl := Nat.succ.inj hd
      split at h
      · rename_i c1 h1
        cases h
        obtain ⟨c', rfl, h2⟩ := hv.tuple_inv
        exact .tuple_iff (by simpa using rnL_ok (fun v u v' => ih v u v') h1 h2)
      · cases h
    · split at h
      · rename_i hs
        cases h
        rw [VR.scal_inv hs hv]
        exact .scal _ hs
      · cases h

theorem rnL_len {f : Value → Option Value} : ∀ {l r : List Value}, rnL f l = some r → r.length = l.length
  | [], r, h => by cases h; rfl
  | v :: l, r, h => by
    unfold rnL at h
    split at h
    · rename_i u q hu hq
      cases h
      simp [rnL_len hq]
    · cases h

/-- Entries of maps by new names. -/
def rnEs (σ : Nat → Option Nat) : List MapEntry → Option (List MapEntry)
  | [] => some []
  | e :: l => match rnV σ 6 e.key, rnV σ 6 e.val, rnEs σ l with
    | some k, some v, some r => some ({ e with key := k, val := v } :: r)
    | _, _, _ => none

/-- A block by new names. -/
inductive ON (σ : Nat → Option Nat) : VObj → VObj → Prop where
  | plain (c : List Value) (el : TypeId) (ro : Bool) (h : c.all isScal = true) : ON σ (.cells c el ro) (.cells c el ro)
  | cells (c c' : List Value) (el : TypeId) (ro : Bool) (h : rnL (rnV σ 6) c = some c') : ON σ (.cells c el ro) (.cells c' el ro)
  | map (es es' : List MapEntry) (clock : Nat) (h : rnEs σ es = some es') : ON σ (.map es clock) (.map es' clock)
  | siter (s : ByteArray) (pos : Nat) : ON σ (.siter s pos) (.siter s pos)
  | rows (n size : Nat) (row : Nat → List SV) : ON σ (.rows n size row) (.rows n size row)
  | dead (o : VObj) : ON σ o .dead

theorem rnEs_ok {ρ ρ' : Ren} {σ : Nat → Option Nat} (hσ : ∀ y i r, σ y = some i → ρ y = some r → ρ' i = some r) : ∀ {es es1 : List MapEntry} {es' : List MapEntry}, rnEs σ es = some es1 → es.length = es'.length →
    (∀ (i : Nat) (e e' : MapEntry), es[i]? = some e → es'[i]? = some e' → EntryR ρ e e') → es1.length = es'.length ∧ ∀ (i : Nat) (e e' : MapEntry), es1[i]? = some e → es'[i]? = some e' → EntryR ρ' e e'
  | [], es1, es', h, hl, hr => by cases h; exact ⟨hl, fun i e e' h => by simp at h⟩
  | e :: es, es1, [], h, hl, hr => by simp at hl
  | e :: es, es1, e' :: es', h, hl, hr => by
    unfold rnEs at h
    split at h
    · rename_i k v r hk hv hq
      cases h
      obtain ⟨h1, h2⟩ := rnEs_ok hσ hq (by simpa using hl) fun i a b ha hb => hr (i + 1) a b (by simpa using ha) (by simpa using hb)
      have h0 := hr 0 e e' rfl rfl
      refine ⟨by simp [h1], fun i a b ha hb => ?_⟩
      cases i with
      | zero =>
        simp only [List.getElem?_cons_zero, Option.some.injEq] at ha hb
        subst ha hb
        exact ⟨rnV_ok hσ _ _ _ _ hk h0.key, rnV_ok hσ _ _ _ _ hv h0.val, h0.born⟩
      | succ i => exact h2 i a b (by simpa using ha) (by simpa using hb)
    · cases h

theorem ON.or {P : Program} {ρ ρ' : Ren} {σ : Nat → Option Nat} (hσ : ∀ y i r, σ y = some i → ρ y = some r → ρ' i = some r) {ob o : VObj} (h : ON σ ob o) {r : Where} (hl : Live o r = true) : (∀ o', OR P ρ r ob o' → OR P ρ' r o o') := by
  intro o' ho
  cases h with
  | plain c el ro hc =>
    cases ho with
    | cells _ _ el' _ c' fr hp hs he hz hf hcc =>
      refine .cells c el el' ro c' fr hp hs he hz hf fun i v hv => ?_
      obtain ⟨v', a, b⟩ := hcc i v hv
      have hsc := List.all_eq_true.1 hc v (List.mem_of_getElem? hv)
      have := VR.scal_inv hsc b
      subst this
      exact ⟨_, a, .scal _ hsc⟩
  | cells c c1 el ro hc =>
    cases ho with
    | cells _ _ el' _ c' fr hp hs he hz hf hcc =>
      have hlen := rnL_len hc
      refine .cells c1 el el' ro c' fr hp (by rw [hlen]; exact hs) he hz hf ?_
      have hlr : LR ρ c ((List.range c.length).map fun i => (c'[r.sh + i]?).getD undef) := by
        refine ⟨by simp, fun i v v' hv hv' => ?_⟩
        obtain ⟨v2, a, b⟩ := hcc i v hv
        have hi : i < c.length := (List.getElem?_eq_some_iff.1 hv).1
        rw [List.getElem?_map, List.getElem?_range hi] at hv'
        simp only [Option.map_some, Option.some.injEq, a, Option.getD_some] at hv'
        rw [← hv']
        exact b
      have h2 := rnL_ok (rnV_ok hσ 6) hc hlr
      intro i v hv
      obtain ⟨v', b1, b2⟩ := h2.get hv
      have hi : i < c.length := by rw [← hlen]; exact (List.getElem?_eq_some_iff.1 hv).1
      rw [List.getElem?_map, List.getElem?_range hi] at b1
      simp only [Option.map_some, Option.some.injEq] at b1
      have hin : r.sh + i < c'.size := by omega
      rw [Array.getElem?_eq_getElem hin] at b1
      simp only [Option.getD_some] at b1
      exact ⟨_, Array.getElem?_eq_getElem hin, by rw [b1]; exact b2⟩
  | map es es1 clock hes =>
    cases ho with
    | map _ es' _ h1 h2 =>
      obtain ⟨h3, h4⟩ := rnEs_ok hσ hes h1 h2
      exact .map es1 es' clock h3 h4
  | siter s pos => cases ho; exact .siter s pos
  | rows n size row => cases hl
  | dead => cases hl

theorem ON.ne {σ : Nat → Option Nat} {ob o : VObj} (h : ON σ ob o) (hne : o ≠ .dead) : ob ≠ .dead := by
  cases h <;> first | exact absurd rfl hne | (intro e; cases e)

theorem ON.live {σ : Nat → Option Nat} {ob o : VObj} (h : ON σ ob o) {r : Where} (hl : Live o r = true) : Live ob r = true ∧ (o.ro = false → ob.ro = false) := by
  cases h with
  | plain => exact ⟨hl, fun h => h⟩
  | cells c c1 el ro hc =>
    refine ⟨?_, fun h => h⟩
    cases c with
    | nil => cases hc; exact hl
    | cons v c => rfl
  | map => exact ⟨rfl, fun h => h⟩
  | siter => exact ⟨rfl, fun h => h⟩
  | rows => cases hl
  | dead => cases hl

/-- The same world by other names. -/
theorem WR.recast {P : Program} {B : Nat → Prop} {w₀ w : World} {ρ ρ' : Ren} {m m' : Nat → Option VObj} (h : WR P B w₀ ρ m w) (σ : Nat → Option Nat)
    (hm : ∀ x o, m' x = some o → o ≠ .dead → ∃ y ob, σ x = some y ∧ m y = some ob ∧ ob ≠ .dead ∧ ρ' x = ρ y ∧ (∀ r, Live o r = true → Live ob r = true ∧ (o.ro = false → ob.ro = false) ∧ ∀ o', OR P ρ r ob o' → OR P ρ' r o o') ∧
      (∀ n size row, o = .rows n size row → ob = o) ∧ (∀ el ro, o = .cells [] el ro → ob = o))
    (hinj : ∀ x y z, σ x = some z → σ y = some z → x = y) (hfresh : ∀ x, m' x = none → ρ' x = none) : WR P B w₀ ρ' m' w where
  below := h.below
  size := h.size
  live := by
    intro x o r hx hr hl
    obtain ⟨y, ob, h1, h2, _, h3, h4, _⟩ := hm x o hx (by rintro rfl; cases hl)
    obtain ⟨h5, h6, h7⟩ := h4 r hl
    obtain ⟨o', h8, h9, h10⟩ := h.live y ob r h2 (h3 ▸ hr) h5
    exact ⟨o', h8, h7 o' h9, fun e => h10 (h6 e)⟩
  inj := by
    intro x y ox oy rx ry hx hy hrx hry hlx hly hd he
    obtain ⟨a, oa, a1, a2, _, a3, a4, _⟩ := hm x ox hx (by rintro rfl; cases hlx)
    obtain ⟨b, ob, b1, b2, _, b3, b4, _⟩ := hm y oy hy (by rintro rfl; cases hly)
    obtain ⟨a5, a6, _⟩ := a4 rx hlx
    obtain ⟨b5, b6, _⟩ := b4 ry hly
    have := h.inj a b oa ob rx ry a2 b2 (a3 ▸ hrx) (b3 ▸ hry) a5 b5 (hd.imp a6 b6) he
    subst this
    exact hinj x y a a1 b1
  fresh := hfresh
  rows := by
    intro x n size row hx
    obtain ⟨y, ob, h1, h2, _, h3, _, h5, _⟩ := hm x _ hx (by intro e; cases e)
    rw [h5 n size row rfl] at h2
    obtain ⟨r, h6, h7⟩ := h.rows y n size row h2
    exact ⟨r, by rw [h3, h6], h7⟩
  nil := by
    intro x el ro r hx hr
    obtain ⟨y, ob, h1, h2, _, h3, _, _, h5⟩ := hm x _ hx (by intro e; cases e)
    rw [h5 el ro rfl] at h2
    exact h.nil y el ro r h2 (h3 ▸ hr)
  named := by
    intro x o hx hne
    obtain ⟨y, ob, h1, h2, h3, h4, _⟩ := hm x o hx hne
    rw [h4]
    exact h.named y ob h2 h3
end Go.Proofs.YtdbjloigfkckfaaGreatDoor.Vm
