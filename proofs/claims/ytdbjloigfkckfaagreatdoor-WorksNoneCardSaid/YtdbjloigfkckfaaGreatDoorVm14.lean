/- The small machine, its fourteenth text: a region whose order is open. -/
import Derived.Test.YtdbjloigfkckfaaGreatDoorVm13
namespace Go.Proofs.YtdbjloigfkckfaaGreatDoor.Vm
open Go.RowKit
set_option linter.unusedVariables false
set_option linter.unusedSimpArgs false

theorem masks_length {ops : Array Oper} : (masks ops).length = ops.size := by
  have : ∀ (l : List Oper) (k : Nat) (bs : List Nat), (masksFrom k bs l).length = l.length := by
    intro l
    induction l with
    | nil => intro k bs; rfl
    | cons o l ih => intro k bs; simp only [masksFrom, List.length_cons, ih]
  unfold masks
  rw [this]
  simp

theorem statFrom_spec {ops : Array Oper} : ∀ {ps : List Oper} {ms : List Nat} {j : Nat} {prev : List (Nat × Oper)}, statFrom ops j prev ms ps = true →
    ∀ (q m : Nat) (p : Oper), ms[q]? = some m → ps[q]? = some p →
      (∀ e ∈ p.after, Region.binds .any e = true → e.on < j + q) ∧ (∀ x ∈ prev, m.testBit x.1 = true ∨ x.2.apart ops p = true) ∧
      (∀ (r : Nat) (o : Oper), r < q → ps[r]? = some o → m.testBit (j + r) = true ∨ o.apart ops p = true)
  | [], ms, j, prev, h, q, m, p, hm, hp => by simp at hp
  | p0 :: ps, [], j, prev, h, q, m, p, hm, hp => by simp at hm
  | p0 :: ps, m0 :: ms, j, prev, h, q, m, p, hm, hp => by
    simp only [statFrom, Bool.and_eq_true] at h
    obtain ⟨⟨h1, h2⟩, h3⟩ := h
    cases q with
    | zero =>
      simp only [List.getElem?_cons_zero, Option.some.injEq] at hm hp
      subst hm hp
      refine ⟨fun e he hb => ?_, fun x hx => ?_, fun r o hr => by omega⟩
      · have := List.all_eq_true.1 h1 e (Array.mem_toList_iff.2 he)
        rw [hb] at this
        simpa using blt_iff.1 (by simpa using this)
      · have := List.all_eq_true.1 h2 x hx
        rw [bit_iff, Bool.or_eq_true] at this
        exact this
    | succ q =>
      simp only [List.getElem?_cons_succ] at hm hp
      obtain ⟨h4, h5, h6⟩ := statFrom_spec h3 q m p hm hp
      refine ⟨fun e he hb => by have := h4 e he hb; omega, fun x hx => h5 x (by simp [hx]), fun r o hr ho => ?_⟩
      cases r with
      | zero =>
        simp only [List.getElem?_cons_zero, Option.some.injEq] at ho
        subst ho
        simpa using h5 (j, p0) (by simp)
      | succ r =>
        simp only [List.getElem?_cons_succ] at ho
        have := h6 r o (by omega) ho
        rwa [show j + 1 + r = j + (r + 1) by omega] at this

theorem feet_mem : ∀ {ms : List Nat} {fs : List Fp} {k j m : Nat} {f : Fp}, ms[j]? = some m → fs[j]? = some f → (f.rd ≠ [] ∨ f.wr ≠ []) → (⟨k + j, m, f⟩ : Foot) ∈ feet k ms fs
  | [], fs, k, j, m, f, hm, _, _ => by simp at hm
  | m0 :: ms, [], k, j, m, f, _, hf, _ => by simp at hf
  | m0 :: ms, f0 :: fs, k, j, m, f, hm, hf, hne => by
    cases j with
    | zero =>
      simp only [List.getElem?_cons_zero, Option.some.injEq] at hm hf
      subst hm hf
      unfold feet
      split
      · rename_i h1 h2; rcases hne with h | h
        · exact absurd h1 h
        · exact absurd h2 h
      · simp
    | succ j =>
      simp only [List.getElem?_cons_succ] at hm hf
      have := feet_mem (k := k + 1) hm hf hne
      rw [show k + 1 + j = k + (j + 1) by omega] at this
      unfold feet
      split
      · exact this
      · exact List.mem_cons_of_mem _ this

theorem disj_spec {a b : List Nat} (h : disj a b = true) {x : Nat} (ha : x ∈ a) (hb : x ∈ b) : False := by
  have := List.all_eq_true.1 h x ha
  simp at this
  exact this hb

theorem apart_spec : ∀ {ms : List Nat} {fs : List Fp} {k : Nat}, apartAll (feet k ms fs) = true → ∀ (i j m : Nat) (f g : Fp), i < j → ms[j]? = some m → fs[i]? = some f → fs[j]? = some g →
    (ms[i]?).isSome = true → m.testBit (k + i) = true ∨ ((∀ x, x ∈ f.wr → x ∉ g.rd ∧ x ∉ g.wr) ∧ ∀ x, x ∈ g.wr → x ∉ f.rd)
  | [], fs, k, h, i, j, m, f, g, hij, hm, hf, hg, hi => by simp at hm
  | m0 :: ms, [], k, h, i, j, m, f, g, hij, hm, hf, hg, hi => by simp at hf
  | m0 :: ms, f0 :: fs, k, h, i, j, m, f, g, hij, hm, hf, hg, hi => by
    have rest : apartAll (feet (k + 1) ms fs) = true := by
      unfold feet at h
      split at h
      · exact h
      · simp only [apartAll, Bool.and_eq_true] at h; exact h.2
    cases j with
    | zero => omega
    | succ j =>
      simp only [List.getElem?_cons_succ] at hm hg
      cases i with
      | succ i =>
        simp only [List.getElem?_cons_succ] at hf hi
        have := apart_spec rest i j m f g (by omega) hm hf hg hi
        rwa [show k + 1 + i = k + (i + 1) by omega] at this
      | zero =>
        simp only [List.getElem?_cons_zero, Option.some.injEq] at hf
        subst hf
        by_cases hfe : f0.rd = [] ∧ f0.wr = []
        · right
          refine ⟨fun x hx => ?_, fun x _ => ?_⟩
          · rw [hfe.2] at hx; cases hx
          · rw [hfe.1]; simp
        · by_cases hge : g.rd = [] ∧ g.wr = []
          · right
            refine ⟨fun x _ => ?_, fun x hx => ?_⟩
            · rw [hge.1, hge.2]; simp
            · rw [hge.2] at hx; cases hx
          · have hgne : g.rd ≠ [] ∨ g.wr ≠ [] := by
              by_cases h1 : g.rd = []
              · exact .inr fun h2 => hge ⟨h1, h2⟩
              · exact .inl h1
            have hmem := feet_mem (k := k + 1) hm hg hgne
            unfold feet at h
            split at h
            · rename_i h1 h2; exact absurd ⟨h1, h2⟩ hfe
            · simp only [apartAll, Bool.and_eq_true] at h
              have := List.all_eq_true.1 h.1 _ hmem
              simp only [Bool.or_eq_true] at this
              rcases this with this | this
              · left; rw [bit_iff] at this; exact this
              · right
                simp only [pairOk, Bool.and_eq_true] at this
                obtain ⟨⟨h1, h2⟩, h3⟩ := this
                exact ⟨fun x hx => ⟨fun hh => disj_spec h1 hx hh, fun hh => disj_spec h2 hx hh⟩, fun x hx hh => disj_spec h3 hx hh⟩

abbrev reset (S : VS) : VS := { S with rd := [], wr := [] }

/-- The trace of a region, in the order of the text. -/
structure Trace (P : Program) (call : CallF) (ops rest : List Oper) (t : Fr) (S : VS) (t1 : Fr) (S1 : VS) (fps : List Fp) (T : Nat → Fr) (G Bf : Nat → VS) : Prop where
  t0 : T 0 = t
  s0 : G 0 = S
  tn : T rest.length = t1
  sn : G rest.length = S1
  len : fps.length = rest.length
  step : ∀ (j : Nat) (o : Oper), rest[j]? = some o → opV P call ops o (T j) (reset (G j)) = some (none, T (j + 1), Bf j) ∧ G (j + 1) = { Bf j with rd := (Bf j).rd ++ (G j).rd, wr := (Bf j).wr ++ (G j).wr } ∧
    fps[j]? = some ⟨(Bf j).rd, (Bf j).wr⟩

theorem drawV_trace {P : Program} {call : CallF} {ops : List Oper} : ∀ {rest : List Oper} {t t1 : Fr} {S S1 : VS} {fps : List Fp}, drawV P call ops rest t S = some (t1, S1, fps) →
    ∃ T G Bf, Trace P call ops rest t S t1 S1 fps T G Bf
  | [], t, t1, S, S1, fps, h => by
    simp only [drawV, Option.some.injEq, Prod.mk.injEq] at h
    obtain ⟨rfl, rfl, rfl⟩ := h
    exact ⟨fun _ => t, fun _ => S, fun _ => S, rfl, rfl, rfl, rfl, rfl, fun j o h => by simp at h⟩
  | o :: rest, t, t1, S, S1, fps, h => by
    unfold drawV at h
    split at h
    · rename_i t2 S2 hop
      split at h
      · rename_i t3 S3 fps2 hd
        simp only [Option.some.injEq, Prod.mk.injEq] at h
        obtain ⟨rfl, rfl, rfl⟩ := h
        obtain ⟨T, G, Bf, h0, h1, h2, h3, h4, h5⟩ := drawV_trace hd
        refine ⟨fun j => match j with | 0 => t | j + 1 => T j, fun j => match j with | 0 => S | j + 1 => G j, fun j => match j with | 0 => S2 | j + 1 => Bf j, rfl, rfl, h2, h3, by simp [h4], fun j p hp => ?_⟩
        cases j with
        | zero =>
          simp only [List.getElem?_cons_zero, Option.some.injEq] at hp
          subst hp
          exact ⟨by simp only [h0]; exact hop, h1, rfl⟩
        | succ j => exact h5 j p (by simpa using hp)
      · cases h
    · cases h

def cntF (D : Nat → Bool) : Nat → Nat
  | 0 => 0
  | k + 1 => cntF D k + if D k then 0 else 1
theorem cntF_zero {D : Nat → Bool} : ∀ {n : Nat}, cntF D n = 0 → ∀ i, i < n → D i = true
  | 0, _, i, hi => by omega
  | n + 1, h, i, hi => by
    unfold cntF at h
    have h1 : cntF D n = 0 := by omega
    by_cases e : i = n
    · subst e
      cases hd : D i with
      | true => rfl
      | false => rw [hd] at h; simp at h
    · exact cntF_zero h1 i (by omega)
theorem cntF_succ (D : Nat → Bool) (k : Nat) : cntF D (k + 1) = cntF D k + if D k then 0 else 1 := rfl
theorem cntF_set {D : Nat → Bool} {i : Nat} (hd : D i = false) : ∀ {n : Nat}, cntF (fun k => D k || decide (k = i)) n + (if i < n then 1 else 0) = cntF D n
  | 0 => by simp [cntF]
  | n + 1 => by
    have ih := cntF_set hd (n := n)
    rw [cntF_succ, cntF_succ]
    by_cases e : n = i
    · subst e
      have ih' : cntF (fun k => D k || decide (k = n)) n = cntF D n := by simpa using ih
      rw [ih', hd]
      simp
    · have hdec : decide (n = i) = false := by simp [e]
      rw [hdec, Bool.or_false]
      by_cases hin : i < n
      · have ih' : cntF (fun k => D k || decide (k = i)) n + 1 = cntF D n := by simpa [hin] using ih
        have h2 : i < n + 1 := by omega
        simp only [h2, if_true]
        omega
      · have ih' : cntF (fun k => D k || decide (k = i)) n = cntF D n := by simpa [hin] using ih
        have h2 : ¬ i < n + 1 := by omega
        simp only [h2, if_false]
        omega
theorem cntF_none (n : Nat) : cntF (fun _ => false) n = n := by
  induction n with
  | zero => rfl
  | succ n ih => unfold cntF; rw [ih]; simp

theorem st_all {X V : Type} {W : Nat → X → Option V} {init : X → V} {D : Nat → Bool} {x : X} : ∀ {n : Nat}, (∀ i, i < n → D i = true) → st W init D n x = st W init (fun _ => true) n x
  | 0, _ => rfl
  | n + 1, h => by
    rw [st_succ, st_succ, st_all fun i hi => h i (by omega), h n (by omega)]

section
variable {P : Program} {B : Nat → Prop} {w₀ : World}

theorem getD_set {l : Array Bool} {i k : Nat} (hi : i < l.size) : (l.setIfInBounds i true).getD k false = (l.getD k false || decide (k = i)) := by
  rw [Array.getD_eq_getD_getElem?, Array.getD_eq_getD_getElem?]
  by_cases h : k = i
  · subst h
    rw [Array.getElem?_setIfInBounds_self, if_pos hi]
    simp
  · rw [Array.getElem?_setIfInBounds_ne (Ne.symm h)]
    simp [h]

theorem mem_ready {ops : Array Oper} {listed : Array Bool} {i : Nat} (hs : listed.size = ops.size) : i ∈ Region.ready .any ops listed ↔
    ∃ o, ops[i]? = some o ∧ listed.getD i false = false ∧ ∀ e ∈ o.after, Region.binds .any e = true → listed.getD e.on false = true := by
  unfold Region.ready
  rw [List.mem_filter, List.mem_range, Bool.and_eq_true]
  have hdef : i < ops.size → listed.getD i true = listed.getD i false := by
    intro hi
    rw [Array.getD_eq_getD_getElem?, Array.getD_eq_getD_getElem?, Array.getElem?_eq_getElem (by omega)]
    rfl
  constructor
  · rintro ⟨hi, h1, h2⟩
    have ho : ops[i]? = some ops[i] := Array.getElem?_eq_getElem hi
    refine ⟨ops[i], ho, by rw [← hdef hi]; simpa using h1, fun e he hb => ?_⟩
    rw [ho] at h2
    simp only [Option.map_some, Option.getD_some] at h2
    have := Array.all_eq_true_iff_forall_mem.1 h2 e he
    rw [hb] at this
    simpa using this
  · rintro ⟨o, ho, h1, h2⟩
    have hi : i < ops.size := (Array.getElem?_eq_some_iff.1 ho).1
    refine ⟨hi, by rw [hdef hi, h1]; rfl, ?_⟩
    rw [ho]
    simp only [Option.map_some, Option.getD_some]
    refine Array.all_eq_true_iff_forall_mem.2 fun e he => ?_
    cases hb : Region.binds .any e with
    | false => rfl
    | true => rw [h2 e he hb]; rfl

theorem put_ds {t t1 : Fr} {d : Option Tmp} {v : Value} (h : Vm.put t d v = some t1) : t1.ds = t.ds ∧ t1.base = t.base := by
  cases d with
  | none => cases h; exact ⟨rfl, rfl⟩
  | some d =>
    simp only [Vm.put, Fr.set_eq] at h
    split at h
    · cases h; exact ⟨rfl, rfl⟩
    · cases h

theorem draw_ok (hP : plainNames P = true) (hmix : P.follows .mixedOrders = true) {call : CallF} (hc : CallOk P call) {ops : Array Oper} {id : Nat} {t t1 : Fr} {S S1 : VS} {fps : List Fp}
    (hd : drawV P call ops.toList ops.toList t S = some (t1, S1, fps)) (hok : drawOk ops fps = true) {ρ : Ren} {m : Nat → Option VObj} {w : World} {a : Act} (ht : FR ρ t a) (hw : WR P B w₀ ρ m w)
    (hm : Agree S S1 m) {r : Option Nat} {Q : Exit → Act → World → Prop} (hQ : ∀ (ρ' : Ren) (a' : Act) (w' : World), ρ.le ρ' → FR ρ' t1 a' → WR P B w₀ ρ' (post m S1) w' → Q .normal a' w') :
    (Code.region id ops true).wpIn (FF r) 0 P Q a w := by
  obtain ⟨T, G, Bf, tr⟩ := drawV_trace hd
  simp only [drawOk, Bool.and_eq_true] at hok
  obtain ⟨hstat, hapart⟩ := hok
  have hlen : ops.toList.length = ops.size := by simp
  have hopT : ∀ i, i < ops.size → ∃ o, ops[i]? = some o ∧ ops.toList[i]? = some o := fun i hi => ⟨ops[i], Array.getElem?_eq_getElem hi, by simp [hi]⟩
  have hmk : ∀ i, i < ops.size → ∃ mk, (masks ops)[i]? = some mk := fun i hi => ⟨_, List.getElem?_eq_getElem (by rw [masks_length]; exact hi)⟩
  -- frames of the trace
  have hTn : ∀ i, i ≤ ops.size → (T i).n = t.n := by
    intro i
    induction i with
    | zero => intro _; rw [tr.t0]
    | succ i ih =>
      intro hi
      obtain ⟨o, ho, hol⟩ := hopT i (by omega)
      obtain ⟨h1, _, _⟩ := tr.step i o hol
      obtain ⟨v, _, hp, _, _⟩ := opV_congr h1 (fun s _ => rfl) rfl
      rw [(put_at (by rw [ih (by omega)]; exact ht.small) hp).1, ih (by omega)]
  have hTd : ∀ i, i ≤ ops.size → (T i).ds = t.ds ∧ (T i).base = t.base := by
    intro i
    induction i with
    | zero => intro _; rw [tr.t0]; exact ⟨rfl, rfl⟩
    | succ i ih =>
      intro hi
      obtain ⟨o, ho, hol⟩ := hopT i (by omega)
      obtain ⟨h1, _, _⟩ := tr.step i o hol
      obtain ⟨v, _, hp, _, _⟩ := opV_congr h1 (fun s _ => rfl) rfl
      rw [(put_ds hp).1, (put_ds hp).2]
      exact ih (by omega)
  let Ws : Nat → Nat → Option Value := fun i s => match ops.toList[i]? with
    | some o => if o.dst = some s then some ((T (i + 1)).at s) else none
    | none => none
  let Wm : Nat → Nat → Option (Option VObj) := fun i x => if i < ops.size ∧ x ∈ (Bf i).wr then some (gt (Bf i).mem x) else none
  have hWs : ∀ i s, i ≤ ops.size → st Ws (T 0).at (fun _ => true) i s = (T i).at s := by
    intro i s
    induction i with
    | zero => intro _; rfl
    | succ i ih =>
      intro hi
      obtain ⟨o, ho, hol⟩ := hopT i (by omega)
      obtain ⟨h1, _, _⟩ := tr.step i o hol
      obtain ⟨v, _, hp, _, _⟩ := opV_congr h1 (fun s _ => rfl) rfl
      have hat := (put_at (by rw [hTn i (by omega)]; exact ht.small) hp).2 s
      rw [st_succ, ih (by omega)]
      simp only [if_true]
      have hws : Ws i s = if o.dst = some s then some ((T (i + 1)).at s) else none := by simp only [Ws, hol]
      rw [hws]
      by_cases hds : o.dst = some s
      · rw [if_pos hds]; rfl
      · rw [if_neg hds, hat, if_neg hds]; rfl
  -- logs
  have hlogs : ∀ i, i ≤ ops.size → ∀ x, (x ∈ (G i).rd → x ∈ S1.rd) ∧ (x ∈ (G i).wr → x ∈ S1.wr) := by
    have : ∀ k i, i + k = ops.size → ∀ x, (x ∈ (G i).rd → x ∈ S1.rd) ∧ (x ∈ (G i).wr → x ∈ S1.wr) := by
      intro k
      induction k with
      | zero => intro i hi x; have : G i = S1 := by rw [← tr.sn, hlen]; congr 1; 
                rw [this]; exact ⟨fun h => h, fun h => h⟩
      | succ k ih =>
        intro i hi x
        obtain ⟨o, ho, hol⟩ := hopT i (by omega)
        obtain ⟨_, h2, _⟩ := tr.step i o hol
        have := ih (i + 1) (by omega) x
        rw [h2] at this
        exact ⟨fun hx => this.1 (List.mem_append.2 (.inr hx)), fun hx => this.2 (List.mem_append.2 (.inr hx))⟩
    exact fun i hi => this (ops.size - i) i (by omega)
  have hlogB : ∀ i, i < ops.size → ∀ x, (x ∈ (Bf i).rd → x ∈ S1.rd) ∧ (x ∈ (Bf i).wr → x ∈ S1.wr) := by
    intro i hi x
    obtain ⟨o, ho, hol⟩ := hopT i hi
    obtain ⟨_, h2, _⟩ := tr.step i o hol
    have := hlogs (i + 1) (by omega) x
    rw [h2] at this
    exact ⟨fun hx => this.1 (List.mem_append.2 (.inl hx)), fun hx => this.2 (List.mem_append.2 (.inl hx))⟩
  have hWm : ∀ i, i ≤ ops.size → ∀ x, (x ∈ S1.rd ∨ x ∈ S1.wr) → st Wm m (fun _ => true) i x = gt (G i).mem x := by
    intro i
    induction i with
    | zero => intro _ x hx; rw [tr.s0]; exact hm x hx
    | succ i ih =>
      intro hi x hx
      obtain ⟨o, ho, hol⟩ := hopT i (by omega)
      obtain ⟨h1, h2, _⟩ := tr.step i o hol
      rw [st_succ, ih (by omega) x hx, h2]
      simp only [if_true]
      by_cases hxw : x ∈ (Bf i).wr
      · have : Wm i x = some (gt (Bf i).mem x) := by simp only [Wm]; rw [if_pos ⟨by omega, hxw⟩]
        rw [this]; rfl
      · have : Wm i x = none := by simp only [Wm]; rw [if_neg fun hh => hxw hh.2]
        rw [this]
        exact ((opV_ext hc h1).frame x hxw).symm
  have hWm0 : ∀ i, i ≤ ops.size → ∀ x, x ∉ S1.wr → st Wm m (fun _ => true) i x = m x := by
    intro i
    induction i with
    | zero => intro _ x _; rfl
    | succ i ih =>
      intro hi x hx
      rw [st_succ, ih (by omega) x hx]
      have : Wm i x = none := by simp only [Wm]; rw [if_neg fun hh => hx ((hlogB i hh.1 x).2 hh.2)]
      rw [this]; simp
  -- pairs
  have hpairS : ∀ (i k : Nat) (oi ok : Oper) (mk : Nat), i < k → ops.toList[i]? = some oi → ops.toList[k]? = some ok → (masks ops)[k]? = some mk → mk.testBit i = true ∨ oi.apart ops ok = true := by
    intro i k oi ok mk hik hoi hok hmkk
    have := (statFrom_spec hstat k mk ok hmkk hok).2.2 i oi hik hoi
    simpa using this
  have hpairM : ∀ (i k mk : Nat), i < k → k < ops.size → (masks ops)[k]? = some mk → mk.testBit i = true ∨ ((∀ x, x ∈ (Bf i).wr → x ∉ (Bf k).rd ∧ x ∉ (Bf k).wr) ∧ ∀ x, x ∈ (Bf k).wr → x ∉ (Bf i).rd) := by
    intro i k mk hik hk hmkk
    obtain ⟨oi, _, hoi⟩ := hopT i (by omega)
    obtain ⟨ok, _, hok⟩ := hopT k hk
    obtain ⟨_, _, h1⟩ := tr.step i oi hoi
    obtain ⟨_, _, h2⟩ := tr.step k ok hok
    obtain ⟨mi, hmi⟩ := hmk i (by omega)
    have := apart_spec hapart i k mk _ _ hik hmkk h1 h2 (by rw [hmi]; rfl)
    simpa using this
  refine wpIn_region_any hmix ?_
  -- the invariant
  have main : ∀ (fuel : Nat) (listed : Array Bool) (a : Act) (w : World), listed.size = ops.size → cntF (fun i => listed.getD i false) ops.size = fuel → Cl ops.toList (fun i => listed.getD i false) →
      (∃ ρ' t', ρ.le ρ' ∧ (t'.n = t.n ∧ t'.ds = t.ds ∧ t'.base = t.base) ∧ (∀ s, t'.at s = st Ws (T 0).at (fun i => listed.getD i false) ops.size s) ∧ FR ρ' t' a ∧ WR P B w₀ ρ' (st Wm m (fun i => listed.getD i false) ops.size) w) →
      wpAnyIn (FF r) 0 P .any ops Q fuel listed a w := by
    intro fuel
    have fin : ∀ (listed : Array Bool) (a : Act) (w : World), (∀ i, i < ops.size → listed.getD i false = true) →
        (∃ ρ' t', ρ.le ρ' ∧ (t'.n = t.n ∧ t'.ds = t.ds ∧ t'.base = t.base) ∧ (∀ s, t'.at s = st Ws (T 0).at (fun i => listed.getD i false) ops.size s) ∧ FR ρ' t' a ∧ WR P B w₀ ρ' (st Wm m (fun i => listed.getD i false) ops.size) w) → Q .normal a w := by
      rintro listed a w hall ⟨ρ', t', hle, ⟨hn, hnd, hnb⟩, hat, hfr, hwr⟩
      have ht1 : T ops.size = t1 := by rw [← tr.tn, hlen]
      refine hQ ρ' a w hle ⟨?_, ?_, fun i => ?_, by have := hfr.defers; rw [hnd, hnb, ← (hTd ops.size (Nat.le_refl _)).1, ← (hTd ops.size (Nat.le_refl _)).2, ht1] at this; exact this⟩ ?_
      · rw [hfr.size, hn, ← hTn ops.size (Nat.le_refl _), ht1]
      · rw [← ht1, hTn ops.size (Nat.le_refl _)]; exact ht.small
      · have := hfr.at_ i
        rwa [hat i, st_all hall, hWs ops.size i (Nat.le_refl _), ht1] at this
      · have : st Wm m (fun i => listed.getD i false) ops.size = post m S1 := by
          funext x
          rw [st_all hall]
          unfold post
          by_cases hx : x ∈ S1.wr
          · rw [if_pos hx, hWm ops.size (Nat.le_refl _) x (.inr hx)]
            have : G ops.size = S1 := by rw [← tr.sn, hlen]
            rw [this]
          · rw [if_neg hx, hWm0 ops.size (Nat.le_refl _) x hx]
        rwa [this] at hwr
    have full : ∀ (listed : Array Bool), listed.size = ops.size → Region.ready .any ops listed = [] → ∀ i, i < ops.size → listed.getD i false = true := by
      intro listed hs hr i
      induction i using Nat.strongRecOn with
      | _ i ih =>
        intro hi
        cases hdi : listed.getD i false with
        | true => rfl
        | false =>
          exfalso
          obtain ⟨o, ho, hol⟩ := hopT i hi
          obtain ⟨mk, hmki⟩ := hmk i hi
          have hedge := (statFrom_spec hstat i mk o hmki hol).1
          have : i ∈ Region.ready .any ops listed := (mem_ready hs).2 ⟨o, ho, hdi, fun e he hb => by
            have := hedge e he hb
            exact ih e.on (by omega) (by omega)⟩
          rw [hr] at this
          cases this
    induction fuel with
    | zero =>
      intro listed a w hs hcnt hcl hinv
      have hall := cntF_zero hcnt
      refine ⟨?_, fin listed a w hall hinv⟩
      cases hr : Region.ready .any ops listed with
      | nil => rfl
      | cons i l =>
        have : i ∈ Region.ready .any ops listed := by rw [hr]; simp
        obtain ⟨o, ho, h1, _⟩ := (mem_ready hs).1 this
        rw [hall i (Array.getElem?_eq_some_iff.1 ho).1] at h1
        cases h1
    | succ fuel ih =>
      intro listed a w hs hcnt hcl hinv
      refine ⟨fun hr => fin listed a w (full listed hs hr) hinv, fun i hir => ?_⟩
      obtain ⟨o, ho, hdi, hedges⟩ := (mem_ready hs).1 hir
      have hi : i < ops.size := (Array.getElem?_eq_some_iff.1 ho).1
      have hol : ops.toList[i]? = some o := by rw [Array.getElem?_toList]; exact ho
      obtain ⟨mk, hmki⟩ := hmk i hi
      obtain ⟨hstep, hG, hfp⟩ := tr.step i o hol
      obtain ⟨ρ', t', hle, ⟨hn, hnd, hnb⟩, hat, hfr, hwr⟩ := hinv
      -- what is not ordered is apart
      have hbefore : ∀ k, k < i → listed.getD k false = false → mk.testBit k = false := by
        intro k hk hdk
        cases hb : mk.testBit k with
        | false => rfl
        | true => rw [masks_spec hcl hmki hol hedges hb] at hdk; cases hdk
      have hafter : ∀ k mk', i < k → (masks ops)[k]? = some mk' → listed.getD k false = true → k < ops.size → mk'.testBit i = false := by
        intro k mk' hik hmkk hdk hk
        cases hb : mk'.testBit i with
        | false => rfl
        | true =>
          obtain ⟨ok, _, hok⟩ := hopT k hk
          rw [masks_spec hcl hmkk hok (fun e he hbe => hcl k ok hok hdk e he hbe) hb] at hdi
          cases hdi
      have hlook : ∀ s ∈ o.looksAt ops, t'.at s = (T i).at s := by
        intro s hsl
        rw [hat s, st_before (W := Ws) (i := i) (Nat.le_of_lt hi) hdi ?_ ?_, hWs i s (Nat.le_of_lt hi)]
        · intro k hk hdk
          obtain ⟨ok, hok, hokl⟩ := hopT k (by omega)
          simp only [Ws, hokl]
          rw [if_neg]
          intro hds
          rcases hpairS k i ok o mk hk hokl hol hmki with h | h
          · rw [hbefore k hk hdk] at h; cases h
          · exact (Oper.apart_spec h).1 s hds hsl
        · intro k hik hkn hdk
          obtain ⟨ok, hok, hokl⟩ := hopT k hkn
          obtain ⟨mk', hmkk⟩ := hmk k hkn
          simp only [Ws, hokl]
          rw [if_neg]
          intro hds
          rcases hpairS i k o ok mk' hik hol hokl hmkk with h | h
          · rw [hafter k mk' hik hmkk hdk hkn] at h; cases h
          · exact (Oper.apart_spec h).2.2 s hds hsl
      obtain ⟨v, t1', hp, hp', hop'⟩ := opV_congr hstep hlook (by rw [hn, hTn i (Nat.le_of_lt hi)])
      have hagree : Agree (reset (G i)) (Bf i) (st Wm m (fun i => listed.getD i false) ops.size) := by
        intro x hx
        have hxl : x ∈ S1.rd ∨ x ∈ S1.wr := hx.imp (hlogB i hi x).1 (hlogB i hi x).2
        rw [st_before (W := Wm) (i := i) (Nat.le_of_lt hi) hdi ?_ ?_, hWm i (Nat.le_of_lt hi) x hxl]
        · intro k hk hdk
          simp only [Wm]
          rw [if_neg]
          rintro ⟨hkn, hxk⟩
          rcases hpairM k i mk hk hi hmki with h | ⟨h, _⟩
          · rw [hbefore k hk hdk] at h; cases h
          · rcases hx with hx | hx
            · exact (h x hxk).1 hx
            · exact (h x hxk).2 hx
        · intro k hik hkn hdk
          simp only [Wm]
          rw [if_neg]
          rintro ⟨_, hxk⟩
          obtain ⟨mk', hmkk⟩ := hmk k hkn
          rcases hpairM i k mk' hik hkn hmkk with h | ⟨h1, h2⟩
          · rw [hafter k mk' hik hmkk hdk hkn] at h; cases h
          · rcases hx with hx | hx
            · exact h2 x hxk hx
            · exact (h1 x hx).2 hxk
      have hset : ∀ k, (listed.setIfInBounds i true).getD k false = (listed.getD k false || decide (k = i)) := fun k => getD_set (by omega)
      have hfun : (fun k => (listed.setIfInBounds i true).getD k false) = fun k => listed.getD k false || decide (k = i) := funext hset
      refine opV_ok hP hc ho hop' hfr hwr hagree (fun _ ρ2 a' w' hle2 hfr2 _ hwr2 => ?_) (fun v hv => by cases hv)
      refine ih (listed.setIfInBounds i true) a' w' (by simpa using hs) ?_ ?_ ⟨ρ2, t1', Ren.le_trans hle hle2, ?_, ?_, hfr2, ?_⟩
      · rw [hfun]
        have := cntF_set (D := fun k => listed.getD k false) hdi (n := ops.size)
        rw [if_pos hi] at this
        omega
      · rw [hfun]
        intro j oj hoj hdj e he hb
        simp only [Bool.or_eq_true, decide_eq_true_eq] at hdj ⊢
        left
        rcases hdj with hdj | rfl
        · exact hcl j oj hoj hdj e he hb
        · rw [hol] at hoj; cases hoj; exact hedges e he hb
      · rw [(put_at (by rw [hn]; exact ht.small) hp').1, hn, (put_ds hp').1, (put_ds hp').2]; exact ⟨rfl, hnd, hnb⟩
      · intro s
        rw [(put_at (by rw [hn]; exact ht.small) hp').2 s, hfun, st_after (W := Ws) hi hdi ?_, hat s]
        · simp only [Ws, hol]
          have := (put_at (by rw [hTn i (Nat.le_of_lt hi)]; exact ht.small) hp).2 s
          by_cases hds : o.dst = some s
          · rw [if_pos hds, if_pos hds, this, if_pos hds]; rfl
          · rw [if_neg hds, if_neg hds]; rfl
        · intro k hik hkn hdk hwi
          obtain ⟨ok, hok, hokl⟩ := hopT k hkn
          obtain ⟨mk', hmkk⟩ := hmk k hkn
          have hdst : o.dst = some s := by
            simp only [Ws, hol] at hwi
            by_cases h : o.dst = some s
            · exact h
            · rw [if_neg h] at hwi; exact absurd rfl hwi
          simp only [Ws, hokl]
          rw [if_neg]
          intro hds
          rcases hpairS i k o ok mk' hik hol hokl hmkk with h | h
          · rw [hafter k mk' hik hmkk hdk hkn] at h; cases h
          · exact (Oper.apart_spec h).2.1 s hdst hds
      · have : st Wm m (fun k => (listed.setIfInBounds i true).getD k false) ops.size = post (st Wm m (fun i => listed.getD i false) ops.size) (Bf i) := by
          funext x
          rw [hfun, st_after (W := Wm) hi hdi ?_]
          · unfold post
            by_cases hx : x ∈ (Bf i).wr
            · have : Wm i x = some (gt (Bf i).mem x) := by simp only [Wm]; rw [if_pos ⟨hi, hx⟩]
              rw [this, if_pos hx]; rfl
            · have : Wm i x = none := by simp only [Wm]; rw [if_neg fun hh => hx hh.2]
              rw [this, if_neg hx]; rfl
          · intro k hik hkn hdk hwi
            obtain ⟨mk', hmkk⟩ := hmk k hkn
            have hx : x ∈ (Bf i).wr := by
              by_cases h : x ∈ (Bf i).wr
              · exact h
              · simp only [Wm] at hwi; rw [if_neg fun hh => h hh.2] at hwi; exact absurd rfl hwi
            simp only [Wm]
            rw [if_neg]
            rintro ⟨_, hxk⟩
            rcases hpairM i k mk' hik hkn hmkk with h | ⟨h1, _⟩
            · rw [hafter k mk' hik hmkk hdk hkn] at h; cases h
            · exact (h1 x hx).2 hxk
        rw [this]
        exact hwr2
  have hrep : ∀ k, (Array.replicate ops.size false).getD k false = false := by
    intro k
    rw [Array.getD_eq_getD_getElem?]
    by_cases h : k < ops.size <;> simp [h]
  have hfun0 : (fun k => (Array.replicate ops.size false).getD k false) = fun _ => false := funext hrep
  have st_none : ∀ {X V : Type} (W : Nat → X → Option V) (init : X → V) (n : Nat) (x : X), st W init (fun _ => false) n x = init x := by
    intro X V W init n x
    induction n with
    | zero => rfl
    | succ n ih => rw [st_succ, ih]; simp
  refine main ops.size _ a _ (by simp) (by rw [hfun0, cntF_none]) (by rw [hfun0]; intro j o _ h; cases h) ⟨ρ, t, Ren.le_refl ρ, ⟨rfl, rfl, rfl⟩, fun s => ?_, ht, ?_⟩
  · rw [hfun0, st_none, tr.t0]
  · have : st Wm m (fun k => (Array.replicate ops.size false).getD k false) ops.size = m := by funext x; rw [hfun0, st_none]
    rw [this]
    exact hw.drew
end
end Go.Proofs.YtdbjloigfkckfaaGreatDoor.Vm
