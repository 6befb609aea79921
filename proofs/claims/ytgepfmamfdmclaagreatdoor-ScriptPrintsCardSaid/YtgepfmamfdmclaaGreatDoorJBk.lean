/- Part of the proof: Sva. -/
import Derived.Test.YtgepfmamfdmclaaGreatDoorJAd
import Derived.ProofKit
import Derived.ChangeArms
import Derived.SizedLaws
import Derived.Deep.Slices
import Derived.DataReads
set_option linter.unusedVariables false
set_option linter.unusedSimpArgs false
set_option maxRecDepth 100000
namespace Go.Proofs.YtgepfmamfdmclaaGreatDoor.Vm
open Go.RowKit Go.Deep
section
variable {P : Program}
def tilesB (P : Program) : List Field → Nat → Nat → Bool
 | [], off, tot => Nat.beq off tot
 | f :: l, off, tot => Nat.beq f.offset off && tilesB P l (off + P.cellsOf f.type) tot
def plainT (P : Program) : Nat → TypeId → Bool
 | 0, _ => false
 | d + 1, t => match P.underlying t with
  | some .bool | some (.int _) | some .string => true
  | some (.slice e) => plainT P d e && Nat.blt 0 (P.cellsOf e)
  | some (.struct fs) => tilesB P fs.toList 0 (P.cellsOf t) && fs.toList.all fun f => plainT P d f.type
  | some (.array n e) => plainT P d e && Nat.beq (n * P.cellsOf e) (P.cellsOf t)
  | _ => false
def oneT (P : Program) (e : TypeId) : Bool := match P.underlying e with
 | some .bool | some (.int _) | some .string => Nat.beq (P.cellsOf e) 1
 | _ => false
def Mt (P : Program) : Nat → TypeId → List SV → Prop
 | 0, _, _ => False
 | d + 1, t, svs => match P.underlying t with
  | some .bool => ∃ b, svs = [.val (.bool b)]
  | some (.int k) => ∃ n, svs = [.val (.int k n)] ∧ k.min ≤ n ∧ n ≤ k.max
  | some .string => ∃ s : ByteArray, svs = [.val (.string s)] ∧ s.size ≤ reachBytes
  | some (.slice e) => match oneT P e with
   | true => ∃ c : List Value, svs = [.cells c.length c e] ∧ c.length * P.bytesOf e ≤ reachBytes ∧ ∀ v ∈ c, Mt P d e [.val v]
   | false => ∃ (n : Nat) (row : Nat → List SV), svs = [.rows n (P.cellsOf e) row] ∧ n * P.bytesOf e ≤ reachBytes ∧ ∀ i, i < n → Mt P d e (row i)
  | some (.struct fs) => ∃ parts : List (List SV), svs = parts.flatten ∧ All2 (fun (f : Field) p => Mt P d f.type p) fs.toList parts
  | some (.array n e) => ∃ parts : List (List SV), svs = parts.flatten ∧ parts.length = n ∧ ∀ p ∈ parts, Mt P d e p
  | _ => False
variable {H : Type} {enc : TypeId × Value → H} {w : World} {B : Nat → Prop}
theorem SRs.append {a b : List SV} {a' b' : List Value} (h : SRs P w B a a') (h' : SRs P w B b b') : SRs P w B (a ++ b) (a' ++ b') := by
 refine ⟨by simp [h.len, h'.len], fun i s v hs hv => ?_⟩
 by_cases hi : i < a.length
 ·rw [List.getElem?_append_left hi] at hs
  rw [List.getElem?_append_left (by rw [← h.len]; exact hi)] at hv
  exact h.at_ i s v hs hv
 ·rw [List.getElem?_append_right (by omega)] at hs
  rw [List.getElem?_append_right (by rw [← h.len]; omega), ← h.len] at hv
  exact h'.at_ _ s v hs hv
theorem SRs.nil : SRs P w B [] [] := ⟨rfl, fun i s v h => by simp at h⟩
theorem SRs.one {s : SV} {v : Value} (h : SR P w B s v) : SRs P w B [s] [v] := ⟨rfl, fun i s' v' h1 h2 => by
 cases i with
 | zero => simp at h1 h2; subst h1 h2; exact h
 | succ i => simp at h1⟩
theorem addr_add' (b off j : Nat) : (⟨b, off, none⟩ : Addr).add j = ⟨b, off + j, none⟩ := by
 unfold Addr.add
 by_cases h : j = 0
 ·rw [if_pos h, h]; rfl
 ·rw [if_neg h]
theorem cell_heap {b o : Nat} {v : Value} (h : w.cell? ⟨b, o, none⟩ = some v) : ∃ c el fr, w.heap[b]? = some (.cells c el fr) ∧ c[o]? = some v := by
 unfold World.cell? at h
 dsimp only at h
 split at h
 ·rename_i c el fr hb
  exact ⟨c, el, fr, hb, by simpa using h⟩
 ·cases h
theorem mapM_cons_some {α β : Type} {f : α → Option β} {a : α} {l : List α} {r : List β} (h : (a :: l).mapM f = some r) : ∃ b r', f a = some b ∧ l.mapM f = some r' ∧ r = b :: r' := by
 simp only [List.mapM_cons, Option.bind_eq_bind, Option.bind_eq_some_iff, Option.pure_def, Option.some.injEq] at h
 obtain ⟨b, h1, r', h2, h3⟩ := h
 exact ⟨b, r', h1, h2, h3.symm⟩
theorem sv_of_trod (hB : ∀ b, b < w.heap.size → B b) : ∀ (d : Nat) (t : TypeId) (fuel : Nat) (cs : List Value) (x : DataW H × List MemPlace), plainT P d t = true →
  DataW.trod enc P w 0 (fun _ => true) true fuel t cs = some x → (∀ n ∈ x.1.weights P t, n ≤ reachBytes) → ∃ svs, SRs P w B svs cs ∧ Mt P d t svs
 | 0, t, fuel, cs, x, hp, h, hw => by cases hp
 | d + 1, t, fuel, cs, x, hp, h, hw => by
  unfold plainT at hp
  unfold Mt
  split at hp
  ·rename_i ht
   obtain ⟨b, rfl, rfl⟩ := DataW.trod_bool ht h
   exact ⟨_, .one (.val _ rfl), b, rfl⟩
  ·rename_i k ht
   obtain ⟨n, rfl, rfl, hwf⟩ := DataW.trod_int ht h
   simp only [Lit.wf, Bool.and_eq_true, decide_eq_true_eq] at hwf
   exact ⟨_, .one (.val _ rfl), n, rfl, hwf⟩
  ·rename_i ht
   obtain ⟨s, rfl, rfl, hs⟩ := DataW.trod_string ht h
   refine ⟨_, .one (.val _ rfl), s, rfl, ?_⟩
   have := hw s.data.toList.length (by unfold DataW.weights; simp)
   simpa using this
  ·rename_i e ht
   simp only [Bool.and_eq_true] at hp
   obtain ⟨hpe, hc⟩ := hp
   have hc := blt_iff.1 hc
   rcases open_slice ht h with ⟨rfl, rfl⟩ | ⟨a, len, cap, m, n, D, Pl, rfl, _, hlc, hcm, hm, rfl, hi⟩
   ·cases ho : oneT P e with
    | true => exact ⟨_, .one (.nil e none), [], rfl, by simp, by simp⟩
    | false => exact ⟨_, .one (.rnil (P.cellsOf e) (fun _ => []) none), 0, fun _ => [], rfl, by simp, by simp⟩
   ·have hm : m = cap := by simpa using hm
    subst hm
    have hwt : ∀ i, i < m → ∀ q ∈ (D i).weights P e, q ≤ reachBytes := fun i him q hq => by
     refine hw q ?_
     unfold DataW.weights
     rw [ht]
     refine List.mem_cons_of_mem _ ?_
     have mem : ∀ {ds : List (DataW H)} {d : DataW H}, d ∈ ds → q ∈ d.weights P e → q ∈ DataW.weightsAll P e ds := by
      intro ds
      induction ds with
      | nil => intro d hd; cases hd
      | cons d0 ds ih =>
       intro d hd hq
       unfold DataW.weightsAll
       rcases List.mem_cons.1 hd with rfl | hd
       ·exact List.mem_append_left _ hq
       ·exact List.mem_append_right _ (ih hd hq)
     by_cases hl : i < len
     ·exact List.mem_append_left _ (mem (List.mem_map.2 ⟨i, List.mem_range.2 hl, rfl⟩) hq)
     ·exact List.mem_append_right _ (mem (List.mem_map.2 ⟨i - len, List.mem_range.2 (by omega), by congr 1; omega⟩) hq)
    have hbytes : len * P.bytesOf e ≤ reachBytes := by
     have := hw ((len + (m - len)) * P.bytesOf e) (by unfold DataW.weights; rw [ht]; simp)
     exact Nat.le_trans (Nat.mul_le_mul_right _ (by omega)) this
    by_cases hm0 : m = 0
    ·obtain rfl : len = 0 := by omega
     subst hm0
     cases ho : oneT P e with
     | true => exact ⟨_, .one (.nil e (some a)), [], rfl, by simp, by simp⟩
     | false => exact ⟨_, .one (.rnil (P.cellsOf e) (fun _ => []) (some a)), 0, fun _ => [], rfl, by simp, by simp⟩
    ·-- the block
     have hcell : ∀ i, i < m → ∀ k, k < P.cellsOf e → ∃ v, w.cell? ((a.add (i * P.cellsOf e)).add k) = some v := fun i him k hk => by
      obtain ⟨cs', h1, _⟩ := hi i him
      obtain ⟨_, h2, h3⟩ := World.cells?_some h1
      rw [h3 k hk]
      exact ⟨_, List.getElem?_eq_getElem (by omega)⟩
     obtain ⟨b, off, spot⟩ := a
     have hspot : spot = none := by
      obtain ⟨v, hv⟩ := hcell 0 (by omega) 0 hc
      have := World.cell?_spot hv
      rw [Nat.zero_mul] at this
      unfold Addr.add at this
      rw [if_pos rfl, if_pos rfl] at this
      exact this
     subst hspot
     have hadd : ∀ i k, (((⟨b, off, none⟩ : Addr).add (i * P.cellsOf e)).add k) = ⟨b, off + i * P.cellsOf e + k, none⟩ := fun i k => by rw [addr_add', addr_add']
     obtain ⟨c', el', fr, hblk, -⟩ : ∃ c el fr, w.heap[b]? = some (.cells c el fr) ∧ True := by
      obtain ⟨v, hv⟩ := hcell 0 (by omega) 0 hc
      rw [hadd] at hv
      obtain ⟨c, el, fr, h1, _⟩ := cell_heap hv
      exact ⟨c, el, fr, h1, trivial⟩
     have hat : ∀ i, i < m → ∀ k, k < P.cellsOf e → ∃ v, w.cell? ⟨b, off + i * P.cellsOf e + k, none⟩ = some v ∧ c'[off + i * P.cellsOf e + k]? = some v := fun i him k hk => by
      obtain ⟨v, hv⟩ := hcell i him k hk
      rw [hadd] at hv
      obtain ⟨c, el, fr', h1, h2⟩ := cell_heap hv
      rw [hblk] at h1
      cases h1
      exact ⟨v, hv, h2⟩
     have hsize : off + m * P.cellsOf e ≤ c'.size := by
      obtain ⟨v, _, hv⟩ := hat (m - 1) (by omega) (P.cellsOf e - 1) (by omega)
      have := (Array.getElem?_eq_some_iff.1 hv).1
      have e1 : (m - 1) * P.cellsOf e + P.cellsOf e = m * P.cellsOf e := by
       conv => rhs; rw [show m = (m - 1) + 1 by omega, Nat.succ_mul]
      omega
     have hbw : b < w.heap.size := (Array.getElem?_eq_some_iff.1 hblk).1
     have hsz : ∀ s, szOf P e = some s → s = P.cellsOf e := fun s hs => by
      unfold szOf at hs
      unfold Program.cellsOf
      rw [hs]; rfl
     have hrow : ∀ i, i < m → ∃ svs cs', SRs P w B svs cs' ∧ Mt P d e svs ∧ cs'.length = P.cellsOf e ∧ ∀ k v, cs'[k]? = some v → c'[off + i * P.cellsOf e + k]? = some v := fun i him => by
      obtain ⟨cs', h1, h2⟩ := hi i him
      obtain ⟨_, h3, h4⟩ := World.cells?_some h1
      obtain ⟨svs, h5, h6⟩ := sv_of_trod hB d e n cs' _ hpe h2 (hwt i him)
      refine ⟨svs, cs', h5, h6, h3, fun k v hv => ?_⟩
      have hk : k < P.cellsOf e := by rw [← h3]; exact (List.getElem?_eq_some_iff.1 hv).1
      obtain ⟨u, hu1, hu2⟩ := hat i him k hk
      rw [← hadd, h4 k hk, hv] at hu1
      cases hu1
      exact hu2
     cases ho : oneT P e with
     | true =>
      have h1 : P.cellsOf e = 1 := by
       unfold oneT at ho
       split at ho <;> first | exact Nat.eq_of_beq_eq_true ho | cases ho
      have key : ∀ i, i < m → ∃ v, isScal v = true ∧ Mt P d e [.val v] ∧ c'[off + i]? = some v := fun i him => by
       obtain ⟨svs, cs', g1, g2, g3, g4⟩ := hrow i him
       rw [h1] at g3 g4
       obtain ⟨v, rfl⟩ : ∃ v, cs' = [v] := by
        match cs', g3 with
        | [v], _ => exact ⟨v, rfl⟩
       have hv := g4 0 v rfl
       rw [Nat.mul_one, Nat.add_zero] at hv
       have hl := g1.len
       obtain ⟨s, rfl⟩ : ∃ s, svs = [s] := by
        match svs, hl with
        | [s], _ => exact ⟨s, rfl⟩
       have hs := g1.at_ 0 s v rfl rfl
       have g2' := g2
       cases d with
       | zero => cases hpe
       | succ d =>
        unfold Mt at g2
        unfold oneT at ho
        split at ho
        ·rename_i hte
         rw [hte] at g2
         obtain ⟨b', e1⟩ := g2
         cases e1
         cases hs
         exact ⟨_, rfl, g2', hv⟩
        ·rename_i hte
         rw [hte] at g2
         obtain ⟨b', e1, _⟩ := g2
         cases e1
         cases hs
         exact ⟨_, rfl, g2', hv⟩
        ·rename_i hte
         rw [hte] at g2
         obtain ⟨b', e1, _⟩ := g2
         cases e1
         cases hs
         exact ⟨_, rfl, g2', hv⟩
        ·cases ho
      let c : List Value := (List.range len).map fun i => if hi : i < m then (key i hi).choose else undef
      have hcl : c.length = len := by simp [c]
      have hcg : ∀ i v, c[i]? = some v → ∃ hi : i < m, v = (key i hi).choose := fun i v hv => by
       have hil : i < len := by rw [← hcl]; exact (List.getElem?_eq_some_iff.1 hv).1
       have him : i < m := by omega
       refine ⟨him, ?_⟩
       simp only [c, List.getElem?_map, List.getElem?_range hil, Option.map_some, Option.some.injEq] at hv
       rw [dif_pos him] at hv
       exact hv.symm
      refine ⟨[.cells c.length c e], .one ?_, c, rfl, by rw [hcl]; exact hbytes, fun v hv => ?_⟩
      ·have : SR P w B (.cells len c e) (.slice (some ⟨b, off, none⟩) len m) := .cells len c e b off m c' el' fr (hB b hbw) hblk (fun i v hv => by
        obtain ⟨him, rfl⟩ := hcg i v hv
        obtain ⟨k1, k2, k3⟩ := (key i him).choose_spec
        exact ⟨k1, k3⟩) (by rw [hcl]; rw [h1] at hsize; omega) hlc (fun s hs => by rw [hsz s hs]; exact hsize)
       rw [hcl]
       exact this
      ·obtain ⟨i, hi⟩ := List.getElem?_of_mem hv
       obtain ⟨him, rfl⟩ := hcg i v hi
       exact (key i him).choose_spec.2.1
     | false =>
      let row : Nat → List SV := fun i => if hi : i < m then (hrow i hi).choose else []
      have hr : ∀ i (hi : i < m), row i = (hrow i hi).choose := fun i hi => by simp [row, hi]
      have hspec : ∀ i, i < m → ∃ cs', SRs P w B (row i) cs' ∧ Mt P d e (row i) ∧ cs'.length = P.cellsOf e ∧ ∀ k v, cs'[k]? = some v → c'[off + i * P.cellsOf e + k]? = some v := fun i hi => by
       rw [hr i hi]; exact (hrow i hi).choose_spec
      let u : Nat → Nat → Value := fun i k => (c'[off + i * P.cellsOf e + k]?).getD undef
      refine ⟨[.rows len (P.cellsOf e) row], .one (.rows len (P.cellsOf e) row b off m c' el' fr (hB b hbw) hblk (Nat.le_trans (Nat.add_le_add_left (Nat.mul_le_mul_right _ hlc) _) hsize) hlc hsize (fun i hi => ?_) u (fun i k hi hk => ?_) fun i k sv hi hk => ?_), len, row, rfl, hbytes, fun i hi => ?_⟩
      ·obtain ⟨cs', g1, g2, g3, g4⟩ := hspec i (by omega)
       rw [g1.len, g3]
      ·obtain ⟨v, _, hv⟩ := hat i (by omega) k hk
       show _ = some ((c'[off + i * P.cellsOf e + k]?).getD undef)
       rw [hv]; rfl
      ·obtain ⟨cs', g1, g2, g3, g4⟩ := hspec i (by omega)
       have hkl : k < cs'.length := by rw [← g1.len]; exact (List.getElem?_eq_some_iff.1 hk).1
       have hv := g4 k _ (List.getElem?_eq_getElem hkl)
       have : u i k = cs'[k] := by show (c'[off + i * P.cellsOf e + k]?).getD undef = _; rw [hv]; rfl
       rw [this]
       exact g1.at_ k sv _ hk (List.getElem?_eq_getElem hkl)
      ·obtain ⟨cs', g1, g2, g3, g4⟩ := hspec i (by omega)
       exact g2
  ·rename_i fs ht
   simp only [Bool.and_eq_true] at hp
   obtain ⟨htile, hall⟩ := hp
   cases fuel with
   | zero => cases h
   | succ fuel =>
    unfold DataW.trod at h
    simp only [ht] at h
    split at h
    ·rename_i hlen
     cases hmm : (fs.toList.mapM fun f => DataW.trod enc P w 0 (fun _ => true) true fuel f.type ((cs.drop f.offset).take (P.cellsOf f.type))) with
     | none => rw [hmm] at h; cases h
     | some xs =>
      rw [hmm] at h
      simp only [Option.map_some, Option.some.injEq] at h
      subst h
      have hw' : ∀ n ∈ DataW.weightsEach P (fs.toList.map (·.type)) (xs.map (·.1)), n ≤ reachBytes := fun n hn => hw n (by unfold DataW.weights; rw [ht]; exact hn)
      have key : ∀ (l : List Field) (off : Nat) (xs : List (DataW H × List MemPlace)), tilesB P l off (P.cellsOf t) = true → (l.all fun f => plainT P d f.type) = true →
        (l.mapM fun f => DataW.trod enc P w 0 (fun _ => true) true fuel f.type ((cs.drop f.offset).take (P.cellsOf f.type))) = some xs →
        (∀ n ∈ DataW.weightsEach P (l.map (·.type)) (xs.map (·.1)), n ≤ reachBytes) → off ≤ cs.length →
        ∃ parts : List (List SV), SRs P w B parts.flatten (cs.drop off) ∧ All2 (fun (f : Field) p => Mt P d f.type p) l parts := by
       intro l
       induction l with
       | nil =>
        intro off xs htl _ _ _ hoff
        have := Nat.eq_of_beq_eq_true htl
        refine ⟨[], ?_, .nil⟩
        rw [List.drop_of_length_le (by omega)]
        exact .nil
       | cons f l ih =>
        intro off xs htl hpl hm hwe hoff
        simp only [tilesB, Bool.and_eq_true] at htl
        simp only [List.all_cons, Bool.and_eq_true] at hpl
        obtain ⟨x0, xs', hx0, hxs, rfl⟩ := mapM_cons_some hm
        have e0 := Nat.eq_of_beq_eq_true htl.1
        rw [e0] at hx0
        have htot : off + P.cellsOf f.type ≤ cs.length := by
         have : ∀ (l : List Field) (o tot : Nat), tilesB P l o tot = true → o ≤ tot := by
          intro l
          induction l with
          | nil => intro o tot h; exact Nat.le_of_eq (Nat.eq_of_beq_eq_true h)
          | cons f l ih => intro o tot h; simp only [tilesB, Bool.and_eq_true] at h; have := ih _ _ h.2; omega
         have := this _ _ _ htl.2
         omega
        obtain ⟨svs, s1, s2⟩ := sv_of_trod hB d f.type fuel _ _ hpl.1 hx0 (fun n hn => hwe n (by
         simp only [List.map_cons, DataW.weightsEach]
         exact List.mem_append_left _ hn))
        obtain ⟨parts, p1, p2⟩ := ih (off + P.cellsOf f.type) xs' htl.2 hpl.2 hxs (fun n hn => hwe n (by
         simp only [List.map_cons, DataW.weightsEach]
         exact List.mem_append_right _ hn)) htot
        refine ⟨svs :: parts, ?_, .cons s2 p2⟩
        have e1 : cs.drop off = (cs.drop off).take (P.cellsOf f.type) ++ cs.drop (off + P.cellsOf f.type) := by
         rw [← List.drop_drop, List.take_append_drop]
        rw [List.flatten_cons, e1]
        exact s1.append p1
      obtain ⟨parts, p1, p2⟩ := key fs.toList 0 xs htile hall hmm hw' (Nat.zero_le _)
      exact ⟨parts.flatten, by simpa using p1, parts, rfl, p2⟩
    ·cases h
  ·rename_i n e ht
   simp only [Bool.and_eq_true] at hp
   obtain ⟨hpe, hc⟩ := hp
   have hc := Nat.eq_of_beq_eq_true hc
   cases fuel with
   | zero => cases h
   | succ fuel =>
    unfold DataW.trod at h
    simp only [ht] at h
    split at h
    ·rename_i hlen
     cases hmm : ((List.range n).mapM fun i => DataW.trod enc P w 0 (fun _ => true) true fuel e ((cs.drop (i * P.cellsOf e)).take (P.cellsOf e))) with
     | none => rw [hmm] at h; cases h
     | some xs =>
      rw [hmm] at h
      simp only [Option.map_some, Option.some.injEq] at h
      subst h
      have hw' : ∀ q ∈ DataW.weightsAll P e (xs.map (·.1)), q ≤ reachBytes := fun q hq => hw q (by unfold DataW.weights; rw [ht]; exact hq)
      have key : ∀ (k o : Nat) (xs : List (DataW H × List MemPlace)), o + k = n →
        ((List.range' o k).mapM fun i => DataW.trod enc P w 0 (fun _ => true) true fuel e ((cs.drop (i * P.cellsOf e)).take (P.cellsOf e))) = some xs →
        (∀ q ∈ DataW.weightsAll P e (xs.map (·.1)), q ≤ reachBytes) →
        ∃ parts : List (List SV), SRs P w B parts.flatten (cs.drop (o * P.cellsOf e)) ∧ parts.length = k ∧ ∀ p ∈ parts, Mt P d e p := by
       intro k
       induction k with
       | zero =>
        intro o xs ho _ _
        refine ⟨[], ?_, rfl, fun p hp => by cases hp⟩
        have ho : o = n := by omega
        rw [List.drop_of_length_le (by rw [hlen, ← hc, ho]; omega)]
        exact .nil
       | succ k ih =>
        intro o xs ho hm hwe
        rw [List.range'_succ] at hm
        obtain ⟨x0, xs', hx0, hxs, rfl⟩ := mapM_cons_some hm
        obtain ⟨svs, s1, s2⟩ := sv_of_trod hB d e fuel _ _ hpe hx0 (fun q hq => hwe q (by
         simp only [List.map_cons, DataW.weightsAll]
         exact List.mem_append_left _ hq))
        obtain ⟨parts, p1, p2, p3⟩ := ih (o + 1) xs' (by omega) hxs (fun q hq => hwe q (by
         simp only [List.map_cons, DataW.weightsAll]
         exact List.mem_append_right _ hq))
        refine ⟨svs :: parts, ?_, by simp [p2], fun p hp => ?_⟩
        ·have e1 : cs.drop (o * P.cellsOf e) = (cs.drop (o * P.cellsOf e)).take (P.cellsOf e) ++ cs.drop ((o + 1) * P.cellsOf e) := by
          rw [Nat.succ_mul, ← List.drop_drop, List.take_append_drop]
         rw [List.flatten_cons, e1]
         exact s1.append p1
        ·rcases List.mem_cons.1 hp with rfl | hp
         ·exact s2
         ·exact p3 p hp
      obtain ⟨parts, p1, p2, p3⟩ := key n 0 xs (by omega) (by rw [← List.range_eq_range']; exact hmm) hw'
      exact ⟨parts.flatten, by simpa using p1, parts, rfl, p2, p3⟩
    ·cases h
  ·cases hp
termination_by d => d
theorem FnT.callsV {f : FuncId} {svs : List SV} {vals : List Value} {Q : CRes → List VObj → Prop} (h : FnT P f vals (viewObjs svs) Q) (hfew : Nat.ble (viewLen svs) 262144 = true) {w : World} {args' : Array Value} {flat' : List Value}
    (hv : ∀ ρ, LR ρ (viewVals svs 0) flat' → LR ρ vals args'.toList)
    (hs : SRs P w (fun k => k < w.heap.size) svs flat') (henv : Env (fun k => k < w.heap.size) w := by exact fun _ _ => trivial) : Calls P f args' w fun e w' => ∃ r o ρ', Q r o ∧ CR ρ' r e ∧ Below w.heap.size w w' := by
  have hfew := Nat.le_of_ble_eq_true hfew
  obtain ⟨ρ, _, h1, h2⟩ := view_ok (k := 0) (g := fun _ => none) hs (WR.start (P := P) w henv) (fun _ _ => rfl)
  have h2 := hv _ h2
  let ρ2 : Ren := fun x => match small x with
    | true => ρ x
    | false => some (decW (x - 262144))
  have hsm : ∀ x, small x = true → ρ2 x = ρ x := fun x h => by show (match small x with | true => _ | false => _) = _; rw [h]
  have hgr : ∀ x, small x = false → ρ2 x = some (decW (x - 262144)) := fun x h => by show (match small x with | true => _ | false => _) = _; rw [h]
  have hfull : Full ρ2 := fun q => by
    obtain ⟨n, h⟩ := decW_all q
    exact ⟨n + 262144, not_small n, by rw [hgr _ (not_small n)]; simp [h]⟩
  have hlen := viewLen_eq svs
  have hup : ∀ x, updN (fun _ => none) 0 (viewObjs svs) x = (viewObjs svs)[x]? := by
    have key : ∀ (l : List VObj) (g : Nat → Option VObj) (k x : Nat), updN g k l x = if k ≤ x ∧ x < k + l.length then l[x - k]? else g x := by
      intro l
      induction l with
      | nil => intro g k x; rw [if_neg (by simp only [List.length_nil]; omega)]; rfl
      | cons o l ih =>
        intro g k x
        show updN (upd g k o) (k + 1) l x = _
        rw [ih]
        simp only [List.length_cons]
        by_cases hx : x = k
        · subst hx; rw [if_neg (by omega), upd_same, if_pos (by omega), Nat.sub_self]; rfl
        · rw [upd_other _ hx]
          by_cases h2 : k ≤ x ∧ x < k + (l.length + 1)
          · rw [if_pos (by omega), if_pos h2, show x - k = x - (k + 1) + 1 by omega]; rfl
          · rw [if_neg (by omega), if_neg h2]
    intro x
    rw [key]
    by_cases hx : x < (viewObjs svs).length
    · rw [if_pos (by omega)]; simp
    · rw [if_neg (by omega), List.getElem?_eq_none (by omega)]
  have hmsm : ∀ x, (viewObjs svs)[x]? ≠ none → small x = true := fun x hx => by
    have : x < (viewObjs svs).length := by
      by_cases h : x < (viewObjs svs).length
      · exact h
      · exact absurd (List.getElem?_eq_none (by omega)) hx
    exact small_iff.2 (by have : (2 : Nat) ^ 18 = 262144 := rfl; omega)
  have hle : ∀ x r, ρ x = some r → ρ2 x = some r := fun x r hx => by
    cases hs : small x with
    | true => rw [hsm x hs, hx]
    | false =>
      have : updN (fun _ => none) 0 (viewObjs svs) x = none := by
        rw [hup]
        cases hq : (viewObjs svs)[x]? with
        | none => rfl
        | some o => have := hmsm x (by rw [hq]; exact fun e => by cases e); rw [hs] at this; cases this
      rw [h1.fresh x this] at hx
      cases hx
  have hw2 : WR P (fun k => k < w.heap.size) w ρ2 (memOf (viewObjs svs)) w := by
    have hmem : ∀ x o, memOf (viewObjs svs) x = some o → o ≠ .dead → updN (fun _ => none) 0 (viewObjs svs) x = some o ∧ ρ2 x = ρ x := fun x o hx hne => by
      cases hs : small x with
      | true => rw [memOf_small hs] at hx; exact ⟨by rw [hup]; exact hx, hsm x hs⟩
      | false => rw [memOf_great hs] at hx; cases hx; exact absurd rfl hne
    exact
      { below := h1.below, env := h1.env, size := h1.size
        live := by
          intro x o r hx hr hl
          obtain ⟨a, b⟩ := hmem x o hx (by rintro rfl; cases hl)
          obtain ⟨o', c1, c2, c3⟩ := h1.live x o r a (b ▸ hr) hl
          exact ⟨o', c1, c2.mono hle, c3⟩
        inj := by
          intro x y ox oy rx ry hx hy hrx hry hlx hly hd he
          obtain ⟨a, b⟩ := hmem x ox hx (by rintro rfl; cases hlx)
          obtain ⟨a', b'⟩ := hmem y oy hy (by rintro rfl; cases hly)
          exact h1.inj x y ox oy rx ry a a' (b ▸ hrx) (b' ▸ hry) hlx hly hd he
        fresh := by
          intro x hx
          cases hs : small x with
          | true => rw [memOf_small hs] at hx; rw [hsm x hs]; exact h1.fresh x (by rw [hup]; exact hx)
          | false => rw [memOf_great hs] at hx; cases hx
        rows := by
          intro x n size row hx
          obtain ⟨a, b⟩ := hmem x _ hx (by intro e; cases e)
          obtain ⟨r, c1, c2⟩ := h1.rows x n size row a
          exact ⟨r, by rw [b]; exact c1, c2⟩
        nil := by
          intro x el ro r hx hr
          obtain ⟨a, b⟩ := hmem x _ hx (by intro e; cases e)
          exact h1.nil x el ro r a (b ▸ hr)
        named := by
          intro x o hx hne
          obtain ⟨a, b⟩ := hmem x o hx hne
          rw [b]
          exact h1.named x o a hne
        abs := h1.abs.next (fun x d hx => hmem x _ hx (by intro e; cases e)) (fun k _ a b => ⟨rfl, a, fun y o r hy hr hl => by
          obtain ⟨p, q⟩ := hmem y o hy (by rintro rfl; cases hl)
          exact b y o r p (q ▸ hr) hl⟩) (Nat.le_refl _) }
  have hno : ∀ o ∈ viewObjs svs, o ≠ .dead := by
    have : ∀ l : List SV, ∀ o ∈ viewObjs l, o ≠ .dead := by
      intro l
      induction l with
      | nil => intro o ho; cases ho
      | cons s l ih =>
        intro o ho
        cases s with
        | val v => exact ih o ho
        | cells n c el =>
          rcases List.mem_cons.1 ho with rfl | ho
          · intro e; cases e
          · exact ih o ho
        | rows n s r =>
          rcases List.mem_cons.1 ho with rfl | ho
          · intro e; cases e
          · exact ih o ho
    exact this svs
  have hnamed : ∀ x, x < (viewObjs svs).length → ∃ r, ρ2 x = some r := fun x hx => by
    have hg := List.getElem?_eq_getElem hx
    have hs := hmsm x (by rw [hg]; exact fun e => by cases e)
    exact hw2.named x _ (by rw [memOf_small hs]; exact hg) (hno _ (List.getElem_mem hx))
  refine (h _ w ρ2 w args' hfull hnamed ⟨h2.len, fun i v v' a b => (h2.at_ i v v' a b).mono hle⟩ hw2).mono fun e w' he => ?_
  obtain ⟨r, o, ρ', q1, q2, _, q4, _⟩ := he
  exact ⟨r, o, ρ', q1, q2, q4.below.below⟩
theorem FnT.calls_true_agg {f : FuncId} {svs : List SV} {o : List VObj} (h : FnT P f [.agg (viewVals svs 0).toArray] (viewObjs svs) fun r o' => r = .ret (.bool true) ∧ o' = o) (hfew : Nat.ble (viewLen svs) 262144 = true) {w : World} {fields : Array Value}
  (hs : SRs P w (fun k => k < w.heap.size) svs fields.toList) (henv : Env (fun k => k < w.heap.size) w := by exact fun _ _ => trivial) : Calls P f #[.agg fields] w fun e w' => e = .returned (.bool true) ∧ Below w.heap.size w w' := by
 refine (FnT.callsV h hfew (args' := #[.agg fields]) (fun ρ hl => ⟨rfl, fun i v v' a b => ?_⟩) hs henv).mono fun e w' he => ?_
 ·cases i with
  | zero => cases a; cases b; exact .agg _ _ (by simpa using hl.len) fun i v v' a b => hl.at_ i v v' (by simpa using a) b
  | succ i => cases a
 ·obtain ⟨r, o, ρ', ⟨rfl, _⟩, h2, h3⟩ := he
  cases e with
  | returned v' =>
   have : v' = .bool true := VR.bool_inv h2
   exact ⟨by rw [this], h3⟩
  | panicked chain => cases h2
  | outgrown => cases h2
end
end Go.Proofs.YtgepfmamfdmclaaGreatDoor.Vm
namespace Go.Proofs.YtgepfmamfdmclaaGreatDoor.Vm
open Go.RowKit
section
variable {P : Program} {w : World} {B : Nat → Prop}
theorem mt_bool {d : Nat} {t : TypeId} {svs : List SV} (ht : P.underlying t = some .bool) (h : Mt P (d + 1) t svs) : ∃ b, svs = [.val (.bool b)] := by
 unfold Mt at h; rw [ht] at h; exact h
theorem mt_int {d : Nat} {t : TypeId} {k : IntKind} {svs : List SV} (ht : P.underlying t = some (.int k)) (h : Mt P (d + 1) t svs) : ∃ n, svs = [.val (.int k n)] ∧ k.min ≤ n ∧ n ≤ k.max := by
 unfold Mt at h; rw [ht] at h; exact h
theorem mt_struct {d : Nat} {t : TypeId} {fs : Array Field} {svs : List SV} (ht : P.underlying t = some (.struct fs)) (h : Mt P (d + 1) t svs) :
  ∃ parts : List (List SV), svs = parts.flatten ∧ All2 (fun (f : Field) p => Mt P d f.type p) fs.toList parts := by
 unfold Mt at h; rw [ht] at h; exact h
theorem mt_cells {d : Nat} {t e : TypeId} {svs : List SV} (ht : P.underlying t = some (.slice e)) (ho : oneT P e = true) (h : Mt P (d + 1) t svs) :
  ∃ c : List Value, svs = [.cells c.length c e] ∧ c.length * P.bytesOf e ≤ reachBytes ∧ ∀ v ∈ c, Mt P d e [.val v] := by
 unfold Mt at h; rw [ht] at h; dsimp only at h; rw [ho] at h; exact h
theorem mt_rows {d : Nat} {t e : TypeId} {svs : List SV} (ht : P.underlying t = some (.slice e)) (ho : oneT P e = false) (h : Mt P (d + 1) t svs) :
  ∃ (n : Nat) (row : Nat → List SV), svs = [.rows n (P.cellsOf e) row] ∧ n * P.bytesOf e ≤ reachBytes ∧ ∀ i, i < n → Mt P d e (row i) := by
 unfold Mt at h; rw [ht] at h; dsimp only at h; rw [ho] at h; exact h
theorem all2_nil {α β : Type} {R : α → β → Prop} {l : List β} (h : All2 R [] l) : l = [] := by cases h; rfl
theorem all2_cons {α β : Type} {R : α → β → Prop} {a : α} {al : List α} {l : List β} (h : All2 R (a :: al) l) : ∃ b bs, l = b :: bs ∧ R a b ∧ All2 R al bs := by
 cases h with
 | cons h t => exact ⟨_, _, rfl, h, t⟩
theorem mt_bytes {d : Nat} {t e : TypeId} {svs : List SV} (ht : P.underlying t = some (.slice e)) (he : P.underlying e = some (.int .u8)) (ho : oneT P e = true) (hb : P.bytesOf e = 1) (h : Mt P (d + 2) t svs) :
  ∃ b : ByteArray, svs = [.cells b.size (bytesC b) e] ∧ b.size ≤ reachBytes := by
 obtain ⟨c, rfl, h1, h2⟩ := mt_cells ht ho h
 rw [hb, Nat.mul_one] at h1
 have key : ∀ c : List Value, (∀ v ∈ c, Mt P (d + 1) e [.val v]) → ∃ l : List UInt8, c = l.map fun x => Value.int .u8 (x.toNat : Int) := by
  intro c
  induction c with
  | nil => intro _; exact ⟨[], rfl⟩
  | cons v c ih =>
   intro hv
   obtain ⟨l, rfl⟩ := ih fun v hv' => hv v (List.mem_cons_of_mem _ hv')
   obtain ⟨n, e1, hn0, hn1⟩ := mt_int he (hv v List.mem_cons_self)
   simp only [List.cons.injEq, SV.val.injEq, and_true] at e1
   subst e1
   have h0 : (0 : Int) ≤ n := hn0
   have h255 : n ≤ (255 : Int) := hn1
   refine ⟨UInt8.ofNat n.toNat :: l, ?_⟩
   simp only [List.map_cons]
   congr 2
   have : (UInt8.ofNat n.toNat).toNat = n.toNat := by
    rw [UInt8.toNat_ofNat']
    exact Nat.mod_eq_of_lt (by omega)
   rw [this]
   omega
 obtain ⟨l, rfl⟩ := key c h2
 refine ⟨⟨l.toArray⟩, ?_, ?_⟩
 ·have : bytesC ⟨l.toArray⟩ = l.map fun x => Value.int .u8 (x.toNat : Int) := by unfold bytesC; simp
  rw [this]
  congr 1
  congr 1
  show _ = (l.toArray).size
  simp
 ·have : (⟨l.toArray⟩ : ByteArray).size = l.length := by show (l.toArray).size = _; simp
  rw [this]; simpa using h1
theorem mt_ints {d : Nat} {t e : TypeId} {svs : List SV} (ht : P.underlying t = some (.slice e)) (he : P.underlying e = some (.int .i64)) (ho : oneT P e = true) (h : Mt P (d + 2) t svs) :
  ∃ l : List Int, svs = [.cells l.length (intsC l) e] ∧ l.length * P.bytesOf e ≤ reachBytes ∧ ∀ x ∈ l, IntKind.i64.min ≤ x ∧ x ≤ IntKind.i64.max := by
 obtain ⟨c, rfl, h1, h2⟩ := mt_cells ht ho h
 have key : ∀ c : List Value, (∀ v ∈ c, Mt P (d + 1) e [.val v]) → ∃ l : List Int, c = intsC l ∧ ∀ x ∈ l, IntKind.i64.min ≤ x ∧ x ≤ IntKind.i64.max := by
  intro c
  induction c with
  | nil => intro _; exact ⟨[], rfl, fun s hs => by cases hs⟩
  | cons v c ih =>
   intro hv
   obtain ⟨l, rfl, hl⟩ := ih fun v hv' => hv v (List.mem_cons_of_mem _ hv')
   obtain ⟨n, e1, h0, h1⟩ := mt_int he (hv v List.mem_cons_self)
   simp only [List.cons.injEq, SV.val.injEq, and_true] at e1
   subst e1
   exact ⟨n :: l, rfl, fun x hx => by rcases List.mem_cons.1 hx with rfl | hx; exact ⟨h0, h1⟩; exact hl x hx⟩
 obtain ⟨l, rfl, hl⟩ := key c h2
 exact ⟨l, by rw [intsC_length], by rw [intsC_length] at h1; exact h1, hl⟩
theorem SR.rows_congr {n size : Nat} {row row' : Nat → List SV} {v : Value} (h : SR P w B (.rows n size row) v) (he : ∀ i, i < n → row i = row' i) : SR P w B (.rows n size row') v := by
 cases h with
 | rnil size row a => exact .rnil size row' a
 | rows _ _ _ b off cap c' el' fr hB hbb hl hn hcap hlen u hu hr =>
  exact .rows n size row' b off cap c' el' fr hB hbb hl hn hcap (fun i hi => by rw [← he i hi]; exact hlen i hi) u hu fun i k sv hi hk => hr i k sv hi (by rw [he i hi]; exact hk)
theorem rows_list {α : Type} {n size : Nat} {row : Nat → List SV} {v : Value} (mk : α → List SV) (d0 : α) (ok : α → Prop) (hs : SR P w B (.rows n size row) v) (h : ∀ i, i < n → ∃ x, row i = mk x ∧ ok x) :
  ∃ l : List α, l.length = n ∧ (∀ x ∈ l, ok x) ∧ SR P w B (.rows l.length size fun i => mk (l.getD i d0)) v := by
 let l : List α := (List.range n).map fun i => if hi : i < n then (h i hi).choose else d0
 have hl : l.length = n := by simp [l]
 have hg : ∀ i (hi : i < n), l[i]? = some (h i hi).choose := fun i hi => by simp [l, hi]
 refine ⟨l, hl, fun x hx => ?_, ?_⟩
 ·obtain ⟨i, hi⟩ := List.getElem?_of_mem hx
  have hin : i < n := by rw [← hl]; exact (List.getElem?_eq_some_iff.1 hi).1
  rw [hg i hin] at hi
  cases hi
  exact (h i hin).choose_spec.2
 ·rw [hl]
  refine hs.rows_congr fun i hi => ?_
  rw [List.getD_eq_getElem?_getD, hg i hi]
  exact (h i hi).choose_spec.1
end
end Go.Proofs.YtgepfmamfdmclaaGreatDoor.Vm
