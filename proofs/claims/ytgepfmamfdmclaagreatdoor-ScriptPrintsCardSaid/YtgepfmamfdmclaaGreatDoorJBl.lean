/- Part of the proof: Svj, Svk. -/
import Derived.Test.YtgepfmamfdmclaaGreatDoorJBk
import Derived.Test.YtgepfmamfdmclaaGreatDoorJAe
import Derived.Test.YtgepfmamfdmclaaGreatDoorChecked
import Derived.Test.YtgepfmamfdmclaaGreatDoorRows
import Derived.Lib.AppendIntMem
import Derived.Stop.LaidErr
import Derived.LaidMore
import Derived.SevenTiedAt
import Derived.Stop.Joined
set_option linter.unusedVariables false
set_option linter.unusedSimpArgs false
set_option maxRecDepth 100000
namespace Go.Proofs.YtgepfmamfdmclaaGreatDoor.Vm
open Go.RowKit
section
variable {P : Program} {w : World} {B : Nat → Prop}
theorem rows_listR {α : Type} {n size : Nat} {row : Nat → List SV} {v : Value} (mk : α → List SV) (d0 : α) (ok : α → Prop) (hs : SR P w B (.rows n size row) v)
  (h : ∀ i, i < n → ∃ x, ok x ∧ (mk x).length = size ∧ ∀ (k : Nat) (sv sv' : SV) (u : Value), (row i)[k]? = some sv → (mk x)[k]? = some sv' → SR P w B sv u → SR P w B sv' u) :
  ∃ l : List α, l.length = n ∧ (∀ x ∈ l, ok x) ∧ SR P w B (.rows l.length size fun i => mk (l[i]?.getD d0)) v := by
 let l : List α := (List.range n).map fun i => if hi : i < n then (h i hi).choose else d0
 have hl : l.length = n := by simp [l]
 have hg : ∀ i (hi : i < n), l[i]? = some (h i hi).choose := fun i hi => by simp [l, hi]
 refine ⟨l, hl, fun x hx => ?_, ?_⟩
 ·obtain ⟨i, hi⟩ := List.getElem?_of_mem hx
  have hin : i < n := by rw [← hl]; exact (List.getElem?_eq_some_iff.1 hi).1
  rw [hg i hin] at hi
  cases hi
  exact (h i hin).choose_spec.1
 ·rw [hl]
  cases hs with
  | rnil size row a => exact .rnil size _ a
  | rows _ _ _ b off cap c' el' fr hB hbb hl hn hcap hlen u hu hr =>
   refine .rows n size _ b off cap c' el' fr hB hbb hl hn hcap (fun i hi => ?_) u hu fun i k sv' hi hk => ?_
   ·rw [hg i hi]; exact (h i hi).choose_spec.2.1
   ·rw [hg i hi] at hk
    have hk : (mk (h i hi).choose)[k]? = some sv' := hk
    have hks : k < size := by rw [← (h i hi).choose_spec.2.1]; exact (List.getElem?_eq_some_iff.1 hk).1
    have hrl : k < (row i).length := by rw [hlen i hi]; exact hks
    have hrow : (row i)[k]? = some ((row i)[k]'hrl) := List.getElem?_eq_getElem hrl
    exact (h i hi).choose_spec.2.2 k _ sv' _ hrow hk (hr i k _ hi hrow)
end
end Go.Proofs.YtgepfmamfdmclaaGreatDoor.Vm
namespace Go.Proofs.YtgepfmamfdmclaaGreatDoor
open Go Vm Go.RowKit
variable {w : World} {B : Nat → Prop}
theorem okI_of {n : Int} (h : IntKind.i64.min ≤ n ∧ n ≤ IntKind.i64.max) : okI n := h
theorem int_of {d : Nat} {svs : List SV} (h : Mt Tryz.prog (d + 1) 3 svs) : ∃ n, svs = [.val (.int .i64 n)] ∧ okI n := let ⟨n, a, b⟩ := mt_int Tryz.underlying3 h; ⟨n, a, okI_of b⟩
theorem bytesMt {d : Nat} {svs : List SV} (h : Mt Tryz.prog (d + 2) 52 svs) : ∃ b : ByteArray, svs = [.cells b.size (bytesC b) 5] := by
 obtain ⟨b, rfl, _⟩ := mt_bytes Tryz.underlying52 Tryz.underlying5 (by kernel_rfl) (by kernel_rfl) h
 exact ⟨b, rfl⟩
theorem intsMt {d : Nat} {svs : List SV} (h : Mt Tryz.prog (d + 2) 32 svs) : ∃ l : List Int, svs = [.cells l.length (intsC l) 3] ∧ ∀ n ∈ l, okI n := by
 obtain ⟨l, rfl, _, hl⟩ := mt_ints Tryz.underlying32 Tryz.underlying3 (by kernel_rfl) h
 exact ⟨l, rfl, fun n hn => okI_of (hl n hn)⟩
theorem ps_of {d : Nat} {svs : List SV} (h : Mt Tryz.prog (d + 4) 23 svs) : ∃ sv, svs = [sv] ∧ ∀ v, SR Tryz.prog w B sv v → ∃ l : List PV, (∀ p ∈ l, okI p.k ∧ okI p.n) ∧ SR Tryz.prog w B (.rows l.length 4 fun i => pvSV (l[i]?.getD pvZ)) v := by
 obtain ⟨n, row, rfl, _, hr⟩ := mt_rows Tryz.underlying23 (by kernel_rfl) h
 refine ⟨_, rfl, fun v h0 => ?_⟩
 rw [show Tryz.prog.cellsOf 54 = 4 by kernel_rfl] at h0
 obtain ⟨l, h1, h2, h3⟩ := rows_list pvSV pvZ (fun p => okI p.k ∧ okI p.n) h0 fun i hi => by
  obtain ⟨parts, e1, h1⟩ := mt_struct Tryz.underlying54 (hr i hi)
  obtain ⟨p0, q0, rfl, a0, h1⟩ := all2_cons h1
  obtain ⟨p1, q1, rfl, a1, h1⟩ := all2_cons h1
  obtain ⟨p2, q2, rfl, a2, h1⟩ := all2_cons h1
  obtain ⟨p3, q3, rfl, a3, h1⟩ := all2_cons h1
  obtain rfl := all2_nil h1
  obtain ⟨k, rfl, ok⟩ := int_of a0
  obtain ⟨m, rfl, om⟩ := int_of a1
  obtain ⟨a, rfl⟩ := bytesMt a2
  obtain ⟨b, rfl⟩ := bytesMt a3
  exact ⟨⟨k, m, a, b⟩, e1.trans rfl, ok, om⟩
 exact ⟨l, h2, h3⟩
theorem ds_of {d : Nat} {svs : List SV} (h : Mt Tryz.prog (d + 4) 24 svs) : ∃ sv, svs = [sv] ∧ ∀ v, SR Tryz.prog w B sv v → ∃ l : List D5, (∀ x ∈ l, okI x.a ∧ okI x.b ∧ okI x.c ∧ okI x.d ∧ okI x.e) ∧ SR Tryz.prog w B (.rows l.length 5 fun i => d5SV (l[i]?.getD d5Z)) v := by
 obtain ⟨n, row, rfl, _, hr⟩ := mt_rows Tryz.underlying24 (by kernel_rfl) h
 refine ⟨_, rfl, fun v h0 => ?_⟩
 rw [show Tryz.prog.cellsOf 56 = 5 by kernel_rfl] at h0
 obtain ⟨l, h1, h2, h3⟩ := rows_list d5SV d5Z (fun x => okI x.a ∧ okI x.b ∧ okI x.c ∧ okI x.d ∧ okI x.e) h0 fun i hi => by
  obtain ⟨parts, e1, h1⟩ := mt_struct Tryz.underlying56 (hr i hi)
  obtain ⟨p0, q0, rfl, a0, h1⟩ := all2_cons h1
  obtain ⟨p1, q1, rfl, a1, h1⟩ := all2_cons h1
  obtain ⟨p2, q2, rfl, a2, h1⟩ := all2_cons h1
  obtain ⟨p3, q3, rfl, a3, h1⟩ := all2_cons h1
  obtain ⟨p4, q4, rfl, a4, h1⟩ := all2_cons h1
  obtain rfl := all2_nil h1
  obtain ⟨x0, rfl, o0⟩ := int_of a0
  obtain ⟨x1, rfl, o1⟩ := int_of a1
  obtain ⟨x2, rfl, o2⟩ := int_of a2
  obtain ⟨x3, rfl, o3⟩ := int_of a3
  obtain ⟨x4, rfl, o4⟩ := int_of a4
  exact ⟨⟨x0, x1, x2, x3, x4⟩, e1.trans rfl, o0, o1, o2, o3, o4⟩
 exact ⟨l, h2, h3⟩
theorem ss_of {d : Nat} {svs : List SV} (h : Mt Tryz.prog (d + 4) 27 svs) : ∃ sv, svs = [sv] ∧ ∀ v, SR Tryz.prog w B sv v → ∃ l : List SrcV, (∀ x ∈ l, okI x.id ∧ ∀ c ∈ x.cuts, okI c) ∧ SR Tryz.prog w B (.rows l.length 4 fun i => srcSV (l[i]?.getD srcZ)) v := by
 obtain ⟨n, row, rfl, _, hr⟩ := mt_rows Tryz.underlying27 (by kernel_rfl) h
 refine ⟨_, rfl, fun v h0 => ?_⟩
 rw [show Tryz.prog.cellsOf 58 = 4 by kernel_rfl] at h0
 obtain ⟨l, h1, h2, h3⟩ := rows_list srcSV srcZ (fun x => okI x.id ∧ ∀ c ∈ x.cuts, okI c) h0 fun i hi => by
  obtain ⟨parts, e1, h1⟩ := mt_struct Tryz.underlying58 (hr i hi)
  obtain ⟨p0, q0, rfl, a0, h1⟩ := all2_cons h1
  obtain ⟨p1, q1, rfl, a1, h1⟩ := all2_cons h1
  obtain ⟨p2, q2, rfl, a2, h1⟩ := all2_cons h1
  obtain ⟨p3, q3, rfl, a3, h1⟩ := all2_cons h1
  obtain rfl := all2_nil h1
  obtain ⟨b, rfl⟩ := bytesMt a0
  obtain ⟨f, rfl⟩ := mt_bool Tryz.underlying4 a1
  obtain ⟨k, rfl, ok⟩ := int_of a2
  obtain ⟨c, rfl, oc⟩ := intsMt a3
  exact ⟨⟨b, f, k, c⟩, e1.trans rfl, ok, oc⟩
 exact ⟨l, h2, h3⟩
theorem ts_of {d : Nat} {svs : List SV} (h : Mt Tryz.prog (d + 4) 28 svs) : ∃ sv, svs = [sv] ∧ ∀ v, SR Tryz.prog w B sv v → ∃ l : List T4, (∀ x ∈ l, okI x.a ∧ okI x.b ∧ okI x.c ∧ okI x.d) ∧ SR Tryz.prog w B (.rows l.length 4 fun i => t4SV (l[i]?.getD t4Z)) v := by
 obtain ⟨n, row, rfl, _, hr⟩ := mt_rows Tryz.underlying28 (by kernel_rfl) h
 refine ⟨_, rfl, fun v h0 => ?_⟩
 rw [show Tryz.prog.cellsOf 80 = 4 by kernel_rfl] at h0
 obtain ⟨l, h1, h2, h3⟩ := rows_list t4SV t4Z (fun x => okI x.a ∧ okI x.b ∧ okI x.c ∧ okI x.d) h0 fun i hi => by
  obtain ⟨parts, e1, h1⟩ := mt_struct Tryz.underlying80 (hr i hi)
  obtain ⟨p0, q0, rfl, a0, h1⟩ := all2_cons h1
  obtain ⟨p1, q1, rfl, a1, h1⟩ := all2_cons h1
  obtain ⟨p2, q2, rfl, a2, h1⟩ := all2_cons h1
  obtain ⟨p3, q3, rfl, a3, h1⟩ := all2_cons h1
  obtain rfl := all2_nil h1
  obtain ⟨x0, rfl, o0⟩ := int_of a0
  obtain ⟨x1, rfl, o1⟩ := int_of a1
  obtain ⟨x2, rfl, o2⟩ := int_of a2
  obtain ⟨x3, rfl, o3⟩ := int_of a3
  exact ⟨⟨x0, x1, x2, x3⟩, e1.trans rfl, o0, o1, o2, o3⟩
 exact ⟨l, h2, h3⟩
theorem prs_of {d : Nat} {svs : List SV} (h : Mt Tryz.prog (d + 4) 60 svs) : ∃ sv, svs = [sv] ∧ ∃ l : List (Int × Int), (∀ x ∈ l, okI x.1 ∧ okI x.2) ∧ ∀ v, SR Tryz.prog w B sv v → SR Tryz.prog w B (.rows l.length 2 (prRow l)) v := by
 obtain ⟨n, row, rfl, _, hr⟩ := mt_rows Tryz.underlying60 (by kernel_rfl) h
 have key : ∀ i, i < n → ∃ x : Int × Int, row i = prSV x ∧ (okI x.1 ∧ okI x.2) := fun i hi => by
  obtain ⟨parts, e1, h1⟩ := mt_struct Tryz.underlying64 (hr i hi)
  obtain ⟨p0, q0, rfl, a0, h1⟩ := all2_cons h1
  obtain ⟨p1, q1, rfl, a1, h1⟩ := all2_cons h1
  obtain rfl := all2_nil h1
  obtain ⟨x0, rfl, o0⟩ := int_of a0
  obtain ⟨x1, rfl, o1⟩ := int_of a1
  exact ⟨(x0, x1), e1.trans rfl, o0, o1⟩
 let l : List (Int × Int) := (List.range n).map fun i => if hi : i < n then (key i hi).choose else (0, 0)
 have hl : l.length = n := by simp [l]
 have hg : ∀ i (hi : i < n), l[i]? = some (key i hi).choose := fun i hi => by simp [l, hi]
 refine ⟨_, rfl, l, fun x hx => ?_, fun v h0 => ?_⟩
 ·obtain ⟨i, hi⟩ := List.getElem?_of_mem hx
  have hin : i < n := by rw [← hl]; exact (List.getElem?_eq_some_iff.1 hi).1
  rw [hg i hin] at hi
  cases hi
  exact (key i hin).choose_spec.2
 ·rw [show Tryz.prog.cellsOf 64 = 2 by kernel_rfl] at h0
  rw [hl]
  refine h0.rows_congr fun i hi => ?_
  unfold prRow
  rw [hg i hi]
  exact (key i hi).choose_spec.1
theorem fs_of {d : Nat} {svs : List SV} (h : Mt Tryz.prog (d + 8) 29 svs) : ∃ sv, svs = [sv] ∧ ∀ v, SR Tryz.prog w B sv v → ∃ l : List FilV, (∀ x ∈ l, okI x.st ∧ ∀ p ∈ x.fs, okI p.1 ∧ okI p.2) ∧ SR Tryz.prog w B (.rows l.length 2 fun i => filSV (l[i]?.getD filZ)) v := by
 obtain ⟨n, row, rfl, _, hr⟩ := mt_rows Tryz.underlying29 (by kernel_rfl) h
 refine ⟨_, rfl, fun v h0 => ?_⟩
 rw [show Tryz.prog.cellsOf 62 = 2 by kernel_rfl] at h0
 obtain ⟨l, h1, h2, h3⟩ := rows_listR filSV filZ (fun x => okI x.st ∧ ∀ p ∈ x.fs, okI p.1 ∧ okI p.2) h0 fun i hi => by
  obtain ⟨parts, e1, h1⟩ := mt_struct Tryz.underlying62 (hr i hi)
  obtain ⟨p0, q0, rfl, a0, h1⟩ := all2_cons h1
  obtain ⟨p1, q1, rfl, a1, h1⟩ := all2_cons h1
  obtain rfl := all2_nil h1
  obtain ⟨x0, rfl, o0⟩ := int_of a0
  obtain ⟨sv, rfl, fl, of, hf⟩ := prs_of (w := w) (B := B) a1
  refine ⟨⟨x0, fl⟩, ⟨o0, of⟩, rfl, fun k s s' u hk hk' hsr => ?_⟩
  rw [e1] at hk
  rcases k with _ | _ | k
  ·cases hk; cases hk'; exact hsr
  ·cases hk; cases hk'; exact hf u hsr
  ·cases hk'
 exact ⟨l, h2, h3⟩
def jobSV (J : JobV) : List SV := [.rows J.ps.length 4 fun i => pvSV (J.ps[i]?.getD pvZ), .rows J.ds.length 5 fun i => d5SV (J.ds[i]?.getD d5Z), .rows J.ss.length 4 fun i => srcSV (J.ss[i]?.getD srcZ), .rows J.pan.length 4 fun i => t4SV (J.pan[i]?.getD t4Z), .rows J.sto.length 4 fun i => t4SV (J.sto[i]?.getD t4Z), .rows J.fl.length 2 fun i => filSV (J.fl[i]?.getD filZ), .cells J.sch.length (intsC J.sch) 3]
theorem job_of {svs : List SV} {vals : List Value} (h : Mt Tryz.prog 10 34 svs) (hs : SRs Tryz.prog w B svs vals) : ∃ J, JobOk J ∧ SRs Tryz.prog w B (jobSV J) vals := by
 obtain ⟨parts, e1, h1⟩ := mt_struct Tryz.underlying34 h
 obtain ⟨p0, q0, rfl, ag, h1⟩ := all2_cons h1
 obtain ⟨p1, q1, rfl, aw, h1⟩ := all2_cons h1
 obtain ⟨p2, q2, rfl, ac, h1⟩ := all2_cons h1
 obtain rfl := all2_nil h1
 obtain ⟨pg, eg, hg⟩ := mt_struct Tryz.underlying26 ag
 obtain ⟨g0, y0, rfl, b0, hg⟩ := all2_cons hg
 obtain ⟨g1, y1, rfl, b1, hg⟩ := all2_cons hg
 obtain rfl := all2_nil hg
 obtain ⟨pk, ek, hk⟩ := mt_struct Tryz.underlying31 aw
 obtain ⟨k0, z0, rfl, c0, hk⟩ := all2_cons hk
 obtain ⟨k1, z1, rfl, c1, hk⟩ := all2_cons hk
 obtain ⟨k2, z2, rfl, c2, hk⟩ := all2_cons hk
 obtain ⟨k3, z3, rfl, c3, hk⟩ := all2_cons hk
 obtain rfl := all2_nil hk
 obtain ⟨s0, rfl, f0⟩ := ps_of (w := w) (B := B) (d := 4) b0
 obtain ⟨s1, rfl, f1⟩ := ds_of (w := w) (B := B) (d := 4) b1
 obtain ⟨s2, rfl, f2⟩ := ss_of (w := w) (B := B) (d := 4) c0
 obtain ⟨s3, rfl, f3⟩ := ts_of (w := w) (B := B) (d := 4) c1
 obtain ⟨s4, rfl, f4⟩ := ts_of (w := w) (B := B) (d := 4) c2
 obtain ⟨s5, rfl, f5⟩ := fs_of (w := w) (B := B) (d := 0) c3
 obtain ⟨sch, rfl, f6⟩ := intsMt (d := 7) ac
 subst eg ek e1
 have hlen := hs.len
 obtain ⟨v0, v1, v2, v3, v4, v5, v6, rfl⟩ : ∃ v0 v1 v2 v3 v4 v5 v6, vals = [v0, v1, v2, v3, v4, v5, v6] := by
  match vals, hlen with
  | [v0, v1, v2, v3, v4, v5, v6], _ => exact ⟨v0, v1, v2, v3, v4, v5, v6, rfl⟩
 obtain ⟨l0, o0, r0⟩ := f0 v0 (hs.at_ 0 _ _ rfl rfl)
 obtain ⟨l1, o1, r1⟩ := f1 v1 (hs.at_ 1 _ _ rfl rfl)
 obtain ⟨l2, o2, r2⟩ := f2 v2 (hs.at_ 2 _ _ rfl rfl)
 obtain ⟨l3, o3, r3⟩ := f3 v3 (hs.at_ 3 _ _ rfl rfl)
 obtain ⟨l4, o4, r4⟩ := f4 v4 (hs.at_ 4 _ _ rfl rfl)
 obtain ⟨l5, o5, r5⟩ := f5 v5 (hs.at_ 5 _ _ rfl rfl)
 have r6 := hs.at_ 6 _ _ rfl rfl
 refine ⟨⟨l0, l1, l2, l3, l4, l5, sch⟩, ⟨o0, o1, o2, o3, o4, o5, f6⟩, ?_⟩
 exact SRs.append (.one r0) (SRs.append (.one r1) (SRs.append (.one r2) (SRs.append (.one r3) (SRs.append (.one r4) (SRs.append (.one r5) (.one r6))))))
end Go.Proofs.YtgepfmamfdmclaaGreatDoor
namespace Go.Proofs.YtgepfmamfdmclaaGreatDoor
open Go Vm Go.RowKit
theorem pow_of {W : World} (h : laidMetH Tryz.prog Rows.scriptPrintsRow.laid W) : Lib.TabIs Tryz.prog W "internal/strconv.uint64pow10" .u64 Lib.pow10Tab := by
 rw [MakeChecks.laidMetH_plain _ _ _ (by kernel_rfl)] at h
 exact Lib.tabIs_of_head (g := 1) (by kernel_rfl) (by kernel_rfl) Tryz.underlying217 Tryz.underlying166 (by kernel_rfl) (by kernel_rfl) h.tail.tail
end Go.Proofs.YtgepfmamfdmclaaGreatDoor
