/- Law 22's arguments. -/
import Derived.Test.YtgdpahojinknmaaFew22Pf
import Derived.Test.YtgdpahojinknmaaSv2
import Derived.Test.YtgdpahojinknmaaChecked
namespace Go.Proofs.Ytgdpahojinknmaa
open Go Vm Go.RowKit
set_option linter.unusedVariables false
set_option linter.unusedSimpArgs false
set_option maxRecDepth 100000

theorem acts22_of {w : World} {B : Nat → Prop} {v : Value} {svs : List SV} (h : Mt Try.prog 10 52 svs) (hs : SRs Try.prog w B svs [v]) :
    ∃ l : List Act22, small22 l ∧ SR Try.prog w B (.rows l.length 5 fun i => act22 (l.getD i ⟨0, ByteArray.empty, 0, 0, 0⟩)) v := by
  obtain ⟨n, row, rfl, _, hr⟩ := mt_rows Try.underlying52 (by kernel_rfl) h
  have h0 := hs.at_ 0 _ _ rfl rfl
  have e5 : Try.prog.cellsOf 64 = 5 := by kernel_rfl
  rw [e5] at h0
  obtain ⟨l, h1, h2, h3⟩ := rows_list act22 ⟨0, ByteArray.empty, 0, 0, 0⟩ (fun x => x.b.size ≤ 140737488351232) h0 fun i hi => by
    obtain ⟨parts, e1, h1⟩ := mt_struct Try.underlying64 (hr i hi)
    obtain ⟨p0, q0, rfl, a0, h1⟩ := all2_cons h1
    obtain ⟨p1, q1, rfl, a1, h1⟩ := all2_cons h1
    obtain ⟨p2, q2, rfl, a2, h1⟩ := all2_cons h1
    obtain rfl := all2_nil h1
    obtain ⟨d, rfl, _⟩ := mt_int Try.underlying3 a0
    obtain ⟨b, rfl, hb⟩ := mt_bytes Try.underlying32 Try.underlying5 (by kernel_rfl) (by kernel_rfl) a1
    obtain ⟨parts2, rfl, k1⟩ := mt_struct Try.underlying54 a2
    obtain ⟨r0, t0, rfl, b0, k1⟩ := all2_cons k1
    obtain ⟨r1, t1, rfl, b1, k1⟩ := all2_cons k1
    obtain ⟨r2, t2, rfl, b2, k1⟩ := all2_cons k1
    obtain rfl := all2_nil k1
    obtain ⟨c, rfl, _⟩ := mt_int Try.underlying26 b0
    obtain ⟨s, rfl, _⟩ := mt_int Try.underlying3 b1
    obtain ⟨i', rfl, _⟩ := mt_int Try.underlying3 b2
    exact ⟨⟨d, b, c, s, i'⟩, e1.trans rfl, Nat.le_trans hb (by decide)⟩
  exact ⟨l, h2, h3⟩
end Go.Proofs.Ytgdpahojinknmaa
