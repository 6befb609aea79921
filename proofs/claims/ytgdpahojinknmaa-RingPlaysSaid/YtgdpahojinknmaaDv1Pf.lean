/- Law 1's arguments. -/
import Derived.Test.YtgdpahojinknmaaFew1Pf
import Derived.Test.YtgdpahojinknmaaSva
import Derived.Test.YtgdpahojinknmaaChecked
namespace Go.Proofs.Ytgdpahojinknmaa
open Go Vm Go.RowKit
set_option linter.unusedVariables false
set_option linter.unusedSimpArgs false
set_option maxRecDepth 100000

theorem acts1_of {w : World} {B : Nat → Prop} {v : Value} {svs : List SV} (h : Mt Try.prog 10 22 svs) (hs : SRs Try.prog w B svs [v]) :
    ∃ l : List Act1, small1 l ∧ SR Try.prog w B (.rows l.length 2 fun i => act1 (l.getD i ⟨0, ByteArray.empty⟩)) v := by
  obtain ⟨n, row, rfl, _, hr⟩ := mt_rows Try.underlying22 (by kernel_rfl) h
  have h0 := hs.at_ 0 _ _ rfl rfl
  have e2x : Try.prog.cellsOf 34 = 2 := by kernel_rfl
  rw [e2x] at h0
  obtain ⟨l, h1, h2, h3⟩ := rows_list act1 ⟨0, ByteArray.empty⟩ (fun x => x.b.size ≤ 140737488351232) h0 fun i hi => by
    obtain ⟨parts, e1, h1⟩ := mt_struct Try.underlying34 (hr i hi)
    obtain ⟨p0, q0, rfl, a0, h1⟩ := all2_cons h1
    obtain ⟨p1, q1, rfl, a1, h1⟩ := all2_cons h1
    obtain rfl := all2_nil h1
    obtain ⟨d, rfl, _⟩ := mt_int Try.underlying3 a0
    obtain ⟨b, rfl, hb⟩ := mt_bytes Try.underlying32 Try.underlying5 (by kernel_rfl) (by kernel_rfl) a1
    exact ⟨⟨d, b⟩, e1.trans rfl, Nat.le_trans hb (by decide)⟩
  exact ⟨l, h2, h3⟩
end Go.Proofs.Ytgdpahojinknmaa
