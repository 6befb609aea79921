/- More small laws on blocks of memory. -/
import Derived.Test.YtgdpahojinknmaaMem
import Derived.Lib.SlBytesConst
import Derived.Laws.Strings
import Derived.Deep.Draws
namespace Go.Proofs.Ytgdpahojinknmaa
open Go.RowKit

theorem conv_const {P : Program} (t e : TypeId) (ht : P.underlying t = some (.slice e)) (he : P.underlying e = some (.int .u8)) (w : World) (C : Array Value) (n c g : Nat) (hg : g = w.heap.size) :
    (convert t t (.slice (some ⟨g, 0, none⟩) n c)).run P (w.alloc (.cells C e)) = .ok (.slice (some ⟨g, 0, none⟩) n c) (w.alloc (.cells C e (C.size, C.size + 1))) := by
  subst hg; exact Lib.run_convert_bytes_const w t e C n c ht he
/-- The last block of a world. -/
theorem Rowf.new' {w : World} (A : Array Value) (T : TypeId) (fr : Nat × Nat) {g : Nat} (hg : g = w.heap.size) : Rowf (w.alloc (.cells A T fr)) g A := by subst hg; exact Rowf.new w A T fr
theorem Row.new' {w : World} (A : Array Value) (T : TypeId) {g : Nat} (hg : g = w.heap.size) : Row (w.alloc (.cells A T)) g A := by subst hg; exact Row.new w A T
theorem Row.setis {w : World} {g : Nat} (h : isRow w g) (A : Array Value) : Row (w.setRow g A) g A := Row.set h A
theorem below_step0 {n g : Nat} {W w w' : World} {A : Array Value} (hC : Below n W w) (hg : n ≤ g) (hn : n ≤ w.heap.size) (hB : Below (w.setRow g A).heap.size (w.setRow g A) w') : Below n W w' :=
  (below_rows hC hg A).trans (hB.mono (by simpa using hn))
theorem below_step1 {n g : Nat} {W w w' : World} {A : Array Value} {o : Obj} (hC : Below n W w) (hg : n ≤ g) (hn : n ≤ w.heap.size) (hB : Below ((w.setRow g A).alloc o).heap.size ((w.setRow g A).alloc o) w') : Below n W w' :=
  ((below_rows hC hg A).alloc (by simpa using hn) o).trans (hB.mono (by simp; omega))
/-- Bytes of their own stay while a row of the walk's is written and a call keeps what was. -/
theorem BytesNew.step {B g : Nat} {w w' : World} {v : Value} {s : ByteArray} {A A' : Array Value} (h : BytesNew B (w.setRow g A) v s) (hg : g < B) (hb : Below (w.setRow g A').heap.size (w.setRow g A') w') : BytesNew B w' v s :=
  ((h.unrow hg).row hg A').below hb
theorem beq_str (a b : ByteArray) : (a.toList == b.toList) = decide (a = b) := by
  rw [ByteArray.toList_eq, ByteArray.toList_eq, Bool.eq_iff_iff, beq_iff_eq, decide_eq_true_eq]
  constructor
  · intro h; cases a; cases b; simp only at h; rw [Array.toList_inj.1 h]
  · rintro rfl; rfl
theorem drewN_below {B : Nat} {w w' : World} (h : Below B w w') (n : Nat) : Below B w (w'.drewN n) := ⟨h.os, h.tape, h.output, h.size, h.block⟩
end Go.Proofs.Ytgdpahojinknmaa
