/- Slices of strings that a call owns at or above a block; append of one list of strings to such. -/
import Derived.Test.YtgdpahojinknmaaChecked
import Derived.WalkKit
import Derived.WalkLawsBesides
import Derived.WalkSpells
import Derived.Outline
import Derived.Below
import Derived.Lib.Hide
import Derived.OwnWalk
import Derived.Lib.SlBytesConst
import Derived.Test.YtgdpahojinknmaaReg
import Derived.Test.YtgdpahojinknmaaMem2
import Derived.Test.YtgdpahojinknmaaRingValues
import Derived.Deep.AppendLies
import Derived.Deep.AppendSrc
namespace Go.Proofs.Ytgdpahojinknmaa
open Go.RowKit
set_option linter.unusedSimpArgs false
set_option linter.unusedVariables false

/-- A slice that owns its row of strings, at or above block b, which reads as l. -/
def OwnS (b : Nat) (w : World) (v : Value) (l : List ByteArray) : Prop := w.ownsRow b 9 1 v l.length (l.map Value.string)
theorem OwnS.str {b : Nat} {w : World} {v : Value} {l : List ByteArray} (h : OwnS b w v l) : OwnStr w v l := OwnStr.of h
theorem OwnS.at {b : Nat} {w : World} {v : Value} {l : List ByteArray} (h : OwnS b w v l) : StrsAt w v l := h.str.at
theorem OwnS.nil (b : Nat) (w : World) : OwnS b w (.slice none 0 0) [] := World.ownsRow_nil _ _ _ _
theorem OwnS.mono {b b' : Nat} {w : World} {v : Value} {l : List ByteArray} (h : OwnS b w v l) (hb : b' ≤ b) : OwnS b' w v l := by
  obtain ⟨h1, h | ⟨g, cap, cur, h2, h0, h3⟩⟩ := h
  · exact ⟨h1, .inl h⟩
  · exact ⟨h1, .inr ⟨g, cap, cur, h2, Nat.le_trans hb h0, h3⟩⟩
theorem OwnS.below {b : Nat} {w w' : World} {v : Value} {l : List ByteArray} (h : OwnS b w v l) (hb : Below w.heap.size w w') : OwnS b w' v l := by
  obtain ⟨h1, h | ⟨g, cap, cur, h2, h0, h3, h4⟩⟩ := h
  · exact ⟨h1, .inl h⟩
  · exact ⟨h1, .inr ⟨g, cap, cur, h2, h0, blk_kept h3 hb (Array.getElem?_eq_some_iff.1 h3).1, h4⟩⟩
theorem OwnS.row {b : Nat} {w : World} {v : Value} {l : List ByteArray} {k : Nat} {T : TypeId} (h : OwnS b w v l) (ht : isRowT w k T) (hne : T ≠ 9) (A : Array Value) : OwnS b (w.setRow k A) v l := by
  obtain ⟨h1, h | ⟨g, cap, cur, h2, h0, h3, h4⟩⟩ := h
  · exact ⟨h1, .inl h⟩
  · refine ⟨h1, .inr ⟨g, cap, cur, h2, h0, ?_, h4⟩⟩
    rw [setRow_other w k g A ?_]
    · exact h3
    · rintro rfl
      obtain ⟨c, hc⟩ := ht
      rw [hc] at h3
      cases h3
      exact hne rfl
theorem OwnS.unrow {b : Nat} {w : World} {v : Value} {l : List ByteArray} {k : Nat} {T : TypeId} {A : Array Value} (h : OwnS b (w.setRow k A) v l) (ht : isRowT w k T) (hne : T ≠ 9) : OwnS b w v l := by
  obtain ⟨h1, h | ⟨g, cap, cur, h2, h0, h3, h4⟩⟩ := h
  · exact ⟨h1, .inl h⟩
  · refine ⟨h1, .inr ⟨g, cap, cur, h2, h0, ?_, h4⟩⟩
    rw [setRow_other w k g A ?_] at h3
    · exact h3
    · rintro rfl
      rw [ht.set] at h3
      cases h3
      exact hne rfl
/-- Another owned slice stays where one grows. -/
theorem OwnS.grow {b : Nat} {w w' : World} {vi vo : Value} {l : List ByteArray} (h : OwnS b w vo l) (hg : w.grownBy w' vi.ownBlock) (hap : vi.ownBlock = none ∨ vi.ownBlock ≠ vo.ownBlock) : OwnS b w' vo l := by
  obtain ⟨h1, h | ⟨g, cap, cur, rfl, h0, h3, h4⟩⟩ := h
  · exact ⟨h1, .inl h⟩
  · refine ⟨h1, .inr ⟨g, cap, cur, rfl, h0, ?_, h4⟩⟩
    rw [hg.block g (Array.getElem?_eq_some_iff.1 h3).1 ?_]
    · exact h3
    · rcases hap with h | h
      · rw [h]; simp
      · exact fun e => h e.symm
theorem OwnS.lt {b : Nat} {w : World} {v : Value} {l : List ByteArray} (h : OwnS b w v l) {k : Nat} (hk : v.ownBlock = some k) : b ≤ k ∧ k < w.heap.size := by
  obtain ⟨h1, ⟨rfl, _⟩ | ⟨g, cap, cur, rfl, h0, h3, h4⟩⟩ := h
  · simp [Value.ownBlock] at hk
  · simp [Value.ownBlock] at hk
    subst hk
    exact ⟨h0, (Array.getElem?_eq_some_iff.1 h3).1⟩
theorem OwnS.apart {b n : Nat} {w : World} {vi vi' vo : Value} {l : List ByteArray} (h : OwnS b w vo l) (hn : n = w.heap.size) (hap : vi.ownBlock = none ∨ vi.ownBlock ≠ vo.ownBlock) (hat : vi'.ownBlock = vi.ownBlock ∨ vi'.ownBlock = some n) :
    vi'.ownBlock = none ∨ vi'.ownBlock ≠ vo.ownBlock := by
  rcases hat with e | e
  · rw [e]; exact hap
  · right
    intro e2
    rw [e] at e2
    have := (h.lt e2.symm).2
    omega
/-- A row of another type stays. -/
theorem OwnS.far {b k : Nat} {w w' : World} {vi : Value} {l : List ByteArray} {T : TypeId} {cs : Array Value} {fr : Nat × Nat} (h : OwnS b w vi l) (hg : w.grownBy w' vi.ownBlock) (hr : w.heap[k]? = some (.cells cs T fr)) (hne : T ≠ 9) :
    w'.heap[k]? = some (.cells cs T fr) := by
  rw [hg.block k (Array.getElem?_eq_some_iff.1 hr).1 ?_]
  · exact hr
  · intro e
    obtain ⟨h1, ⟨rfl, _⟩ | ⟨g, cap, cur, rfl, h0, h3, h4⟩⟩ := h
    · simp [Value.ownBlock] at e
    · simp [Value.ownBlock] at e
      subst e
      rw [hr] at h3
      cases h3
      exact hne rfl
theorem OwnS.under {B b : Nat} {a w w' : World} {vi : Value} {l : List ByteArray} (h : OwnS b w vi l) (hg : w.grownBy w' vi.ownBlock) (hC : Below B a w) (hB : B ≤ b) (hs : B ≤ w.heap.size) : Below B a w' :=
  hC.grown hg hs fun k hk => Nat.le_trans hB (h.lt hk).1
/-- The slice of a fresh row with one string. -/
theorem strs_one (w : World) (s : ByteArray) {g c : Nat} (hg : g = w.heap.size) : StrsAt (w.alloc (.cells #[.string s] 9)) (.slice (some ⟨g, 0, none⟩) 1 c) [s] := by
  subst hg
  refine ⟨_, c, rfl, fun _ => ⟨w.heap.size, 0, rfl, by simp, fun i hi => ?_⟩⟩
  have hi' : i = 0 := by simpa using hi
  subst hi'
  exact (Row.new w #[.string s] 9).cell 0

theorem infoS2 : (Try.prog.info? 9).map (fun i => (i.zero, i.size, i.bytes)) = some (some (.string ⟨#[]⟩), 1, 16) := by kernel_rfl

theorem run_append_strs (b : Nat) (w : World) (ty : TypeId) (v x : Value) (xs ys : List ByteArray) (hv : OwnS b w v xs) (hx : StrsAt w x ys) (hn : xs.length + ys.length ≤ 1000000) (hbase : b ≤ w.heap.size) :
    ∃ v' w', (Builtin.append_ #[31, 31] ty #[v, x]).run Try.prog w = .ok v' w' ∧ OwnS b w' v' (xs ++ ys) ∧ w.grownBy w' v.ownBlock ∧ (v'.ownBlock = v.ownBlock ∨ v'.ownBlock = some w.heap.size) := by
  obtain ⟨i0, hi0, hz0, hz1, hz2⟩ := info_parts infoS2
  obtain ⟨a, cap, rfl, hc⟩ := hx
  have hfin : ∀ {v' : Value} {w' : World}, w'.ownsRow b 9 1 v' (xs.length + ys.length) (xs.map Value.string ++ ys.map Value.string) → OwnS b w' v' (xs ++ ys) := by
    intro v' w' h
    unfold OwnS
    rw [List.length_append, List.map_append]
    exact h
  cases a with
  | some ad =>
    obtain ⟨v', w', hr, h1, h2, -, h3⟩ := run_append_own_at (P := Try.prog) w b 31 ty 9 i0 (.string ⟨#[]⟩) 1 16 Try.underlying31 hi0 hz0 hz1 hz2 rfl (by decide) v xs.length (xs.map Value.string) hv ad ys.length cap (ys.map Value.string) (by simp)
      (fun j u hu => by
        have hj : j < ys.length := by
          have := (List.getElem?_eq_some_iff.1 hu).1
          simpa using this
        obtain ⟨g, off, he, _, hcell⟩ := hc (by omega)
        cases he
        have hadd : (⟨g, off, none⟩ : Addr).add j = ⟨g, off + j, none⟩ := by unfold Addr.add; split <;> simp_all
        rw [hadd, hcell j hj, ← hu]
        simp [List.getD, hj])
      (by simp [Value.oneCell']) (by unfold maxLen; omega) (by omega) hbase
    exact ⟨v', w', hr, hfin h1, h2, h3⟩
  | none =>
    have hy : ys.length = 0 := by
      apply Nat.eq_zero_of_not_pos
      intro hp
      obtain ⟨g, off, he, _⟩ := hc hp
      cases he
    have hys : ys = [] := List.eq_nil_of_length_eq_zero hy
    subst hys
    refine ⟨v, w, ?_, by rw [List.append_nil]; exact hv, ⟨rfl, rfl, rfl, Nat.le_refl _, fun _ _ _ => rfl⟩, .inl rfl⟩
    rcases hv.2 with ⟨rfl, _⟩ | ⟨g, cp, cur, rfl, hbg, hg, hnc, hcm, hcs, htake⟩
    · simp [Builtin.append_, run_underlying (P := Try.prog) Try.underlying31, sizeOf, typeInfo, hi0, Builtin.lenOf, Builtin.firstCells, loadCells, loadCellsFrom]
    · have := run_append_room_src (P := Try.prog) w 31 31 ty 9 i0 Try.underlying31 hi0 g 0 xs.length cp (.slice none 0 cap) 0 [] (Src.ofNil w Try.underlying31 cap) hnc (by simp) (by simp)
      simpa [World.setCells] using this

theorem wpList_wanted {P : Program} {ops : Array Oper} {rest : List Oper} {o : Oper} {a : Act} {w : World} {Q : Exit → Act → World → Prop} (hw : Region.wanted o (yielded ops a.tmps) = true)
    (h : o.wp P a w (fun a w => wpList P ops Q rest a w) Q) : wpList P ops Q (o :: rest) a w := by
  unfold wpList
  rw [if_pos hw]
  exact .inl h

theorem wpList_append_strs {ops : Array Oper} {rest : List Oper} {o : Oper} {a : Act} {w : World} {Q : Exit → Act → World → Prop} (hw : Region.wanted o (yielded ops a.tmps) = true) (s x : Operand)
    (ho : o.op = .call { callee := .builtin .append, args := #[s, x], argTypes := #[31, 31] }) (b : Nat) (v xv : Value) (xs ys : List ByteArray) (hs : a.eval s = v) (hx : a.eval x = xv)
    (hv : OwnS b w v xs) (hy : StrsAt w xv ys) (hn : xs.length + ys.length ≤ 1000000) (hbase : b ≤ w.heap.size)
    (h : ∀ v' w', OwnS b w' v' (xs ++ ys) → w.grownBy w' v.ownBlock → (v'.ownBlock = v.ownBlock ∨ v'.ownBlock = some w.heap.size) → wpList Try.prog ops Q rest (a.put o.dst v') w') :
    wpList Try.prog ops Q (o :: rest) a w := by
  obtain ⟨v', w', hr, h1, h2, h3⟩ := run_append_strs b w o.type v xv xs ys hv hy hn hbase
  refine wpList_wanted hw ?_
  unfold Oper.wp execOp
  simp only [ho, resolve, invoke, builtin, Sem.run_bind, Sem.run_pure, Result.andThen_ok, List.map_toArray, List.map_cons, List.map_nil, hs, hx, hr]
  exact h v' w' h1 h2 h3
end Go.Proofs.Ytgdpahojinknmaa
