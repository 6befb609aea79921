/- MeansFirst answers true; its argument, opened. -/
import Derived.Test.YtdbjloigfkckfaaGreatDoorMfs
import Derived.Test.YtdbjloigfkckfaaGreatDoorAwp
import Derived.Test.YtdbjloigfkckfaaGreatDoorSv2
import Derived.KernelRfl
namespace Go.Proofs.YtdbjloigfkckfaaGreatDoor
open Go Vm Go.RowKit
set_option linter.unusedVariables false
set_option linter.unusedSimpArgs false
set_option maxRecDepth 100000
set_option maxHeartbeats 8000000

theorem aw21_fn : FnT Tryz.prog 5 [] [] fun r o => r = .ret (.bool true) ∧ o = [] := by
  refine FnT.ofT (n := slotsC Tryz.prog 5) (by kernel_rfl) ?_
  exact aw (aw_r0 ⟨rfl, rfl⟩)
noncomputable def tblF : List (FuncId × Sum) := [(6, Sum.of gFi), (7, Sum.of gFi), (5, ⟨namesA, fun a o => match a, o with
  | [], [] => .done (.ret (.bool true), [])
  | _, _ => .fail⟩)]
theorem callsF : CallsOk Tryz.prog (callT Tryz.prog (tblL tblF) 50 40) := callT_ok plainN mixed (tblL_ok (.cons mfs_ok (.cons sr_ok (.cons (FnOk.closed aw21_fn) .nil)))) 50 40
noncomputable def Lpenstocklaw21_MeansFirst : List Code := flat2 (bodyC Tryz.prog 3)
noncomputable abbrev ml_d0 (l : List Stm) : Desc := ⟨[(2, .bool true)], [rowsS l]⟩
theorem ml_r0 (l : List Stm) {Q : CRes → List VObj → Prop}  (hq : Q (.ret (.bool true)) [rowsS l]) : FinT Go.Proofs.Tryz.prog 3 15 1 Q .ret (ml_d0 l) := FinT.ret (vs := [.bool true]) (l := []) (bs := [0]) (pl := []) (q := []) (fun u => by kernel_rfl) (by kernel_rfl) pls_nil hq
noncomputable abbrev ml_d1 (l : List Stm) : Desc := ⟨[(2, .bool true)], [rowsS l]⟩
theorem ml_r1 (l : List Stm) {Q : CRes → List VObj → Prop}  (hq : Q (.ret (.bool true)) [rowsS l]) : FinT Go.Proofs.Tryz.prog 3 15 1 Q .ret (ml_d1 l) := FinT.ret (vs := [.bool true]) (l := []) (bs := [0]) (pl := []) (q := []) (fun u => by kernel_rfl) (by kernel_rfl) pls_nil hq
theorem ml_s (l : List Stm) (u : Nat → Value) : (codesO Tryz.prog (callT Tryz.prog (tblL tblF) 50 40) 50 (Lpenstocklaw21_MeansFirst.take 1000) (frU 15 u [(0, .slice (some ⟨0, 0, none⟩) l.length l.length)]) (vsOf [rowsS l])).sym (leafT 15 1) (.fork 1 (.leaf [2] [0] []) (.need 1 true (.need 1 true (.need 0 true (.need 1 true (.leaf [2] [0] [])))))) = some (.fork (decide ((↑(List.length l) : Int) > 1000)) (.leaf (.ret) (ml_d0 l)) (.need (isRowsS (rowsS l) && (Nat.beq (List.length l) (List.length (rowsOfS (rowsS l))) && (Nat.beq (List.length l) (List.length (rowsOfS (rowsS l))) && Nat.ble (List.length (rowsOfS (rowsS l))) 1000))) true (.need (isRowsS (rowsS l) && (Nat.beq (List.length l) (List.length (rowsOfS (rowsS l))) && (Nat.beq (List.length l) (List.length (rowsOfS (rowsS l))) && Nat.ble (List.length (rowsOfS (rowsS l))) 1000))) true (.need (Stm.c (firS (rowsOfS (rowsS l))) == Stm.c (firS (rowsOfS (rowsS l))) && (Stm.s (firS (rowsOfS (rowsS l))) == Stm.s (firS (rowsOfS (rowsS l))) && (Stm.i (firS (rowsOfS (rowsS l))) == Stm.i (firS (rowsOfS (rowsS l))) && true))) true (.need (Stm.c (firS (rowsOfS (rowsS l))) == Stm.c (firS (rowsOfS (rowsS l))) && (Stm.s (firS (rowsOfS (rowsS l))) == Stm.s (firS (rowsOfS (rowsS l))) && (Stm.i (firS (rowsOfS (rowsS l))) == Stm.i (firS (rowsOfS (rowsS l))) && true))) true (.leaf (.ret) (ml_d1 l))))))) := by kernel_rfl
theorem ml (l : List Stm) {Q : VEx → Desc → Prop} (l0 : (decide ((↑(List.length l) : Int) > 1000)) = true → Q (.ret) (ml_d0 l)) (n1 : (decide ((↑(List.length l) : Int) > 1000)) = false → (isRowsS (rowsS l) && (Nat.beq (List.length l) (List.length (rowsOfS (rowsS l))) && (Nat.beq (List.length l) (List.length (rowsOfS (rowsS l))) && Nat.ble (List.length (rowsOfS (rowsS l))) 1000))) = true) (l2 : (decide ((↑(List.length l) : Int) > 1000)) = false → Q (.ret) (ml_d1 l)) : TriL Go.Proofs.Tryz.prog 15 1 Lpenstocklaw21_MeansFirst ⟨[(0, .slice (some ⟨0, 0, none⟩) l.length l.length)], [rowsS l]⟩ Q :=
  TriL.tree plainN mixed callsF (m := 1000) (l := Lpenstocklaw21_MeansFirst) (d := ⟨[(0, .slice (some ⟨0, 0, none⟩) l.length l.length)], [rowsS l]⟩) (fun u => ml_s l u) (Tree.mkFork (fun h0 => (Tree.mkLeaf (l0 h0))) (fun h0 => (Tree.mkNeed (n1 h0) (Tree.mkNeed (n1 h0) (Tree.mkNeed (by simp) (Tree.mkNeed (by simp) (Tree.mkLeaf (l2 h0))))))))

theorem meansFirst_fn (l : List Stm) : FnT Tryz.prog 3 [.slice (some ⟨0, 0, none⟩) l.length l.length] [rowsS l] fun r o => r = .ret (.bool true) ∧ o = [rowsS l] := by
  refine FnT.ofT (n := slotsC Tryz.prog 3) (by kernel_rfl) ?_
  apply ml l
  case l0 => intro _; exact ml_r0 l ⟨rfl, rfl⟩
  case n1 =>
    intro g
    have g := of_decide_eq_false g
    rw [rowsOfS_rows, isRowsS_rows]
    simp
    omega
  case l2 => intro _; exact ml_r1 l ⟨rfl, rfl⟩
theorem stms_of {w : World} {B : Nat → Prop} {v : Value} {svs : List SV} (h : Mt Tryz.prog 10 22 svs) (hs : SRs Tryz.prog w B svs [v]) :
    ∃ l : List Stm, SR Tryz.prog w B (.rows l.length 5 fun i => stmV (l.getD i ⟨ByteArray.empty, false, 0, 0, 0⟩)) v := by
  obtain ⟨n, row, rfl, _, hr⟩ := mt_rows Tryz.underlying22 (by kernel_rfl) h
  have h0 := hs.at_ 0 _ _ rfl rfl
  have e5 : Tryz.prog.cellsOf 60 = 5 := by kernel_rfl
  rw [e5] at h0
  obtain ⟨l, h1, h2, h3⟩ := rows_list stmV ⟨ByteArray.empty, false, 0, 0, 0⟩ (fun _ => True) h0 fun i hi => by
    obtain ⟨parts, e1, h1⟩ := mt_struct Tryz.underlying60 (hr i hi)
    obtain ⟨p0, q0, rfl, a0, h1⟩ := all2_cons h1
    obtain ⟨p1, q1, rfl, a1, h1⟩ := all2_cons h1
    obtain ⟨p2, q2, rfl, a2, h1⟩ := all2_cons h1
    obtain rfl := all2_nil h1
    obtain ⟨b, rfl, hb⟩ := mt_bytes Tryz.underlying51 Tryz.underlying5 (by kernel_rfl) (by kernel_rfl) a0
    obtain ⟨d, rfl⟩ := mt_bool Tryz.underlying4 a1
    obtain ⟨parts2, rfl, k1⟩ := mt_struct Tryz.underlying26 a2
    obtain ⟨r0, t0, rfl, b0, k1⟩ := all2_cons k1
    obtain ⟨r1, t1, rfl, b1, k1⟩ := all2_cons k1
    obtain ⟨r2, t2, rfl, b2, k1⟩ := all2_cons k1
    obtain rfl := all2_nil k1
    obtain ⟨c, rfl, _⟩ := mt_int Tryz.underlying24 b0
    obtain ⟨s, rfl, _⟩ := mt_int Tryz.underlying3 b1
    obtain ⟨i', rfl, _⟩ := mt_int Tryz.underlying3 b2
    exact ⟨⟨b, d, c, s, i'⟩, e1.trans rfl, trivial⟩
  exact ⟨l, h3⟩

end Go.Proofs.YtdbjloigfkckfaaGreatDoor
