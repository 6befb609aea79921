/- The table of what is said of law 22's functions. -/
import Derived.Test.YtgdpahojinknmaaDvq
namespace Go.Proofs.Ytgdpahojinknmaa
open Go Vm Go.RowKit
set_option linter.unusedVariables false
set_option linter.unusedSimpArgs false
set_option maxRecDepth 100000

def gAfter (a : List Value) (o : List VObj) : Option (Bool × CRes × List VObj) := match a, o with
  | [v, .agg ⟨[.int .i64 d, .slice (some ⟨0, off, none⟩) n cap, .int .i64 fc, .int .i64 fs, .int .i64 fi]⟩], [.cells c el true] => match aD v with
    | some D => some (okD D && (isBytes c off n && (c.all isScal && Nat.beq el 5)), .ret (.agg (ductVC (afterD D d (bytesAt c off n) fc fs fi)).toArray), [.cells c el true])
    | none => none
  | _, _ => none
theorem after_ok : FnOk Try.prog 27 (Sum.of gAfter) := by
  refine FnOk.of fun a o r o' hg => ?_
  unfold gAfter at hg
  split at hg
  · split at hg
    · rename_i D hD
      simp only [Option.some.injEq, Prod.mk.injEq, Bool.and_eq_true] at hg
      obtain ⟨⟨h1, h2, h3, h4⟩, rfl, rfl⟩ := hg
      rw [aD_some hD, Nat.eq_of_beq_eq_true h4]
      exact after_fn D _ _ _ _ _ _ _ _ h1 h2 h3
    · cases hg
  · cases hg
def gTold (a : List Value) (o : List VObj) : Option (Bool × CRes × List VObj) := match a, o with
  | [v], [] => match aD v with
    | some D => some (okD D, .ret (.slice (some ⟨0, 0, none⟩) 20 20), [.cells (strsC (tolN 10 D)) 9 false])
    | none => none
  | _, _ => none
theorem told_ok : FnOk Try.prog 28 (Sum.of gTold) := by
  refine FnOk.of fun a o r o' hg => ?_
  unfold gTold at hg
  split at hg
  · split at hg
    · rename_i D hD
      simp only [Option.some.injEq, Prod.mk.injEq] at hg
      obtain ⟨h1, rfl, rfl⟩ := hg
      rw [aD_some hD]
      exact told_fn D h1
    · cases hg
  · cases hg
def gTrue (a : List Value) (o : List VObj) : Option (Bool × CRes × List VObj) := match a, o with
  | [], [] => some (true, .ret (.bool true), [])
  | _, _ => none
theorem true_ok {f : FuncId} (h : FnT Try.prog f [] [] fun r o => r = .ret (.bool true) ∧ o = []) : FnOk Try.prog f (Sum.of gTrue) := by
  refine FnOk.of fun a o r o' hg => ?_
  unfold gTrue at hg
  split at hg
  · simp only [Option.some.injEq, Prod.mk.injEq] at hg
    obtain ⟨-, rfl, rfl⟩ := hg
    exact h
  · cases hg
noncomputable def tblDV : List (FuncId × Sum) := (27, Sum.of gAfter) :: (28, Sum.of gTold) :: (26, Sum.of gTrue) :: tblDuct
theorem callsDV : CallsOk Try.prog (callT Try.prog (tblL tblDV) 50 40) := callT_ok plainN mixed (tblL_ok (.cons after_ok (.cons told_ok (.cons (true_ok awake_fn) tblDuct_ok)))) 50 40
attribute [simp] isRows22_rows rowsOf22_rows
end Go.Proofs.Ytgdpahojinknmaa
