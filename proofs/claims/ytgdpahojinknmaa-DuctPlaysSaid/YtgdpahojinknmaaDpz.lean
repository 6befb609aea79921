/- What is said of does. -/
import Derived.Test.YtgdpahojinknmaaDpx
import Derived.Test.YtgdpahojinknmaaHd11
namespace Go.Proofs.Ytgdpahojinknmaa
open Go Vm Go.RowKit
set_option linter.unusedVariables false
set_option linter.unusedSimpArgs false
set_option maxRecDepth 100000

theorem stands_nil_fn (D : DuctV) (M : RefV) (h : PInv D M []) : FnT Try.prog 30 [.agg (ductVC D).toArray, .agg (refC M (.slice none 0 0)).toArray] [] fun r o => r = .ret (.bool true) ∧ o = [] := by
  have h1 := stands_fn D M [] h
  have h2 : FnT Try.prog 30 [.agg (ductVC D).toArray, .agg (refC M (.slice none 0 0)).toArray] [] fun r o => r = .ret (.bool true) ∧ o = [.cells (strsC []) 9 false] :=
    FnT.nilArg (i := 1) 9 (s := 1) (by kernel_rfl) (by decide) rfl h1
  exact FnT.trim h2 fun r o hro => ⟨[], [], .ret (.bool true), [], [], by rw [hro.1, hro.2]; rfl, pls_nil, rfl, rfl⟩

noncomputable def pinvB (D : DuctV) (M : RefV) (L : List ByteArray) : Bool := @decide (PInv D M L) (Classical.propDecidable _)
theorem pinvB_of {D : DuctV} {M : RefV} {L : List ByteArray} (h : PInv D M L) : pinvB D M L = true := decide_cls h
theorem of_pinvB {D : DuctV} {M : RefV} {L : List ByteArray} (h : pinvB D M L = true) : PInv D M L := @of_decide_eq_true _ (Classical.propDecidable _) h
def pN {α : Type} (l : List Value) (k : List Value → Option α) : Option α := match l with
  | .slice none 0 0 :: l => k l
  | _ => none
theorem pN_some {α : Type} {l : List Value} {k : List Value → Option α} {a : α} (h : pN l k = some a) : ∃ l', l = .slice none 0 0 :: l' ∧ k l' = some a := by
  unfold pN at h; split at h
  · exact ⟨_, rfl, h⟩
  · cases h
def asRefN (l : List Value) : Option RefV := pI l fun cap l => pN l fun l => pI l fun how l => pI l fun fc l => pI l fun fs l => pI l fun fi l => pB l fun gone l => pI l fun first l => pI l fun c2 l => pI l fun most l => pI l fun wrote l => pI l fun rd l => pI l fun lost l => pI l fun byt l =>
  pE l (⟨cap, how, fc, fs, fi, gone, first, c2, most, wrote, rd, lost, byt⟩)
theorem asRefN_some {l : List Value} {M : RefV} (h : asRefN l = some M) : l = refC M (.slice none 0 0) := by
  unfold asRefN at h
  obtain ⟨x1, l1, e1, h1⟩ := pI_some h
  obtain ⟨l2, e2, h2⟩ := pN_some h1
  obtain ⟨x3, l3, e3, h3⟩ := pI_some h2
  obtain ⟨x4, l4, e4, h4⟩ := pI_some h3
  obtain ⟨x5, l5, e5, h5⟩ := pI_some h4
  obtain ⟨x6, l6, e6, h6⟩ := pI_some h5
  obtain ⟨x7, l7, e7, h7⟩ := pB_some h6
  obtain ⟨x8, l8, e8, h8⟩ := pI_some h7
  obtain ⟨x9, l9, e9, h9⟩ := pI_some h8
  obtain ⟨x10, l10, e10, h10⟩ := pI_some h9
  obtain ⟨x11, l11, e11, h11⟩ := pI_some h10
  obtain ⟨x12, l12, e12, h12⟩ := pI_some h11
  obtain ⟨x13, l13, e13, h13⟩ := pI_some h12
  obtain ⟨x14, l14, e14, h14⟩ := pI_some h13
  obtain ⟨e, e'⟩ := pE_some h14
  subst e'
  rw [e1, e2, e3, e4, e5, e6, e7, e8, e9, e10, e11, e12, e13, e14, e]
  rfl
noncomputable def gStands (a : List Value) (o : List VObj) : Option (Bool × CRes × List VObj) := match a, o with
  | [v, .agg x], [.cells c el false] => match aD v, asRef x.toList with
    | some D, some (M, n, m) => some (pinvB D M (c.map toStrV) && (c.all isStrV && (Nat.beq el 9 && (Nat.beq c.length n && Nat.beq m n))), .ret (.bool true), [.cells c el false])
    | _, _ => none
  | [v, .agg x], [] => match aD v, asRefN x.toList with
    | some D, some M => some (pinvB D M [], .ret (.bool true), [])
    | _, _ => none
  | _, _ => none
theorem stands_ok : FnOk Try.prog 30 (Sum.of gStands) := by
  refine FnOk.of fun a o r o' hg => ?_
  unfold gStands at hg
  split at hg
  · split at hg
    · rename_i v x c el _ _ D M n m hD hM
      simp only [Option.some.injEq, Prod.mk.injEq, Bool.and_eq_true] at hg
      obtain ⟨⟨h0, h1, h2, h3, h4⟩, rfl, rfl⟩ := hg
      have e1 := asRef_some hM
      have e2 := strs_of h1
      have h3 := Nat.eq_of_beq_eq_true h3
      have h4 := Nat.eq_of_beq_eq_true h4
      have hl : (c.map toStrV).length = n := by simp [h3]
      have := stands_fn D M (c.map toStrV) (of_pinvB h0)
      rw [hl, ← e2] at this
      rw [Nat.eq_of_beq_eq_true h2, aD_some hD]
      have e3 : x = (refC M (.slice (some ⟨0, 0, none⟩) n n)).toArray := by rw [h4] at e1; rw [← e1]
      rw [e3]
      exact this
    · cases hg
  · split at hg
    · rename_i v x _ _ D M hD hM
      simp only [Option.some.injEq, Prod.mk.injEq] at hg
      obtain ⟨h0, rfl, rfl⟩ := hg
      have e1 := asRefN_some hM
      rw [aD_some hD]
      have e3 : x = (refC M (.slice none 0 0)).toArray := by rw [← e1]
      rw [e3]
      exact stands_nil_fn D M (of_pinvB h0)
    · cases hg
  · cases hg

/-- What does comes to. -/
def refA (D D' : DuctV) (M : RefV) : RefV := bif D.k == 0 then M else refOf D'
def rowA (D D' : DuctV) (L : List ByteArray) : List ByteArray := bif D.k == 0 then L else rowD D'
theorem pinv_uniq {D D' : DuctV} {M M' : RefV} {L L' : List ByteArray} (h : PInv D M L) (h' : PInv D' M' L') (hk : (D'.k == 0) = (D.k == 0)) : M' = refA D D' M ∧ L' = rowA D D' L := by
  unfold refA rowA
  rcases h with ⟨h, rfl, rfl⟩ | ⟨rfl, rfl, rfl⟩ <;> rcases h' with ⟨h', rfl, rfl⟩ | ⟨rfl, rfl, rfl⟩
  · rw [k_ne h]; exact ⟨rfl, rfl⟩
  · rw [k_ne h] at hk; cases hk
  · rw [k_ne h'] at hk; cases hk
  · exact ⟨rfl, rfl⟩
theorem after_k (D : DuctV) (d : Int) (s : ByteArray) (a b c : Int) (hok : okD D = true) : ((afterD D d s a b c).k == 0) = (D.k == 0) := by
  obtain ⟨f0, f8, n0, nk, k8⟩ := okD_iff.1 hok
  unfold afterD
  repeat' (with_reducible refine bif_of (C := fun E : DuctV => (E.k == 0) = (D.k == 0)) _ ?_ ?_ <;> intro _)
  · unfold writeD
    repeat' (with_reducible refine bif_of (C := fun E : DuctV => (E.k == 0) = (D.k == 0)) _ ?_ ?_ <;> intro _)
    all_goals rfl
  · unfold readD
    repeat' (with_reducible refine bif_of (C := fun E : DuctV => (E.k == 0) = (D.k == 0)) _ ?_ ?_ <;> intro _)
    all_goals rfl
  · unfold shutD
    repeat' (with_reducible refine bif_of (C := fun E : DuctV => (E.k == 0) = (D.k == 0)) _ ?_ ?_ <;> intro _)
    all_goals rfl
  · unfold shutD
    repeat' (with_reducible refine bif_of (C := fun E : DuctV => (E.k == 0) = (D.k == 0)) _ ?_ ?_ <;> intro _)
    all_goals rfl
  · unfold leaveD
    repeat' (with_reducible refine bif_of (C := fun E : DuctV => (E.k == 0) = (D.k == 0)) _ ?_ ?_ <;> intro _)
    all_goals rfl
  · unfold widenD
    cases hk : (D.k == 0) with
    | true => simp only [cond_true]; exact hk
    | false =>
      simp only [cond_false]
      cases h8 : (D.k == 8) with
      | true => simp only [cond_true]; exact hk
      | false =>
        simp only [cond_false]
        have h0 : D.k ≠ 0 := by simpa using hk
        have h8 : D.k ≠ 8 := by simpa using h8
        have hw : w64 (D.k + 1) = D.k + 1 := wrap_nat (by omega) (by omega)
        rw [hw]; simp; omega
  · rfl
end Go.Proofs.Ytgdpahojinknmaa

namespace Go.Proofs.Ytgdpahojinknmaa
open Go Vm Go.RowKit
set_option linter.unusedVariables false
set_option linter.unusedSimpArgs false
set_option maxRecDepth 100000

noncomputable def bytesB (c : List Value) (n : Nat) : Bool := @decide (c = bytesC (bytesAt c 0 n) ∧ n = (bytesAt c 0 n).size) (Classical.propDecidable _)
@[simp] theorem bytesB_all (b : ByteArray) : bytesB (bytesC b) b.size = true := decide_cls (by rw [bytesAt_all]; exact ⟨rfl, rfl⟩)
def newB (D : DuctV) (d : Int) (b : ByteArray) : Bool := (d == 0 && takesB D b) || (d == 1 && readK D == 1)
noncomputable def sumDoes : Sum := ⟨namesA, fun a o => match a, o with
  | [v, .agg x, .agg ⟨[.int .i64 d, .slice (some ⟨1, 0, none⟩) n n', .int .i64 fc, .int .i64 fs, .int .i64 fi]⟩], [.cells c el false, .cells cb eb true] => match aD v, asRef x.toList with
    | some D, some (M, n0, m0) => .must (pinvB D M (c.map toStrV) && (c.all isStrV && (Nat.beq el 9 && (Nat.beq c.length n0 && (Nat.beq m0 n0 && (Nat.beq eb 5 && (bytesB cb n && (Nat.beq n' n && Nat.ble n 65536))))))))
      (.ask (newB D d (bytesAt cb 0 n)) fun q => match q with
        | true => .done (tupR (afterD D d (bytesAt cb 0 n) fc fs fi) (refA D (afterD D d (bytesAt cb 0 n) fc fs fi) M) (slL 2 (rowA D (afterD D d (bytesAt cb 0 n) fc fs fi) (c.map toStrV))),
            [.cells c el false, .cells cb eb true, .cells (strsC (rowA D (afterD D d (bytesAt cb 0 n) fc fs fi) (c.map toStrV))) 9 false])
        | false => .ask (d == 4) fun q => match q with
          | true => .done (tupR (afterD D d (bytesAt cb 0 n) fc fs fi) (refA D (afterD D d (bytesAt cb 0 n) fc fs fi) M) (.slice none 0 0), [.cells c el false, .cells cb eb true])
          | false => .done (tupR (afterD D d (bytesAt cb 0 n) fc fs fi) (refA D (afterD D d (bytesAt cb 0 n) fc fs fi) M) (slL 0 (c.map toStrV)), [.cells c el false, .cells cb eb true]))
    | _, _ => .fail
  | _, _ => .fail⟩

theorem does_same {D D' : DuctV} {M : RefV} {L : List ByteArray} {b : ByteArray} (h : PInv D M L) (hk : (D'.k == 0) = (D.k == 0)) {r : CRes} {o : List VObj} (hs : Same D' L b r o) : r = tupR D' (refA D D' M) (slL 0 L) ∧ o = objsD L b := by
  obtain ⟨M', h1, rfl, rfl⟩ := hs
  obtain ⟨rfl, _⟩ := pinv_uniq h h1 hk
  exact ⟨rfl, rfl⟩

theorem does_all (D : DuctV) (M : RefV) (L : List ByteArray) (b : ByteArray) (d fc fs fi : Int) (h : PInv D M L) (hb : b.size ≤ 65536) : FnT Try.prog 31 (argsD D M L d fc fs fi b) (objsD L b) fun r o =>
    (newB D d b = true ∧ r = tupR (afterD D d b fc fs fi) (refA D (afterD D d b fc fs fi) M) (slL 2 (rowA D (afterD D d b fc fs fi) L)) ∧ o = objsD L b ++ [.cells (strsC (rowA D (afterD D d b fc fs fi) L)) 9 false]) ∨
    (newB D d b = false ∧ (d == 4) = true ∧ r = tupR (afterD D d b fc fs fi) (refA D (afterD D d b fc fs fi) M) (.slice none 0 0) ∧ o = objsD L b) ∨
    (newB D d b = false ∧ (d == 4) = false ∧ r = tupR (afterD D d b fc fs fi) (refA D (afterD D d b fc fs fi) M) (slL 0 L) ∧ o = objsD L b) := by
  have hk := after_k D d b fc fs fi h.ok
  cases h0 : (d == 0) with
  | true =>
    obtain rfl : d = 0 := by simpa using h0
    refine (do0_fn D M L b fc fs fi h hb).mono fun r o hro => ?_
    have ea : afterD D 0 b fc fs fi = writeD D b := rfl
    rw [ea] at hk ⊢
    have en : newB D 0 b = takesB D b := by unfold newB; simp
    rw [en]
    rcases hro with ⟨ht, hs⟩ | ⟨ht, M', h1, rfl, rfl⟩
    · exact .inr (.inr ⟨ht, rfl, does_same h hk hs⟩)
    · obtain ⟨e1, e2⟩ := pinv_uniq h h1 hk
      rw [← e1, ← e2]
      exact .inl ⟨ht, rfl, rfl⟩
  | false =>
    cases h1 : (d == 1) with
    | true =>
      obtain rfl : d = 1 := by simpa using h1
      refine (do1_fnT D M L b fc fs fi h).mono fun r o hro => ?_
      have ea : afterD D 1 b fc fs fi = readD D := rfl
      rw [ea] at hk ⊢
      have en : newB D 1 b = (readK D == 1) := by unfold newB; simp
      rw [en]
      rcases hro with ⟨ht, hs⟩ | ⟨ht, M', h1, rfl, rfl⟩
      · exact .inr (.inr ⟨ht, rfl, does_same h hk hs⟩)
      · obtain ⟨e1, e2⟩ := pinv_uniq h h1 hk
        rw [← e1, ← e2]
        exact .inl ⟨ht, rfl, rfl⟩
    | false =>
      have en : newB D d b = false := by unfold newB; rw [h0, h1]; rfl
      rw [en]
      cases h2 : (d == 2) with
      | true =>
        obtain rfl : d = 2 := by simpa using h2
        exact (do2_fn D M L b fc fs fi h).mono fun r o hro => .inr (.inr ⟨rfl, rfl, does_same h hk hro⟩)
      | false =>
        cases h3 : (d == 3) with
        | true =>
          obtain rfl : d = 3 := by simpa using h3
          exact (do3_fn D M L b fc fs fi h).mono fun r o hro => .inr (.inr ⟨rfl, rfl, does_same h hk hro⟩)
        | false =>
          cases h4 : (d == 4) with
          | true =>
            obtain rfl : d = 4 := by simpa using h4
            refine (do4_fn D M L b fc fs fi h).mono fun r o hro => .inr (.inl ⟨rfl, rfl, ?_⟩)
            obtain ⟨M', h1, rfl, rfl⟩ := hro
            obtain ⟨rfl, _⟩ := pinv_uniq h h1 hk
            exact ⟨rfl, rfl⟩
          | false =>
            cases h5 : (d == 5) with
            | true =>
              obtain rfl : d = 5 := by simpa using h5
              exact (do5_fn D M L b fc fs fi h).mono fun r o hro => .inr (.inr ⟨rfl, rfl, does_same h hk hro⟩)
            | false =>
              have ea : afterD D d b fc fs fi = D := by unfold afterD; rw [h0, h1, h2, h3, h4, h5]; rfl
              refine (do6_fn D M L b d fc fs fi h h0 h1 h2 h3 h4 h5).mono fun r o hro => .inr (.inr ⟨rfl, rfl, ?_⟩)
              rw [ea] at hk ⊢
              exact does_same h hk hro

theorem does_ok : FnOk Try.prog 31 sumDoes := by
  intro a o r o' hr
  unfold sumDoes at hr
  dsimp only at hr
  split at hr
  · split at hr
    · rename_i v x d n n' fc fs fi c el cb eb _ _ D M n0 m0 hD hM
      obtain ⟨hc, hr⟩ := QT.run_must hr
      simp only [Bool.and_eq_true] at hc
      obtain ⟨c0, c1, c2, c3, c4, c5, c6, c7, c8⟩ := hc
      have e1 := asRef_some hM
      have e2 := strs_of c1
      have c3 := Nat.eq_of_beq_eq_true c3
      have c4 := Nat.eq_of_beq_eq_true c4
      have c7 := Nat.eq_of_beq_eq_true c7
      have c8 := Nat.le_of_ble_eq_true c8
      unfold bytesB at c6
      obtain ⟨c6, c6'⟩ := @of_decide_eq_true _ (Classical.propDecidable _) c6
      obtain ⟨L, hL⟩ : ∃ L, L = c.map toStrV := ⟨_, rfl⟩
      obtain ⟨b, hb⟩ : ∃ b, b = bytesAt cb 0 n := ⟨_, rfl⟩
      have hl : L.length = n0 := by rw [hL]; simp [c3]
      have h := does_all D M L b d fc fs fi (by rw [hL]; exact of_pinvB c0) (by rw [hb, ← c6']; exact c8)
      have e3 : x = (refC M (slL 0 L)).toArray := by rw [c4] at e1; unfold slL; rw [hl, ← e1]
      have e4 : cb = bytesC b := by rw [hb]; exact c6
      have e5 : n = b.size := by rw [hb]; exact c6'
      rw [← hL, ← hb] at hr
      rw [← hL] at e2
      rw [aD_some hD, e3, c7, Nat.eq_of_beq_eq_true c2, Nat.eq_of_beq_eq_true c5, e2, e4, e5]
      rw [e2, e4, Nat.eq_of_beq_eq_true c2, Nat.eq_of_beq_eq_true c5] at hr
      refine h.mono fun r2 o2 hro => ?_
      have hr : (match newB D d b with | true => _ | false => _ : QT (CRes × List VObj)).run = some (r, o') := hr
      rcases hro with ⟨g1, rfl, rfl⟩ | ⟨g1, g2, rfl, rfl⟩ | ⟨g1, g2, rfl, rfl⟩
      · rw [g1] at hr
        cases hr
        exact ⟨rfl, rfl⟩
      · rw [g1] at hr
        have hr : (match (d == 4) with | true => _ | false => _ : QT (CRes × List VObj)).run = some (r, o') := hr
        rw [g2] at hr
        cases hr
        exact ⟨rfl, rfl⟩
      · rw [g1] at hr
        have hr : (match (d == 4) with | true => _ | false => _ : QT (CRes × List VObj)).run = some (r, o') := hr
        rw [g2] at hr
        cases hr
        exact ⟨rfl, rfl⟩
    · cases hr
  · cases hr
noncomputable def tblDL : List (FuncId × Sum) := (30, Sum.of gStands) :: (31, sumDoes) :: tblDV
theorem callsDL : CallsOk Try.prog (callT Try.prog (tblL tblDL) 50 40) := callT_ok plainN mixed (tblL_ok (.cons stands_ok (.cons does_ok (.cons after_ok (.cons told_ok (.cons (true_ok awake_fn) tblDuct_ok)))))) 50 40
end Go.Proofs.Ytgdpahojinknmaa
