/- What is said of does of law 1, and of stands. -/
import Derived.Test.YtgdpahojinknmaaRpw
namespace Go.Proofs.Ytgdpahojinknmaa
open Go Vm Go.RowKit
set_option linter.unusedVariables false
set_option linter.unusedSimpArgs false
set_option maxRecDepth 100000

def afterR (D : RgV) (d : Int) (b : ByteArray) : RgV := bif d == 0 then pushR D b else bif d == 1 then popR D else bif d == 2 then growR D else bif d == 3 then ringK D.k else D
def capA (c d : Int) : Int := bif d == 2 then mgrowK c else c
def newB (D : RgV) (d : Int) (b : ByteArray) : Bool := (d == 0 && takesR D b) || (d == 1 && !(D.n == 0))
theorem row_k0 (k : Int) : rowR (ringK k) = [] := rfl
theorem mgrow_of {D : RgV} (h : okR D = true) : mgrowK D.k = (growR D).k ∧ growE D = mgrowE D.k := by
  obtain ⟨f0, f8, n0, nk, k8⟩ := okR_iff.1 h
  unfold mgrowK growR growE mgrowE
  cases e0 : (D.k == 0) with
  | true => exact ⟨rfl, rfl⟩
  | false =>
    cases e1 : (D.k == 8) with
    | true =>
      have : D.k = 8 := by simpa using e1
      rw [decide_eq_true (show D.k ≥ 8 by omega)]
      exact ⟨rfl, rfl⟩
    | false =>
      have : D.k ≠ 8 := by simpa using e1
      rw [decide_eq_false (show ¬ D.k ≥ 8 by omega)]
      exact ⟨rfl, rfl⟩
theorem newM_of {D : RgV} {c : Int} {L : List ByteArray} (h : PInv D c L) (b : ByteArray) : newM c L.length b.size = takesR D b := by
  obtain ⟨h8, hn⟩ := h.len
  obtain ⟨f0, f8, n0, nk, k8⟩ := okR_iff.1 h.ok
  unfold newM takesR
  rw [h.cap]
  congr 3
  rw [← hn]
  congr 1
  by_cases e : D.n = D.k
  · have : (D.n == D.k) = true := by simpa using e
    rw [this, decide_eq_true (show D.n ≥ D.k by omega)]
  · have : (D.n == D.k) = false := by simpa using e
    rw [this, decide_eq_false (show ¬ D.n ≥ D.k by omega)]
theorem pushE_of {D : RgV} {c : Int} {L : List ByteArray} (h : PInv D c L) (b : ByteArray) (ht : takesR D b = false) : pushE D b = mpushE c b.size := by
  unfold pushE mpushE
  rw [h.cap]
  cases e0 : (D.k == 0) with
  | true =>
    cases e1 : decide (1 ≤ b.size) with
    | false => rfl
    | true => cases decide (b.size ≤ 32) <;> rfl
  | false =>
    by_cases e1 : 1 ≤ b.size
    · rw [decide_eq_true e1, decide_eq_false (show ¬ (b.size : Int) < 1 by omega)]
      by_cases e2 : b.size ≤ 32
      · rw [decide_eq_true e2, decide_eq_false (show ¬ (b.size : Int) > 32 by omega)]
        have e3 : (D.n == D.k) = true := by
          cases e3 : (D.n == D.k) with
          | true => rfl
          | false =>
            have : takesR D b = true := takes_iff.2 ⟨by simpa using e0, e1, e2, by simpa using e3⟩
            rw [this] at ht; cases ht
        rw [e3]; rfl
      · rw [decide_eq_false e2, decide_eq_true (show (b.size : Int) > 32 by omega)]; rfl
    · rw [decide_eq_false e1, decide_eq_true (show (b.size : Int) < 1 by omega)]; rfl
theorem pinv_after {D : RgV} {c : Int} {L : List ByteArray} (h : PInv D c L) (d : Int) (b : ByteArray) : PInv (afterR D d b) (capA c d) (rowR (afterR D d b)) ∧ ((d == 3) = true → rowR (afterR D d b) = []) ∧ ((d == 3) = false → newB D d b = false → rowR (afterR D d b) = L) := by
  have hsz : ∀ s ∈ rowR D, s.size ≤ 32 := fun s hs => h.sz s (by rw [h.row]; exact hs)
  unfold afterR capA newB
  cases h0 : (d == 0) with
  | true =>
    obtain rfl : d = 0 := by simpa using h0
    refine ⟨?_, (fun e => by cases e), fun _ e => ?_⟩
    · show PInv (pushR D b) c (rowR (pushR D b))
      cases ht : takesR D b with
      | false => rw [push_not ht]; exact ⟨h.ok, h.cap, rfl, hsz⟩
      | true =>
        have hk : (pushR D b).k = D.k := by rw [(push_takes ht).1]; rfl
        refine ⟨okR_push h.ok b, by rw [hk]; exact h.cap, rfl, fun s hs => ?_⟩
        rw [row_push h.ok ht] at hs
        rcases List.mem_append.1 hs with hs | hs
        · exact hsz s hs
        · rw [List.mem_singleton.1 hs]; exact (takes_iff.1 ht).2.2.1
    · have e : takesR D b = false := by simpa using e
      show rowR (pushR D b) = L
      rw [push_not e, h.row]
  | false =>
    cases h1 : (d == 1) with
    | true =>
      obtain rfl : d = 1 := by simpa using h1
      refine ⟨?_, (fun e => by cases e), fun _ e => ?_⟩
      · show PInv (popR D) c (rowR (popR D))
        have hk : (popR D).k = D.k := by unfold popR; cases (D.n == 0) <;> rfl
        refine ⟨okR_pop h.ok, by rw [hk]; exact h.cap, rfl, fun s hs => ?_⟩
        by_cases hn : D.n = 0
        · have : popR D = D := by unfold popR; rw [hn]; rfl
          rw [this] at hs
          exact hsz s hs
        · refine hsz s ?_
          rw [row_pop h.ok hn]
          exact List.mem_cons_of_mem _ hs
      · have e : D.n = 0 := by simpa using e
        show rowR (popR D) = L
        have : popR D = D := by unfold popR; rw [e]; rfl
        rw [this, h.row]
    | false =>
      cases h2 : (d == 2) with
      | true =>
        obtain rfl : d = 2 := by simpa using h2
        obtain ⟨g1, g2, g3⟩ := okR_grow h.ok
        obtain ⟨g4, g5⟩ := mgrow_of h.ok
        refine ⟨⟨g1, by show mgrowK c = (growR D).k; rw [h.cap]; exact g4, rfl, fun s hs => ?_⟩, (fun e => by cases e), fun _ _ => ?_⟩
        · have hs : s ∈ rowR (growR D) := hs
          rw [g2] at hs; exact hsz s hs
        · show rowR (growR D) = L
          rw [g2, h.row]
      | false =>
        cases h3 : (d == 3) with
        | true =>
          obtain ⟨f0, f8, n0, nk, k8⟩ := okR_iff.1 h.ok
          refine ⟨⟨okR_iff.2 ⟨Int.le_refl 0, (show (0 : Int) < 8 by decide), Int.le_refl 0, (by show 0 ≤ D.k; omega), k8⟩, h.cap, rfl, fun s hs => by cases hs⟩, fun _ => rfl, fun e => by cases e⟩
        | false => exact ⟨⟨h.ok, h.cap, rfl, hsz⟩, (fun e => by cases e), fun _ _ => h.row.symm⟩

theorem copy_bytes (b : ByteArray) : ([] ++ List.take (b.size * 1) (bytesC b)) = bytesC b := by
  rw [List.nil_append, List.take_of_length_le (by rw [bytesC_length]; omega)]
theorem one_bytes (b : ByteArray) (n : Nat) : List.all (List.take n (bytesC b)) Value.oneCell' = true := one_of_plain (pl_take (pl_bytes b) n)

theorem does_all (D : RgV) (c : Int) (L : List ByteArray) (b : ByteArray) (d : Int) (h : PInv D c L) (hb : b.size ≤ 65536) : FnT Try.prog 23 (argsD D c L d b) (objsD L b) fun r o =>
    (newB D d b = true ∧ r = tupR (afterR D d b) (capA c d) (slL 2 (rowR (afterR D d b))) ∧ o = objsD L b ++ [.cells (strsC (rowR (afterR D d b))) 9 false]) ∨
    (newB D d b = false ∧ (d == 3) = true ∧ r = tupR (afterR D d b) (capA c d) (.slice none 0 0) ∧ o = objsD L b) ∨
    (newB D d b = false ∧ (d == 3) = false ∧ r = tupR (afterR D d b) (capA c d) (slL 0 L) ∧ o = objsD L b) := by
  obtain ⟨h8, hn⟩ := h.len
  obtain ⟨f0, f8, n0, nk, k8⟩ := okR_iff.1 h.ok
  refine FnT.ofT (n := slotsC Try.prog 23) (by kernel_rfl) ?_
  cases h0 : (d == 0) with
  | true =>
    obtain rfl : d = 0 := by simpa using h0
    have en : newB D 0 b = takesR D b := by unfold newB; simp
    have ea : afterR D 0 b = pushR D b := rfl
    have ec : capA c 0 = c := rfl
    rw [en, ea, ec]
    apply do0_a D c L b h8
    case pl0 => simp
    case pl1 => simp
    refine TriL.blockAt 2 0 (by kernel_rfl) ?_
    apply do0_b D c L b h8
    case pl0 => simp
    case pl1 => simp
    refine TriL.condAt 1 (c := 30) (b := true) (by kernel_rfl) (by kernel_rfl) (by rfl) ?_
    show TriL Pg nDoes 2 (LArm0 ++ _) _ _
    rw [show (List.drop (1 + 1) (flat2 (inner (List.drop 2 Lpenstocklaw01_does)))) = [] from by kernel_rfl, List.append_nil]
    apply do0_c D c L b h8
    case n0 => exact Nat.ble_eq_true_of_le (by omega)
    case n1 => exact one_bytes b _
    case pl0 => simp
    case pl1 => simp
    have e0 : do0_c_d0 D c L b = ⟨[(3, .pointer (some ⟨2, 0, none⟩)), (4, .pointer (some ⟨3, 0, none⟩)), (5, .pointer (some ⟨4, 0, none⟩)), (6, .pointer (some ⟨5, 0, none⟩)), (7, .pointer (some ⟨6, 0, none⟩)), (9, .slice (some ⟨7, 0, none⟩) b.size b.size)],
        [.cells (strsC L) 9 false, .cells (bytesC b) 5 true, .cells (rgVC D) 25 false, .cells [.int .i64 c, .slice (some ⟨0, 0, none⟩) L.length L.length] 46 false, .cells [.int .i64 0, .slice (some ⟨1, 0, none⟩) b.size b.size] 34 false, .cells (rgVC (ringK 0)) 25 false, .cells [.int .i64 0, .slice none 0 0] 46 false, .cells (bytesC b) 5 false]⟩ := by
      unfold do0_c_d0
      rw [copy_bytes, Nat.zero_add]
    rw [e0]
    apply do0_d D c L b h8
    case n0 => rw [h.ok, isBytes_all, pl_bytes]; rfl
    case pl0 => simp
    case pl1 => simp
    case l3 =>
      intro hm
      rw [newM_of h] at hm
      have e1 := (push_takes hm).2
      have e2 : do0_d_d0 D c L b = ⟨[(5, .pointer (some ⟨2, 0, none⟩)), (6, .pointer (some ⟨3, 0, none⟩)), (7, .pointer (some ⟨4, 0, none⟩)), (9, .slice (some ⟨5, 0, none⟩) b.size b.size), (10, .pointer (some ⟨6, 0, none⟩)), (11, .int .i64 (pushE D b)), (12, .pointer (some ⟨7, 0, none⟩)), (13, .int .i64 0)],
        [.cells (strsC L) 9 false, .cells (bytesC b) 5 true, .cells [.int .i64 0, .slice (some ⟨1, 0, none⟩) b.size b.size] 34 false, .cells (rgVC (ringK 0)) 25 false, .cells [.int .i64 0, .slice none 0 0] 46 false, .cells (bytesC b) 5 false, .cells (rgVC (pushR D b)) 25 false, .cells [.int .i64 c, .slice (some ⟨8, 0, none⟩) (L ++ [b]).length (L ++ [b]).length] 46 false, .cells (strsC (L ++ [b])) 9 false]⟩ := by
        unfold do0_d_d0
        rw [bytesAt_all, map_toStrV]
      rw [e2, List.drop_drop]
      refine do0_tail_n (pushR D b) c L (L ++ [b]) b (pushE D b) 0 (by rw [e1]; rfl) hb (.inl ⟨hm, ?_, ?_⟩)
      · rw [row_push h.ok hm, ← h.row]
      · rw [row_push h.ok hm, ← h.row]
    case l4 =>
      intro hm
      rw [newM_of h] at hm
      have e1 := pushE_of h b hm
      have e2 : do0_d_d1 D c L b = ⟨[(5, .pointer (some ⟨2, 0, none⟩)), (6, .pointer (some ⟨3, 0, none⟩)), (7, .pointer (some ⟨4, 0, none⟩)), (9, .slice (some ⟨5, 0, none⟩) b.size b.size), (10, .pointer (some ⟨6, 0, none⟩)), (11, .int .i64 (pushE D b)), (12, .pointer (some ⟨7, 0, none⟩)), (13, .int .i64 (mpushE c b.size))],
        [.cells (strsC L) 9 false, .cells (bytesC b) 5 true, .cells [.int .i64 0, .slice (some ⟨1, 0, none⟩) b.size b.size] 34 false, .cells (rgVC (ringK 0)) 25 false, .cells [.int .i64 0, .slice none 0 0] 46 false, .cells (bytesC b) 5 false, .cells (rgVC (pushR D b)) 25 false, .cells [.int .i64 c, .slice (some ⟨0, 0, none⟩) L.length L.length] 46 false]⟩ := by
        unfold do0_d_d1
        rw [bytesAt_all, map_toStrV]
      rw [e2, List.drop_drop]
      exact do0_tail_s (pushR D b) c L [] b (pushE D b) (mpushE c b.size) (by rw [e1]; simp) hb (.inr (.inr ⟨hm, rfl, rfl, rfl⟩))
  | false =>
    cases h1 : (d == 1) with
    | true =>
      obtain rfl : d = 1 := by simpa using h1
      have en : newB D 1 b = !(D.n == 0) := by unfold newB; simp
      have ea : afterR D 1 b = popR D := rfl
      have ec : capA c 1 = c := rfl
      rw [en, ea, ec]
      have hnl : (D.n == 0) = Nat.beq L.length 0 := by
        rw [hn]
        cases L with
        | nil => rfl
        | cons s L => rfl
      apply do1_a D c L b h8
      case pl0 => simp
      case pl1 => simp
      refine TriL.blockAt 2 0 (by kernel_rfl) ?_
      apply do1_b D c L b h8
      case pl0 => simp
      case pl1 => simp
      refine TriL.condAt 1 (c := 30) (b := false) (by kernel_rfl) (by kernel_rfl) (by rfl) ?_
      rw [show (List.drop (1 + 1) (flat2 (inner (List.drop 2 Lpenstocklaw01_does)))) = [] from by kernel_rfl, List.append_nil]
      apply do1_c D c L b h8
      case pl0 => simp
      case pl1 => simp
      refine TriL.condAt 1 (c := 75) (b := true) (by kernel_rfl) (by kernel_rfl) (by rfl) ?_
      rw [show (List.drop (1 + 1) (flat2 (arm false ((flat2 (inner (List.drop 2 Lpenstocklaw01_does))).drop 1)))) = [] from by kernel_rfl, List.append_nil]
      apply do1_d D c L b h8 hnl
      case n0 => exact h.ok
      case pl0 => simp
      case pl1 => simp
      case l4 => intro g1 g2; rw [hnl, g2] at g1; cases g1
      case l5 => intro g1 g2; rw [hnl, g2] at g1; cases g1
      case n6 => intros; exact isBytes_all _
      case l3 =>
        intro g1 _
        have e : D.n = 0 := by simpa using g1
        have ep : popR D = D := by unfold popR; rw [e]; rfl
        have e2 : do1_d_d0 D c L b = ⟨[(6, .pointer (some ⟨2, 0, none⟩)), (7, .pointer (some ⟨3, 0, none⟩)), (16, .pointer (some ⟨4, 0, none⟩)), (17, .slice none 0 0), (19, .pointer (some ⟨5, 0, none⟩)), (22, .bool true), (23, .int .i64 0)], [.cells (strsC L) 9 false, .cells (bytesC b) 5 true, .cells (rgVC (ringK 0)) 25 false, .cells [.int .i64 0, .slice none 0 0] 46 false, .cells (rgVC D) 25 false, .cells [.int .i64 c, .slice (some ⟨0, 0, none⟩) L.length L.length] 46 false]⟩ := by
          unfold do1_d_d0
          rw [map_toStrV]
        rw [e2]
        refine do1_tail_s D c L b (.inr (.inr ⟨by rw [g1]; rfl, rfl, by rw [ep], rfl⟩))
      case l7 =>
        intro g1 _
        have e : D.n ≠ 0 := by simpa using g1
        have hr := row_pop h.ok e
        rw [← h.row] at hr
        have hp : ByteArray.mk (List.toArray (Option.getD (Option.bind (cut (bytesC (popS D)) 0 (ByteArray.size (popS D))) bytesOf) [])) = popS D := bytesAt_all _
        have e2 : do1_d_d3 D c L b = ⟨[(6, .pointer (some ⟨2, 0, none⟩)), (7, .pointer (some ⟨3, 0, none⟩)), (16, .pointer (some ⟨4, 0, none⟩)), (17, .slice (some ⟨5, 0, none⟩) (bytesC (popS D)).length (bytesC (popS D)).length), (19, .pointer (some ⟨6, 0, none⟩)), (22, .bool true), (23, .int .i64 0)], [.cells (strsC L) 9 false, .cells (bytesC b) 5 true, .cells (rgVC (ringK 0)) 25 false, .cells [.int .i64 0, .slice none 0 0] 46 false, .cells (rgVC (popR D)) 25 false, .cells (bytesC (popS D)) 5 false, .cells [.int .i64 c, .slice (some ⟨7, 0, none⟩) (rowR (popR D)).length (rowR (popR D)).length] 46 false, .cells (strsC (rowR (popR D))) 9 false]⟩ := by
          unfold do1_d_d3
          rw [map_toStrV, hp, hr, bytesC_length]
          simp
        rw [e2]
        have hs := h.sz (popS D) (by rw [hr]; exact List.mem_cons_self)
        exact do1_tail_n (popR D) c L (rowR (popR D)) b (popS D) (by omega) (.inl ⟨by rw [g1]; rfl, rfl, rfl⟩)
    | false =>
      have en : newB D d b = false := by unfold newB; rw [h0, h1]; rfl
      rw [en]
      cases h2 : (d == 2) with
      | true =>
        obtain rfl : d = 2 := by simpa using h2
        obtain ⟨g4, g5⟩ := mgrow_of h.ok
        apply do2 D c L b h8
        case pl0 => simp
        case pl1 => simp
        case l2 => exact do2_r0 D c L b (by simp) (by simp) (.inr (.inr ⟨rfl, rfl, by
          rw [h.cap, g5]
          simp only [beq_self_eq_true]
          rfl, rfl⟩))
      | false =>
        cases h3 : (d == 3) with
        | true =>
          obtain rfl : d = 3 := by simpa using h3
          apply do3 D c L b h8
          case pl0 => simp
          case pl1 => simp
          case l2 => exact do3_r0 D c L b (by simp) (by simp) (.inr (.inl ⟨rfl, rfl, rfl, rfl⟩))
        | false =>
          have ea : afterR D d b = D := by unfold afterR; rw [h0, h1, h2, h3]; rfl
          have ec : capA c d = c := by unfold capA; rw [h2]; rfl
          apply do4 D c L b d h8 h0 h1 h2 h3
          case pl0 => simp
          case pl1 => simp
          case l2 => exact do4_r0 D c L b d (by simp) (by simp) (.inr (.inr ⟨rfl, rfl, by rw [ea, ec], rfl⟩))

noncomputable def pinvB (D : RgV) (c : Int) (L : List ByteArray) : Bool := @decide (PInv D c L) (Classical.propDecidable _)
theorem pinvB_of {D : RgV} {c : Int} {L : List ByteArray} (h : PInv D c L) : pinvB D c L = true := decide_cls h
theorem of_pinvB {D : RgV} {c : Int} {L : List ByteArray} (h : pinvB D c L = true) : PInv D c L := @of_decide_eq_true _ (Classical.propDecidable _) h
noncomputable def sumDoes : Sum := ⟨namesA, fun a o => match a, o with
  | [v, .agg ⟨[.int .i64 c, .slice (some ⟨0, 0, none⟩) n0 m0]⟩, .agg ⟨[.int .i64 d, .slice (some ⟨1, 0, none⟩) n n']⟩], [.cells cL el false, .cells cb eb true] => match aR v with
    | some D => .must (pinvB D c (cL.map toStrV) && (cL.all isStrV && (Nat.beq el 9 && (Nat.beq cL.length n0 && (Nat.beq m0 n0 && (Nat.beq eb 5 && (bytesB cb n && (Nat.beq n' n && Nat.ble n 65536))))))))
      (.ask (newB D d (bytesAt cb 0 n)) fun q => match q with
        | true => .done (tupR (afterR D d (bytesAt cb 0 n)) (capA c d) (slL 2 (rowR (afterR D d (bytesAt cb 0 n)))), [.cells cL el false, .cells cb eb true, .cells (strsC (rowR (afterR D d (bytesAt cb 0 n)))) 9 false])
        | false => .ask (d == 3) fun q => match q with
          | true => .done (tupR (afterR D d (bytesAt cb 0 n)) (capA c d) (.slice none 0 0), [.cells cL el false, .cells cb eb true])
          | false => .done (tupR (afterR D d (bytesAt cb 0 n)) (capA c d) (slL 0 (cL.map toStrV)), [.cells cL el false, .cells cb eb true]))
    | none => .fail
  | _, _ => .fail⟩
theorem does_ok : FnOk Try.prog 23 sumDoes := by
  intro a o r o' hr
  unfold sumDoes at hr
  dsimp only at hr
  split at hr
  · split at hr
    · rename_i v c n0 m0 d n n' cL el cb eb _ D hD
      obtain ⟨hc, hr⟩ := QT.run_must hr
      simp only [Bool.and_eq_true] at hc
      obtain ⟨c0, c1, c2, c3, c4, c5, c6, c7, c8⟩ := hc
      have e2 := strs_of c1
      have c3 := Nat.eq_of_beq_eq_true c3
      have c8 := Nat.le_of_ble_eq_true c8
      unfold bytesB at c6
      obtain ⟨c6, c6'⟩ := @of_decide_eq_true _ (Classical.propDecidable _) c6
      obtain ⟨L, hL⟩ : ∃ L, L = cL.map toStrV := ⟨_, rfl⟩
      obtain ⟨b, hb⟩ : ∃ b, b = bytesAt cb 0 n := ⟨_, rfl⟩
      have hl : L.length = n0 := by rw [hL]; simp [c3]
      have h := does_all D c L b d (by rw [hL]; exact of_pinvB c0) (by rw [hb, ← c6']; exact c8)
      rw [← hL, ← hb] at hr
      rw [← hL] at e2
      have e4 : cb = bytesC b := by rw [hb]; exact c6
      have e5 : n = b.size := by rw [hb]; exact c6'
      rw [aR_some hD, Nat.eq_of_beq_eq_true c7, Nat.eq_of_beq_eq_true c4, Nat.eq_of_beq_eq_true c2, Nat.eq_of_beq_eq_true c5, e2, e4, e5, ← hl]
      rw [e2, e4, Nat.eq_of_beq_eq_true c2, Nat.eq_of_beq_eq_true c5] at hr
      refine h.mono fun r2 o2 hro => ?_
      have hr : (match newB D d b with | true => _ | false => _ : QT (CRes × List VObj)).run = some (r, o') := hr
      rcases hro with ⟨g1, rfl, rfl⟩ | ⟨g1, g2, rfl, rfl⟩ | ⟨g1, g2, rfl, rfl⟩
      · rw [g1] at hr
        cases hr
        exact ⟨rfl, rfl⟩
      · rw [g1] at hr
        have hr : (match (d == 3) with | true => _ | false => _ : QT (CRes × List VObj)).run = some (r, o') := hr
        rw [g2] at hr
        cases hr
        exact ⟨rfl, rfl⟩
      · rw [g1] at hr
        have hr : (match (d == 3) with | true => _ | false => _ : QT (CRes × List VObj)).run = some (r, o') := hr
        rw [g2] at hr
        cases hr
        exact ⟨rfl, rfl⟩
    · cases hr
  · cases hr

theorem stands_nil_fn (D : RgV) (c : Int) (h : PInv D c []) : FnT Try.prog 22 [.agg (rgVC D).toArray, .agg #[.int .i64 c, .slice none 0 0]] [] fun r o => r = .ret (.bool true) ∧ o = [] := by
  have h1 := stands_fn D c [] h
  have h2 : FnT Try.prog 22 [.agg (rgVC D).toArray, .agg #[.int .i64 c, .slice none 0 0]] [] fun r o => r = .ret (.bool true) ∧ o = [.cells (strsC []) 9 false] :=
    FnT.nilArg (c := [.int .i64 c, .slice none 0 0]) (i := 1) 9 (s := 1) (by kernel_rfl) (by decide) rfl h1
  exact FnT.trim h2 fun r o hro => ⟨[], [], .ret (.bool true), [], [], by rw [hro.1, hro.2]; rfl, pls_nil, rfl, rfl⟩
noncomputable def gStands (a : List Value) (o : List VObj) : Option (Bool × CRes × List VObj) := match a, o with
  | [v, .agg ⟨[.int .i64 c, .slice (some ⟨0, 0, none⟩) n m]⟩], [.cells cL el false] => match aR v with
    | some D => some (pinvB D c (cL.map toStrV) && (cL.all isStrV && (Nat.beq el 9 && (Nat.beq cL.length n && Nat.beq m n))), .ret (.bool true), [.cells cL el false])
    | none => none
  | [v, .agg ⟨[.int .i64 c, .slice none 0 0]⟩], [] => match aR v with
    | some D => some (pinvB D c [], .ret (.bool true), [])
    | none => none
  | _, _ => none
theorem stands_ok : FnOk Try.prog 22 (Sum.of gStands) := by
  refine FnOk.of fun a o r o' hg => ?_
  unfold gStands at hg
  split at hg
  · split at hg
    · rename_i v c n m cL el _ D hD
      simp only [Option.some.injEq, Prod.mk.injEq, Bool.and_eq_true] at hg
      obtain ⟨⟨h0, h1, h2, h3, h4⟩, rfl, rfl⟩ := hg
      have e2 := strs_of h1
      have hl : (cL.map toStrV).length = n := by simp [Nat.eq_of_beq_eq_true h3]
      have := stands_fn D c (cL.map toStrV) (of_pinvB h0)
      rw [← e2] at this
      unfold slL at this
      rw [hl] at this
      rw [Nat.eq_of_beq_eq_true h2, Nat.eq_of_beq_eq_true h4, aR_some hD]
      exact this
    · cases hg
  · split at hg
    · rename_i v c _ D hD
      simp only [Option.some.injEq, Prod.mk.injEq] at hg
      obtain ⟨h0, rfl, rfl⟩ := hg
      rw [aR_some hD]
      exact stands_nil_fn D c (of_pinvB h0)
    · cases hg
  · cases hg
/- Rows of acts. -/
theorem act1_inj {x y : Act1} (h : act1 x = act1 y) : x = y := by
  obtain ⟨d, b⟩ := x
  obtain ⟨d', b'⟩ := y
  simp only [act1, List.cons.injEq, SV.val.injEq, SV.cells.injEq, Value.int.injEq, true_and, and_true] at h
  obtain ⟨rfl, h1, h2⟩ := h
  have h3 := bytesOf_bytesC b
  rw [h2, bytesOf_bytesC] at h3
  have h4 : b = b' := by
    have : b'.data.toList = b.data.toList := Option.some.inj h3
    cases b; cases b'; simp at this; rw [this]
  rw [h4]
theorem rows1_inj {l l' : List Act1} (h : rows1 l = rows1 l') : l = l' := by
  unfold rows1 at h
  simp only [VObj.rows.injEq, true_and] at h
  obtain ⟨h1, h2⟩ := h
  refine List.ext_getElem h1 fun i hi hi' => ?_
  have h3 := congrFun h2 i
  have h4 := act1_inj h3
  simpa [List.getD, hi, hi'] using h4
open Classical in
noncomputable def rowsOf1 (o : VObj) : List Act1 := if h : ∃ l, o = rows1 l then h.choose else []
@[simp] theorem rowsOf1_rows (l : List Act1) : rowsOf1 (rows1 l) = l := by
  unfold rowsOf1
  have h : ∃ l', rows1 l = rows1 l' := ⟨l, rfl⟩
  rw [dif_pos h]
  exact (rows1_inj h.choose_spec).symm
noncomputable def isRows1 (o : VObj) : Bool := @decide (o = rows1 (rowsOf1 o) ∧ small1 (rowsOf1 o)) (Classical.propDecidable _)
theorem isRows1_rows {l : List Act1} (h : small1 l) : isRows1 (rows1 l) = true := by
  unfold isRows1
  exact decide_cls (by rw [rowsOf1_rows]; exact ⟨rfl, h⟩)
noncomputable def gFew (a : List Value) (o : List VObj) : Option (Bool × CRes × List VObj) := match a, o with
  | [.slice (some ⟨0, 0, none⟩) n m], [o] => some (isRows1 o && (decide (n = (rowsOf1 o).length) && decide (m = (rowsOf1 o).length)), .ret (.bool (few1B (rowsOf1 o))), [o])
  | _, _ => none
theorem few_okS : FnOk Try.prog 11 (Sum.of gFew) := by
  refine FnOk.of fun a o r o' hg => ?_
  unfold gFew at hg
  split at hg
  · simp only [Option.some.injEq, Prod.mk.injEq, Bool.and_eq_true, decide_eq_true_eq] at hg
    obtain ⟨⟨h1, rfl, rfl⟩, rfl, rfl⟩ := hg
    unfold isRows1 at h1
    obtain ⟨h1, h2⟩ := @of_decide_eq_true _ (Classical.propDecidable _) h1
    have := few1_fn _ h2
    rw [← h1] at this
    exact this
  · cases hg
attribute [simp] isRows1_rows
noncomputable def tblRl : List (FuncId × Sum) := (22, Sum.of gStands) :: (23, sumDoes) :: (11, Sum.of gFew) :: tblRg
theorem callsRl : CallsOk Try.prog (callT Try.prog (tblL tblRl) 50 40) := callT_ok plainN mixed (tblL_ok (.cons stands_ok (.cons does_ok (.cons few_okS tblRg_ok)))) 50 40
end Go.Proofs.Ytgdpahojinknmaa
