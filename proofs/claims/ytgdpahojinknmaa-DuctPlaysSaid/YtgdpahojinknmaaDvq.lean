/- What is said of law 22's after, told, awake. -/
import Derived.Test.YtgdpahojinknmaaDvp
namespace Go.Proofs.Ytgdpahojinknmaa
open Go Vm Go.RowKit
set_option linter.unusedVariables false
set_option linter.unusedSimpArgs false
set_option maxRecDepth 100000

def afterD (D : DuctV) (d : Int) (s : ByteArray) (fc fs fi : Int) : DuctV :=
  bif d == 0 then writeD D s else bif d == 1 then readD D else bif d == 2 then shutD D 1 0 0 0 else bif d == 3 then shutD D 2 fc fs fi else bif d == 4 then leaveD D else bif d == 5 then widenD D else D

theorem after_fn (D : DuctV) (d fc fs fi : Int) (c : List Value) (off n cap : Nat) (hD : okD D = true) (hb : isBytes c off n = true) (hp : c.all isScal = true) :
    FnT Try.prog 27 [.agg (ductVC D).toArray, .agg #[.int .i64 d, .slice (some ⟨0, off, none⟩) n cap, .int .i64 fc, .int .i64 fs, .int .i64 fi]] [.cells c 5 true]
      fun r o => r = .ret (.agg (ductVC (afterD D d (bytesAt c off n) fc fs fi)).toArray) ∧ o = [.cells c 5 true] := by
  refine FnT.ofT (n := slotsC Try.prog 27) (by kernel_rfl) ?_
  refine aft D d fc fs fi c off n cap ?_ ?_ ?_ ?_ ?_ ?_ ?_ ?_ ?_ ?_ ?_ ?_
  · intros; exact hp
  · intros; rw [hD, hb, hp]; rfl
  · exact hp
  · intro h0; exact aft_r0 D d fc fs fi c off n cap hp ⟨by simp only [afterD, h0, cond_true, cond_false], rfl⟩
  · intros; exact hD
  · intro h0 h1 h2; exact aft_r1 D d fc fs fi c off n cap hp ⟨by simp only [afterD, h0, h1, cond_true, cond_false], rfl⟩
  · intro h0 h1 h2; exact aft_r2 D d fc fs fi c off n cap hp ⟨by simp only [afterD, h0, h1, cond_true, cond_false], rfl⟩
  · intro h0 h1 h2; exact aft_r3 D d fc fs fi c off n cap hp ⟨by simp only [afterD, h0, h1, h2, cond_true, cond_false], rfl⟩
  · intro h0 h1 h2 h3; exact aft_r4 D d fc fs fi c off n cap hp ⟨by simp only [afterD, h0, h1, h2, h3, cond_true, cond_false], rfl⟩
  · intro h0 h1 h2 h3 h4; exact aft_r5 D d fc fs fi c off n cap hp ⟨by simp only [afterD, h0, h1, h2, h3, h4, cond_true, cond_false], rfl⟩
  · intro h0 h1 h2 h3 h4 h5; exact aft_r6 D d fc fs fi c off n cap hp ⟨by simp only [afterD, h0, h1, h2, h3, h4, h5, cond_true, cond_false], rfl⟩
  · intro h0 h1 h2 h3 h4 h5; exact aft_r7 D d fc fs fi c off n cap hp ⟨by simp only [afterD, h0, h1, h2, h3, h4, h5, cond_true, cond_false], rfl⟩

/- What is a duct stays one. -/
theorem bif_of {α : Type} {C : α → Prop} (b : Bool) {x y : α} (h1 : b = true → C x) (h2 : b = false → C y) : C (bif b then x else y) := by
  cases b with
  | true => exact h1 rfl
  | false => exact h2 rfl
def OkD (D : DuctV) : Prop := okD D = true
theorem okD_write {D : DuctV} (h : okD D = true) (s : ByteArray) : okD (writeD D s) = true := by
  obtain ⟨f0, f8, n0, nk, k8⟩ := okD_iff.1 h
  show OkD _
  unfold writeD
  repeat' (with_reducible refine bif_of (C := OkD) _ ?_ ?_ <;> intro hd)
  all_goals first | exact h | skip
  all_goals refine okD_iff.2 ?_
  all_goals dsimp only [setD]
  · have hd : D.n ≠ D.k := by simpa using hd
    have e : w64 (D.n + 1) = D.n + 1 := wrap_nat (by omega) (by omega)
    rw [e]; omega
theorem okD_read {D : DuctV} (h : okD D = true) : okD (readD D) = true := by
  obtain ⟨f0, f8, n0, nk, k8⟩ := okD_iff.1 h
  show OkD _
  unfold readD
  with_reducible refine bif_of (C := OkD) _ ?_ ?_ <;> intro hd
  · exact h
  · refine okD_iff.2 ?_
    dsimp only [setD]
    have hd : D.n ≠ 0 := by simpa using hd
    have e : w64 (D.n - 1) = D.n - 1 := wrap_nat (by omega) (by omega)
    have e2 : w64 (D.f + 1) = D.f + 1 := wrap_nat (by omega) (by omega)
    rw [e, e2, Int.tmod_eq_emod_of_nonneg (by omega)]; omega
theorem okD_shut {D : DuctV} (h : okD D = true) (a b c d : Int) : okD (shutD D a b c d) = true := by
  show OkD _
  unfold shutD
  repeat' (with_reducible refine bif_of (C := OkD) _ ?_ ?_ <;> intro hd)
  all_goals exact h
theorem okD_leave {D : DuctV} (h : okD D = true) : okD (leaveD D) = true := by
  obtain ⟨f0, f8, n0, nk, k8⟩ := okD_iff.1 h
  show OkD _
  unfold leaveD
  repeat' (with_reducible refine bif_of (C := OkD) _ ?_ ?_ <;> intro hd)
  · exact h
  · refine okD_iff.2 ?_
    dsimp only; omega
theorem okD_widen {D : DuctV} (h : okD D = true) : okD (widenD D) = true := by
  obtain ⟨f0, f8, n0, nk, k8⟩ := okD_iff.1 h
  show OkD _
  unfold widenD
  repeat' (with_reducible refine bif_of (C := OkD) _ ?_ ?_ <;> intro hd)
  · exact h
  · exact h
  · refine okD_iff.2 ?_
    have hd : D.k ≠ 8 := by simpa using hd
    have e : w64 (D.k + 1) = D.k + 1 := wrap_nat (by omega) (by omega)
    dsimp only
    rw [e]; omega
theorem okD_after {D : DuctV} (h : okD D = true) (d : Int) (s : ByteArray) (fc fs fi : Int) : okD (afterD D d s fc fs fi) = true := by
  show OkD _
  unfold afterD
  repeat' (with_reducible refine bif_of (C := OkD) _ ?_ ?_ <;> intro hd)
  · exact okD_write h s
  · exact okD_read h
  · exact okD_shut h _ _ _ _
  · exact okD_shut h _ _ _ _
  · exact okD_leave h
  · exact okD_widen h
  · exact h
theorem okD_new (c : Int) : okD (newD c) = true := by
  show OkD _
  unfold newD
  repeat' (with_reducible refine bif_of (C := OkD) _ ?_ ?_ <;> intro hd)
  · rfl
  · rfl
  · have h1 : 1 ≤ c := by simp at *; omega
    have h2 : c ≤ 8 := by simp at *; omega
    refine okD_iff.2 ?_
    dsimp only [zeroD]; omega

/- told. -/
def gotS (D : DuctV) : ByteArray := bif readK D == 1 then readS D else ByteArray.empty
def gotC (D : DuctV) : ByteArray := ByteArray.mk #[UInt8.ofNat (Int.toNat (IntKind.wrap IntKind.u8 (IntKind.wrap IntKind.i64 (48 + readK D))))]
def tolN : Nat → DuctV → List ByteArray
  | 0, _ => []
  | k + 1, D => [gotS D, gotC D] ++ tolN k (readD D)
def rdN : Nat → DuctV → DuctV
  | 0, D => D
  | k + 1, D => rdN k (readD D)
theorem tolN_len : ∀ k D, (tolN k D).length = 2 * k
  | 0, D => rfl
  | k + 1, D => by simp [tolN, tolN_len k]; omega
theorem tolN_snoc : ∀ k D, tolN (k + 1) D = tolN k D ++ [gotS (rdN k D), gotC (rdN k D)]
  | 0, D => rfl
  | k + 1, D => by
    rw [tolN, tolN_snoc k, tolN, rdN]
    simp
theorem rdN_snoc : ∀ k D, rdN (k + 1) D = readD (rdN k D)
  | 0, D => rfl
  | k + 1, D => by rw [rdN, rdN_snoc k, rdN]
theorem okD_rdN {D : DuctV} (h : okD D = true) : ∀ k, okD (rdN k D) = true
  | 0 => h
  | k + 1 => by rw [rdN_snoc]; exact okD_read (okD_rdN h k)
@[simp] theorem str_bytes (b : ByteArray) : ByteArray.mk (List.toArray (Option.getD (Option.bind (cut (bytesC b) 0 b.size) bytesOf) [])) = b := bytesAt_all b
@[simp] theorem isSome_bytes (b : ByteArray) : Option.isSome (Option.bind (cut (bytesC b) 0 b.size) bytesOf) = true := isBytes_all b

def toldI (s : DuctV × Int × List ByteArray) : Desc := match s.2.2 with
  | [] => ⟨[(1, .pointer (some ⟨0, 0, none⟩)), (3, .slice none 0 0), (4, .int .i64 s.2.1)], [.cells (ductVC s.1) 58 false]⟩
  | x :: L => ⟨[(1, .pointer (some ⟨0, 0, none⟩)), (3, .slice (some ⟨1, 0, none⟩) (x :: L).length (x :: L).length), (4, .int .i64 s.2.1)], [.cells (ductVC s.1) 58 false, .cells (strsC (x :: L)) 9 false]⟩
theorem toldI_ne {D : DuctV} {j : Int} {L : List ByteArray} (h : L ≠ []) : toldI (D, j, L) = ⟨[(1, .pointer (some ⟨0, 0, none⟩)), (3, .slice (some ⟨1, 0, none⟩) L.length L.length), (4, .int .i64 j)], [.cells (ductVC D) 58 false, .cells (strsC L) 9 false]⟩ := by
  cases L with
  | nil => exact absurd rfl h
  | cons x L => rfl
theorem told_next (D : DuctV) (j : Int) (L : List ByteArray) (h : 0 ≤ j ∧ j ≤ 10) (a b : ByteArray) : (⟨[(1, .pointer (some ⟨0, 0, none⟩)), (3, .slice (some ⟨1, 0, none⟩) (List.length L + 2) (List.length L + 2)), (4, .int .i64 (IntKind.wrap IntKind.i64 (j + 1)))], [.cells (ductVC D) 58 false, .cells (strsC L ++ [Value.string a, Value.string b]) 9 false]⟩ : Desc)
    = toldI (D, j + 1, L ++ [a, b]) := by
  rw [toldI_ne (by simp), wrap_nat (by omega) (by omega), ← strAppend]
  simp [strsC]

theorem told_fn (D : DuctV) (hD : okD D = true) : FnT Try.prog 28 [.agg (ductVC D).toArray] [] fun r o => r = .ret (.slice (some ⟨0, 0, none⟩) 20 20) ∧ o = [.cells (strsC (tolN 10 D)) 9 false] := by
  refine FnT.ofT (n := slotsC Try.prog 28) (by kernel_rfl) ?_
  refine tol_a D ?_
  refine TriL.blockAt 3 0 (by kernel_rfl) ?_
  refine TriL.loopAt toldI (fun s => (10 - s.2.1).toNat) (fun s => 0 ≤ s.2.1 ∧ s.2.1 ≤ 10 ∧ s.1 = rdN s.2.1.toNat D ∧ s.2.2 = tolN s.2.1.toNat D) (D, 0, []) (by kernel_rfl) ⟨Int.le_refl 0, (by omega : (0 : Int) ≤ 10), rfl, rfl⟩ ?_
  rintro ⟨D', j, L⟩ ⟨h0, h1, h2, h3⟩
  dsimp only at h0 h1 h2 h3
  have ok' : okD D' = true := by rw [h2]; exact okD_rdN hD _
  have hlen : L.length = 2 * j.toNat := by rw [h3, tolN_len]
  have hj : (j + 1).toNat = j.toNat + 1 := by omega
  have nxt : ∀ a b, a = gotS D' → b = gotC D' → j ≤ 9 → QL toldI (fun s => (10 - s.2.1).toNat) (fun s => 0 ≤ s.2.1 ∧ s.2.1 ≤ 10 ∧ s.1 = rdN s.2.1.toNat D ∧ s.2.2 = tolN s.2.1.toNat D) (D', j, L)
      (QB 0 (fun d' => TriL Try.prog (slotsC Try.prog 28) ([] : List VObj).length (List.drop (3 + 1) (flat2 (bodyC Try.prog 28))) d' (FinT Try.prog 28 (slotsC Try.prog 28) ([] : List VObj).length fun r o => r = .ret (.slice (some ⟨0, 0, none⟩) 20 20) ∧ o = [.cells (strsC (tolN 10 D)) 9 false])) (FinT Try.prog 28 (slotsC Try.prog 28) ([] : List VObj).length fun r o => r = .ret (.slice (some ⟨0, 0, none⟩) 20 20) ∧ o = [.cells (strsC (tolN 10 D)) 9 false])) .normal
      ⟨[(1, .pointer (some ⟨0, 0, none⟩)), (3, .slice (some ⟨1, 0, none⟩) (List.length L + 2) (List.length L + 2)), (4, .int .i64 (IntKind.wrap IntKind.i64 (j + 1)))], [.cells (ductVC (readD D')) 58 false, .cells (strsC L ++ [Value.string a, Value.string b]) 9 false]⟩ := by
    rintro a b rfl rfl hj9
    refine QL.to (readD D', j + 1, L ++ [gotS D', gotC D']) ⟨?_, ?_, ?_, ?_⟩ ?_ (told_next _ _ _ ⟨h0, h1⟩ _ _) <;> dsimp only
    · omega
    · omega
    · rw [hj, rdN_snoc, h2]
    · rw [hj, tolN_snoc, h3, h2]
    · omega
  cases L with
  | nil =>
    refine tol_b0 D' j ?_ ?_ ?_ ?_ ?_
    · intros; exact ok'
    · intros; simp
    · intro h4 h5
      have h4 := of_decide_eq_true h4
      exact nxt _ _ (by simp [gotS, h5]) (by have : readK D' = 1 := by simpa using h5
                                             simp [gotC, this]; rfl) h4
    · intro h4 h5
      have h4 := of_decide_eq_true h4
      exact nxt _ _ (by simp [gotS, h5]) rfl h4
    · intro h4
      have h4 := of_decide_eq_false h4
      exfalso
      simp at hlen
      omega
  | cons x L' =>
    refine tol_b1 D' j (x :: L') ?_ ?_ ?_ ?_ ?_ ?_ ?_ ?_
    · intros; exact ok'
    · intros; simp
    · intros; simp; simp at hlen; omega
    · intro h4 h5
      have h4 := of_decide_eq_true h4
      exact nxt _ _ (by simp [gotS, h5]) (by have : readK D' = 1 := by simpa using h5
                                             simp [gotC, this]; rfl) h4
    · intros; simp; simp at hlen; omega
    · intro h4 h5
      have h4 := of_decide_eq_true h4
      exact nxt _ _ (by simp [gotS, h5]) rfl h4
    · simp
    · intro h4
      have h4 := of_decide_eq_false h4
      repeat (first | with_reducible refine QL.ret ?_ | with_reducible refine QL.exit ?_ | with_reducible refine QB.ret ?_ | with_reducible refine QB.hit ?_ | with_reducible refine QB.normal ?_ | with_reducible refine QB.miss (by rfl) ?_)
      refine tol_c (x :: L') ?_ ?_
      · simp
      · have e : j.toNat = 10 := by omega
        rw [e] at h3 hlen
        refine tol_c_r0 (x :: L') ?_ ?_
        · simp
        · rw [hlen, h3]; exact ⟨rfl, rfl⟩

theorem awake_fn : FnT Try.prog 26 [] [] fun r o => r = .ret (.bool true) ∧ o = [] := by
  refine FnT.ofT (n := slotsC Try.prog 26) (by kernel_rfl) ?_
  exact awa (awa_r0 ⟨rfl, rfl⟩)
end Go.Proofs.Ytgdpahojinknmaa
