/- The small machine, its fifth text: operations that only reckon. -/
import Derived.Test.YtdbjloigfkckfaaGreatDoorVmE
import Derived.Laws.BytesString
import Derived.Laws.BytesArg
import Derived.Laws.Slices
namespace Go.Proofs.YtdbjloigfkckfaaGreatDoor.Vm
open Go.RowKit
set_option linter.unusedVariables false
set_option linter.unusedSimpArgs false

section
variable {P : Program} {B : Nat → Prop} {w₀ : World} {ρ : Ren} {g : Nat → Option VObj} {n : Nat} {w : World}

theorem pickV_ok (hw : WR P B w₀ ρ g w) {c c' a a' b b' : Value} (hc : VR ρ c c') (ha : VR ρ a a') (hb : VR ρ b b') {out : OOut} {l : List Nat}
    (h : (pickV c a b).run g = some (out, l)) : Fits P B w₀ ρ g n out ((do pure (Next.value (if ← asBool c' then a' else b')) : Sem Next).run P w) := by
  unfold pickV at h
  split at h
  · rw [hc.bool_inv]; exact Fits.of_val hw h ha
  · rw [hc.bool_inv]; exact Fits.of_val hw h hb
  · cases h

theorem nilCheckV_ok (hw : WR P B w₀ ρ g w) {v v' : Value} (hv : VR ρ v v') {out : OOut} {l : List Nat} (h : (nilCheckV P v).run g = some (out, l)) (e' : Operand → Value) (x : Operand) (he : e' x = v')
    (o : Oper) (ho : o.op = .nilCheck x) : Fits P B w₀ ρ g n out ((execOp e' o).run P w) := by
  unfold execOp
  rw [ho]
  simp only [he]
  unfold nilCheckV at h
  split at h
  · cases hv with
    | scal _ hs => cases hs
    | ptr b off r hr => exact Fits.of_val hw h (.ptr b off r hr)
  · obtain ⟨f', c', rfl, h1, h2⟩ := hv.func_inv
    exact Fits.of_val hw h (.func _ _ _ _ _ rfl h1.len h1.at_ h2.len h2.at_)
  · obtain ⟨u', rfl, h1⟩ := hv.iface_inv
    exact Fits.of_val hw h (.iface _ _ _ h1)
  · cases hv; exact fits_pure hw h
  · cases hv; exact fits_pure hw h
  · cases hv; exact fits_pure hw h
  · cases h

theorem equal_unfold (t : TypeId) (x y : Value) : Op.equal t x y = Op.equalIn (9999 + 1) t x y := rfl

theorem run_eq_of {t : TypeId} {x y : Operand} {a b : Value} {r : Bool} (neg : Bool) (h1 : binOp .eql t a b = (do pure (.bool (← Op.equal t a b))))
    (h2 : binOp .neq t a b = (do pure (.bool (!(← Op.equal t a b))))) (hg : ∀ op, (eqGuard op t x y a b).run P w = .ok () w) (he : (Op.equal t a b).run P w = .ok r w) :
    ((do eqGuard (if neg then .neq else .eql) t x y a b; binOp (if neg then .neq else .eql) t a b) : Sem Value).run P w = .ok (.bool (r != neg)) w := by
  rw [Sem.run_bind, hg, Result.andThen_ok]
  cases neg with
  | false => simp only [Bool.false_eq_true, if_false]; rw [h1, Sem.run_bind, he]; simp
  | true => simp only [if_true]; rw [h2, Sem.run_bind, he]; simp

theorem eqV_ok (hw : WR P B w₀ ρ g w) {t : TypeId} {x y : Operand} {a a' b b' : Value} (ha : VR ρ a a') (hb : VR ρ b b') (neg : Bool) {out : OOut} {l : List Nat}
    (h : (eqV P t a b neg).run g = some (out, l)) :
    Fits P B w₀ ρ g n out ((do let v ← (do eqGuard (if neg then .neq else .eql) t x y a' b'; binOp (if neg then .neq else .eql) t a' b'); pure (Next.value v) : Sem Next).run P w) := by
  unfold eqV at h
  split at h
  · rename_i d hd
    split at h
    · rename_i r hr
      have key : ((do eqGuard (if neg then .neq else .eql) t x y a' b'; binOp (if neg then .neq else .eql) t a' b') : Sem Value).run P w = .ok (.bool (r != neg)) w := by
        unfold nilEq at hr
        split at hr <;> first
          | (cases hr; done)
          | (split at hr <;> first
              | (cases hr; done)
              | (rename_i hcap
                 simp only [Option.some.injEq] at hr
                 subst hr
                 cases ha <;> cases hb <;> first
                   | exact run_eq_of neg rfl rfl (fun op => by unfold eqGuard; split <;> rfl) (by rw [equal_unfold]; unfold Op.equalIn; rw [Sem.run_bind, run_underlying hd, Result.andThen_ok]; rfl)
                   | (cases hcap; done)
                   | (rename_i h1 h2; cases h1; done)
                   | (rename_i h1 h2; cases h2; done)
                   | (rename_i h1; cases h1; done)))
          | (simp only [Option.some.injEq] at hr
             subst hr
             cases ha <;> cases hb <;> first
               | exact run_eq_of neg rfl rfl (fun op => by unfold eqGuard; split <;> rfl) (by rw [equal_unfold]; unfold Op.equalIn; rw [Sem.run_bind, run_underlying hd, Result.andThen_ok]; rfl)
               | (rename_i h1 h2; cases h1; done)
               | (rename_i h1 h2; cases h2; done)
               | (rename_i h1; cases h1; done))
      rw [Sem.run_bind, key]
      exact Fits.of_val hw h (.scal _ rfl)
    · cases h
  · cases h

theorem binV_ok (hw : WR P B w₀ ρ g w) {op : BinOp} {t : TypeId} {x y : Operand} {a a' b b' : Value} (ha : VR ρ a a') (hb : VR ρ b b') {out : OOut} {l : List Nat}
    (h : (binV P op t x y a b).run g = some (out, l)) :
    Fits P B w₀ ρ g n out ((do let v ← (do eqGuard op t x y a' b'; binOp op t a' b'); pure (Next.value v) : Sem Next).run P w) := by
  unfold binV at h
  split at h
  · rename_i hf
    simp only [Bool.and_eq_true] at hf
    rw [fl_inv hf.1 ha, fl_inv hf.2 hb]
    split at h
    · rename_i r hr
      rw [Sem.run_bind, aggEq_ok hr]
      exact Fits.of_val hw h (.scal _ rfl)
    · exact fits_pure hw h
  · split at h
    · exact eqV_ok hw ha hb false h
    · exact eqV_ok hw ha hb true h
    · cases h

theorem unV_ok (hw : WR P B w₀ ρ g w) {op : UnOp} {a a' : Value} (ha : VR ρ a a') {out : OOut} {l : List Nat} (h : (unV P op a).run g = some (out, l)) :
    Fits P B w₀ ρ g n out ((do let v ← Op.unary op a'; pure (Next.value v) : Sem Next).run P w) := by
  unfold unV at h
  split at h
  · rename_i hf
    rw [fl_inv hf ha]
    exact fits_pure hw h
  · cases h

theorem ifaceV_ok (hw : WR P B w₀ ρ g w) {t : TypeId} {a a' : Value} (ha : VR ρ a a') {out : OOut} {l : List Nat} (h : (ifaceV P t a).run g = some (out, l)) :
    Fits P B w₀ ρ g n out ((do let v ← Instr.makeInterface t a'; pure (Next.value v) : Sem Next).run P w) := by
  unfold ifaceV at h
  split at h
  · cases h
  · rename_i d hd hu
    have : (Instr.makeInterface t a').run P w = .ok (.iface t a') w := by
      unfold Instr.makeInterface
      rw [Sem.run_bind, run_underlying hu, Result.andThen_ok]
      split
      · exact absurd rfl (hd _)
      · rfl
    rw [Sem.run_bind, this]
    exact Fits.of_val hw h (.iface _ _ _ ha)
  · cases h

theorem makeFuncV_ok (hw : WR P B w₀ ρ g w) {fn : Fn} {f c : List Value} {f' c' : Array Value} (hf : LR ρ f f'.toList) (hc : LR ρ c c'.toList) {out : OOut} {l : List Nat}
    (h : (makeFuncV fn f c).run g = some (out, l)) : Fits P B w₀ ρ g n out ((do let v ← Instr.makeFunc fn f' c'; pure (Next.value v) : Sem Next).run P w) := by
  unfold makeFuncV at h
  split at h <;> first
    | (cases h; done)
    | exact Fits.of_val hw h (.func _ _ _ _ _ rfl (by simpa using hf.len) (by simpa using hf.at_) (by simpa using hc.len) (by simpa using hc.at_))

theorem extractV_ok (hw : WR P B w₀ ρ g w) {x x' : Value} (hx : VR ρ x x') (i : Nat) {out : OOut} {l : List Nat} (h : (extractV x i).run g = some (out, l)) :
    Fits P B w₀ ρ g n out ((do let v ← Instr.extract x' i; pure (Next.value v) : Sem Next).run P w) := by
  unfold extractV at h
  split at h
  · obtain ⟨c', rfl, hl⟩ := hx.tuple_inv
    split at h
    · rename_i v hv
      obtain ⟨v', h1, h2⟩ := hl.get hv
      have h1' : c'[i]? = some v' := by simpa using h1
      have : (Instr.extract (.tuple c') i).run P w = .ok v' w := by unfold Instr.extract; simp only [h1']; rfl
      rw [Sem.run_bind, this]
      exact Fits.of_val hw h h2
    · cases h
  · cases h

theorem assertV_ok (hw : WR P B w₀ ρ g w) {x x' : Value} (hx : VR ρ x x') (xt at_ : TypeId) (ok : Bool) {out : OOut} {l : List Nat} (h : (assertV P x at_ ok).run g = some (out, l)) :
    Fits P B w₀ ρ g n out ((do let v ← Instr.typeAssert x' xt at_ ok; pure (Next.value v) : Sem Next).run P w) := by
  unfold assertV at h
  split at h
  · cases h
  · rename_i d t v hu hd
    obtain ⟨u', rfl, h1⟩ := hx.iface_inv
    split at h
    · rename_i ht
      have ht := Nat.eq_of_beq_eq_true ht
      subst ht
      have : (Instr.typeAssert (.iface t u') xt t ok).run P w = .ok (if ok then .tuple #[u', .bool true] else u') w := by
        unfold Instr.typeAssert
        rw [Sem.run_bind, run_underlying hd, Result.andThen_ok]
        split <;> simp_all
      rw [Sem.run_bind, this]
      cases ok with
      | true => exact Fits.of_val hw h (.tuple_of (LR.cons h1 (LR.cons (.scal _ rfl) (LR.nil ρ))))
      | false => exact Fits.of_val hw h h1
    · cases h
  · cases h

theorem panicV_ok (hw : WR P B w₀ ρ g w) {x x' : Value} (hx : VR ρ x x') {out : OOut} {l : List Nat} (h : (panicV P x).run g = some (out, l)) :
    Fits P B w₀ ρ g n out ((do let v ← Instr.panic x'; pure (Next.value v) : Sem Next).run P w) := by
  unfold panicV at h
  split at h
  · rename_i hf
    rw [fl_inv hf hx]
    exact fits_pure hw h
  · cases h

theorem fieldOff_some {s i off ft k : Nat} (h : fieldOff P s i = some (off, ft, k)) :
    ∃ fs f, P.underlying s = some (.struct fs) ∧ fs[i]? = some f ∧ f.offset = off ∧ f.type = ft ∧ szOf P ft = some k ∧ k ≠ 0 := by
  unfold fieldOff at h
  split at h
  · rename_i fs hu
    split at h
    · rename_i f hf
      split at h
      · rename_i m hm
        simp only [Option.some.injEq, Prod.mk.injEq] at h
        obtain ⟨rfl, rfl, rfl⟩ := h
        exact ⟨fs, f, hu, hf, rfl, rfl, hm, by omega⟩
      · cases h
    · cases h
  · cases h

theorem run_fieldPlace {f : Field} {k : Nat} (h : szOf P f.type = some k) (hk : k ≠ 0) (b off : Nat) : (fieldPlace ⟨b, off, none⟩ f).run P w = .ok ⟨b, off + f.offset, none⟩ w := by
  unfold fieldPlace
  rw [Sem.run_bind, run_sizeOf h, Result.andThen_ok, if_neg hk, addr_add0]
  rfl

theorem fieldAddrV_ok (hw : WR P B w₀ ρ g w) {s : TypeId} {x x' : Value} (hx : VR ρ x x') (i : Nat) {out : OOut} {l : List Nat} (h : (fieldAddrV P s x i).run g = some (out, l)) :
    Fits P B w₀ ρ g n out ((do let v ← Instr.fieldAt s x' i; pure (Next.value v) : Sem Next).run P w) := by
  unfold fieldAddrV at h
  split at h
  · rename_i b off d ft k hd
    obtain ⟨r, hr, rfl⟩ := hx.ptr_inv
    obtain ⟨fs, f, hu, hf, rfl, rfl, hk, hk0⟩ := fieldOff_some hd
    have : (Instr.fieldAt s (.pointer (some ⟨r.blk, r.sh + off, none⟩)) i).run P w = .ok (.pointer (some ⟨r.blk, r.sh + off + f.offset, none⟩)) w := by
      unfold Instr.fieldAt
      rw [Sem.run_bind, run_underlying hu, Result.andThen_ok]
      simp only [hf]
      simp only [Instr.sureAddr, Sem.run_bind, Sem.run_pure, Result.andThen_ok, run_fieldPlace hk hk0]
    rw [Sem.run_bind, this]
    exact Fits.of_val hw h (by rw [Nat.add_assoc]; exact .ptr _ _ _ hr)
  · cases h

theorem partV_ok (hw : WR P B w₀ ρ g w) {ft : TypeId} {cs : List Value} {cs' : Array Value} (hl : LR ρ cs cs'.toList) {d k : Nat} (hk : szOf P ft = some k) {out : OOut} {l : List Nat}
    (h : (partV P ft cs d k).run g = some (out, l)) : Fits P B w₀ ρ g n out ((do let v ← part ft cs' d; pure (Next.value v) : Sem Next).run P w) := by
  unfold partV at h
  split at h
  · rename_i hagg
    split at h
    · rename_i c hc
      obtain ⟨hle, rfl⟩ := cut_some hc
      have hs := hl.len
      rw [Sem.run_bind, run_part hk (.inl ⟨hagg, by simp at hs; omega, rfl⟩)]
      refine Fits.of_val hw h ?_
      have : (cs'.extract d (d + k)) = ((cs'.toList.drop d).take k).toArray := by
        apply Array.ext'
        simp [Array.toList_extract, List.extract_eq_take_drop]
      rw [this]
      exact .agg_of ((hl.drop d).take k)
    · cases h
  · rename_i hagg
    split at h
    · rename_i v hv
      obtain ⟨v', h1, h2⟩ := hl.get hv
      rw [Sem.run_bind, run_part hk (.inr ⟨hagg, by simpa using h1⟩)]
      exact Fits.of_val hw h h2
    · cases h
  · cases h

theorem fieldV_ok (hw : WR P B w₀ ρ g w) {s : TypeId} {x x' : Value} (hx : VR ρ x x') (i : Nat) {out : OOut} {l : List Nat} (h : (fieldV P s x i).run g = some (out, l)) :
    Fits P B w₀ ρ g n out ((do let v ← Instr.field s x' i; pure (Next.value v) : Sem Next).run P w) := by
  unfold fieldV at h
  split at h
  · rename_i cs d ft k hd
    obtain ⟨c', rfl, hl⟩ := hx.agg_inv
    obtain ⟨fs, f, hu, hf, rfl, rfl, hk, hk0⟩ := fieldOff_some hd
    have := partV_ok (n := n) hw hl hk h
    have e : (Instr.field s (.agg c') i).run P w = (part f.type c' f.offset).run P w := by
      unfold Instr.field
      rw [Sem.run_bind, run_underlying hu, Result.andThen_ok]
      simp only [hf, asAgg, Sem.run_bind, Sem.run_pure, Result.andThen_ok]
    rw [Sem.run_bind, e]
    rwa [Sem.run_bind] at this
  · cases h

theorem nOf_some {v : Value} {i : Nat} (h : nOf v = some i) : ∃ k, v = .int k (i : Int) := by
  unfold nOf at h
  split at h
  · rename_i k m; cases h; exact ⟨k, rfl⟩
  · cases h

theorem indexAddrV_ok (hw : WR P B w₀ ρ g w) {t : TypeId} {x x' i i' : Value} (hx : VR ρ x x') (hi : VR ρ i i') {out : OOut} {l : List Nat} (h : (indexAddrV P t x i).run g = some (out, l)) :
    Fits P B w₀ ρ g n out ((do let v ← Instr.indexAt t x' i'; pure (Next.value v) : Sem Next).run P w) := by
  unfold indexAddrV at h
  split at h
  · rename_i k el b off j hu hj
    obtain ⟨ik, rfl⟩ := nOf_some hj
    obtain ⟨r, hr, rfl⟩ := hx.ptr_inv
    rw [hi.int_inv]
    split at h
    · rename_i size hs hlt
      have hlt : j < k := by simp [Nat.blt] at hlt; omega
      have : (Instr.indexAt t (.pointer (some ⟨r.blk, r.sh + off, none⟩)) (.int ik j)).run P w = .ok (.pointer (some ⟨r.blk, r.sh + off + j * size, none⟩)) w := by
        unfold Instr.indexAt
        simp only [asIntOf, Sem.run_bind, Sem.run_pure, Result.andThen_ok, run_underlying hu, Instr.sureAddr]
        rw [if_pos ⟨by omega, by omega⟩]
        simp only [Sem.run_bind, run_sizeOf hs, Result.andThen_ok, Sem.run_pure, addr_add0, Int.toNat_natCast]
      rw [Sem.run_bind, this]
      exact Fits.of_val hw h (by rw [Nat.add_assoc]; exact .ptr _ _ _ hr)
    · cases h
  · rename_i el b off len cap j hu hj
    obtain ⟨ik, rfl⟩ := nOf_some hj
    rw [hi.int_inv]
    split at h
    · rename_i size hs hlt
      have hlt : j < len := by simp [Nat.blt] at hlt; omega
      cases hx with
      | scal _ h => cases h
      | slE => omega
      | sl _ _ _ _ cap' r hr hc =>
        have : (Instr.indexAt t (.slice (some ⟨r.blk, r.sh + off, none⟩) len cap') (.int ik j)).run P w = .ok (.pointer (some ⟨r.blk, r.sh + off + j * size, none⟩)) w := by
          unfold Instr.indexAt
          simp only [asIntOf, Sem.run_bind, Sem.run_pure, Result.andThen_ok, run_underlying hu, Instr.sureAddr]
          rw [if_pos ⟨by omega, by omega⟩]
          simp only [Sem.run_bind, run_sizeOf hs, Result.andThen_ok, Sem.run_pure, addr_add0, Int.toNat_natCast]
        rw [Sem.run_bind, this]
        exact Fits.of_val hw h (by rw [Nat.add_assoc]; exact .ptr _ _ _ hr)
    · cases h
  · cases h

theorem indexV_ok (hw : WR P B w₀ ρ g w) {t : TypeId} {x x' i i' : Value} (hx : VR ρ x x') (hi : VR ρ i i') {out : OOut} {l : List Nat} (h : (indexV P t x i).run g = some (out, l)) :
    Fits P B w₀ ρ g n out ((do let v ← Instr.index t x' i'; pure (Next.value v) : Sem Next).run P w) := by
  unfold indexV at h
  split at h
  · split at h
    · rename_i hf
      rw [hx.string_inv, fl_inv hf hi]
      exact fits_pure hw h
    · cases h
  · obtain ⟨c', rfl, hl⟩ := hx.agg_inv
    split at h
    · rename_i k el j hu hj
      obtain ⟨ik, rfl⟩ := nOf_some hj
      rw [hi.int_inv]
      split at h
      · rename_i size hs hlt
        have hlt : j < k := by simp [Nat.blt] at hlt; omega
        have := partV_ok (n := n) hw hl hs h
        have e : (Instr.index t (.agg c') (.int ik j)).run P w = (part el c' (j * size)).run P w := by
          unfold Instr.index
          simp only [asIntOf, Sem.run_bind, Sem.run_pure, Result.andThen_ok, run_underlying hu]
          rw [if_pos ⟨by omega, by omega⟩]
          simp only [Sem.run_bind, run_sizeOf hs, Result.andThen_ok, Int.toNat_natCast]
        rw [Sem.run_bind, e]
        rwa [Sem.run_bind] at this
      · cases h
    · cases h
  · cases h
end
end Go.Proofs.YtdbjloigfkckfaaGreatDoor.Vm
