/- The small machine, its eleventh text: methods and calls; every operation. -/
import Derived.Test.YtdbjloigfkckfaaGreatDoorVm10
namespace Go.Proofs.YtdbjloigfkckfaaGreatDoor.Vm
open Go.RowKit
set_option linter.unusedVariables false
set_option linter.unusedSimpArgs false

section
variable {P : Program} {B : Nat → Prop} {w₀ : World} {ρ : Ren} {g : Nat → Option VObj} {n : Nat} {w : World}

inductive PlR (ρ : Ren) : Pl → Place → Prop where
  | val (v v' : Value) (h : VR ρ v v') : PlR ρ (.val v) (.val v')
  | var (b off : Nat) (r : Where) (h : ρ b = some r) : PlR ρ (.var b off) (.var ⟨r.blk, r.sh + off, none⟩)

theorem get_ok (hw : WR P B w₀ ρ g w) {t : TypeId} {x : Pl} {x' : Place} (hx : PlR ρ x x') {v : Value} {l : List Nat}
    (h : (getV P t x).run g = some (v, l)) : ∃ v', (x'.get t).run P w = .ok v' w ∧ VR ρ v v' := by
  cases hx with
  | val u u' hu =>
    simp only [getV, Rd.run, Option.some.injEq, Prod.mk.injEq] at h
    obtain ⟨rfl, rfl⟩ := h
    exact ⟨u', rfl, hu⟩
  | var b off r hr =>
    obtain ⟨v', h1, h2⟩ := ldV_ok hw h hr
    exact ⟨v', h1, h2⟩

theorem followV_ok (hw : WR P B w₀ ρ g w) : ∀ {path : List FieldStep} {t : TypeId} {x : Pl} {x' : Place}, PlR ρ x x' → ∀ {t2 : TypeId} {y : Pl} {l : List Nat}, (followV P path t x).run g = some ((t2, y), l) →
    ∃ y', (follow path t x').run P w = .ok (t2, y') w ∧ PlR ρ y y' := by
  intro path
  induction path with
  | nil =>
    intro t x x' hx t2 y l h
    simp only [followV, Rd.run, Option.some.injEq, Prod.mk.injEq] at h
    obtain ⟨⟨rfl, rfl⟩, _⟩ := h
    exact ⟨x', rfl, hx⟩
  | cons s rest ih =>
    intro t x x' hx t2 y l h
    unfold followV at h
    split at h
    · cases h
    · rename_i off ft k hf
      obtain ⟨fs, f, hu, hfs, rfl, rfl, hk, hk0⟩ := fieldOff_some hf
      split at h
      · rename_i hd
        obtain ⟨v, l1, l2, h1, h2, rfl⟩ := (Rd.run_bind _ _ _ _ _).1 h
        obtain ⟨v', h3, h4⟩ := get_ok hw hx h1
        split at h2
        · rename_i b o
          obtain ⟨r, hr, rfl⟩ := h4.ptr_inv
          obtain ⟨y', h5, h6⟩ := ih (.var b (o + f.offset) r hr) h2
          refine ⟨y', ?_, h6⟩
          unfold follow
          rw [Sem.run_bind, run_underlying hu, Result.andThen_ok]
          simp only [hfs, hd, if_true]
          rw [Sem.run_bind, h3, Result.andThen_ok]
          simp only [asAddr, Sem.run_bind, Sem.run_pure, Result.andThen_ok, run_fieldPlace hk hk0]
          rw [Nat.add_assoc]
          exact h5
        · cases h2
      · rename_i hd
        cases hx with
        | val => cases h
        | var b o r hr =>
          obtain ⟨y', h5, h6⟩ := ih (.var b (o + f.offset) r hr) h
          refine ⟨y', ?_, h6⟩
          unfold follow
          rw [Sem.run_bind, run_underlying hu, Result.andThen_ok]
          simp only [hfs, hd, Bool.false_eq_true, if_false]
          rw [Sem.run_bind, run_fieldPlace hk hk0, Result.andThen_ok, Nat.add_assoc]
          exact h5

theorem run_wrapNil (xt : TypeId) (a : Addr) (name : String) : (Builtin.ssaWrapNilChk_ #[xt] xt #[.pointer (some a), strVal "", strVal name]).run P w = .ok (.pointer (some a)) w := rfl

theorem recvV_ok (hw : WR P B w₀ ρ g w) {t : TypeId} {x : Pl} {x' : Place} (hx : PlR ρ x x') {ptr : Bool} {v : Value} {l : List Nat} (h : (recvV P t x ptr).run g = some (v, l)) (wr : Option String) :
    ∃ v', (receiverAt t x' ptr wr).run P w = .ok v' w ∧ VR ρ v v' := by
  unfold recvV at h
  unfold receiverAt
  split at h
  · rename_i e u hu
    cases hx with
    | val _ u' hv =>
      simp only [Rd.run, Option.some.injEq, Prod.mk.injEq] at h
      obtain ⟨rfl, rfl⟩ := h
      exact ⟨u', by rw [Sem.run_bind, run_underlying hu, Result.andThen_ok]; rfl, hv⟩
  · rename_i e b o hu
    cases hx with
    | var _ _ r hr =>
      obtain ⟨v', h1, h2⟩ := ldV_ok hw h hr
      exact ⟨v', by rw [Sem.run_bind, run_underlying hu, Result.andThen_ok]; exact h1, h2⟩
  · rename_i e b o hu
    cases hx with
    | val _ u' hv =>
      obtain ⟨r, hr, rfl⟩ := hv.ptr_inv
      obtain ⟨v', h1, h2⟩ := ldV_ok hw h hr
      refine ⟨v', ?_, h2⟩
      rw [Sem.run_bind, run_underlying hu, Result.andThen_ok]
      dsimp only
      rw [Sem.run_bind]
      show ((Sem.run P (pure (Value.pointer (some ⟨r.blk, r.sh + o, none⟩))) w).andThen _) = _
      rw [Sem.run_pure, Result.andThen_ok]
      cases wr with
      | none => simp only [Sem.run_bind, Sem.run_pure, Result.andThen_ok, asAddr, h1]
      | some name => simp only [Sem.run_bind, run_wrapNil, Sem.run_pure, Result.andThen_ok, asAddr, h1]
  · cases h
  · rename_i d b o hd hu
    cases hx with
    | var _ _ r hr =>
      simp only [Rd.run, Option.some.injEq, Prod.mk.injEq] at h
      obtain ⟨rfl, rfl⟩ := h
      refine ⟨_, ?_, .ptr b o r hr⟩
      rw [Sem.run_bind, run_underlying hu, Result.andThen_ok]
      cases d <;> first | rfl | exact (hd _ rfl).elim
  · rename_i d u _ hd hu
    cases hx with
    | val _ u' hv =>
      simp only [Rd.run, Option.some.injEq, Prod.mk.injEq] at h
      obtain ⟨rfl, rfl⟩ := h
      refine ⟨u', ?_, hv⟩
      rw [Sem.run_bind, run_underlying hu, Result.andThen_ok]
      cases d <;> first | rfl | exact (hd _ rfl).elim
  · rename_i d b o hd hu
    cases hx with
    | var _ _ r hr =>
      obtain ⟨v', h1, h2⟩ := ldV_ok hw h hr
      refine ⟨v', ?_, h2⟩
      rw [Sem.run_bind, run_underlying hu, Result.andThen_ok]
      cases d <;> first | exact h1 | exact (hd _ rfl).elim
  · cases h

theorem methodV_ok (hw : WR P B w₀ ρ g w) : ∀ (d : Nat) {t : TypeId} {v v' : Value} {name : String} {f : FuncId} {r : Value} {l : List Nat}, VR ρ v v' → (methodV P d t v name).run g = some ((f, r), l) →
    ∀ fuel, d ≤ fuel → ∃ r', (method fuel t v' name).run P w = .ok (f, r') w ∧ VR ρ r r'
  | 0, t, v, v', name, f, r, l, hv, h, fuel, hf => by cases h
  | d + 1, t, v, v', name, f, r, l, hv, h, fuel, hf => by
    cases fuel with
    | zero => omega
    | succ fuel =>
      unfold methodV at h
      unfold method
      split at h
      · cases h
      · rename_i m hm
        obtain ⟨inf, hinf, hfind⟩ := Option.bind_eq_some_iff.1 hm
        obtain ⟨⟨xt, x⟩, l1, l2, h1, h2, rfl⟩ := (Rd.run_bind _ _ _ _ _).1 h
        obtain ⟨x', h3, h4⟩ := followV_ok hw (.val v v' hv) h1
        have hti : (typeInfo t).run P w = .ok inf w := by unfold typeInfo; rw [Sem.run_bind, run_program, Result.andThen_ok, hinf]; rfl
        rw [Sem.run_bind, hti, Result.andThen_ok]
        simp only [hfind]
        rw [Sem.run_bind, h3, Result.andThen_ok]
        dsimp only at h2 ⊢
        split at h2
        · rename_i hmf
          obtain ⟨u, l3, l4, h5, h6, rfl⟩ := (Rd.run_bind _ _ _ _ _).1 h2
          obtain ⟨u', h7, h8⟩ := get_ok hw h4 h5
          split at h6
          · rename_i t' q
            obtain ⟨q', rfl, hq⟩ := h8.iface_inv
            obtain ⟨r', h9, h10⟩ := methodV_ok hw d hq h6 fuel (by omega)
            refine ⟨r', ?_, h10⟩
            simp only [hmf]
            rw [Sem.run_bind, h7, Result.andThen_ok]
            exact h9
          · cases h6
        · rename_i f2 ptr hmf
          obtain ⟨u, l3, l4, h5, h6, rfl⟩ := (Rd.run_bind _ _ _ _ _).1 h2
          simp only [Rd.run, Option.some.injEq, Prod.mk.injEq] at h6
          obtain ⟨⟨rfl, rfl⟩, _⟩ := h6
          obtain ⟨u', h7, h8⟩ := recvV_ok hw h4 h5 (if m.path.isEmpty then some ((name.splitOn ".").getLastD name) else none)
          refine ⟨u', ?_, h8⟩
          simp only [hmf]
          rw [Sem.run_bind, h7, Result.andThen_ok]
          rfl

/-- No function is runtime.NumGoroutine. -/
def plainNames (P : Program) : Bool := P.funcs.toList.all fun f => !(f.name == "runtime.NumGoroutine")

theorem enter_ok (hP : plainNames P = true) (hw : WR P B w₀ ρ g w) {f : FuncId} {args : List Value} {args' : Array Value} (ha : LR ρ args args'.toList) {out : OOut} {l : List Nat}
    (h : (enter P f args).run g = some (out, l)) : Fits P B w₀ ρ g n out ((callFunc f args').run P w) := by
  unfold enter at h
  split at h
  · rename_i fn hf
    have hname : (fn.name == "runtime.NumGoroutine") = false := by
      have := List.all_eq_true.1 hP fn (by rw [Array.mem_toList_iff]; exact Array.mem_of_getElem? hf)
      simpa using this
    split at h
    · rename_i c hc
      simp only [Rd.run, Option.some.injEq, Prod.mk.injEq] at h
      obtain ⟨rfl, rfl⟩ := h
      have : (callFunc f args').run P w = .ok (.enter f args') w := by
        unfold callFunc
        rw [Sem.run_bind, run_program, Result.andThen_ok]
        simp only [hf, hname, hc, Option.isNone_some, Bool.false_eq_true, if_false, Sem.run_pure]
      rw [this]
      exact ⟨ρ, w, Ren.le_refl ρ, .enter f args args' w ha, hw⟩
    · split at h
      · rename_i hfl
        have : args' = args.toArray := by apply Array.ext'; simpa using ha.flat_inv hfl
        rw [this]
        exact fits_pure hw h
      · cases h
  · cases h

theorem invokeM_ok (hP : plainNames P = true) (hw : WR P B w₀ ρ g w) {recv recv' : Value} (hr : VR ρ recv recv') {name : String} {args : List Value} {args' : Array Value} (ha : LR ρ args args'.toList) {out : OOut} {l : List Nat}
    (h : (invokeM P recv name args).run g = some (out, l)) : Fits P B w₀ ρ g n out ((callMethod recv' name args').run P w) := by
  unfold invokeM at h
  split at h
  · rename_i t v
    obtain ⟨v', rfl, hv⟩ := hr.iface_inv
    obtain ⟨⟨f, r⟩, l1, l2, h1, h2, rfl⟩ := (Rd.run_bind _ _ _ _ _).1 h
    obtain ⟨r', h3, h4⟩ := methodV_ok hw 9 hv h1 (P.types.size + Made.depth) (by have : Made.depth = 100 := rfl; omega)
    have : (callMethod (.iface t v') name args').run P w = (callFunc f (#[r'] ++ args')).run P w := by
      unfold callMethod
      simp only [Sem.run_bind, run_program, Result.andThen_ok, h3]
    rw [this]
    exact enter_ok hP hw (by rw [Array.toList_append]; exact LR.cons h4 ha) h2
  · cases h

theorem builtinV_ok (hw : WR P B w₀ ρ g w) {b : Builtin} {argTypes : Array TypeId} {ty : TypeId} {consts : Array Bool} {args : List Value} {args' : Array Value} (ha : LR ρ args args'.toList) {out : OOut} {l : List Nat}
    (hn : out.nw ≠ none → g n = none) (h : (builtinV P b argTypes ty consts args n).run g = some (out, l)) : Fits P B w₀ ρ g n out ((builtin b argTypes ty consts args').run P w) := by
  unfold builtinV at h
  split at h
  · rename_i hq
    simp only [Bool.and_eq_true] at hq
    have : args' = args.toArray := by apply Array.ext'; simpa using ha.flat_inv hq.2
    rw [this]
    exact fits_pure hw h
  · split at h
    · exact appendV_ok hw ha hn h
    · exact copyV_ok hw ha h
    · exact lenBuiltin_ok hw ha h
    · exact deleteV_ok hw ha h
    · exact clearV_ok hw ha h
    · cases h

theorem callV_ok (hP : plainNames P = true) (hw : WR P B w₀ ρ g w) {c : Call} {e e' : Operand → Value} (he : ∀ x ∈ c.operands, VR ρ (e x) (e' x)) {ty : TypeId} {out : OOut} {l : List Nat}
    (hn : out.nw ≠ none → g n = none) (h : (callV P c e ty n).run g = some (out, l)) : Fits P B w₀ ρ g n out ((do let d ← resolve e' c ty; invoke d.target d.args : Sem Next).run P w) := by
  have hargs : LR ρ (c.args.toList.map e) (c.args.map e').toList := by
    rw [Array.toList_map]
    exact LR.map _ _ _ fun x hx => he x (by unfold Call.operands; exact Array.mem_append.2 (.inr (Array.mem_toList_iff.1 hx)))
  unfold callV at h
  unfold resolve
  split at h
  · rename_i b hb
    simp only [hb]
    rw [Sem.run_bind, Sem.run_pure, Result.andThen_ok]
    exact builtinV_ok hw hargs hn h
  · rename_i recv name hb
    simp only [hb]
    rw [Sem.run_bind, Sem.run_pure, Result.andThen_ok]
    have hr : VR ρ (e recv) (e' recv) := he recv (by unfold Call.operands; rw [hb]; simp)
    have := invokeM_ok (n := n) hP hw hr hargs h
    have e2 : (invoke (.fn (.method name) #[]) (#[e' recv] ++ c.args.map e')).run P w = (callMethod (e' recv) name (c.args.map e')).run P w := by
      unfold invoke
      have h0 : (#[e' recv] ++ c.args.map e')[0]? = some (e' recv) := by rw [Array.getElem?_append_left (by simp)]; rfl
      have h1 : (#[e' recv] ++ c.args.map e').extract 1 (#[e' recv] ++ c.args.map e').size = c.args.map e' := by
        apply Array.ext'
        simp [Array.toList_extract, List.extract_eq_take_drop]
        exact List.take_of_length_le (by simp)
      simp only [h0, h1]
    rw [e2]
    exact this
  · rename_i f hb
    simp only [hb]
    have hr : VR ρ (e f) (e' f) := he f (by unfold Call.operands; rw [hb]; simp)
    unfold valueCallV at h
    split at h
    · rename_i k first captured hef
      rw [hef] at hr
      obtain ⟨f', c', h1, h2, h3⟩ := hr.func_inv
      rw [h1]
      simp only [Deferred.ofValue]
      rw [Sem.run_bind, Sem.run_pure, Result.andThen_ok]
      simp only [invoke]
      refine enter_ok hP hw ?_ h
      rw [Array.toList_append, Array.toList_append]
      exact (h2.append hargs).append h3
    · rename_i name first captured hef
      rw [hef] at hr
      obtain ⟨f', c', h1, h2, h3⟩ := hr.func_inv
      rw [h1]
      simp only [Deferred.ofValue]
      rw [Sem.run_bind, Sem.run_pure, Result.andThen_ok]
      split at h
      · rename_i recv rest hfa
        have hl := h2.append hargs
        rw [hfa] at hl
        obtain ⟨recv', rest', h4, h5, h6⟩ := hl.inv_cons
        have harr : (f' ++ c.args.map e') = (recv' :: rest').toArray := by apply Array.ext'; rw [Array.toList_append, h4]
        have e2 : (invoke (.fn (.method name) c') (f' ++ c.args.map e')).run P w = (callMethod recv' name rest'.toArray).run P w := by
          rw [harr]
          unfold invoke
          have h0 : (recv' :: rest').toArray[0]? = some recv' := by simp
          have h1 : (recv' :: rest').toArray.extract 1 (recv' :: rest').toArray.size = rest'.toArray := by
            apply Array.ext'
            simp [Array.toList_extract, List.extract_eq_take_drop]
          simp only [h0, h1]
        rw [e2]
        exact invokeM_ok hP hw h5 (by simpa using h6) h
      · cases h
    · cases h

theorem fits_u {s : Sem Unit} {out : OOut} (h : Fits P B w₀ ρ g n out ((do s; pure Next.skip : Sem Next).run P w)) : Fits P B w₀ ρ g n out ((do s; pure Next.skip : Sem Next).run P w) := h

/-- Every operation. -/
theorem ev_ok (hP : plainNames P = true) (hw : WR P B w₀ ρ g w) {o : Oper} {e e' : Operand → Value} (he : ∀ x ∈ o.op.operands, VR ρ (e x) (e' x)) {out : OOut} {l : List Nat}
    (hn : out.nw ≠ none → g n = none) (h : (ev P e n o).run g = some (out, l)) : Fits P B w₀ ρ g n out ((execOp e' o).run P w) := by
  obtain ⟨dst, op, type, pos, after, guard⟩ := o
  have hmap : ∀ {a : Array Operand}, (∀ x ∈ a, VR ρ (e x) (e' x)) → LR ρ (a.toList.map e) (a.map e').toList := fun {a} ha => by
    rw [Array.toList_map]; exact LR.map _ _ _ fun x hx => ha x (Array.mem_toList_iff.1 hx)
  cases op <;> simp only [Op.operands] at he <;> simp only [ev, evK] at h <;> try (cases h; done)
  case move x => exact Fits.of_val hw h (he x (by simp))
  case assign x => exact Fits.of_val hw h (he x (by simp))
  case pick c a b => exact pickV_ok hw (he c (by simp)) (he a (by simp)) (he b (by simp)) h
  case alloc t => exact allocV_ok hw hn h
  case box t x => exact boxV_ok hw (he x (by simp)) hn h
  case build t parts =>
    refine buildV_ok hw ?_ h
    rw [Array.toList_map]
    exact PR.map _ fun x hx => he x.2 (by simp only [List.mem_toArray, List.mem_map]; exact ⟨x, hx, rfl⟩)
  case buildSlice t len parts =>
    refine buildSliceV_ok hw ?_ hn h
    rw [Array.toList_map]
    exact PR.map _ fun x hx => he x.2 (by simp only [List.mem_toArray, List.mem_map]; exact ⟨x, hx, rfl⟩)
  case insert t m k x => exact mapUpdateV_ok hw (he m (by simp)) (he k (by simp)) (he x (by simp)) h
  case load t a => exact loadV_ok hw (he a (by simp)) h
  case store t a x => exact storeV_ok hw (he a (by simp)) (he x (by simp)) h
  case nilCheck x => exact nilCheckV_ok hw (he x (by simp)) h e' x rfl _ rfl
  case binOp op t x y yt => exact binV_ok hw (he x (by simp)) (he y (by simp)) h
  case unOp op t x => exact unV_ok hw (he x (by simp)) h
  case convert src dst x => exact convertV_ok hw (he x (by simp)) hn h
  case makeInterface t x => exact ifaceV_ok hw (he x (by simp)) h
  case makeFunc fn first captured =>
    exact makeFuncV_ok hw (hmap fun x hx => he x (Array.mem_append.2 (.inl hx))) (hmap fun x hx => he x (Array.mem_append.2 (.inr hx))) h
  case makeMap t r =>
    have := OpR.map (ρ := ρ) (e := e) (e' := e') r fun y hy => he y (by subst hy; simp)
    exact makeMapV_ok hw this.some_ this.none_ hn h
  case makeSlice t a b => exact makeSliceV_ok hw (he a (by simp)) (he b (by simp)) hn h
  case slice t x lo hi mx =>
    exact sliceV_ok hw (he x (by simp)) (OpR.map lo fun y hy => he y (by subst hy; simp)) (OpR.map hi fun y hy => he y (by subst hy; simp)) (OpR.map mx fun y hy => he y (by subst hy; simp)) h
  case fieldAddr s x i => exact fieldAddrV_ok hw (he x (by simp)) i h
  case field s x i => exact fieldV_ok hw (he x (by simp)) i h
  case indexAddr t x i => exact indexAddrV_ok hw (he x (by simp)) (he i (by simp)) h
  case index t x i => exact indexV_ok hw (he x (by simp)) (he i (by simp)) h
  case lookup t x k ok => exact lookupV_ok hw (he x (by simp)) (he k (by simp)) ok h
  case mapUpdate t m k x => exact mapUpdateV_ok hw (he m (by simp)) (he k (by simp)) (he x (by simp)) h
  case typeAssert x xt at_ ok => exact assertV_ok hw (he x (by simp)) xt at_ ok h
  case extract t i => exact extractV_ok hw (he t (by simp)) i h
  case call c => exact callV_ok hP hw he hn h
  case panic x => exact panicV_ok hw (he x (by simp)) h
end
end Go.Proofs.YtdbjloigfkckfaaGreatDoor.Vm
