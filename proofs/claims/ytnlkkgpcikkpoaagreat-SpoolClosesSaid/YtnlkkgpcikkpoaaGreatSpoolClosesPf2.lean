/- The statement: for every input the law answers true, and its arguments read as before. Conditions: none beyond the row's own. -/
import Derived.Test.YtnlkkgpcikkpoaaGreatJAj
import Derived.Test.YtnlkkgpcikkpoaaGreatRows
import Derived.WalkKit
import Derived.ProofKit
import Derived.OpenShut
import Derived.ShutString
import Derived.ChangeOld
import Derived.Below
import Derived.SizedLaws
open Go.ChangeShapes renaming trodAll_cons→asX
open Go.ChangeSpec renaming witness6→avu
open Go.Proofs.Tryz renaming checked→auf,f6→atQ,func6→avt,params6→avc,prog→aoL,underlying22→atl,underlying24→aul,underlying3→aqs,underlying5→asF
open Go.Proofs.YtnlkkgpcikkpoaaGreat.Rows renaming spoolClosesRow→at5,spoolClosesSpec→arG
open Go.WideShapes renaming okWide_slice→aug
set_option linter.unusedVariables false
set_option linter.unusedSimpArgs false
set_option maxRecDepth 100000
/-
 The statement SpoolCloses: for every input the law answers true, and its arguments read asq before.
 Conditions: none beyond the row's own.
-/
namespace Go.Proofs.YtnlkkgpcikkpoaaGreat
open Go.ChangeShapes Go.WideShapes Go.ChangeAt Go.RowKit Go.Deep Vm
set_option maxRecDepth 100000 in
set_option maxHeartbeats 4000000 in
theorem amE(os:Os)(started:os.Started)(H:Type)(enc:TypeId×Value→H):
 ReturnsInHanded {} auf os 6 .any (arG.pre6 enc aoL atQ at5.domain false) (arG.post enc aoL atQ false true false false):=by
 refine returnsInHanded_of_change_sized (C:=auf) own started (by kernel_rfl) avt
  (avu (enc:=enc) (C:=auf) false ⟨#[], #[.agg #[.int .i64 0,.int .i64 0,.slice none 0 0,.slice none 0 0],.slice none 0 0,.slice none 0 0,.slice none 0 0,.int .i64 0],[]⟩ 8 (by kernel_rfl) (by kernel_rfl) (by kernel_rfl) (by kernel_rfl)) ?_
 intro W base args ds gs before TX hW _ TY _
 have cd:(DataW.weightsEach aoL (atQ.params.toList++arG.plain.varTypes aoL) (ds++gs)).all (·≤reachBytes)=true:=TY
 have wV:∀(j:Nat) t v,atQ.params[j]?=some t→args[j]?=some v→Value.okWide aoL W .any base t v:=TX
 have TZ:=hW
 obtain⟨p,q,T0,hV,rfl,oA,dx⟩:=hW
 have hA:DataW.TrodAll enc aoL W 0 (fun _=>true) true atQ.params.toList args.toList ds p:=T0
 have hK:=hA
 rw[avc]at hA wV cd
 obtain⟨v0,aok,d0,od,p0,q0,gZ,rfl,rfl,h0,r0⟩:=asX hA
 obtain⟨v1,aol,d1,aom,p1,q1,rfl,rfl,rfl,h1,r1⟩:=asX r0
 obtain⟨v2,aon,d2,aoo,p2,q2,rfl,rfl,rfl,h2,r2⟩:=asX r1
 obtain⟨v3,aop,d3,aoq,p3,q3,rfl,rfl,rfl,h3,r3⟩:=asX r2
 obtain⟨v4,aor,d4,aos,p4,q4,rfl,rfl,rfl,h4,r4⟩:=asX r3
 obtain⟨rfl,rfl,rfl⟩:=trodAll_nil r4
 obtain rfl:args= #[v0,v1,v2,v3,v4]:=by cases args;simp_all
 obtain⟨rfl,rfl⟩:=trodVars_none hV
 have hf:∀(j:Nat) t (d:DataW H),[24,31,52,25,3][j]?=some t→[d0,d1,d2,d3,d4][j]?=some d→∀n∈d.weights aoL t,n≤reachBytes:=fun j t d ht hd n hn=>by
  have:=List.all_eq_true.1 cd n (DataW.weights_mem_each (j:=j) (t:=t) (d:=d) (by simpa using List.getElem?_append_left (l₂:=arG.plain.varTypes aoL) (List.getElem?_eq_some_iff.1 ht).1▸ht) (by simpa using hd) n hn)
  simpa using this
 have zh:∀b,b<W.heap.size→(fun k=>k<W.heap.size) b:=fun b hb=>hb
 obtain⟨amF,amG⟩:=h0
 obtain⟨aot,T1,amH⟩:=sW (P:=aoL) zh 10 24 amF _ _ (by kernel_rfl) amG (hf 0 _ _ rfl rfl)
 obtain⟨amI,amJ⟩:=h1
 obtain⟨aou,amK,amL⟩:=sW (P:=aoL) zh 10 31 amI _ _ (by kernel_rfl) amJ (hf 1 _ _ rfl rfl)
 obtain⟨amM,amN⟩:=h2
 obtain⟨aov,amO,amP⟩:=sW (P:=aoL) zh 10 52 amM _ _ (by kernel_rfl) amN (hf 2 _ _ rfl rfl)
 obtain⟨amQ,amR⟩:=h3
 obtain⟨aow,amS,amT⟩:=sW (P:=aoL) zh 10 25 amQ _ _ (by kernel_rfl) amR (hf 3 _ _ rfl rfl)
 obtain⟨amU,amV⟩:=h4
 obtain⟨aox,amW,amX⟩:=sW (P:=aoL) zh 10 3 amU _ _ (by kernel_rfl) amV (hf 4 _ _ rfl rfl)
 obtain⟨a1,amY,amZ,e1⟩:=aug Tryz.underlying31 (wV 1 _ v1 rfl rfl)
 subst e1
 obtain⟨l,s1⟩:=amB amL amK
 obtain⟨a2,am0,KH,e2⟩:=aug Tryz.underlying52 (wV 2 _ v2 rfl rfl)
 subst e2
 obtain⟨sc,s2⟩:=amD amP amO
 obtain⟨a3,am1,QZ,e3⟩:=aug Tryz.underlying25 (wV 3 _ v3 rfl rfl)
 subst e3
 obtain⟨C,gC,s3⟩:=amz amT amS
 obtain⟨a,e4⟩:=okWide_int aqs (wV 4 _ v4 rfl rfl)
 subst e4
 obtain⟨z4,rfl,aoy,aoz⟩:=qd aqs amX
 obtain rfl:z4=a:=by have:=amW.at_ 0 _ _ rfl rfl;cases this;rfl
 have s4:SR aoL W (fun k=>k<W.heap.size) (.val (.int .i64 z4)) (.int .i64 z4):=.val _ rfl
 obtain⟨am2,e0,_⟩:=okWide_struct aul (wV 0 _ v0 rfl rfl)
 subst e0
 obtain⟨aoA,ep,kz⟩:=CM aul amH
 obtain⟨aoB,aoC,rfl,b0,kz⟩:=oe kz
 obtain⟨aoD,aoE,rfl,b1,kz⟩:=oe kz
 obtain⟨aoF,aoG,rfl,b2,kz⟩:=oe kz
 obtain⟨aoH,aoI,rfl,b3,kz⟩:=oe kz
 obtain rfl:=CN kz
 obtain⟨K,rfl,_⟩:=qd aqs b0
 obtain⟨N,rfl,hN⟩:=qd aqs b1
 obtain⟨A,rfl,aoJ⟩:=J2 atl asF (by kernel_rfl) (by kernel_rfl) b2
 obtain⟨B,rfl,aoK⟩:=J2 atl asF (by kernel_rfl) (by kernel_rfl) b3
 subst ep
 clear T0 TX TY
 have hs:gv aoL W (fun k=>k<W.heap.size) [.val (.int .i64 K),.val (.int .i64 N),.cells A.size (af A) 5,.cells B.size (af B) 5,.rows l.length 5 (fun i=>y4 (l[i]?.getD dM)),.cells sc.length (aG sc) 77,.cells C.length (ap C) 3,.val (.int .i64 z4)] (am2.toList++[.slice a1 amY amZ,.slice a2 am0 KH,.slice a3 am1 QZ,.int .i64 z4]):=gv.append T1 ((gv.append (.one s1) (gv.append (.one s2) (gv.append (.one s3) (gv.append (.one s4) .nil)))))
 refine(aI.amA (svs:=[.val (.int .i64 K),.val (.int .i64 N),.cells A.size (af A) 5,.cells B.size (af B) 5,.rows l.length 5 (fun i=>y4 (l[i]?.getD dM)),.cells sc.length (aG sc) 77,.cells C.length (ap C) 3,.val (.int .i64 z4)]) 4 (amq A B K N l sc C z4) (by rfl) T1.len.symm hs).mono fun e W' ⟨he,T2⟩=>?_
 subst he
 have hlt:∀x∈(p0++(p1++(p2++(p3++(p4++[])))):List MemPlace),x.block<W.heap.size:=fun x hx=>TZ.lt x (by simpa using hx)
 exact⟨_,rfl,_,_,_,[],_,[],TZ,trodAll_mk1 (shut_bool Tryz.underlying4 _),TW laidOut T2 (by rw[avc];intro t ht;simp at ht;rcases ht with rfl|rfl|rfl|rfl|rfl<;>exact⟨by kernel_rfl,of_decide_eq_true (by kernel_rfl)⟩) hK hlt,rfl,T2.frame _,fun h=>by cases h⟩
theorem am3:at5.holds Tryz.pinned (OpenSpec.ofChange arG):=
 OpenClaim.holds_of_wide 6 atQ rfl rfl rfl rfl rfl rfl rfl ⟨rfl,rfl,rfl,rfl,rfl⟩ rfl rfl rfl rfl rfl (by kernel_rfl) avt (by kernel_rfl)
  (of_decide_eq_true (by kernel_rfl)) (by unfold Func.isWrapper;first|(rw[if_pos (by decide +kernel)];kernel_rfl)|(rw[if_neg (by decide +kernel)];exact⟨rfl,rfl⟩))
  (fun os started H enc _=>amE os started H enc)
theorem spoolCloses_proved:Rows.SpoolClosesSaid:=am3
#print axioms spoolCloses_proved
end Go.Proofs.YtnlkkgpcikkpoaaGreat
