/- The statement: for every input the law answers true, and its arguments read as before. Conditions: none beyond the row's own. -/
import Derived.Test.YtnlkkgpcikkpoaaJAn
import Derived.Test.YtnlkkgpcikkpoaaRows
import Derived.WalkKit
import Derived.ProofKit
import Derived.OpenShut
import Derived.ShutString
import Derived.ChangeOld
import Derived.Below
import Derived.SizedLaws
open Go.ChangeShapes renaming trodAll_cons→aqQ
open Go.ChangeSpec renaming witness6→ass
open Go.Proofs.Try renaming checked→arB,f4→ars,func4→asw,params4→asn,prog→asz,underlying22→aqP,underlying24→arE,underlying3→aoJ,underlying5→aqW
open Go.Proofs.Ytnlkkgpcikkpoaa.Rows renaming spoolHoldsRow→cP,spoolHoldsSpec→cf
open Go.WideShapes renaming okWide_slice→art
set_option linter.unusedVariables false
set_option linter.unusedSimpArgs false
/-
 The statement SpoolHolds: for every input the law answers true, and its arguments read asq before.
 Conditions: none beyond the row's own.
-/
namespace Go.Proofs.Ytnlkkgpcikkpoaa
open Go.ChangeShapes Go.WideShapes Go.ChangeAt Go.RowKit Go.Deep Vm
set_option maxRecDepth 100000 in
set_option maxHeartbeats 4000000 in
theorem akk(os:Os)(started:os.Started)(H:Type)(enc:TypeId×Value→H):
 ReturnsInHanded {} arB os 4 .any (cf.pre6 enc asz ars cP.domain false) (cf.post enc asz ars false true false false):=by
 refine returnsInHanded_of_change_sized (C:=arB) own started (by kernel_rfl) asw
  (ass (enc:=enc) (C:=arB) false ⟨#[], #[.agg #[.int .i64 0,.int .i64 0,.slice none 0 0,.slice none 0 0],.slice none 0 0,.slice none 0 0,.slice none 0 0],[]⟩ 8 (by kernel_rfl) (by kernel_rfl) (by kernel_rfl) (by kernel_rfl)) ?_
 intro W base args ds gs before Sb hW _ Sc _
 have cc:(DataW.weightsEach asz (ars.params.toList++cf.plain.varTypes asz) (ds++gs)).all (·≤reachBytes)=true:=Sc
 have yo:∀(j:Nat) t v,ars.params[j]?=some t→args[j]?=some v→Value.okWide asz W .any base t v:=Sb
 have Sd:=hW
 obtain⟨p,q,Se,hV,rfl,nH,de⟩:=hW
 have hA:DataW.TrodAll enc asz W 0 (fun _=>true) true ars.params.toList args.toList ds p:=Se
 have hK:=hA
 rw[asn]at hA yo cc
 obtain⟨v0,alW,d0,mU,p0,q0,iq,rfl,rfl,h0,r0⟩:=aqQ hA
 obtain⟨v1,alX,d1,alY,p1,q1,rfl,rfl,rfl,h1,r1⟩:=aqQ r0
 obtain⟨v2,alZ,d2,al0,p2,q2,rfl,rfl,rfl,h2,r2⟩:=aqQ r1
 obtain⟨v3,al1,d3,al2,p3,q3,rfl,rfl,rfl,h3,r3⟩:=aqQ r2
 obtain⟨rfl,rfl,rfl⟩:=trodAll_nil r3
 obtain rfl:args= #[v0,v1,v2,v3]:=by cases args;simp_all
 obtain⟨rfl,rfl⟩:=trodVars_none hV
 have hf:∀(j:Nat) t (d:DataW H),[24,36,37,38][j]?=some t→[d0,d1,d2,d3][j]?=some d→∀n∈d.weights asz t,n≤reachBytes:=fun j t d ht hd n hn=>by
  have:=List.all_eq_true.1 cc n (DataW.weights_mem_each (j:=j) (t:=t) (d:=d) (by simpa using List.getElem?_append_left (l₂:=cf.plain.varTypes asz) (List.getElem?_eq_some_iff.1 ht).1▸ht) (by simpa using hd) n hn)
  simpa using this
 have BN:∀b,b<W.heap.size→(fun k=>k<W.heap.size) b:=fun b hb=>hb
 obtain⟨akl,akm⟩:=h0
 obtain⟨al3,Sf,akn⟩:=tU (P:=asz) BN 10 24 akl _ _ (by kernel_rfl) akm (hf 0 _ _ rfl rfl)
 obtain⟨ako,akp⟩:=h1
 obtain⟨al4,akq,akr⟩:=tU (P:=asz) BN 10 36 ako _ _ (by kernel_rfl) akp (hf 1 _ _ rfl rfl)
 obtain⟨aks,akt⟩:=h2
 obtain⟨al5,aku,akv⟩:=tU (P:=asz) BN 10 37 aks _ _ (by kernel_rfl) akt (hf 2 _ _ rfl rfl)
 obtain⟨akw,akx⟩:=h3
 obtain⟨al6,aky,akz⟩:=tU (P:=asz) BN 10 38 akw _ _ (by kernel_rfl) akx (hf 3 _ _ rfl rfl)
 obtain⟨a1,akA,akB,e1⟩:=art Try.underlying36 (yo 1 _ v1 rfl rfl)
 subst e1
 obtain⟨l,s1⟩:=akh akr akq
 obtain⟨a2,akC,Jp,e2⟩:=art Try.underlying37 (yo 2 _ v2 rfl rfl)
 subst e2
 obtain⟨sc,s2⟩:=akj akv aku
 obtain⟨a3,akD,PF,e3⟩:=art Try.underlying38 (yo 3 _ v3 rfl rfl)
 subst e3
 obtain⟨C,gC,s3⟩:=akf akz aky
 obtain⟨akE,e0,_⟩:=okWide_struct arE (yo 0 _ v0 rfl rfl)
 subst e0
 obtain⟨al7,ep,kz⟩:=BK arE akn
 obtain⟨al8,al9,rfl,b0,kz⟩:=nt kz
 obtain⟨ama,amb,rfl,b1,kz⟩:=nt kz
 obtain⟨amc,amd,rfl,b2,kz⟩:=nt kz
 obtain⟨ame,amf,rfl,b3,kz⟩:=nt kz
 obtain rfl:=BL kz
 obtain⟨K,rfl,_⟩:=qx aoJ b0
 obtain⟨N,rfl,hN⟩:=qx aoJ b1
 obtain⟨A,rfl,amg⟩:=IH aqP aqW (by kernel_rfl) (by kernel_rfl) b2
 obtain⟨B,rfl,amh⟩:=IH aqP aqW (by kernel_rfl) (by kernel_rfl) b3
 subst ep
 clear Se Sb Sc
 have hs:gd asz W (fun k=>k<W.heap.size) [.val (.int .i64 K),.val (.int .i64 N),.cells A.size (ag A) 5,.cells B.size (ag B) 5,.rows l.length 5 (fun i=>ye (l[i]?.getD dk)),.cells sc.length (aF sc) 67,.cells C.length (aq C) 3] (akE.toList++[.slice a1 akA akB,.slice a2 akC Jp,.slice a3 akD PF]):=gd.append Sf ((gd.append (.one s1) (gd.append (.one s2) (gd.append (.one s3) .nil))))
 refine(aG.akg (svs:=[.val (.int .i64 K),.val (.int .i64 N),.cells A.size (ag A) 5,.cells B.size (ag B) 5,.rows l.length 5 (fun i=>ye (l[i]?.getD dk)),.cells sc.length (aF sc) 67,.cells C.length (aq C) 3]) 4 (aj6 A B K N l sc C) (by rfl) Sf.len.symm hs).mono fun e W' ⟨he,Sg⟩=>?_
 subst he
 have hlt:∀x∈(p0++(p1++(p2++(p3++[]))):List MemPlace),x.block<W.heap.size:=fun x hx=>Sd.lt x (by simpa using hx)
 exact⟨_,rfl,_,_,_,[],_,[],Sd,trodAll_mk1 (shut_bool Try.underlying4 _),Sa laidOut Sg (by rw[asn];intro t ht;simp at ht;rcases ht with rfl|rfl|rfl|rfl<;>exact⟨by kernel_rfl,of_decide_eq_true (by kernel_rfl)⟩) hK hlt,rfl,Sg.frame _,fun h=>by cases h⟩
theorem akF:cP.holds Try.pinned (OpenSpec.ofChange cf):=
 OpenClaim.holds_of_wide 4 ars rfl rfl rfl rfl rfl rfl rfl ⟨rfl,rfl,rfl,rfl,rfl⟩ rfl rfl rfl rfl rfl (by kernel_rfl) asw (by kernel_rfl)
  (of_decide_eq_true (by kernel_rfl)) (by unfold Func.isWrapper;first|(rw[if_pos (by decide +kernel)];kernel_rfl)|(rw[if_neg (by decide +kernel)];exact⟨rfl,rfl⟩))
  (fun os started H enc _=>akk os started H enc)
theorem spoolHolds_proved:Rows.SpoolHoldsSaid:=akF
#print axioms spoolHolds_proved
end Go.Proofs.Ytnlkkgpcikkpoaa
