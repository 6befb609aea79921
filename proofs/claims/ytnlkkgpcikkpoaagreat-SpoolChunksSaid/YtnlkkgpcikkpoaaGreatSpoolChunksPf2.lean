/- The statement: for every input the law answers true, and its arguments read as before. Conditions: none beyond the row's own. -/
import Derived.Test.YtnlkkgpcikkpoaaGreatJAo
import Derived.Test.YtnlkkgpcikkpoaaGreatRows
import Derived.WalkKit
import Derived.ProofKit
import Derived.OpenShut
import Derived.ShutString
import Derived.ChangeOld
import Derived.Below
import Derived.SizedLaws
open Go.ChangeShapes renaming trodAll_cons→atp
open Go.ChangeSpec renaming witness6→av2
open Go.Proofs.Tryz renaming checked→auO,f5→aun,func5→av1,params5→avI,prog→av9,underlying22→atQ,underlying24→auT,underlying25→ar1,underlying3→aqY,underlying5→as5
open Go.Proofs.YtnlkkgpcikkpoaaGreat.Rows renaming spoolChunksRow→auD,spoolChunksSpec→ar5
open Go.WideShapes renaming okWide_slice→at4
set_option linter.unusedVariables false
set_option linter.unusedSimpArgs false
set_option maxRecDepth 100000
/-
 The statement SpoolChunks: for every input the law answers true, and its arguments read asq before.
 Conditions: none beyond the row's own.
-/
namespace Go.Proofs.YtnlkkgpcikkpoaaGreat
open Go.ChangeShapes Go.WideShapes Go.ChangeAt Go.RowKit Go.Deep Vm
set_option maxRecDepth 100000 in
set_option maxHeartbeats 4000000 in
theorem am2(os:Os)(started:os.Started)(H:Type)(enc:TypeId×Value→H):
 ReturnsInHanded {} auO os 5 .any (ar5.pre6 enc av9 aun auD.domain false) (ar5.post enc av9 aun false true false false):=by
 refine returnsInHanded_of_change_sized (C:=auO) own started (by kernel_rfl) av1
  (av2 (enc:=enc) (C:=auO) false ⟨#[], #[.agg #[.int .i64 0,.int .i64 0,.slice none 0 0,.slice none 0 0],.slice none 0 0,.slice none 0 0,.slice none 0 0,.slice none 0 0],[]⟩ 8 (by kernel_rfl) (by kernel_rfl) (by kernel_rfl) (by kernel_rfl)) ?_
 intro W base args ds gs before Ub hW _ Uc _
 have cf:(DataW.weightsEach av9 (aun.params.toList++ar5.plain.varTypes av9) (ds++gs)).all (·≤reachBytes)=true:=Uc
 have w9:∀(j:Nat) t v,aun.params[j]?=some t→args[j]?=some v→Value.okWide av9 W .any base t v:=Ub
 have Ud:=hW
 obtain⟨p,q,Ue,hV,rfl,m5,cX⟩:=hW
 have hA:DataW.TrodAll enc av9 W 0 (fun _=>true) true aun.params.toList args.toList ds p:=Ue
 have hK:=hA
 rw[avI]at hA w9 cf
 obtain⟨v0,aoL,d0,kU,p0,q0,ia,rfl,rfl,h0,r0⟩:=atp hA
 obtain⟨v1,aoM,d1,aoN,p1,q1,rfl,rfl,rfl,h1,r1⟩:=atp r0
 obtain⟨v2,aoO,d2,aoP,p2,q2,rfl,rfl,rfl,h2,r2⟩:=atp r1
 obtain⟨v3,aoQ,d3,aoR,p3,q3,rfl,rfl,rfl,h3,r3⟩:=atp r2
 obtain⟨v4,aoS,d4,aoT,p4,q4,rfl,rfl,rfl,h4,r4⟩:=atp r3
 obtain⟨rfl,rfl,rfl⟩:=trodAll_nil r4
 obtain rfl:args= #[v0,v1,v2,v3,v4]:=by cases args;simp_all
 obtain⟨rfl,rfl⟩:=trodVars_none hV
 have hf:∀(j:Nat) t (d:DataW H),[24,31,52,25,25][j]?=some t→[d0,d1,d2,d3,d4][j]?=some d→∀n∈d.weights av9 t,n≤reachBytes:=fun j t d ht hd n hn=>by
  have:=List.all_eq_true.1 cf n (DataW.weights_mem_each (j:=j) (t:=t) (d:=d) (by simpa using List.getElem?_append_left (l₂:=ar5.plain.varTypes av9) (List.getElem?_eq_some_iff.1 ht).1▸ht) (by simpa using hd) n hn)
  simpa using this
 have zp:∀b,b<W.heap.size→(fun k=>k<W.heap.size) b:=fun b hb=>hb
 obtain⟨am3,am4⟩:=h0
 obtain⟨aoU,Uf,am5⟩:=tb (P:=av9) zp 10 24 am3 _ _ (by kernel_rfl) am4 (hf 0 _ _ rfl rfl)
 obtain⟨am6,am7⟩:=h1
 obtain⟨aoV,am8,am9⟩:=tb (P:=av9) zp 10 31 am6 _ _ (by kernel_rfl) am7 (hf 1 _ _ rfl rfl)
 obtain⟨ana,anb⟩:=h2
 obtain⟨aoW,anc,ane⟩:=tb (P:=av9) zp 10 52 ana _ _ (by kernel_rfl) anb (hf 2 _ _ rfl rfl)
 obtain⟨anf,ang⟩:=h3
 obtain⟨aoX,anh,ani⟩:=tb (P:=av9) zp 10 25 anf _ _ (by kernel_rfl) ang (hf 3 _ _ rfl rfl)
 obtain⟨anj,ank⟩:=h4
 obtain⟨aoY,anl,anm⟩:=tb (P:=av9) zp 10 25 anj _ _ (by kernel_rfl) ank (hf 4 _ _ rfl rfl)
 obtain⟨a1,ann,ano,e1⟩:=at4 Tryz.underlying31 (w9 1 _ v1 rfl rfl)
 subst e1
 obtain⟨l,s1⟩:=amZ am9 am8
 obtain⟨a2,anp,KV,e2⟩:=at4 Tryz.underlying52 (w9 2 _ v2 rfl rfl)
 subst e2
 obtain⟨sc,s2⟩:=am1 ane anc
 obtain⟨a3,anq,Ra,e3⟩:=at4 ar1 (w9 3 _ v3 rfl rfl)
 subst e3
 obtain⟨C,gC,s3⟩:=T8 ani anh
 obtain⟨a4,anr,ans,e4⟩:=at4 ar1 (w9 4 _ v4 rfl rfl)
 subst e4
 obtain⟨D,gD,s4⟩:=T8 anm anl
 obtain⟨ant,e0,_⟩:=okWide_struct auT (w9 0 _ v0 rfl rfl)
 subst e0
 obtain⟨aoZ,ep,kz⟩:=C9 auT am5
 obtain⟨ao0,ao1,rfl,b0,kz⟩:=od kz
 obtain⟨ao2,ao3,rfl,b1,kz⟩:=od kz
 obtain⟨ao4,ao5,rfl,b2,kz⟩:=od kz
 obtain⟨ao6,ao7,rfl,b3,kz⟩:=od kz
 obtain rfl:=Da kz
 obtain⟨K,rfl,_⟩:=rh aqY b0
 obtain⟨N,rfl,hN⟩:=rh aqY b1
 obtain⟨A,rfl,ao8⟩:=Kh atQ as5 (by kernel_rfl) (by kernel_rfl) b2
 obtain⟨B,rfl,ao9⟩:=Kh atQ as5 (by kernel_rfl) (by kernel_rfl) b3
 subst ep
 clear Ue Ub Uc
 have hs:gz av9 W (fun k=>k<W.heap.size) [.val (.int .i64 K),.val (.int .i64 N),.cells A.size (ai A) 5,.cells B.size (ai B) 5,.rows l.length 5 (fun i=>zb (l[i]?.getD dD)),.cells sc.length (aD sc) 77,.cells C.length (aq C) 3,.cells D.length (aq D) 3] (ant.toList++[.slice a1 ann ano,.slice a2 anp KV,.slice a3 anq Ra,.slice a4 anr ans]):=gz.append Uf ((gz.append (.one s1) (gz.append (.one s2) (gz.append (.one s3) (gz.append (.one s4) .nil)))))
 refine(aE.amY (svs:=[.val (.int .i64 K),.val (.int .i64 N),.cells A.size (ai A) 5,.cells B.size (ai B) 5,.rows l.length 5 (fun i=>zb (l[i]?.getD dD)),.cells sc.length (aD sc) 77,.cells C.length (aq C) 3,.cells D.length (aq D) 3]) 4 (amP A B K N l sc C D) (by rfl) Uf.len.symm hs).mono fun e W' ⟨he,Ug⟩=>?_
 subst he
 have hlt:∀x∈(p0++(p1++(p2++(p3++(p4++[])))):List MemPlace),x.block<W.heap.size:=fun x hx=>Ud.lt x (by simpa using hx)
 exact⟨_,rfl,_,_,_,[],_,[],Ud,trodAll_mk1 (shut_bool Tryz.underlying4 _),Ua laidOut Ug (by rw[avI];intro t ht;simp at ht;rcases ht with rfl|rfl|rfl|rfl<;>exact⟨by kernel_rfl,of_decide_eq_true (by kernel_rfl)⟩) hK hlt,rfl,Ug.frame _,fun h=>by cases h⟩
theorem anu:auD.holds Tryz.pinned (OpenSpec.ofChange ar5):=
 OpenClaim.holds_of_wide 5 aun rfl rfl rfl rfl rfl rfl rfl ⟨rfl,rfl,rfl,rfl,rfl⟩ rfl rfl rfl rfl rfl (by kernel_rfl) av1 (by kernel_rfl)
  (of_decide_eq_true (by kernel_rfl)) (by unfold Func.isWrapper;first|(rw[if_pos (by decide +kernel)];kernel_rfl)|(rw[if_neg (by decide +kernel)];exact⟨rfl,rfl⟩))
  (fun os started H enc _=>am2 os started H enc)
theorem spoolChunks_proved:Rows.SpoolChunksSaid:=anu
#print axioms spoolChunks_proved
end Go.Proofs.YtnlkkgpcikkpoaaGreat
