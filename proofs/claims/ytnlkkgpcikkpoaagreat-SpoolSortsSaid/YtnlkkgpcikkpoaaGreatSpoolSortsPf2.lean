/- The statement: for every input the law answers true, and its arguments read as before. Conditions: none beyond the row's own. -/
import Derived.Test.YtnlkkgpcikkpoaaGreatJAo
import Derived.Test.YtnlkkgpcikkpoaaGreatRows
import Derived.WalkKit
import Derived.ProofKit
import Derived.OpenShut
import Derived.ShutString
import Derived.ChangeOld
import Derived.Below
import Derived.SizedLaws
open Go.ChangeShapes renaming trodAll_cons->axg
open Go.ChangeSpec renaming witness6->ayr
open Go.Proofs.Tryz renaming checked->axe,f3->awO,func3->ayq,params3->ax8,prog->fK,underlying22->avf,underlying24->axl,underlying3->atC,underlying5->avv
open Go.Proofs.YtnlkkgpcikkpoaaGreat.Rows renaming spoolSortsRow->axf,spoolSortsSpec->auv
set_option linter.unusedVariables false
set_option linter.unusedSimpArgs false
set_option maxRecDepth 100000
/-
 The statement SpoolSorts: for every input the law answers true, and its arguments read asq before.
 Conditions: none beyond the row's own.
-/
namespace Go.Proofs.YtnlkkgpcikkpoaaGreat
open Go.ChangeShapes Go.WideShapes Go.ChangeAt Go.RowKit Go.Deep Vm
set_option maxRecDepth 100000 in
set_option maxHeartbeats 4000000 in
theorem apm(os:Os)(started:os.Started)(H:Type)(enc:TypeId×Value->H):
 ReturnsInHanded {} axe os 3 .any (auv.pre6 enc fK awO axf.domain false) (auv.post enc fK awO false true false false):=by
 refine returnsInHanded_of_change_sized (C:=axe) own started (by kernel_rfl) ayq
  (ayr (enc:=enc) (C:=axe) false ⟨#[], #[.agg #[.int .i64 0,.int .i64 0,.slice none 0 0,.slice none 0 0],.slice none 0 0,.slice none 0 0],[]⟩ 8 (by kernel_rfl) (by kernel_rfl) (by kernel_rfl) (by kernel_rfl)) ?_
 intro W base args ds gs before VG hW _ VH _
 have cc:(DataW.weightsEach fK (awO.params.toList++auv.plain.varTypes fK) (ds++gs)).all (·<=reachBytes)=true:=VH
 have D7:∀(j:Nat) t v,awO.params[j]?=some t->args[j]?=some v->Value.okWide fK W .any base t v:=VG
 have VI:=hW
 obtain⟨p,q,VJ,hV,rfl,nN,cB⟩:=hW
 have hA:DataW.TrodAll enc fK W 0 (λ_=>true) true awO.params.toList args.toList ds p:=VJ
 have hK:=hA
 rw[ax8]at hA D7 cc
 obtain⟨v0,aqV,d0,li,p0,q0,iw,rfl,rfl,h0,r0⟩:=axg hA
 obtain⟨v1,aqW,d1,aqX,p1,q1,rfl,rfl,rfl,h1,r1⟩:=axg r0
 obtain⟨v2,aqY,d2,aqZ,p2,q2,rfl,rfl,rfl,h2,r2⟩:=axg r1
 obtain⟨rfl,rfl,rfl⟩:=trodAll_nil r2
 obtain rfl:args= #[v0,v1,v2]:=by cases args;simp_all
 obtain⟨rfl,rfl⟩:=trodVars_none hV
 have hf:∀(j:Nat) t (d:DataW H),[24,22,25][j]?=some t->[d0,d1,d2][j]?=some d->∀n∈d.weights fK t,n<=reachBytes:=λj t d ht hd n hn=>by
  have:=List.all_eq_true.1 cc n (DataW.weights_mem_each (j:=j) (t:=t) (d:=d) (by simpa using List.getElem?_append_left (l₂:=auv.plain.varTypes fK) (List.getElem?_eq_some_iff.1 ht).1▸ht) (by simpa using hd) n hn)
  simpa using this
 have Ll:∀b,b<W.heap.size->(λk=>k<W.heap.size) b:=λb hb=>hb
 obtain⟨apn,apo⟩:=h0
 obtain⟨aq0,VK,app⟩:=xJ (P:=fK) Ll 10 24 apn _ _ (by kernel_rfl) apo (hf 0 _ _ rfl rfl)
 obtain⟨apq,apr⟩:=h1
 obtain⟨aq1,aps,apt⟩:=xJ (P:=fK) Ll 10 22 apq _ _ (by kernel_rfl) apr (hf 1 _ _ rfl rfl)
 obtain⟨apu,apv⟩:=h2
 obtain⟨aq2,apw,apx⟩:=xJ (P:=fK) Ll 10 25 apu _ _ (by kernel_rfl) apv (hf 2 _ _ rfl rfl)
 obtain⟨a1,apy,apz,e1⟩:=okWide_slice avf (D7 1 _ v1 rfl rfl)
 subst e1
 obtain⟨b,s1⟩:=apl apt aps
 obtain⟨a2,apA,L9,e2⟩:=okWide_slice Tryz.underlying25 (D7 2 _ v2 rfl rfl)
 subst e2
 obtain⟨C,gC,s2⟩:=apj apx apw
 obtain⟨apB,e0,_⟩:=okWide_struct axl (D7 0 _ v0 rfl rfl)
 subst e0
 obtain⟨aq3,ep,kz⟩:=apg axl app
 obtain⟨aq4,aq5,rfl,b0,kz⟩:=D6 kz
 obtain⟨aq6,aq7,rfl,b1,kz⟩:=D6 kz
 obtain⟨aq8,aq9,rfl,b2,kz⟩:=D6 kz
 obtain⟨ara,arb,rfl,b3,kz⟩:=D6 kz
 obtain rfl:=aph kz
 obtain⟨K,rfl,_⟩:=D5 atC b0
 obtain⟨N,rfl,hN⟩:=D5 atC b1
 obtain⟨A,rfl,arc⟩:=Lk avf avv (by kernel_rfl) (by kernel_rfl) b2
 obtain⟨B,rfl,ard⟩:=Lk avf avv (by kernel_rfl) (by kernel_rfl) b3
 subst ep
 clear VJ VG VH
 have hs:il fK W (λk=>k<W.heap.size) [.val (.int .i64 K),.val (.int .i64 N),.cells A.size (af A) 5,.cells B.size (af B) 5,.cells b.size (af b) 5,.cells C.length (ay C) 3] (apB.toList++[.slice a1 apy apz,.slice a2 apA L9]):=il.append VK ((il.append (.one s1) (il.append (.one s2) .nil)))
 refine(aF.apk (svs:=[.val (.int .i64 K),.val (.int .i64 N),.cells A.size (af A) 5,.cells B.size (af B) 5,.cells b.size (af b) 5,.cells C.length (ay C) 3]) 4 (apa A B b K N C) (by rfl) VK.len.symm hs).mono λe W' ⟨he,VL⟩=>?_
 subst he
 have hlt:∀x∈(p0++(p1++(p2++[])):List MemPlace),x.block<W.heap.size:=λx hx=>VI.lt x (by simpa using hx)
 exact⟨_,rfl,_,_,_,[],_,[],VI,trodAll_mk1 (shut_bool Tryz.underlying4 _),VF laidOut VL (by rw[ax8];intro t ht;simp at ht;rcases ht with rfl|rfl|rfl<;>exact⟨by kernel_rfl,of_decide_eq_true (by kernel_rfl)⟩) hK hlt,rfl,VL.frame _,λh=>by cases h⟩
theorem apC:axf.holds Tryz.pinned (OpenSpec.ofChange auv):=
 OpenClaim.holds_of_wide 3 awO rfl rfl rfl rfl rfl rfl rfl ⟨rfl,rfl,rfl,rfl,rfl⟩ rfl rfl rfl rfl rfl (by kernel_rfl) ayq (by kernel_rfl)
  (of_decide_eq_true (by kernel_rfl)) (by unfold Func.isWrapper;first|(rw[if_pos (by decide +kernel)];kernel_rfl)|(rw[if_neg (by decide +kernel)];exact⟨rfl,rfl⟩))
  (λos started H enc _=>apm os started H enc)
theorem spoolSorts_proved:Rows.SpoolSortsSaid:=apC
#print axioms spoolSorts_proved
end Go.Proofs.YtnlkkgpcikkpoaaGreat
