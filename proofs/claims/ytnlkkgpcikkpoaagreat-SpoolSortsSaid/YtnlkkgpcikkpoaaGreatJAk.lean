/- Part of the proof: HdE, Zci, Zpp, Zpq, Zoj, Zoi, Zok, Zps, Zpt, Zpu, Zpw. -/
import Derived.Test.YtnlkkgpcikkpoaaGreatJAe
import Derived.Test.YtnlkkgpcikkpoaaGreatJAj
import Derived.RangeFuncSeq
import Derived.KernelRfl
import Derived.Test.YtnlkkgpcikkpoaaGreatJAi
open Array renaming getElem?_eq_some_iff->asq
open Bool renaming and_eq_true->BV
open ByteArray renaming mk->ar2
open Decidable renaming not_not->ate
open Go renaming Code->ar3,FuncId->arY,Program->arC,Value->Dy,World->arB
open Go.Fence renaming wide->ats
open Go.IntKind renaming i64->Ul,wrap->m6
open Go.Proofs.Tryz renaming prog->fK
open Go.RowKit.Below renaming heap_alloc->at4
open Go.Value renaming int->KJ,string->arS
open Go.World renaming alloc_heap_new->awU,putObj_heap_other->asP,putObj_heap_same->avk
open Int renaming toNat->m5
open List renaming all->DC,all_eq_true->ar1,drop_drop->asI,drop_eq_getElem_cons->ath,drop_of_length_le->as7,drop_zero->ava,getElem?_eq_getElem->KH,getElem?_eq_some_iff->KP,getElem?_of_mem->asS,length->nG,length_append->KO,length_drop->ass,map_append->asm,map_cons->asn,mem_append->arL,mem_cons->arD,mem_cons_of_mem->arG,mem_cons_self->arH,mem_of_getElem?->ar7,mem_of_mem_drop->auK,mem_singleton->ar0,nodup_cons->asG,of_mem_zip->awz,range->atX,take_length->avt,take_of_length_le->asN,toArray->ar6
open Nat renaming add_assoc->atm,add_zero->atv,beq->arE,beq_refl->asx,ble->arM,ble_eq_true_of_le->arZ,blt->arF,le_of_ble_eq_true->arU,le_refl->arO,zero_le->asb
open Option renaming bind->ash,getD->asp,isSome->at3
open Option.some renaming injEq->DE
open UInt8 renaming ofNat->zW
set_option linter.unusedVariables false
set_option linter.unusedSimpArgs false
set_option maxRecDepth 100000
namespace Go.Proofs.YtnlkkgpcikkpoaaGreat.Vm
open Go.RowKit
def Sn(P:arC)(gf:arY)(cap:List Dy)(K:Nat)(O:Nat->List ak)(N:Nat)(X:Nat->List Dy)(Y:Nat->List ak):Prop:=
 ∀(B:Nat->Prop) (w₀:arB) (ρ:Ren) (lb:Array Dy) (l:Nat) (Ex:Nat->arB->Prop) (Es:arB->Prop) (W:arB),LR ρ cap lb.toList->(∀k A A',Ex k A->A.grownBy A' none->Ex k A')->(∀A A',Es A->A.grownBy A' none->Es A')->Full ρ->
  (∀k W' (xs:Array Dy),k<N->(∃ρ':Ren,Full ρ'/\(∀x,x<K->ρ' x=ρ x)/\WR P B w₀ ρ' (cu (O k++Y k)) W'/\LR ρ' (X k) xs.toList)->Ex k W'->
   YieldAt ats 3 P l xs W' λe JC=>e=.returned (.bool true)/\St P B w₀ ρ K (O (k+1)) JC/\Ex (k+1) JC\/e=.returned (.bool false)/\Es JC)->
  St P B w₀ ρ K (O 0) W->Ex 0 W->CallsIn ats 4 P gf (#[.func (.yield l) #[] #[]]++lb) W λe W'=>(∃v,e=.returned v)/\(St P B w₀ ρ K (O N) W'/\Ex N W'\/Es W')
theorem ao.ahN{P:arC}{n k g:Nat}{ps:List Nat}{L:List ar3}{K N:Nat}{sl:List (Nat×Dy)}{Q:bf->ai->Prop}{gf:arY}{cap:List Dy}{O:Nat->List ak}{X:Nat->List Dy}{Y:Nat->List ak}
 (hl:N1 L=some (g,ps))(eg:∀args w,(callFunc gf args).run P w=.ok (.enter gf args) w)(cw:Sn P gf cap K O N X Y)(G:Nat->Prop)(QE:List ak->Prop)(hG:G 0)
 (hg:j7 sl g=some (.func (.func gf) #[] cap.toArray))(iP:arF g n=true)(hX:∀j,j<N->(X j).length=ps.length)
 (uo:wm (Hi K) (sl.map (·.1)) (sl.map (·.2))=some sl)
 (hc:(ja (sl.map (·.1))&&sl.all (λp=>arF p.1 n&& !(ps.any (arE p.1)))&&ja ps&&ps.all (λp=>arF p n)&&arM k K&&arM n 1024)=true)
 (hO:∀j,j<=N->(O j).length<=262144)(hK:K<=(O 0).length)(hY:∀j,j<N->(O j++Y j).length<=262144)(JD:(((O 0).take K).drop k).all Zo=true)
 (ahO:∀j,j<N->G j->kD P n K (a7 (N2 L)) ⟨sl++ps.zip (X j),O j++Y j⟩ λx d1=>x=.normal/\kD P n K (a7 (Hh L)) d1 λx d2=>x=.normal/\d2.objs=O (j+1)/\G (j+1)\/x=.ret/\QE d2.objs)
 (ahP:∀o,QE o->Q .ret ⟨sl,o⟩)
 (hdone:G N->ao P n k L.tail ⟨sl,O N⟩ Q):ao P n k L ⟨sl,O 0⟩ Q:=by
 intro Cx hn hk a w hd
 subst hn hk
 obtain⟨ρ,u,M,hd⟩:=hd
 unfold N1 at hl
 split at hl
 ·rename_i g' mP rQ body rest
  simp only[DE,Prod.mk.injEq]at hl
  obtain⟨rfl,rfl⟩:=hl
  simp only[BV]at hc
  obtain⟨⟨⟨⟨⟨c1,c2⟩,c3⟩,c4⟩,c5⟩,c6⟩:=hc
  have c5:=arU c5
  have c6:=arU c6
  have cc:a.tmps.size=Cx.n:=by have:=hd.fr.size;rw[this];show(gY Cx.n u sl).length=_;unfold gY;simp[mA]
  have ul:a.defers=M.map e8:=hd.fr.sF rfl
  -- the slots
  have ca:∀q∈sl,VR ρ q.2 (a.tmps.getD q.1 undef):=λq hq=>by
   have h8:=hd.fr.at_ q.1
   have:=ar1.1 c2 q hq
   simp only[BV]at this
   rwa[Fr.yB,wq c6 (ed.1 this.1) (wE c1 q hq)]at h8
  have JE:∀ρ':Ren,(∀x,x<K->ρ' x=ρ x)->∀q∈sl,VR ρ' q.2 (a.tmps.getD q.1 undef):=λρ' hρ q hq=>by
   obtain⟨j,v,h1,h2,h3⟩:=GF uo q hq
   rw[List.getElem?_map]at h1 h2
   cases hj:sl[j]?with
   |none=>rw[hj]at h1;cases h1
   |some q'=>
    rw[hj]at h1 h2
    simp only[Option.map_some,DE]at h1 h2
    have h4:=ca q' (ar7 hj)
    rw[h1,h2]at h4
    refine rp (τ:=Hi K) (ρ:=ρ) (λy i r hy hr=>?_) 6 _ _ _ h3 h4
    unfold Hi at hy
    split at hy
    ·rename_i hb
     cases hy
     rw[hρ _ (ed.1 hb)];exact hr
    ·cases hy
  -- the iterator
  obtain⟨f',lb,ahQ,ahR,tW⟩:∃f' lb,a.eval (.tmp g')=.func (.func gf) f' lb/\LR ρ [] f'.toList/\LR ρ cap lb.toList:=by
   have h8:=hd.fr.at_ g'
   rw[Fr.yB,wq c6 (ed.1 iP) hg]at h8
   obtain⟨f',c',e1,e2,e3⟩:=h8.xZ
   exact⟨f',c',e1,by simpa using e2,by simpa using e3⟩
  have JF:f'= #[]:=by apply Array.ext';rw[ahR.kO]
  subst JF
  have JG:∀ρ':Ren,Full ρ'->∀i,∃u,VR ρ' u (a.tmps.getD i undef):=λρ' hf i=>(hd.fr.at_ i).full hf
  have ahS:=hd.mem.size
  refine(wpIn_wide (n:=5)).1 (wpIn_rangeFunc λfn hJ=>?_)
  obtain⟨rec,my⟩:∃rec:LoopState->Loop,rec=λst=>{state:=st,pending:=none,fn,tmps:=a.tmps,params:=mP,assign:=rQ,body,defers:=w.heap.size}:=⟨_,rfl⟩
  obtain⟨W1,xh⟩:∃W1,(w.alloc (.deferred (some []))).alloc (.loop (rec .ready))=W1:=⟨_,rfl⟩
  have w9:W1.heap[w.heap.size+1]?=some (.loop (rec .ready)):=by
   rw[<-xh]
   have:=awU (w.alloc (.deferred (some []))) (.loop (rec .ready))
   rwa[World.size_alloc]at this
  have hold:∀D,D<w.heap.size->W1.heap[D]?=w.heap[D]? :=λD hD=>by
   rw[<-xh]
   exact(at4 _ _ _ (by simp;omega)).trans (at4 _ _ _ hD)
  have ahT:W1.heap[w.heap.size]?=some (.deferred (some [])):=by
   rw[<-xh];exact(at4 _ _ _ (by simp)).trans (awU w _)
  have oO:w.grownBy W1 none:=by
   rw[<-xh]
   exact⟨rfl,rfl,rfl,by simp;omega,λD hD _=>by rw[xh];exact hold D hD⟩
  have Sp:∀D,Cx.B D->D<w.heap.size:=ahS
  have nB:¬Cx.B (w.heap.size+1):=λh=>by have:=Sp _ h;omega
  have Sq:¬Cx.B w.heap.size:=λh=>by have:=Sp _ h;omega
  have tw:∀D∈M,D<w.heap.size:=λD hD=>(asq.1 (hd.quiet D hD)).1
  -- what the rounds keep besides
  obtain⟨Ex,vi⟩:∃Ex:Nat->arB->Prop,Ex=λk W=>G k/\W.heap[w.heap.size+1]?=some (.loop (rec .ready))/\W.heap[w.heap.size]?=some (.deferred (some []))/\∀D∈M,W.heap[D]?=some (.deferred (some [])):=⟨_,rfl⟩
  obtain⟨Es,C9⟩:∃Es:arB->Prop,Es=λW=>∃o,QE o/\o.length<=262144/\St P Cx.B Cx.w₀ ρ K o W/\W.heap[w.heap.size+1]?=some (.loop {state:=.done,pending:=some .ret,fn,tmps:=a.tmps,params:=mP,assign:=rQ,body,defers:=w.heap.size})/\W.heap[w.heap.size]?=some (.deferred (some []))/\∀D∈M,W.heap[D]?=some (.deferred (some [])):=⟨_,rfl⟩
  refine⟨w.heap.size+1,[e8 w.heap.size],W1,{target:=.fn (.func gf) lb,args:= #[.func (.yield (w.heap.size+1)) #[] #[]]},W1,gf, #[.func (.yield (w.heap.size+1)) #[] #[]]++lb,W1,?_,?_,?_,?_,λ_=>by omega,?_⟩
  ·rw[<-xh,my];exact run_enterLoop_outer _ _ _ _ _
  ·simp only[resolve,ahQ]
   simp[go_sem]
  ·intro aqF aqG;trivial
  ·simp[invoke,go_sem,eg]
  ·refine(cw Cx.B Cx.w₀ ρ lb (w.heap.size+1) Ex Es W1 tW ?_ ?_ hd.full ?_ ⟨ρ,hd.full,λ_ _=>rfl,hd.mem.Hk oO⟩ (by rw[vi];exact⟨hG,w9,ahT,λD hD=>(hold D (tw D hD)).trans (hd.quiet D hD)⟩)).mono ?_
   ·intro k A A' hA lU
    rw[vi]at hA⊢
    exact⟨hA.1,wF lU hA.2.1,wF lU hA.2.2.1,λD hD=>wF lU (hA.2.2.2 D hD)⟩
   ·intro A A' hA lU
    rw[C9]at hA⊢
    obtain⟨o,q1,q2,⟨ρ',q3,q4,q5⟩,q6,q7,q8⟩:=hA
    exact⟨o,q1,q2,⟨ρ',q3,q4,q5.Hk lU⟩,wF lU q6,wF lU q7,λD hD=>wF lU (q8 D hD)⟩
   ·rintro j W xs hj ⟨ρ1,sL,qu,fV,gq⟩ hE
    rw[vi]at hE
    obtain⟨ahU,qF,xj,tu⟩:=hE
    have iT:mP.toList.length=xs.toList.length:=by rw[<-hX j hj,gq.len]
    have hy:=run_yield (P:=P) (args:=xs) qF (by rw[my];have:=iT;simp at this;exact this.symm)
    refine⟨_,_,_,_,hy,roundIn_of_wpIn (by rw[my];exact hJ) ?_⟩
    rw[my]at qF⊢
    dsimp only
    -- the frame of a round
    obtain⟨t1,um⟩:∃t1,(mP.zip xs).foldl (λtmps (x:Nat×Dy)=>tmps.setIfInBounds x.1 x.2) a.tmps=t1:=⟨_,rfl⟩
    have kv:t1=(mP.toList.zip xs.toList).foldl (λt p=>t.setIfInBounds p.1 p.2) a.tmps:=by
     rw[<-um,<-Array.foldl_toList,Array.toList_zip]
    have Da:(mP.zip xs).foldl (λtmps (t,a)=>tmps.setIfInBounds t a) a.tmps=t1:=um
    rw[Da]
    have hM:∀V:arB,V.heap[w.heap.size+1]?=W.heap[w.heap.size+1]? \/(∃r,V.heap[w.heap.size+1]?=some (.loop r))->V.heap[w.heap.size]?=some (.deferred (some []))->(∀D∈M,V.heap[D]?=some (.deferred (some [])))->
     ∀D∈(w.heap.size+1)::w.heap.size::M,∃o,V.heap[D]?=some o/\sJ o=true:=by
     intro V h1 h2 h3 D hD
     rcases arD.1 hD with rfl|hD
     ·rcases h1 with h1|⟨r,h1⟩
      ·exact⟨_,h1.trans qF,rfl⟩
      ·exact⟨_,h1,rfl⟩
     ·rcases arD.1 hD with rfl|hD
      ·exact⟨_,h2,rfl⟩
      ·exact⟨_,h3 D hD,rfl⟩
    have Sr:=hM W (.inl rfl) xj tu
    have kX:∀x,x<K->∃r,ρ1 x=some r:=λx hx=>by
     rw[qu x hx]
     by_cases qk:x<Cx.k
     ·rw[hd.kept x qk];exact Cx.named x qk
     have aqH:=hO 0 (asb _)
     have jy:small x=true:=ij.2 (by have:(2:Nat)^18=262144:=rfl;omega)
     have ho:(O 0)[x]?=some (O 0)[x]:=KH (by omega)
     refine hd.mem.named x (O 0)[x] (by rw[cH jy];exact ho) λe=>?_
     have:=ar1.1 JD _ (ar7 (i:=x-Cx.k) (by rw[List.getElem?_drop,List.getElem?_take,show Cx.k+(x-Cx.k)=x by omega,if_pos hx];exact ho))
     rw[e]at this
     cases this
    have iq:(O j++Y j).length<=262144:=hY j hj
    obtain⟨u1,vT⟩:∃u1:Nat->Dy,FR ρ1 ((eV Cx.n u1 (sl++mP.toList.zip (X j))).dS (([]:List Nat).map e8)) {tmps:=t1,defers:=[]}:=by
     refine FR.make (b:=[]) (by rw[kv];show((mP.toList.zip xs.toList).foldl _ a.tmps).size=_;rw[N3];exact cc) c6 rfl (λi=>?_) λq hq=>?_
     ·show∃u,VR ρ1 u (t1.getD i undef)
      rw[kv]
      refine N4 _ _ (λq hq=>?_) (JG ρ1 sL) i
      obtain⟨i',fH⟩:=asS (awz hq).2
      have hlt:i'<(X j).length:=by rw[gq.len];exact(KP.1 fH).1
      exact⟨_,gq.at_ i' _ _ (KH hlt) fH⟩
     ·show q.1<Cx.n/\VR ρ1 q.2 (t1.getD q.1 undef)
      rcases arL.1 hq with hq|hq
      ·have h2:=ar1.1 c2 q hq
       simp only[BV,Bool.not_eq_true',List.any_eq_false]at h2
       refine⟨ed.1 h2.1,?_⟩
       rw[kv,Hj _ _ λq' ahV e=>?_]
       ·exact JE ρ1 qu q hq
       ·have:=h2.2 q'.1 (awz ahV).1
        rw[e,asx]at this
        exact this rfl
      ·obtain⟨i',fH⟩:=asS hq
       have hz:mP.toList[i']?=some q.1/\(X j)[i']?=some q.2:=by
        have:=List.getElem?_zip_eq_some.1 fH
        exact this
       have hp:=ar1.1 c4 q.1 (ar7 hz.1)
       refine⟨ed.1 hp,?_⟩
       obtain⟨v',gJ,ahW⟩:=gq.get hz.2
       rw[kv,N5 _ _ _ c3 iT i' q.1 v' hz.1 gJ (by rw[cc];exact ed.1 hp)]
       exact ahW
    have ahX:Holds P ⟨λD=>Cx.B D\/D∈(w.heap.size+1)::w.heap.size::M,W,K,ρ1,Cx.n,kX⟩ ⟨sl++mP.toList.zip (X j),O j++Y j⟩ {tmps:=t1,defers:=[]} W:=
     ⟨ρ1,u1,[],sL,λ_ _=>rfl,vT,fV.A8 Sr,iq,(λD hD=>by cases hD),.nil,λD hD=>by cases hD⟩
    have ahY:=ahO j hj ahU ⟨λD=>Cx.B D\/D∈(w.heap.size+1)::w.heap.size::M,W,K,ρ1,Cx.n,kX⟩ rfl rfl (some (w.heap.size+1)) _ W ahX
    refine wpIn_mono (N6 (m:=3) (NZ ahY)) λe a2 W2 he=>?_
    obtain⟨x,d1,⟨rfl,ahZ⟩,dL,ρ2,u2,M2,mD⟩:=he
    cases dL
    have kB:∀D,D∈(w.heap.size+1)::w.heap.size::M->W2.heap[D]?=W.heap[D]? :=λD hD=>mD.mem.Ba hD
    have jx:W2.heap[w.heap.size+1]?=some (.loop {state:=.ready,pending:=none,fn,tmps:=a.tmps,params:=mP,assign:=rQ,body,defers:=w.heap.size}):=(kB _ arH).trans qF
    refine⟨_,run_beginRound jx rfl,?_⟩
    obtain⟨W3,Db⟩:∃W3,W2.putObj (w.heap.size+1) (.loop {state:=.busy,pending:=none,fn,tmps:=a.tmps,params:=mP,assign:=rQ,body,defers:=w.heap.size})=W3:=⟨_,rfl⟩
    have dg:=mD.mem.A9 fV.env fV.below fV.size Sr
    have oh:WR P Cx.B Cx.w₀ ρ2 (cu d1.objs) W3:=by rw[<-Db];exact dg.wv nB jx rfl _
    have yh:W3.heap[w.heap.size+1]?=some (.loop {state:=.busy,pending:=none,fn,tmps:=a.tmps,params:=mP,assign:=rQ,body,defers:=w.heap.size}):=by
     rw[<-Db];exact avk (asq.1 jx).1
    have JH:∀D,D≠w.heap.size+1->W3.heap[D]?=W2.heap[D]? :=λD hD=>by rw[<-Db];exact asP hD
    have JI:W3.heap[w.heap.size]?=some (.deferred (some [])):=(JH _ (by omega)).trans ((kB _ (arG _ arH)).trans xj)
    have JJ:∀D∈M,W3.heap[D]?=some (.deferred (some [])):=λD hD=>(JH _ (by have:=tw D hD;omega)).trans ((kB _ (arG _ (arG _ hD))).trans (tu D hD))
    have Ss:=hM W3 (.inr ⟨_,yh⟩) JI JJ
    have ah0:∀D∈M2,D∉(w.heap.size+1)::w.heap.size::M:=λD hD gl=>mD.outside D hD (.inr gl)
    have ah1:Holds P ⟨λD=>Cx.B D\/D∈(w.heap.size+1)::w.heap.size::M,W3,K,ρ1,Cx.n,kX⟩ d1 a2 W3:=
     ⟨ρ2,u2,M2,mD.full,mD.kept,mD.fr,oh.A8 Ss,mD.bR,λD hD=>(JH D (λe=>ah0 D hD (e▸arH))).trans (mD.quiet D hD),mD.gR,mD.outside⟩
    have ah2:=ahZ ⟨λD=>Cx.B D\/D∈(w.heap.size+1)::w.heap.size::M,W3,K,ρ1,Cx.n,kX⟩ rfl rfl (some (w.heap.size+1)) a2 W3 ah1
    rw[Db]
    refine wpIn_mono (N6 (m:=3) (NZ ah2)) λe a3 W4 he=>?_
    obtain⟨x,d2,kw,dL,ρ4,u4,M4,vj⟩:=he
    have zC:∀D,D∈(w.heap.size+1)::w.heap.size::M->W4.heap[D]?=W3.heap[D]? :=λD hD=>vj.mem.Ba hD
    have xk:=(zC _ arH).trans yh
    have Cn:=vj.mem.A9 oh.env oh.below oh.size Ss
    rcases kw with⟨rfl,oP,ah3⟩|⟨rfl,oP⟩
    ·cases dL
     rw[oP]at Cn
     refine⟨_,_,run_endRound (P:=P) none xk,.inl ⟨rfl,⟨ρ4,vj.full,λx hx=>(vj.kept x hx).trans (qu x hx),Cn.wv nB xk rfl _⟩,?_⟩⟩
     rw[vi,my]
     refine⟨ah3,avk (asq.1 xk).1,?_,λD hD=>?_⟩
     ·exact(asP (by omega)).trans ((zC _ (arG _ arH)).trans JI)
     ·exact(asP (by have:=tw D hD;omega)).trans ((zC _ (arG _ (arG _ hD))).trans (JJ D hD))
    ·cases dL
     refine⟨_,_,run_endRound (P:=P) (some .ret) xk,.inr ⟨rfl,?_⟩⟩
     rw[C9]
     refine⟨_,oP,vj.bR,⟨ρ4,vj.full,λx hx=>(vj.kept x hx).trans (qu x hx),Cn.wv nB xk rfl _⟩,avk (asq.1 xk).1,?_,λD hD=>?_⟩
     ·exact(asP (by omega)).trans ((zC _ (arG _ arH)).trans JI)
     ·exact(asP (by have:=tw D hD;omega)).trans ((zC _ (arG _ (arG _ hD))).trans (JJ D hD))
   ·rintro e Wf ⟨⟨v,rfl⟩,⟨⟨ρf,uZ,jz,tx⟩,hE⟩|hS⟩
    ·rw[vi]at hE
     obtain⟨ah4,qF,xj,tu⟩:=hE
     have uh:=run_endLoop (P:=P) qF (by rw[my];simp)
     rw[my]at uh
     refine⟨none,_,uh,?_⟩
     have rR:=tx.wv nB qF rfl (.loop {state:=.exhausted,pending:=none,fn,tmps:=a.tmps,params:=mP,assign:=rQ,body,defers:=w.heap.size})
     obtain⟨uf,JK⟩:∃uf:Nat->Dy,FR ρf ((eV Cx.n uf sl).dS ((w.heap.size::M).map e8)) {a with defers:=[e8 w.heap.size]++a.defers}:=by
      refine FR.make (a:={a with defers:=[e8 w.heap.size]++a.defers}) (b:=(w.heap.size::M).map e8) cc c6 (by show[e8 w.heap.size]++a.defers=_;rw[ul];rfl) (JG ρf uZ) λq hq=>?_
      have h2:=ar1.1 c2 q hq
      simp only[BV]at h2
      exact⟨ed.1 h2.1,JE ρf jz q hq⟩
     refine hdone ah4 Cx rfl rfl _ _ ⟨ρf,uf,w.heap.size::M,uZ,λx hx=>(jz x (by omega)).trans (hd.kept x hx),JK,rR,?_,λD hD=>?_,?_,λD hD=>?_⟩
     ·show(O N).length<=262144
      exact hO N (arO _)
     ·rcases arD.1 hD with rfl|hD
      ·exact(asP (by omega)).trans xj
      ·exact(asP (by have:=tw D hD;omega)).trans (tu D hD)
     ·exact asG.2 ⟨λh=>by have:=tw _ h;omega,hd.gR⟩
     ·rcases arD.1 hD with rfl|hD
      ·exact Sq
      ·exact hd.outside D hD
    ·rw[C9]at hS
     obtain⟨o,ho,gF,⟨ρf,uZ,jz,tx⟩,qF,xj,tu⟩:=hS
     have uh:=run_endLoop (P:=P) qF (by simp)
     refine⟨some .ret,_,uh,wpIn_ret ?_⟩
     have rR:=tx.wv nB qF rfl (.loop {state:=.exhausted,pending:=some .ret,fn,tmps:=a.tmps,params:=mP,assign:=rQ,body,defers:=w.heap.size})
     obtain⟨uf,JK⟩:∃uf:Nat->Dy,FR ρf ((eV Cx.n uf sl).dS ((w.heap.size::M).map e8)) {a with defers:=[e8 w.heap.size]++a.defers}:=by
      refine FR.make (a:={a with defers:=[e8 w.heap.size]++a.defers}) (b:=(w.heap.size::M).map e8) cc c6 (by show[e8 w.heap.size]++a.defers=_;rw[ul];rfl) (JG ρf uZ) λq hq=>?_
      have h2:=ar1.1 c2 q hq
      simp only[BV]at h2
      exact⟨ed.1 h2.1,JE ρf jz q hq⟩
     refine⟨.ret,⟨sl,o⟩,ahP o ho,.ret,ρf,uf,w.heap.size::M,uZ,λx hx=>(jz x (by omega)).trans (hd.kept x hx),JK,rR,?_,λD hD=>?_,?_,λD hD=>?_⟩
     ·exact gF
     ·rcases arD.1 hD with rfl|hD
      ·exact(asP (by omega)).trans xj
      ·exact(asP (by have:=tw D hD;omega)).trans (tu D hD)
     ·exact asG.2 ⟨λh=>by have:=tw _ h;omega,hd.gR⟩
     ·rcases arD.1 hD with rfl|hD
      ·exact Sq
      ·exact hd.outside D hD
 ·cases hl
end Go.Proofs.YtnlkkgpcikkpoaaGreat.Vm
namespace Go.Proofs.YtnlkkgpcikkpoaaGreat
open Go Vm Go.RowKit
theorem cell_of{P:arC}{B:Nat->Prop}{w₀ w:arB}{ρ:Vm.Ren}{O:List ak}{xb:Nat}{v:Dy}{el:TypeId}{r:Vm.bV}(h:WR P B w₀ ρ (cu O) w)(hl:O.length<=262144)(ho:O[xb]?=some (.cells [v] el false))(hr:ρ xb=some r):∃v',w.cell? ⟨r.aH,r.sh,none⟩=some v'/\VR ρ v v':=by
 have hx:xb<O.length:=(KP.1 ho).1
 have hm:cu O xb=some (.cells [v] el false):=by rw[cH (ij.2 (by have:(2:Nat)^18=262144:=rfl;omega))];exact ho
 obtain⟨o',h1,h2,_⟩:=h.live xb _ r hm hr (pc (by simp))
 cases h2 with
 |cells _ _ cj _ c' fr hp vZ he hz hf hc=>
  obtain⟨v',q1,q2⟩:=hc 0 v rfl
  refine⟨v',?_,q2⟩
  simp only[World.cell?,h1]
  exact q1
theorem Vm.ah5{F:Fence}{m:Nat}{P:arC}{l:Nat}{args:Array Dy}{W:arB}{R R':Ending->arB->Prop}(h:YieldAt F m P l args W R)(hr:∀e w,R e w->R' e w):YieldAt F m P l args W R':=by
 obtain⟨fn,tmps,rQ,body,h1,h2⟩:=h
 exact⟨fn,tmps,rQ,body,h1,h2.mono hr⟩
theorem ah6{K xb bs bn N:Nat}{O:Nat->List ak}(hN:N<=1000000)(ah7:0<N)(hK:K<262144){el1 el2:TypeId}
 (hO:∀j,j<=(N+2)/3->(O j).length<=262144)(qV:bs<K)(ah8:bn<K)(hs:∀j,j<=(N+2)/3->(O j)[bs]?=some (.cells [.slice (some ⟨xb,0,none⟩) N N] el1 false))(hn:∀j,j<=(N+2)/3->(O j)[bn]?=some (.cells [.int .i64 3] el2 false))(Su:xb<K):
 Sn fK 124 [.pointer (some ⟨bs,0,none⟩),.pointer (some ⟨bn,0,none⟩)] K O ((N+2)/3)
  (λj=>[.slice (some ⟨xb,3*j,none⟩) (min 3 (N-3*j)) (min 3 (N-3*j))]) (λ_=>[]):=by
 intro B w₀ ρ lb l Ex Es W tW vi C9 gM hY Sv hE
 obtain⟨v1,l1,e1,e2,e3⟩:=tW.gT
 obtain⟨v2,l2,e4,e5,e6⟩:=e3.gT
 rw[e6.kO]at e4
 obtain⟨r1,G5,rfl⟩:=e2.lp
 obtain⟨r2,eT,rfl⟩:=e5.lp
 have ah9:lb= #[.pointer (some ⟨r1.aH,r1.sh+0,none⟩),.pointer (some ⟨r2.aH,r2.sh+0,none⟩)]:=by rw[<-Array.toArray_toList (xs:=lb),e1,e4]
 subst ah9
 rw[atv,atv]
 have du:∀j W,j<=(N+2)/3->St fK B w₀ ρ K (O j) W->∃r,ρ xb=some r/\(∃cap,N<=cap/\W.cell? ⟨r1.aH,r1.sh,none⟩=some (.slice (some ⟨r.aH,r.sh,none⟩) N cap))/\W.cell? ⟨r2.aH,r2.sh,none⟩=some (.int .i64 3):=λj W hj ⟨ρ',_,hk,hw⟩=>by
  obtain⟨u1,q1,q2⟩:=cell_of hw (hO j hj) (hs j hj) ((hk bs qV).trans G5)
  obtain⟨u2,q3,q4⟩:=cell_of hw (hO j hj) (hn j hj) ((hk bn ah8).trans eT)
  have:=q4.kl
  subst this
  cases q2 with
  |bN _ h=>cases h
  |eJ=>exact absurd ah7 (by omega)
  |sl _ _ _ _ bH q hq hc=>
   refine⟨q,(hk xb Su).symm.trans hq,⟨bH,?_,q1⟩,q3⟩
   unfold Ez at hc
   omega
 obtain⟨r,hr,_,_⟩:=du 0 W (asb _) Sv
 refine(ahL r1.aH r1.sh r2.aH r2.sh r.aH r.sh N hN 4 (by omega) l (λj W=>j<=(N+2)/3/\St fK B w₀ ρ K (O j) W/\Ex j W) Es W ?_ ?_ ?_ ⟨asb _,Sv,hE⟩).mono ?_
 ·rintro j A ⟨hj,hA,_⟩
  obtain⟨r',v8,h1,h2⟩:=du j A hj hA
  rw[hr]at v8
  cases v8
  exact⟨h1,h2⟩
 ·rintro j W0 hj ⟨adB,⟨ρ',a1,a2,a3⟩,hA⟩
  have hx:=hY j W0 #[.slice (some ⟨r.aH,r.sh+3*j,none⟩) (min 3 (N-3*j)) (min 3 (N-3*j))] (by omega) ⟨ρ',a1,a2,by rw[List.append_nil];exact a3,LR.cons (.sl _ _ _ _ _ r ((a2 xb Su).trans hr) (.inl rfl)) (LR.nil _)⟩ hA
  exact Vm.ah5 hx λe W' h=>h.imp (λ⟨k1,k2,k3⟩=>⟨k1,by omega,k2,k3⟩) id
 ·rintro j A ⟨hj,⟨ρ',a1,a2,a3⟩,hA⟩
  have hg:A.grownBy A.drew none:=⟨rfl,by simp,rfl,arO _,λk hk _=>rfl⟩
  exact⟨hj,⟨ρ',a1,a2,a3.Hk hg⟩,vi _ _ _ hA hg⟩
 ·rintro e W' ⟨hv,⟨_,h1,h2⟩|h⟩
  ·exact⟨hv,.inl ⟨h1,h2⟩⟩
  ·exact⟨hv,.inr h⟩
noncomputable section
def aia(S:ad)(L:List ByteArray)(R:List Int)(H:List au)(d:aA)(o n:Nat)(no e:Int)(dd:aA):List (arY×Sum):=[(102,Sum.one (λ_ _=>some [0,1,2,10,4]) [ap 0,cA 3 o n n] (aP S L R H d) (.ret (.tuple #[aa no,aa e])) (aP S L R H dd))]
theorem aib(S:ad)(L:List ByteArray)(R:List Int)(H:List au)(d:aA)(o n:Nat)(no e:Int)(dd:aA)(vk:aF fK 102 [ap 0,cA 3 o n n] (aP S L R H d) λr q=>r=.ret (.tuple #[aa no,aa e])/\q=aP S L R H dd):dD fK (dM fK (dP (aia S L R H d o n no e dd)) 50 40):=
 dU dC mixed (ee (.cons (bB.one vk) .nil)) 50 40
def Dc:List ar3:=a7 (dI fK 75)
open Tree renaming aQ->mN,dE->mF,fj->mL,fY->mQ,dN->mR,gH->mE
abbrev JL:List ar3:=(a7 (inner (Dc.drop 3)))
abbrev aic:=λS L R H d=>(⟨[(1,ap 5),(2,ap 6),(3,ap 7),(11,.func (.func 124) #[] #[ap 8,ap 9])],[ab (aL S 1 2 10 4) 89,.abs d,ab (ah L) 9,.dead,ab (an H) 114,ab [ap 0] 37,ab [aa 0] 26,ab [ci] 25,ab [aq 10 (ad.sn S)] 25,ab [aa 3] 3,ab (ay R) 3]⟩:ai)
abbrev aid:=λS L R H d=>(⟨[(0,ap 0)],[ab (aL S 1 2 5 4) 89,.abs d,ab (ah L) 9,.dead,ab (an H) 114,ab (ay R) 3]⟩:ai)
theorem aie(S:ad)(L R H d)(pH:(an H).all ag=true)(hR:(nG R)=S.sn){Q:aU}(l3:ao fK 39 5 (Dc.drop 3) (aic S L R H d) Q):ao fK 39 5 Dc (aid S L R H d) Q:=
 aV bp 3 (.leaf [1,2,3,11] [0,1,2,3,4,6,7,8,9,10,5] [2,4,5]) (λu=>by kernel_rfl) (mN (aW L) (mN (aZ H) (mN (aS R) (mQ l3))))
abbrev aif:=λS L R H d nx (o n:Nat)=>(⟨[(1,ap 5),(2,ap 6),(3,ap 7),(4,cA 10 o n n)],[ab (aL S 1 2 10 4) 89,.abs d,ab (ah L) 9,.dead,ab (an H) 114,ab [ap 0] 37,ab [aa 0] 26,ab [aq 11 (nG nx)] 25,ab [aq 10 (ad.sn S)] 25,ab [aa 3] 3,ab (ay R) 3,ab (ay nx) 3]⟩:ai)
theorem aih(S:ad)(L R H d nx)(o n:Nat)(pH:(an H).all ag=true){Q:aU}(l4:Q .normal (aif S L R H d nx o n)):kD fK 39 11 (a7 (N2 JL)) ⟨[(1,ap 5),(2,ap 6),(3,ap 7),(11,.func (.func 124) #[] #[ap 8,ap 9]),(12,cA 10 o n n)],[ab (aL S 1 2 10 4) 89,.abs d,ab (ah L) 9,.dead,ab (an H) 114,ab [ap 0] 37,ab [aa 0] 26,ab [aq 11 (nG nx)] 25,ab [aq 10 S.sn] 25,ab [aa 3] 3,ab (ay R) 3,ab (ay nx) 3]⟩ Q:=
 kD.tree dC mixed bp (lf:=50) (m:=1000) (s:=(.leaf [1,2,3,4] [0,1,2,3,4,5,6,7,8,9,10,11] [2,4,10,11])) (λu=>by kernel_rfl) (mN (aW L) (mN (aZ H) (mN (aS R) (mN (aS nx) (mQ (kD.done (by kernel_rfl) l4))))))
abbrev aii:=λS L R H d nx (o n:Nat)=>(⟨[],[ab (aL S 1 2 10 4) 89,.abs d,ab (ah L) 9,.dead,ab (an H) 114,ab [ap 0] 37,ab [aa 0] 26,ab [aq 11 (nG nx+1)] 25,ab [aq 10 (ad.sn S)] 25,ab [aa 3] 3,ab (ay R) 3,ab (ay nx++[aa (av (ay R) (o+0))]) 3]⟩:ai)
theorem aij(S:ad)(L R H d nx)(o n:Nat)(pH:(an H).all ag=true)(hR:(nG R)=S.sn)(h0:n=1)(h1:o<(nG R))(h2:(nG nx)<=1000000){Q:aU}(n0:(cP Ul (ay R) (o+0)))(n1:(arM (nG nx+1) 1000000))(aY:DC (ah L) ag)(bh:DC (an H) ag)(bT:DC (ay R) ag)(l5:Q .normal (aii S L R H d nx o n)):kD fK 39 11 (a7 (Hh JL)) ⟨[(1,ap 5),(2,ap 6),(3,ap 7),(4,cA 10 o n n)],[ab (aL S 1 2 10 4) 89,.abs d,ab (ah L) 9,.dead,ab (an H) 114,ab [ap 0] 37,ab [aa 0] 26,ab [aq 11 (nG nx)] 25,ab [aq 10 S.sn] 25,ab [aa 3] 3,ab (ay R) 3,ab (ay nx) 3]⟩ Q:=
 kD.tree dC mixed bp (lf:=50) (m:=1000) (s:=(aB [3,2,3,0,1,0,3,5,1] (.leaf [] [0,1,2,3,4,5,6,7,8,9,10,13] [2,4,10,13]))) (λu=>by kernel_rfl) (mN (decide_eq_true (by omega):((↑n:Int)==1)=true) (mN (show(arF 0 n)=true by simp at pH hR h0 h1 h2⊢ <;>omega) (mN n0 (mN n1 (mN (kY _:(full (nG nx) (nG nx))=true) (mN (show(arE (0+nG nx*1) (nG (ay nx)))=true by simp) (mN (aW L) (mN (aZ H) (mN (aS R) (mN (show(DC (ay nx++[aa (av (ay R) (o+0))]) ag)=true by simp) (mQ (kD.done (by kernel_rfl) l5))))))))))))
abbrev aik:=λS L R H (d:aA) nx (o n:Nat) (no e:Int) dd=>(⟨[(2,ap 6)],[ab (aL S 1 2 10 4) 89,.abs dd,ab (ah L) 9,.dead,ab (an H) 114,ab [ap 0] 37,ab [aa e] 26,ab [aq 11 (nG nx)] 25,ab [aq 10 (ad.sn S)] 25,ab [aa 3] 3,ab (ay R) 3,ab (ay nx) 3]⟩:ai)
abbrev ail:=λS L R H (d:aA) nx (o n:Nat) (no e:Int) dd=>(⟨[],[ab (aL S 1 2 10 4) 89,.abs dd,ab (ah L) 9,.dead,ab (an H) 114,ab [ap 0] 37,ab [aa 0] 26,ab [aq 11 (nG nx+1)] 25,ab [aq 10 (ad.sn S)] 25,ab [aa 3] 3,ab (ay R) 3,ab (ay nx++[aa no]) 3]⟩:ai)
theorem aim(S:ad)(L R H d nx)(o n:Nat)(no e:Int)(dd:aA)(pH:(an H).all ag=true)(hR:(nG R)=S.sn)(vk:aF fK 102 [ap 0,cA 3 o n n] (aP S L R H d) λr q=>r=.ret (.tuple #[aa no,aa e])/\q=aP S L R H dd)(h0:n≠1)(h1:(nG nx)<=1000000){Q:aU}(n0:(fZ [ap 0,cA 3 o n n] [ap 0,cA 3 o n n] [ab (aL S 1 2 3 4) 89,ak.abs d,ab (ah L) 9,ab (ay R) 3,ab (an H) 114] (aP S L R H d)))(aY:DC (ah L) ag)(bh:DC (an H) ag)(bT:DC (ay R) ag)(bO:DC (ay nx) ag)(l5:(e != 0)->Q .ret (aik S L R H d nx o n no e dd))(n6:(e != 0)=false->(arM (nG nx+1) 1000000))(l7:(e != 0)=false->Q .normal (ail S L R H d nx o n no e dd)):kD fK 39 11 (a7 (Hh JL)) ⟨[(1,ap 5),(2,ap 6),(3,ap 7),(4,cA 10 o n n)],[ab (aL S 1 2 10 4) 89,.abs d,ab (ah L) 9,.dead,ab (an H) 114,ab [ap 0] 37,ab [aa 0] 26,ab [aq 11 (nG nx)] 25,ab [aq 10 S.sn] 25,ab [aa 3] 3,ab (ay R) 3,ab (ay nx) 3]⟩ Q:=
 kD.tree dC mixed (aib S L R H d o n no e dd vk) (lf:=50) (m:=1000) (s:=(aB [2,5,1,1,1,1,1,1] (.fork 0 (.leaf [2] [0,1,2,3,4,5,6,7,8,9,10,11] [2,4,10,11]) (aB [2,3,5,1] (.leaf [] [0,1,2,3,4,5,6,7,8,9,10,13] [2,4,10,13]))))) (λu=>by kernel_rfl) (mN (decide_eq_false (by omega):((↑n:Int)==1)=false) (aO L R H (mN n0 (aO L R H (mF (c:=e != 0) (λh0=>(mN (aW L) (mN (aZ H) (mN (aS R) (mN (aS nx) (mR (l5 h0))))))) (λh0=>(mN (n6 h0) (mN (kY _:(full (nG nx) (nG nx))=true) (mN (show(arE (0+nG nx*1) (nG (ay nx)))=true by simp) (mN (aW L) (mN (aZ H) (mN (aS R) (mN (show(DC (ay nx++[aa no]) ag)=true by simp) (mQ (kD.done (by kernel_rfl) (l7 h0))))))))))))))))
abbrev Sw:=λS L (R:List Int) H d nx=>(⟨[(2,ap 5)],[ab (aL (ad.mk (ad.at_ S) (ad.more S) (ad.bi S) (ad.B S) (ad.n S) (ad.failed S) (ad.aC S) (ad.ro S) (ad.rn S) (ad.bJ S) (nG nx) (ad.hn S) (ad.eL S) (ad.raw S) (ad.closed S)) 1 2 6 4) 89,.abs d,ab (ah L) 9,.dead,ab (an H) 114,ab [aa 0] 26,ab (ay nx) 3]⟩:ai)
theorem ain(S L R H d nx){Q:bu}(hq:Q (.ret (aa 0)) [ab (aL (ad.mk (ad.at_ S) (ad.more S) (ad.bi S) (ad.B S) (ad.n S) (ad.failed S) (ad.aC S) (ad.ro S) (ad.rn S) (ad.bJ S) (nG nx) (ad.hn S) (ad.eL S) (ad.raw S) (ad.closed S)) 1 2 5 4) 89,.abs d,ab (ah L) 9,.dead,ab (an H) 114,ab (ay nx) 3]):aG fK 75 39 5 Q .ret (Sw S L R H d nx):=aG.ret (vs:=[aa 0]) (l:=[5]) (bs:=[0,1,2,3,4,6]) (pl:=[2,4,6]) (q:=[ah L,an H,ay nx]) (λu=>by kernel_rfl) (by kernel_rfl) (aD (aW L) (aD (aZ H) (aD (aS nx) be))) hq
abbrev aio:=λ(S:ad) L R H d nx=>(⟨[(1,ap 5),(2,ap 6),(3,ap 7),(11,.func (.func 124) #[] #[ap 8,ap 9])],[ab (aL S 1 2 10 4) 89,.abs d,ab (ah L) 9,.dead,ab (an H) 114,ab [ap 0] 37,ab [aa 0] 26,ab [aq 11 (nG nx)] 25,ab [aq 10 S.sn] 25,ab [aa 3] 3,ab (ay R) 3,ab (ay nx) 3]⟩:ai)
theorem aip(S:ad)(L R H d nx)(pH:(an H).all ag=true)(hR:(nG R)=S.sn){Q:aU}(l3:Q .ret (Sw S L R H d nx)):ao fK 39 5 (Dc.drop 4) (aio S L R H d nx) Q:=
 aV bp 1000 (.leaf [2] [0,1,2,3,4,6,11] [2,4,11]) (λu=>by kernel_rfl) (mN (aW L) (mN (aZ H) (mN (aS nx) (mR l3))))
end
def fR(R:List Int)(j:Nat):List Int:=(R.drop (3*j)).take (min 3 (R.length-3*j))
noncomputable def kg(f:Bool)(R:List Int)(j:Nat)(s:List Int×aA):Int×List Int×aA:=
 if min 3 (R.length-3*j)=1 then(0,s.1++fR R j,s.2)else((gi f (fR R j) s.2).2.1,s.1++[(gi f (fR R j) s.2).1],(gi f (fR R j) s.2).2.2)
noncomputable def fm(f:Bool)(R:List Int)(d:aA):Nat->List Int×aA
 |0=>([],d)
 |j+1=>(kg f R j (fm f R d j)).2
noncomputable def mS(f:Bool)(R:List Int):Nat->Nat->List Int×aA->Int×List Int×aA
 |0,_,s=>(0,s)
 |n+1,j,s=>if(kg f R j s).1≠0 then kg f R j s else mS f R n (j+1) (kg f R j s).2
noncomputable def gz(f:Bool)(R:List Int)(d:aA):Int×List Int×aA:=mS f R ((R.length+2)/3) 0 ([],d)
theorem Sx(R:List Int)(j:Nat):fR R j=(R.drop (3*j)).take 3:=by
 unfold fR
 by_cases h:3<=R.length-3*j
 ·rw[show min 3 (R.length-3*j)=3 by omega]
 ·rw[show min 3 (R.length-3*j)=R.length-3*j by omega,asN (by rw[ass];omega),asN (by rw[ass];omega)]
theorem Sy(R:List Int)(j:Nat):(fR R j).length=min 3 (R.length-3*j):=by
 unfold fR;rw[List.length_take,ass];omega
theorem JM(R:List Int)(j:Nat):R.drop (3*j)=fR R j++R.drop (3*(j+1)):=by
 rw[Sx]
 conv=>lhs;rw[<-List.take_append_drop 3 (R.drop (3*j))]
 rw[asI,show 3*j+3=3*(j+1)by omega]
theorem aiq{R:List Int}{j:Nat}{r:Int}(h:r∈fR R j):r∈R:=auK (List.mem_of_mem_take h)
structure mT(d0:aA)(R:List Int)(j:Nat)(s:List Int×aA):Prop where
 cL:ct s.2
 made:d0.made<=s.2.made
 len:s.1.length=j
 old:∀r∈s.1,r<=s.2.made
 bR:eO s.2 s.1+eO s.2 (R.drop (3*j))<=eO d0 R
theorem Sz{d d':aA}{l:List Int}(h:∀r∈l,cg d' r<=cg d r):eO d' l<=eO d l:=by
 induction l with
 |nil=>exact arO _
 |cons x l ih=>
  have h1:=h x arH
  have h2:=ih λy hy=>h y (arG _ hy)
  unfold eO
  omega
theorem mT.zero{d:aA}{R:List Int}(h:jr d R):mT d R 0 ([],d):=
 ⟨h.cL,arO _,rfl,(λ_ h=>by cases h),by show 0+eO d R<=_;omega⟩
theorem mT.runs{d0:aA}{R:List Int}{j:Nat}{s:List Int×aA}(h:mT d0 R j s)(h0:jr d0 R):jr s.2 (fR R j):=by
 refine⟨h.cL,λr hr=>?_,?_⟩
 ·have:=h0.old r (aiq hr)
  have:=h.made
  omega
 ·have h1:=h.bR
  have h2:=h0.bR
  rw[JM,xc]at h1
  omega
theorem mT.next(f:Bool){d0:aA}{R:List Int}{j:Nat}{s:List Int×aA}(h:mT d0 R j s)(h0:jr d0 R)(hj:3*j<R.length)(he:(kg f R j s).1=0):mT d0 R (j+1) (kg f R j s).2:=by
 have tU:=h.runs h0
 have hm:=Jl f tU
 have du:=Sy R j
 have hold:∀r∈R.drop (3*(j+1)),r<=s.2.made:=λr hr=>by
  have:=h0.old r (auK hr)
  have:=h.made
  omega
 have iq:=h.bR
 rw[JM,xc]at iq
 unfold kg at he⊢
 by_cases h1:min 3 (R.length-3*j)=1
 ·rw[if_pos h1]
  refine⟨h.cL,h.made,by dsimp only;rw[KO,h.len,du,h1],λr hr=>?_,?_⟩
  ·rcases arL.1 hr with hr|hr
   ·exact h.old r hr
   ·exact tU.old r hr
  ·dsimp only
   rw[xc]
   omega
 ·rw[if_neg h1]at he⊢
  obtain⟨m1,m2,m3,m4⟩:=hm
  obtain⟨n1,n2,n3⟩:=m3 he
  refine⟨m1,by have:=h.made;dsimp only;omega,by dsimp only;rw[KO,h.len];rfl,λr hr=>?_,?_⟩
  ·dsimp only at hr⊢
   rcases arL.1 hr with hr|hr
   ·have:=h.old r hr;omega
   ·rw[ar0.1 hr,n1,n2];omega
  ·dsimp only
   rw[xc]
   have a1:=Sz (d:=s.2) (d':=(gi f (fR R j) s.2).2.2) (l:=s.1) λr hr=>m4 r (h.old r hr)
   have a2:=Sz (d:=s.2) (d':=(gi f (fR R j) s.2).2.2) (l:=R.drop (3*(j+1))) λr hr=>m4 r (hold r hr)
   have a3:eO (gi f (fR R j) s.2).2.2 [(gi f (fR R j) s.2).1]=cg (gi f (fR R j) s.2).2.2 (gi f (fR R j) s.2).1+0:=rfl
   omega
theorem mT.air(f:Bool){d0:aA}{R:List Int}{j:Nat}{s:List Int×aA}(h:mT d0 R j s)(h0:jr d0 R):ct (kg f R j s).2.2:=by
 unfold kg
 split
 ·exact h.cL
 ·exact(Jl f (h.runs h0)).cL
theorem SA(f:Bool){d0:aA}{R:List Int}(h0:jr d0 R):∀(n j:Nat) (s:List Int×aA),j+n=(R.length+2)/3->mT d0 R j s->ct (mS f R n j s).2.2/\((mS f R n j s).1=0->mT d0 R ((R.length+2)/3) (mS f R n j s).2)
 |0,j,s,hn,hs=>⟨hs.cL,λ_=>by rw[<-hn];exact hs⟩
 |n+1,j,s,hn,hs=>by
  unfold mS
  split
  ·rename_i he
   exact⟨hs.air f h0,λh=>absurd h he⟩
  ·rename_i he
   exact SA f h0 n (j+1) _ (by omega) (hs.next f h0 (by omega) (ate.1 he))
theorem JN(f:Bool){d:aA}{R:List Int}(h:jr d R):ct (gz f R d).2.2/\((gz f R d).1=0->jr (gz f R d).2.2 (gz f R d).2.1/\(gz f R d).2.1.length=(R.length+2)/3/\eO (gz f R d).2.2 (gz f R d).2.1<=eO d R):=by
 obtain⟨h1,h2⟩:=SA f h ((R.length+2)/3) 0 ([],d) (by omega) (mT.zero h)
 unfold gz
 generalize mS f R ((R.length+2)/3) 0 ([],d)=x at*
 refine⟨h1,λhe=>?_⟩
 obtain⟨a,b,c,e,g⟩:=h2 he
 have:=h.bR
 exact⟨⟨a,e,by omega⟩,c,by omega⟩
def xl(S:ad)(L:List ByteArray)(R:List Int)(H:List au)(d:aA):List ak:=[.cells (aL S 1 2 5 4) 89 false,.abs d,.cells (ah L) 9 false,.dead,.cells (an H) 114 false,.cells (ay R) 3 false]
def tz(S:ad)(R:List Int)(x:Int×List Int×aA):ad×List Int:=if x.1=0 then({S with sn:=x.2.1.length},x.2.1)else(S,R)
def vn(S:ad)(L:List ByteArray)(R:List Int)(H:List au)(s:List Int×aA):List ak:=
 [.cells (aL S 1 2 10 4) 89 false,.abs s.2,.cells (ah L) 9 false,.dead,.cells (an H) 114 false,.cells [.pointer (some ⟨0,0,none⟩)] 37 false,.cells [.int .i64 0] 26 false,.cells [.slice (some ⟨11,0,none⟩) s.1.length s.1.length] 25 false,.cells [.slice (some ⟨10,0,none⟩) S.sn S.sn] 25 false,.cells [.int .i64 3] 3 false,.cells (ay R) 3 false,.cells (ay s.1) 3 false]
def SB(S:ad)(L:List ByteArray)(R:List Int)(H:List au)(e:Int)(nx:List Int)(d:aA):List ak:=
 [.cells (aL S 1 2 10 4) 89 false,.abs d,.cells (ah L) 9 false,.dead,.cells (an H) 114 false,.cells [.pointer (some ⟨0,0,none⟩)] 37 false,.cells [.int .i64 e] 26 false,.cells [.slice (some ⟨11,0,none⟩) nx.length nx.length] 25 false,.cells [.slice (some ⟨10,0,none⟩) S.sn S.sn] 25 false,.cells [.int .i64 3] 3 false,.cells (ay R) 3 false,.cells (ay nx) 3 false]
abbrev JO:List (Nat×Dy):=[(1,.pointer (some ⟨5,0,none⟩)),(2,.pointer (some ⟨6,0,none⟩)),(3,.pointer (some ⟨7,0,none⟩)),(11,.func (.func 124) #[] #[.pointer (some ⟨8,0,none⟩),.pointer (some ⟨9,0,none⟩)])]
theorem ais(S:ad)(L:List ByteArray)(R:List Int)(H:List au)(e:Int)(nx:List Int)(d:aA){Q:bD->List ak->Prop}(hq:Q (.ret (.int .i64 e)) (xl S L R H d)):
 aG fK 75 (cp fK 75) 5 Q .ret ⟨JO,SB S L R H e nx d⟩:=
 aG.ret (vs:=[.int .i64 (e)]) (l:=[6]) (bs:=[0,1,2,3,4,10]) (pl:=[2,4,10]) (q:=[ah L,an H,ay R]) (λu=>by kernel_rfl) (by kernel_rfl) (aD (by simp) (aD (aZ H) (aD (by simp) be))) hq
theorem ait{S:ad}{L:List ByteArray}{R:List Int}{H:List au}{d:aA}{o n:Nat}{x:Int×List au×aA}(h:aF fK 76 [.pointer (some ⟨0,0,none⟩),.slice (some ⟨3,o,none⟩) n n] (aP S L R H d) (qE S L R H x))(aiu:List Dy->(Nat->Option ak)->Option (List Nat)):
 bB fK 76 ⟨aiu,(zB S L R H d o n x).spec⟩:=λa ob r q hq=>R8 h a ob r q hq
theorem SC(l:List Int)(x:Int):ay l++[KJ Ul x]=ay (l++[x]):=by unfold ay;rw[asm];rfl
theorem aiv(S:ad)(L:List ByteArray)(R:List Int)(H:List au)(d:aA)(hR:R.length=S.sn)(h0:0<R.length)(hl:R.length<=900000)(hr:jr d R):
 aF fK 75 [.pointer (some ⟨0,0,none⟩)] (aP S L R H d) λr q=>
  r=.ret (.int .i64 (gz S.aC R d).1)/\q=xl (tz S R (gz S.aC R d)).1 L (tz S R (gz S.aC R d)).2 H (gz S.aC R d).2.2:=by
 have pH:=aZ H
 refine aF.dv (n:=cp fK 75) (by kernel_rfl) ?_
 refine ao.move (d':=⟨[(0,.pointer (some ⟨0,0,none⟩))],xl S L R H d⟩) [some 0,some 1,some 2,none,some 4,some 3] [2,4,3] (q:=[ah L,an H,ay R]) (by kernel_rfl) (aD (by simp) (aD pH (aD (by simp) be))) (by kernel_rfl) (by kernel_rfl) ?_
 apply aie S L R H d pH hR
 ·
  refine ao.nr 7 0 3 (s:=1) (c:=[.slice none 0 0]) (e:=25) (by kernel_rfl) (by rfl) (by rfl) (d':=⟨JO,vn S L R H ([],d)⟩) (by kernel_rfl) (by kernel_rfl) ?_
  refine ao.eX 3 0 (by kernel_rfl) ?_
  have hN:R.length<=1000000:=by omega
  obtain⟨N,SD⟩:∃N,N=(R.length+2)/3:=⟨_,rfl⟩
  obtain⟨f,hf⟩:∃f,f=S.aC:=⟨_,rfl⟩
  rw[<-hf]
  have cw:=ah6 (K:=11) (xb:=10) (bs:=8) (bn:=9) (N:=R.length) (O:=λj=>vn S L R H (fm f R d j)) (el1:=25) (el2:=3) hN h0 (by decide) (λj _=>by show 12<=262144;decide) (by decide) (by decide) (λj _=>by rw[hR];rfl) (λj _=>rfl) (by decide)
  rw[<-SD]at cw
  refine ao.ahN (g:=11) (ps:=[12]) (K:=11) (N:=N) (sl:=JO) (O:=λj=>vn S L R H (fm f R d j)) (by kernel_rfl) (enters_of Tryz.func124 (by kernel_rfl) rfl) cw
   (λj=>mT d R j (fm f R d j)/\gz f R d=mS f R (N-j) j (fm f R d j)) (λo=>∃e nx dd,e≠0/\(gz f R d).1=e/\(gz f R d).2.2=dd/\o=SB S L R H e nx dd)
   ⟨mT.zero hr,by rw[SD];rfl⟩ (by rfl) (by kernel_rfl) (λj _=>rfl) (by rfl) (by kernel_rfl) (λj _=>by show 12<=262144;decide) (by show 11<=12;decide) (λj _=>by show 12<=262144;decide) (by rfl) (λj hj hG=>?_) ?_ ?_
  ·obtain⟨g1,g2⟩:=hG
   have zD:3*j<R.length:=by omega
   have Sj:=g1.len
   apply aih S L R H (fm f R d j).2 (fm f R d j).1 (3*j) (min 3 (R.length-3*j)) pH
   ·
    refine⟨rfl,?_⟩
    obtain⟨m,hm⟩:∃m,N-j=m+1:=⟨N-j-1,by omega⟩
    have kG:N-(j+1)=m:=by omega
    rw[hm]at g2
    have g2:gz f R d=if(kg f R j (fm f R d j)).1≠0 then kg f R j (fm f R d j)else mS f R m (j+1) (kg f R j (fm f R d j)).2:=g2
    have SE:(kg f R j (fm f R d j)).1=0->mT d R (j+1) (fm f R d (j+1))/\gz f R d=mS f R (N-(j+1)) (j+1) (fm f R d (j+1)):=λhe=>by
     refine⟨g1.next f hr zD he,?_⟩
     rw[g2,if_neg (λh=>h he),kG]
     rfl
    by_cases hc:min 3 (R.length-3*j)=1
    ·have cN:kg f R j (fm f R d j)=(0,(fm f R d j).1++fR R j,(fm f R d j).2):=by unfold kg;rw[if_pos hc]
     have vo:fR R j=[R[3*j]]:=by
      rw[Sx,ath zD]
      have:R.drop (3*j+1)=[]:=as7 (by omega)
      rw[this];rfl
     have ca:av (ay R) (3*j+0)=R[3*j]:=by rw[atv];exact GX zD
     apply aij S L R H (fm f R d j).2 (fm f R d j).1 (3*j) (min 3 (R.length-3*j)) pH hR hc zD (by omega)
     case aY=>simp
     case bh=>exact pH
     case bT=>simp
     case n0=>rw[atv];exact GY zD
     case n1=>exact arZ (by omega)
     case l5=>
      refine .inl ⟨rfl,?_,SE (by rw[cN])⟩
      show _=vn S L R H (kg f R j (fm f R d j)).2
      rw[cN,vo]
      unfold vn
      dsimp only
      rw[ca,SC,KO]
      rfl
    ·have cN:kg f R j (fm f R d j)=((gi f (fR R j) (fm f R d j).2).2.1,(fm f R d j).1++[(gi f (fR R j) (fm f R d j).2).1],(gi f (fR R j) (fm f R d j).2).2.2):=by unfold kg;rw[if_neg hc]
     have vk:=ahJ S L R H (fm f R d j).2 (3*j) (min 3 (R.length-3*j)) (by omega) (by omega) (g1.runs hr)
     rw[<-hf]at vk
     rw[show(R.drop (3*j)).take (min 3 (R.length-3*j))=fR R j from rfl]at vk
     apply aim S L R H (fm f R d j).2 (fm f R d j).1 (3*j) (min 3 (R.length-3*j)) (gi f (fR R j) (fm f R d j).2).1 (gi f (fR R j) (fm f R d j).2).2.1 (gi f (fR R j) (fm f R d j).2).2.2 pH hR vk hc (by omega)
     case n0=>exact iI rfl rfl
     case aY=>simp
     case bh=>exact pH
     case bT=>simp
     case bO=>simp
     case l5=>
      intro ge
      have ge:(gi f (fR R j) (fm f R d j).2).2.1≠0:=by simpa using ge
      refine .inr ⟨rfl,_,(fm f R d j).1,_,ge,?_,?_,rfl⟩
      ·rw[g2,if_pos (by rw[cN];exact ge),cN]
      ·rw[g2,if_pos (by rw[cN];exact ge),cN]
     case n6=>intro _;exact arZ (by omega)
     case l7=>
      intro ge
      have ge:(gi f (fR R j) (fm f R d j).2).2.1=0:=by simpa using ge
      refine .inl ⟨rfl,?_,SE (by rw[cN];exact ge)⟩
      show _=vn S L R H (kg f R j (fm f R d j)).2
      rw[cN]
      unfold vn
      dsimp only
      rw[SC,KO]
      rfl
  ·rintro o ⟨e,nx,dd,he,h1,h2,rfl⟩
   with_reducible (repeat first|refine QL.ret ?_|refine QL.exit ?_|refine QB.ret ?_|refine QB.cw ?_|refine QB.normal ?_|refine QB.cJ (by rfl) ?_)
   refine ais S L R H e nx dd ⟨?_,?_⟩
   ·rw[h1]
   ·unfold tz
    rw[h1,if_neg he,h2]
  ·rintro⟨g1,g2⟩
   refine ao.done rfl ?_
   refine QB.normal ?_
   rw[Nat.sub_self]at g2
   have g2:gz f R d=(0,fm f R d N):=g2
   apply aip S L R H (fm f R d N).2 (fm f R d N).1 pH hR
   ·
    refine ain S L R H (fm f R d N).2 (fm f R d N).1 ⟨?_,?_⟩
    ·rw[g2]
    ·rw[g2];unfold tz;rw[if_pos rfl];rfl
def fS(B:Nat->Int)(n:Nat):List UInt8:=(atX n).map λi=>zW (B i).toNat
def eZ(S:ad):ByteArray:=⟨(fS S.B S.n.toNat).toArray⟩
theorem JP(B:Nat->Int)(n:Nat):(fS B n).length=n:=by unfold fS;simp
theorem aiw(B:Nat->Int)(n:Nat):fS B (n+1)=fS B n++[zW (B n).toNat]:=by unfold fS;rw[List.range_succ,asm];rfl
theorem aix{B B':Nat->Int}{n:Nat}(h:∀i,i<n->B i=B' i):fS B n=fS B' n:=by
 unfold fS
 refine List.map_congr_left λi hi=>?_
 rw[h i (List.mem_range.1 hi)]
theorem aiy(B:Nat->Int):zb B=(atX 64).map λi=>KJ .u8 (B i):=rfl
theorem aiz(B:Nat->Int)(l:List Nat):bytesOf (l.map λi=>KJ .u8 (B i))=some (l.map λi=>zW (B i).toNat):=by
 induction l with
 |nil=>rfl
 |cons x l ih=>rw[asn,asn];show(match bytesOf (l.map _)with|some r=>some (_::r)|none=>none)=_;rw[ih]
theorem JQ(S:ad)(a b c e:Nat)(n:Nat)(hn:n<=64):(cut (aL S a b c e) 3 n).bind bytesOf=some (fS S.B n):=by
 have hl:(aL S a b c e).length=78:=rfl
 have h1:arM (3+n) (aL S a b c e).length=true:=by rw[hl];exact arZ (by omega)
 unfold cut
 rw[h1]
 show bytesOf (((aL S a b c e).drop 3).take n)=_
 have h2:((aL S a b c e).drop 3).take n=(zb S.B).take n:=by
  have:(aL S a b c e).drop 3=zb S.B++[.int .i64 S.n,.bool S.failed,.pointer (some ⟨a,0,none⟩),.bool S.aC,.slice (some ⟨b,S.ro,none⟩) S.rn S.rn,.int .i64 S.bJ,.slice (some ⟨c,0,none⟩) S.sn S.sn,.slice (some ⟨e,0,none⟩) S.hn S.hn,.bool S.eL,.int .i64 S.raw,.bool S.closed]:=rfl
  rw[this,List.take_append_of_le_length (by show n<=64;exact hn)]
 rw[h2,aiy,<-List.map_take,aiz,List.take_range]
 rw[show min n 64=n by omega]
 rfl
def mc(S:ad)(x:UInt8):ad:={S with B:=λj=>if j=S.n.toNat then(x.toNat:Int)else S.B j,n:=S.n+1}
theorem aiA(S:ad)(x:UInt8)(h:0<=S.n):eZ (mc S x)=eZ S++⟨#[x]⟩:=by
 unfold eZ mc
 dsimp only
 rw[show(S.n+1).toNat=S.n.toNat+1 by omega,aiw]
 apply ByteArray.ext
 have h1:fS (λj=>if j=S.n.toNat then(x.toNat:Int)else S.B j) S.n.toNat=fS S.B S.n.toNat:=aix λi hi=>if_neg (by omega)
 rw[h1]
 simp
def bW:List UInt8->ad->List ByteArray->Int×ad×List ByteArray
 | [],S,M=>(0,S,M)
 |x::l,S,M=>if x=10 then bW l {S with n:=0} (M++[eZ S])else if S.n=64 then(20,{S with failed:=true,n:=0},M)else bW l (mc S x) M
structure js(S:ad):Prop where
 n0:0<=S.n
 n1:S.n<=64
theorem js.zero(S:ad):js {S with n:=0}:=⟨by show(0:Int)<=0;omega,by show(0:Int)<=64;omega⟩
theorem js.add{S:ad}(h:js S)(hn:S.n≠64)(x:UInt8):js (mc S x):=⟨by have:=h.n0;show 0<=S.n+1;omega,by have:=h.n1;show S.n+1<=64;omega⟩
noncomputable section
def Dd:List ar3:=a7 (dI fK 46)
open Tree renaming aQ->mN,dE->mF,fj->mL,fY->mQ,dN->mR,gH->mE
abbrev JR:List ar3:=(a7 (inner (a7 (inner (Dd.drop 5)))))
abbrev JS:=λS L R H d b=>([ab (aL S 1 2 3 4) 89,.abs d,ab (ah L) 9,ab (ay R) 3,ab (an H) 114,ab (af b) 5]:List ak)
abbrev aiB:=λS L R H d b=>(⟨[(4,ci),(5,aa 20)],JS S L R H d b⟩:ai)
abbrev aiC:=λS L R H d (b:ByteArray)=>(⟨[(0,.pointer (some ⟨0,3,none⟩)),(6,ci),(17,aq 5 b.size),(18,aa (b.size:Int)),(19,aa 0)],JS S L R H d b⟩:ai)
abbrev aiD:=λS L R H d (b:ByteArray)=>(⟨[(0,.pointer (some ⟨0,3,none⟩)),(1,aq 5 b.size)],JS S L R H d b⟩:ai)
theorem aiE(S L R H d b)(pH:(an H).all ag=true){Q:aU}(l4:(ad.failed S)->Q .ret (aiB S L R H d b))(l5:(ad.failed S)=false->ao fK 72 6 (Dd.drop 5) (aiC S L R H d b) Q):ao fK 72 6 Dd (aiD S L R H d b) Q:=
 aV bp 5 (.fork 6 (.leaf [4,5] [0,1,2,3,4,5] [2,3,4,5]) (.leaf [0,6,17,18,19] [0,1,2,3,4,5] [2,3,4,5])) (λu=>by kernel_rfl) (mF (c:=ad.failed S) (λh0=>(aO L R H (mN (aE b) (mR (l4 h0))))) (λh0=>(aO L R H (mN (aE b) (mQ (l5 h0))))))
abbrev zE:=λS L R H d b M=>([ab (aL S 1 2 3 4) 89,.abs d,ab (ah L) 9,ab (ay R) 3,ab (an H) 114,ab (af b) 5,ab (ah M) 9]:List ak)
abbrev aiF:=λS L R H d (b:ByteArray) M (i:Int)=>(⟨[(0,.pointer (some ⟨0,3,none⟩)),(6,aq 6 (nG M)),(17,aq 5 b.size),(18,aa (b.size:Int)),(19,aa i)],zE S L R H d b M⟩:ai)
abbrev aiG:=λS L R H d b M (i:Int)=>(⟨[(6,aq 6 (nG M))],zE S L R H d b M⟩:ai)
abbrev SF:=λS L R H d (b:ByteArray) M (i:Int)=>(⟨[(0,.pointer (some ⟨0,3,none⟩)),(6,aq 6 (nG M)),(17,aq 5 b.size),(18,aa b.size),(19,aa i)],zE S L R H d b M⟩:ai)
theorem aiH(S L R H d)(b:ByteArray)(M)(i:Int)(pH:(an H).all ag=true){Q:aU}(l5:(decide (i<(b.size:Int)))->ao fK 72 6 (JR.drop 2) (aiF S L R H d b M i) Q)(l6:(decide (i<(b.size:Int)))=false->Q (.exit 0) (aiG S L R H d b M i)):ao fK 72 6 JR (SF S L R H d b M i) Q:=
 aV bp 2 (.fork 0 (.leaf [0,6,17,18,19] [0,1,2,3,4,5,6] [2,3,4,5,6]) (.leaf [6] [0,1,2,3,4,5,6] [2,3,4,5,6])) (λu=>by kernel_rfl) (mF (c:=decide (i<(b.size:Int))) (λh0=>(aO L R H (mN (aE b) (mN (aW M) (mQ (l5 h0)))))) (λh0=>(aO L R H (mN (aE b) (mN (aW M) (mE 0 (l6 h0)))))))
abbrev SG:=λS L R H d (b:ByteArray) M (i:Int)=>(⟨[(0,.pointer (some ⟨0,3,none⟩)),(6,aq 6 (nG M+1)),(17,aq 5 b.size),(18,aa (b.size:Int)),(19,.int .i64 (m6 .i64 (i+1)))],[ab (aL (ad.mk (ad.at_ S) (ad.more S) (ad.bi S) (ad.B S) 0 (ad.failed S) (ad.aC S) (ad.ro S) (ad.rn S) (ad.bJ S) (ad.sn S) (ad.hn S) (ad.eL S) (ad.raw S) (ad.closed S)) 1 2 3 4) 89,.abs d,ab (ah L) 9,ab (ay R) 3,ab (an H) 114,ab (af b) 5,ab (ah M++[arS (ar2 (ar6 (asp (ash (cut (aL S 1 2 3 4) 3 (m5 (ad.n S)-0)) bytesOf) [])))]) 9]⟩:ai)
abbrev JT:=λS L R H d b M (i:Int)=>(⟨[(4,aq 6 (nG M)),(5,aa 20)],[ab (aL (ad.mk (ad.at_ S) (ad.more S) (ad.bi S) (ad.B S) 0 true (ad.aC S) (ad.ro S) (ad.rn S) (ad.bJ S) (ad.sn S) (ad.hn S) (ad.eL S) (ad.raw S) (ad.closed S)) 1 2 3 4) 89,.abs d,ab (ah L) 9,ab (ay R) 3,ab (an H) 114,ab (af b) 5,ab (ah M) 9]⟩:ai)
theorem aiI(S L R H d b M)(i:Int){Q:bu}(hq:Q (.ret (.tuple #[aq 6 (nG M),aa 20])) (JT S L R H d b M i).objs):aG fK 46 72 6 Q .ret (JT S L R H d b M i):=aG.ret (vs:=[aq 6 (nG M),aa 20]) (l:=[]) (bs:=[0,1,2,3,4,5,6]) (pl:=[2,3,4,5,6]) (q:=[ah L,ay R,an H,af b,ah M]) (λu=>by kernel_rfl) (by kernel_rfl) (ia L R H (aD (aE b) (aD (aW M) be))) hq
abbrev SH:=λS L R H d (b:ByteArray) M (i:Int)=>(⟨[(0,.pointer (some ⟨0,3,none⟩)),(6,aq 6 (nG M)),(17,aq 5 b.size),(18,aa (b.size:Int)),(19,.int .i64 (m6 .i64 (i+1)))],[ab (aL (ad.mk (ad.at_ S) (ad.more S) (ad.bi S) (λj=>bif arE (3+m5 (ad.n S)*1) (3+j)then av (af b) (0+m5 i*1)else ad.B S j) (m6 .i64 (ad.n S+1)) (ad.failed S) (ad.aC S) (ad.ro S) (ad.rn S) (ad.bJ S) (ad.sn S) (ad.hn S) (ad.eL S) (ad.raw S) (ad.closed S)) 1 2 3 4) 89,.abs d,ab (ah L) 9,ab (ay R) 3,ab (an H) 114,ab (af b) 5,ab (ah M) 9]⟩:ai)
theorem aiJ(S:ad)(L R H d)(b:ByteArray)(M)(i:Int)(pH:(an H).all ag=true)(h0:0<=i)(h1:i<b.size)(h2:b.size<=1000000)(h3:m6 .i64 (i+1)=i+1)(h4:0<=S.n)(h5:S.n<=64)(h6:(nG M)<=100000)(h7:m6 .i64 (S.n+1)=S.n+1){Q:aU}(n0:(cP IntKind.u8 (af b) (0+m5 i*1)))(n1:(av (af b) (0+m5 i*1)==10)->(at3 (ash (cut (aL S 1 2 3 4) 3 (m5 S.n-0)) bytesOf)))(aY:DC (ah L) ag)(bh:DC (ay R) ag)(bT:DC (an H) ag)(bO:DC (af b) ag)(l6:(av (af b) (0+m5 i*1)==10)->Q .normal (SG S L R H d b M i))(nu:DC (ah M) ag)(l8:(av (af b) (0+m5 i*1)==10)=false->(ad.n S==64)->Q .ret (JT S L R H d b M i))(l9:(av (af b) (0+m5 i*1)==10)=false->(ad.n S==64)=false->Q .normal (SH S L R H d b M i)):ao fK 72 6 (JR.drop 2) (SF S L R H d b M i) Q:=
 aV bp 1000 (aB [0,1,1,0,1] (.fork 0 (aB [2,1,3,0,1,0,3,5,1] (.leaf [0,6,17,18,19] [0,1,2,3,4,5,8] [2,3,4,5,8])) (.fork 1 (.leaf [4,5] [0,1,2,3,4,5,6] [2,3,4,5,6]) (aB [2,1,1,0,1,0,0,0,0,0,0,0,0,0,0,0,0,0,0] (.leaf [0,6,17,18,19] [0,1,2,3,4,5,6] [2,3,4,5,6]))))) (λu=>by kernel_rfl) (mN (decide_eq_true (by omega):(decide (0<=i))=true) (mN (show(arF (m5 i) b.size)=true by simp at pH h0 h1 h2 h3 h4 h5 h6 h7⊢ <;>omega) (mN n0 (mF (c:=av (af b) (0+m5 i*1)==10) (λh0=>(mN (decide_eq_true (by omega):(decide (0<=ad.n S))=true) (mN (show(arM (m5 (ad.n S)) 64)=true by simp at pH h0 h1 h2 h3 h4 h5 h6 h7 h0⊢ <;>omega) (mN (n1 h0) (mN (show(arM (nG M+1) 1000000)=true by simp at pH h0 h1 h2 h3 h4 h5 h6 h7 h0⊢ <;>omega) (mN (kY _:(full (nG M) (nG M))=true) (mN (show(arE (0+nG M*1) (nG (ah M)))=true by simp) (aO L R H (mN (aE b) (mN (show(DC (ah M++[arS (ar2 (ar6 (asp (ash (cut (aL S 1 2 3 4) 3 (m5 (ad.n S)-0)) bytesOf) [])))]) ag)=true by simp) (mQ (ao.done (by kernel_rfl) (l6 h0))))))))))))) (λh0=>(mF (c:=ad.n S==64) (λh1=>(aO L R H (mN (aE b) (mN (aW M) (mR (l8 h0 h1)))))) (λh1=>(mN (decide_eq_true (by omega):(decide (0<=ad.n S))=true) (mN (show(arF (m5 (ad.n S)) 64)=true by simp at pH h0 h1 h2 h3 h4 h5 h6 h7 h0 h1⊢ <;>omega) (mN (show(arF (3+m5 (ad.n S)*1) (nG (aL S 1 2 3 4)))=true by simp at pH h0 h1 h2 h3 h4 h5 h6 h7 h0 h1⊢ <;>omega) (mN (show(arE (3+m5 (ad.n S)*1) 0)=false by simp) (mN (show(arE (3+m5 (ad.n S)*1) 1)=false by simp at pH h0 h1 h2 h3 h4 h5 h6 h7 h0 h1⊢ <;>omega) (mN (show(arE (3+m5 (ad.n S)*1) 2)=false by simp at pH h0 h1 h2 h3 h4 h5 h6 h7 h0 h1⊢ <;>omega) (mN (show(arE (3+m5 (ad.n S)*1) 67)=false by simp at pH h0 h1 h2 h3 h4 h5 h6 h7 h0 h1⊢ <;>omega) (mN (show(arE (3+m5 (ad.n S)*1) 68)=false by simp at pH h0 h1 h2 h3 h4 h5 h6 h7 h0 h1⊢ <;>omega) (mN (show(arE (3+m5 (ad.n S)*1) 69)=false by simp at pH h0 h1 h2 h3 h4 h5 h6 h7 h0 h1⊢ <;>omega) (mN (show(arE (3+m5 (ad.n S)*1) 70)=false by simp at pH h0 h1 h2 h3 h4 h5 h6 h7 h0 h1⊢ <;>omega) (mN (show(arE (3+m5 (ad.n S)*1) 71)=false by simp at pH h0 h1 h2 h3 h4 h5 h6 h7 h0 h1⊢ <;>omega) (mN (show(arE (3+m5 (ad.n S)*1) 72)=false by simp at pH h0 h1 h2 h3 h4 h5 h6 h7 h0 h1⊢ <;>omega) (mN (show(arE (3+m5 (ad.n S)*1) 73)=false by simp at pH h0 h1 h2 h3 h4 h5 h6 h7 h0 h1⊢ <;>omega) (mN (show(arE (3+m5 (ad.n S)*1) 74)=false by simp at pH h0 h1 h2 h3 h4 h5 h6 h7 h0 h1⊢ <;>omega) (mN (show(arE (3+m5 (ad.n S)*1) 75)=false by simp at pH h0 h1 h2 h3 h4 h5 h6 h7 h0 h1⊢ <;>omega) (mN (show(arE (3+m5 (ad.n S)*1) 76)=false by simp at pH h0 h1 h2 h3 h4 h5 h6 h7 h0 h1⊢ <;>omega) (mN (show(arE (3+m5 (ad.n S)*1) 77)=false by simp at pH h0 h1 h2 h3 h4 h5 h6 h7 h0 h1⊢ <;>omega) (aO L R H (mN (aE b) (mN (aW M) (mQ (ao.done (by kernel_rfl) (l9 h0 h1))))))))))))))))))))))))))))))
abbrev JU:=λS L R H d b M=>(⟨[(4,aq 6 (nG M)),(5,aa 0)],zE S L R H d b M⟩:ai)
theorem aiK(S L R H d b M){Q:bu}(hq:Q (.ret (.tuple #[aq 6 (nG M),aa 0])) (JU S L R H d b M).objs):aG fK 46 72 6 Q .ret (JU S L R H d b M):=aG.ret (vs:=[aq 6 (nG M),aa 0]) (l:=[]) (bs:=[0,1,2,3,4,5,6]) (pl:=[2,3,4,5,6]) (q:=[ah L,ay R,an H,af b,ah M]) (λu=>by kernel_rfl) (by kernel_rfl) (ia L R H (aD (aE b) (aD (aW M) be))) hq
abbrev aiL:=λS L R H d b M=>(⟨[(6,aq 6 (nG M))],zE S L R H d b M⟩:ai)
theorem aiM(S L R H d b M)(pH:(an H).all ag=true){Q:aU}(l5:Q .ret (JU S L R H d b M)):ao fK 72 6 (Dd.drop 6) (aiL S L R H d b M) Q:=
 aV bp 1000 (.leaf [4,5] [0,1,2,3,4,5,6] [2,3,4,5,6]) (λu=>by kernel_rfl) (aO L R H (mN (aE b) (mN (aW M) (mR l5))))
end
theorem aiN{b:ByteArray}{i:Nat}(h:i<b.size):∃x,b.data.toList[i]?=some x/\av (af b) (0+m5 (i:Int)*1)=(x.toNat:Int)/\cP .u8 (af b) (0+m5 (i:Int)*1)=true/\b.data.toList.drop i=x::b.data.toList.drop (i+1):=by
 have hl:i<b.data.toList.length:=by simpa using h
 refine⟨b.data.toList[i],KH hl,?_,?_,ath hl⟩
 ·rw[show 0+m5 (i:Int)*1=i by simp,GZ h];rfl
 ·rw[show 0+m5 (i:Int)*1=i by simp];exact G0 h
theorem JV(x:UInt8):((x.toNat:Int)==10)=true↔x=10:=by
 rw[beq_iff_eq]
 constructor
 ·intro h
  apply UInt8.toNat_inj.1
  show x.toNat=10
  omega
 ·intro h;subst h;rfl
def De(L:List ByteArray)(R:List Int)(H:List au)(d:aA)(b:ByteArray)(s:Nat×ad×List ByteArray):ai:=
 ⟨[(0,.pointer (some ⟨0,3,none⟩)),(6,.slice (some ⟨6,0,none⟩) s.2.2.length s.2.2.length),(17,.slice (some ⟨5,0,none⟩) b.size b.size),(18,.int .i64 (b.size:Int)),(19,iZ s.1)],aP s.2.1 L R H d++[.cells (af b) 5 false,.cells (ah s.2.2) 9 false]⟩
structure aiO(b:ByteArray)(S0:ad)(s:Nat×ad×List ByteArray):Prop where
 i:s.1<=b.size
 e:bW (b.data.toList.drop s.1) s.2.1 s.2.2=bW b.data.toList S0 []
 ok:js s.2.1
 bR:s.2.2.length<=s.1
theorem aiP(S:ad)(L:List ByteArray)(R:List Int)(H:List au)(d:aA)(b:ByteArray)(hS:js S)(hf:S.failed=false)(hb:b.size<=100000):
 aF fK 46 [.pointer (some ⟨0,3,none⟩),.slice (some ⟨5,0,none⟩) b.size b.size] (aP S L R H d++[.cells (af b) 5 false]) λr q=>
  r=.ret (.tuple #[.slice (some ⟨6,0,none⟩) (bW b.data.toList S []).2.2.length (bW b.data.toList S []).2.2.length,.int .i64 (bW b.data.toList S []).1])/\q=aP (bW b.data.toList S []).2.1 L R H d++[.cells (af b) 5 false,.cells (ah (bW b.data.toList S []).2.2) 9 false]:=by
 have pH:=aZ H
 refine aF.dv (n:=cp fK 46) (by kernel_rfl) ?_
 apply aiE S L R H d b pH
 case l4=>intro g;rw[hf]at g;cases g
 case l5=>
  intro _
  refine ao.BL 6 9 (s:=1) Q3 (by rfl) (by rfl) (by rfl:_=De L R H d b (0,S,[])) ?_
  refine ao.eX 5 0 (by kernel_rfl) ?_
  refine ao.gu (De L R H d b) (λt=>b.size-t.1) (aiO b S) (0,S,[]) (by kernel_rfl) ⟨asb _,by simp,hS,arO _⟩ ?_
  rintro⟨i,S1,M⟩ ⟨h1,h2,h3,h4⟩
  dsimp only at h1 h2 h3 h4
  apply aiH S1 L R H d b M i pH
  case l6=>
   intro g
   have g:=of_decide_eq_false g
   have cc:b.data.toList.length=b.size:=by simp
   rw[as7 (by omega)]at h2
   have h2:(0,S1,M)=bW b.data.toList S []:=h2
   rw[<-h2]
   with_reducible (repeat first|refine QL.ret ?_|refine QL.exit ?_|refine QB.ret ?_|refine QB.cw ?_|refine QB.normal ?_|refine QB.cJ (by rfl) ?_)
   apply aiM S1 L R H d b M pH
   ·exact aiK S1 L R H d b M ⟨rfl,rfl⟩
  case l5=>
   intro g
   have g:=of_decide_eq_true g
   obtain⟨x,x1,x2,x3,x4⟩:=aiN (b:=b) (i:=i) (by omega)
   rw[x4]at h2
   have nm:=h3.n0
   have ky:=h3.n1
   have SI:=JQ S1 1 2 3 4 (m5 S1.n-0) (by omega)
   apply aiJ S1 L R H d b M i pH (by omega) g (by omega) (bK (by omega) (by omega)) nm ky (by omega) (bK (by omega) (by omega))
   case aY=>simp
   case bh=>simp
   case bT=>exact pH
   case bO=>simp
   case nu=>simp
   case n0=>exact x3
   case n1=>intro _;rw[SI];rfl
   case l6=>
    intro gx
    rw[x2,JV]at gx
    have h2:(if x=10 then bW (b.data.toList.drop (i+1)) {S1 with n:=0} (M++[eZ S1])else _)=bW b.data.toList S []:=h2
    rw[if_pos gx]at h2
    refine QL.to (i+1,{S1 with n:=0},M++[eZ S1]) ⟨by dsimp only;omega,h2,js.zero S1,by dsimp only;rw[KO];show M.length+1<=_;omega⟩ (by dsimp only;omega) ?_
    unfold SG De
    rw[SI,fP (by omega)]
    show ai.mk _ _=ai.mk _ _
    rw[show(M++[eZ S1]).length=M.length+1 by simp]
    unfold eZ
    rw[show ah (M++[ar2 (fS S1.B S1.n.toNat).toArray])=ah M++[arS (ar2 (fS S1.B S1.n.toNat).toArray)]by unfold ah;rw[asm];rfl]
    rfl
   case l8=>
    intro gx tA
    rw[x2]at gx
    have gx:¬x=10:=λh=>by rw[(JV x).2 h]at gx;cases gx
    have tA:S1.n=64:=by simpa using tA
    have h2:(if x=10 then _ else if S1.n=64 then(20,{S1 with failed:=true,n:=0},M)else _)=bW b.data.toList S []:=h2
    rw[if_neg gx,if_pos tA]at h2
    rw[<-h2]
    with_reducible (repeat first|refine QL.ret ?_|refine QL.exit ?_|refine QB.ret ?_|refine QB.cw ?_|refine QB.normal ?_|refine QB.cJ (by rfl) ?_)
    exact aiI S1 L R H d b M i ⟨rfl,rfl⟩
   case l9=>
    intro gx tA
    rw[x2]at gx
    have gx:¬x=10:=λh=>by rw[(JV x).2 h]at gx;cases gx
    have tA:¬S1.n=64:=by simpa using tA
    have h2:(if x=10 then _ else if S1.n=64 then _ else bW (b.data.toList.drop (i+1)) (mc S1 x) M)=bW b.data.toList S []:=h2
    rw[if_neg gx,if_neg tA]at h2
    refine QL.to (i+1,mc S1 x,M) ⟨by dsimp only;omega,h2,h3.add tA x,by dsimp only;omega⟩ (by dsimp only;omega) ?_
    have hB:(λj=>bif arE (3+m5 S1.n*1) (3+j)then av (af b) (0+m5 (i:Int)*1)else S1.B j)=(mc S1 x).B:=by
     funext j
     unfold mc
     dsimp only
     rw[x2]
     by_cases e:j=S1.n.toNat
     ·subst e
      rw[if_pos rfl,show arE (3+m5 S1.n*1) (3+m5 S1.n)=true by rw[Nat.mul_one];exact asx _];rfl
     ·rw[if_neg e,show arE (3+m5 S1.n*1) (3+j)=false from Bool.eq_false_iff.2 λh=>e (by have:=Nat.eq_of_beq_eq_true h;omega)];rfl
    unfold SH De
    rw[hB,fP (by omega),bK (z:=S1.n+1) (by omega) (by omega)]
    rfl
noncomputable section
def aiQ:List (arY×Sum):=[(73,Sum.dQ fK CC)]
theorem aiR:dD fK (dM fK (dP aiQ) 50 40):=dU dC mixed (ee (.cons QM .nil)) 50 40
def aiS(S:ad)(L:List ByteArray)(R:List Int)(H:List au)(d:aA)(T:ad)(K:List ByteArray)(Rr:List Int)(dd:aA)(e:Int)(x:ByteArray):List (arY×Sum):=[(47,Sum.one (λ_ _=>some [0,1,5,6,7,8]) [ap 0,aq 5 1] (aP S.z L R H d++[ab (ah [x]) 9]) (.ret (aa e)) (oX (ab (ah [x]) 9) T.z K Rr H dd))]
theorem aiT(S:ad)(L:List ByteArray)(R:List Int)(H:List au)(d:aA)(T:ad)(K:List ByteArray)(Rr:List Int)(dd:aA)(e:Int)(x:ByteArray)(mU:aF fK 47 [ap 0,aq 5 1] (aP S.z L R H d++[ab (ah [x]) 9]) λr q=>r=.ret (aa e)/\q=oX (ab (ah [x]) 9) T.z K Rr H dd):dD fK (dM fK (dP (aiS S L R H d T K Rr dd e x)) 50 40):=dU dC mixed (ee (.cons (bB.one mU) .nil)) 50 40
def aiU(S:ad)(L:List ByteArray)(R:List Int)(H:List au)(d:aA)(T:ad)(K:List ByteArray)(Rr:List Int)(dd:aA)(e:Int):List (arY×Sum):=[(70,Sum.one (λ_ _=>some [0,1,5,6,7]) [ap 0] (aP S.z L R H d) (.ret (aa e)) (jI T.z K Rr H dd))]
theorem aiV(S:ad)(L:List ByteArray)(R:List Int)(H:List au)(d:aA)(T:ad)(K:List ByteArray)(Rr:List Int)(dd:aA)(e:Int)(cZ:aF fK 70 [ap 0] (aP S.z L R H d) λr q=>r=.ret (aa e)/\q=jI T.z K Rr H dd):dD fK (dM fK (dP (aiU S L R H d T K Rr dd e)) 50 40):=dU dC mixed (ee (.cons (bB.one cZ) .nil)) 50 40
def aiW(S:ad)(L:List ByteArray)(R:List Int)(H:List au)(d:aA)(T:ad)(K:List ByteArray)(Rr:List Int)(dd:aA)(e:Int):List (arY×Sum):=[(75,Sum.one (λ_ _=>some [0,1,5,6,7]) [ap 0] (aP S.z L R H d) (.ret (aa e)) (xl T.z L Rr H dd))]
theorem aiX(S:ad)(L:List ByteArray)(R:List Int)(H:List au)(d:aA)(T:ad)(K:List ByteArray)(Rr:List Int)(dd:aA)(e:Int)(kn:aF fK 75 [ap 0] (aP S.z L R H d) λr q=>r=.ret (aa e)/\q=xl T.z L Rr H dd):dD fK (dM fK (dP (aiW S L R H d T K Rr dd e)) 50 40):=dU dC mixed (ee (.cons (bB.one kn) .nil)) 50 40
def aiY(S:ad)(L:List ByteArray)(R:List Int)(H:List au)(d:aA)(l:List au)(dd:aA)(e:Int):List (arY×Sum):=[(76,⟨λ_ _=>some [0,1,5,6,7],(zB S.z L R H d 0 S.sn (e,l,dd)).spec⟩)]
theorem aiZ(S:ad)(L:List ByteArray)(R:List Int)(H:List au)(d:aA)(l:List au)(dd:aA)(e:Int)(dh:aF fK 76 [ap 0,aq 3 S.sn] (aP S.z L R H d) (qE S.z L R H (e,l,dd))):dD fK (dM fK (dP (aiY S L R H d l dd e)) 50 40):=dU dC mixed (ee (.cons (ait dh _) .nil)) 50 40
def ai0(S:ad)(L:List ByteArray)(R:List Int)(H:List au)(d:aA)(k:Int)(dd:aA)(e:Int):List (arY×Sum):=[(53,Sum.one (λ_ _=>some [0,1,2,3,4]) [ap 0,aq 4 S.hn] (aP S L R H d) (.ret (aa k)) (aP S L R H d)),(78,Sum.one (λ_ _=>some [0,1,2,3,4]) [ap 0,aq 3 S.sn] (aP S L R H d) (.ret (aa e)) (aP S L R H dd))]
theorem ai1(S:ad)(L:List ByteArray)(R:List Int)(H:List au)(d:aA)(k:Int)(dd:aA)(e:Int)(hle:aF fK 53 [ap 0,aq 4 S.hn] (aP S L R H d) λr q=>r=.ret (aa k)/\q=aP S L R H d)(iP:aF fK 78 [ap 0,aq 3 S.sn] (aP S L R H d) λr q=>r=.ret (aa e)/\q=aP S L R H dd):dD fK (dM fK (dP (ai0 S L R H d k dd e)) 50 40):=dU dC mixed (ee (.cons (bB.one hle) (.cons (bB.one iP) .nil))) 50 40
def mV:List ar3:=a7 (dI fK 50)
def ai2:List ar3:=a7 (dI fK 51)
open Tree renaming aQ->mN,dE->mF,fj->mL,fY->mQ,dN->mR,gH->mE
abbrev JW:List ar3:=(a7 (inner (a7 (inner (mV.drop 9)))))
abbrev ai3:List ar3:=(a7 (qo true (mV.drop 3)))
def SJ:Nat->Bool->Bool->Tree->Tree
 |0,_,_,t=>t
 |n+1,d,b,t=>.cY d b (SJ n d b t)
theorem JX{R:bf->ai->Prop}{c v:Bool}{t:Tree}(n:Nat)(h1:c=v)(h2:t.ok R):(SJ n c v t).ok R:=by
 induction n with
 |zero=>exact h2
 |succ n ih=>exact⟨h1,ih⟩
abbrev zG:=λS L R H d=>([ab (aL (ad.z S) 1 5 6 7) 89,.abs d,.dead,.dead,.dead,ab (ah L) 9,ab (ay R) 3,ab (an H) 114]:List ak)
abbrev ai4:=λS L R H d=>(⟨[(0,ap 0),(3,.string (ar2 #[])),(17,.bool false)],zG S L R H d⟩:ai)
abbrev SK:=λS L R H d=>(⟨[(0,ap 0),(3,.string (ar2 (ar6 (asp (ash (cut (aL (ad.mk (ad.at_ S) (ad.more S) (ad.bi S) (ad.B (ad.z S)) 0 (ad.failed S) (ad.aC S) 0 (ad.rn S) (ad.bJ S) (ad.sn S) (ad.hn S) (ad.eL S) (ad.raw S) (ad.closed S)) 1 5 6 7) 3 (m5 (ad.n S)-0)) bytesOf) [])))),(17,.bool true)],[ab (aL (ad.mk (ad.at_ S) (ad.more S) (ad.bi S) (ad.B (ad.z S)) 0 (ad.failed S) (ad.aC S) 0 (ad.rn S) (ad.bJ S) (ad.sn S) (ad.hn S) (ad.eL S) (ad.raw S) (ad.closed S)) 1 5 6 7) 89,.abs d,.dead,.dead,.dead,ab (ah L) 9,ab (ay R) 3,ab (an H) 114]⟩:ai)
abbrev zH:=λ(S:ad) L R H d=>([ab (aL S.z 1 5 6 7) 89,.abs d,.dead,.dead,.dead,ab (ah L) 9,ab (ay R) 3,ab (an H) 114]:List ak)
abbrev JY:=λS L R H d=>(⟨[(0,ap 0)],zH S L R H d⟩:ai)
theorem ai5(S:ad)(L R H d)(pH:(an H).all ag=true)(hL:(nG L)=S.rn)(hR:(nG R)=S.sn)(hH:(nG H)=S.hn)(h0:0<=S.n)(h1:S.n<=64){Q:aU}(l3:(ad.n S==0)->ao fK 77 5 (mV.drop 3) (ai4 S L R H d) Q)(n4:(ad.n S==0)=false->(at3 (ash (cut (aL (ad.mk S.at_ S.more S.bi (ad.B S.z) 0 S.failed S.aC 0 S.rn S.bJ S.sn S.hn S.eL S.raw S.closed) 1 5 6 7) 3 (m5 S.n-0)) bytesOf)))(l5:(ad.n S==0)=false->ao fK 77 5 (mV.drop 3) (SK S L R H d) Q):ao fK 77 5 mV (JY S L R H d) Q:=
 aV bp 3 (.fork 4 (.leaf [0,3,17] [0,1,2,3,4,5,6,7] [5,6,7]) (aB [4,1,3,0,1] (.leaf [0,3,17] [0,1,2,3,4,5,6,7] [5,6,7]))) (λu=>by kernel_rfl) (mF (c:=ad.n S==0) (λh0=>(aO L R H (mQ (l3 h0)))) (λh0=>(mN (decide_eq_true (by omega):(decide (0<=ad.n S))=true) (mN (show(arM (m5 (ad.n S)) 64)=true by simp at pH hL hR hH h0 h1 h0⊢ <;>omega) (mN (n4 h0) (aO L R H (mQ (l5 h0))))))))
abbrev Df:=λH T K Rr dd=>([ab (aL (ad.z T) 1 5 6 7) 89,.abs dd,.dead,.dead,.dead,ab (ah K) 9,ab (ay Rr) 3,ab (an H) 114]:List ak)
abbrev JZ:=λ(S:ad) (L:List ByteArray) (R:List Int) H (d:aA) T K Rr dd (e:Int) (x:ByteArray)=>(⟨[(2,aa e)],Df H T K Rr dd⟩:ai)
theorem ai6(S L R H d T K Rr dd)(e:Int)(x){Q:bu}(aY:DC (an H) ag)(hq:Q (.ret (aa e)) (JZ S L R H d T K Rr dd e x).objs):aG fK 50 77 5 Q .ret (JZ S L R H d T K Rr dd e x):=aG.ret (vs:=[aa e]) (l:=[]) (bs:=[0,1,2,3,4,5,6,7]) (pl:=[5,6,7]) (q:=[ah K,ay Rr,an H]) (λu=>by kernel_rfl) (by kernel_rfl) (aD (by simp) (aD (by simp) (aD aY be))) hq
abbrev ai7:=λ(S:ad) (L:List ByteArray) (R:List Int) H (d:aA) T K Rr dd (e:Int) (x:ByteArray)=>(⟨[(0,ap 0)],Df H T K Rr dd⟩:ai)
abbrev ai8:=λS L R H d (T:ad) (K:List ByteArray) (Rr:List Int) (dd:aA) (e:Int) x=>(⟨[(0,ap 0),(3,.string x)],zH S L R H d⟩:ai)
theorem ai9(S:ad)(L R H d)(T:ad)(K Rr dd)(e:Int)(x)(pH:(an H).all ag=true)(hL:(nG L)=S.rn)(hR:(nG R)=S.sn)(hH:(nG H)=S.hn)(mU:aF fK 47 [ap 0,aq 5 1] (aP S.z L R H d++[ab (ah [x]) 9]) λr q=>r=.ret (aa e)/\q=oX (ab (ah [x]) 9) T.z K Rr H dd){Q:aU}(l2:(e != 0)->Q .ret (JZ S L R H d T K Rr dd e x))(l3:(e != 0)=false->Q .normal (ai7 S L R H d T K Rr dd e x)):ao fK 77 5 ai3 (ai8 S L R H d T K Rr dd e x) Q:=
 aV (aiT S L R H d T K Rr dd e x mU) 1000 (aB [3,1,1,3,3,1,1] (.fork 0 (.leaf [2] [0,1,2,3,4,9,10,11] [9,10,11]) (.leaf [0] [0,1,2,3,4,9,10,11] [9,10,11]))) (λu=>by kernel_rfl) (aO L R H (mN (kC [ap 0,aq 5 1] (aP (ad.z S) L R H d++[ab (ah [x]) 9])) (mN (aW K) (mN (aS Rr) (mN (aZ H) (mF (c:=e != 0) (λh0=>(mN (aW K) (mN (aS Rr) (mN (aZ H) (mR (l2 h0)))))) (λh0=>(mN (aW K) (mN (aS Rr) (mN (aZ H) (mQ (ao.done (by kernel_rfl) (l3 h0)))))))))))))
abbrev SL:=λS L R H d=>(⟨[(2,aa 0)],[ab (aL (ad.mk (ad.at_ S) (ad.more S) (ad.bi S) (ad.B (ad.z S)) (ad.n S) (ad.failed S) (ad.aC S) 0 (ad.rn S) (ad.bJ S) (ad.sn S) (ad.hn S) true (ad.raw S) (ad.closed S)) 1 5 6 7) 89,.abs d,.dead,.dead,.dead,ab (ah (bb (aN (ad.aC S)) (di (ah L)))) 9,ab (ay R) 3,ab (an H) 114]⟩:ai)
theorem aja(S L R H d){Q:bu}(aY:DC (ay R) ag)(bh:DC (an H) ag)(hq:Q (.ret (aa 0)) [ab (aL (ad.mk (ad.at_ S) (ad.more S) (ad.bi S) (ad.B (ad.z S)) (ad.n S) (ad.failed S) (ad.aC S) 0 (ad.rn S) (ad.bJ S) (ad.sn S) (ad.hn S) true (ad.raw S) (ad.closed S)) 1 5 6 7) 89,.abs d,.dead,.dead,.dead,ab (ah (bb (aN (ad.aC S)) (di (ah L)))) 9,ab (ay R) 3,ab (an H) 114]):aG fK 50 77 5 Q .ret (SL S L R H d):=aG.ret (vs:=[aa 0]) (l:=[]) (bs:=[0,1,2,3,4,5,6,7]) (pl:=[5,6,7]) (q:=[ah (bb (aN (ad.aC S)) (di (ah L))),ay R,an H]) (λu=>by kernel_rfl) (by kernel_rfl) (aD (by simp) (aD aY (aD bh be))) hq
abbrev ajb:=λS L R H d=>(⟨[(0,ap 0)],[ab (aL (ad.mk (ad.at_ S) (ad.more S) (ad.bi S) (ad.B (ad.z S)) (ad.n S) (ad.failed S) (ad.aC S) 0 (ad.rn S) (ad.bJ S) (ad.sn S) (ad.hn S) true (ad.raw S) (ad.closed S)) 1 5 6 7) 89,.abs d,.dead,.dead,.dead,ab (ah L) 9,ab (ay R) 3,ab (an H) 114]⟩:ai)
theorem ajc(S:ad)(L R H d)(pH:(an H).all ag=true)(hL:(nG L)=S.rn)(hR:(nG R)=S.sn)(hH:(nG H)=S.hn){Q:aU}(n0:((↑S.sn:Int)==0)->(jf [ab (ah L) 9,ab (aL (ad.mk S.at_ S.more S.bi (ad.B S.z) S.n S.failed S.aC 0 S.rn S.bJ S.sn S.hn true S.raw S.closed) 2 0 3 4) 89,ak.abs d,ab (ay R) 3,ab (an H) 114] S.rn&&(arE S.rn S.rn&&arE 74 74))=true)(l3:((↑S.sn:Int)==0)->Q .ret (SL S L R H d))(l5:((↑S.sn:Int)==0)=false->ao fK 77 5 ((mV.drop 4).drop 3) (ajb S L R H d) Q):ao fK 77 5 (mV.drop 4) (JY S L R H d) Q:=
 aV aiR 3 (.fork 3 (aB [5,1,1,1,1,1,1] (.leaf [2] [0,1,2,3,4,5,6,7] [5,6,7])) (.leaf [0] [0,1,2,3,4,5,6,7] [5,6,7])) (λu=>by kernel_rfl) (mF (c:=(↑(ad.sn S):Int)==0) (λh0=>(aO L R H (mN (n0 h0) (mN (aW (bb (aN (ad.aC S)) (di (ah L)))) (mN (aS R) (mN (aZ H) (mN (aW (bb (aN (ad.aC S)) (di (ah L)))) (mN (aS R) (mN (aZ H) (mR (l3 h0))))))))))) (λh0=>(aO L R H (mQ (l5 h0)))))
abbrev J0:=λ(S:ad) (L:List ByteArray) (R:List Int) H (d:aA) T K Rr dd (e:Int)=>(⟨[(2,aa e)],Df H T K Rr dd⟩:ai)
theorem ajd(S L R H d T K Rr dd)(e:Int){Q:bu}(aY:DC (an H) ag)(hq:Q (.ret (aa e)) (J0 S L R H d T K Rr dd e).objs):aG fK 50 77 5 Q .ret (J0 S L R H d T K Rr dd e):=aG.ret (vs:=[aa e]) (l:=[]) (bs:=[0,1,2,3,4,5,6,7]) (pl:=[5,6,7]) (q:=[ah K,ay Rr,an H]) (λu=>by kernel_rfl) (by kernel_rfl) (aD (by simp) (aD (by simp) (aD aY be))) hq
abbrev aje:=λ(S:ad) (L:List ByteArray) (R:List Int) H (d:aA) T K Rr dd (e:Int)=>(⟨[(0,ap 0)],Df H T K Rr dd⟩:ai)
abbrev ajf:=λS L R H d (T:ad) (K:List ByteArray) (Rr:List Int) (dd:aA) (e:Int)=>(⟨[(0,ap 0)],zG S L R H d⟩:ai)
abbrev SM:=λS L R H d (T:ad) (K:List ByteArray) (Rr:List Int) (dd:aA) (e:Int)=>(⟨[(0,ap 0)],zH S L R H d⟩:ai)
theorem ajg(S:ad)(L R H d)(T:ad)(K Rr dd)(e:Int)(pH:(an H).all ag=true)(hL:(nG L)=S.rn)(hR:(nG R)=S.sn)(hH:(nG H)=S.hn)(cZ:aF fK 70 [ap 0] (aP S.z L R H d) λr q=>r=.ret (aa e)/\q=jI T.z K Rr H dd){Q:aU}(l2:(decide ((↑S.rn:Int)>0))->(e != 0)->Q .ret (J0 S L R H d T K Rr dd e))(l3:(decide ((↑S.rn:Int)>0))->(e != 0)=false->ao fK 77 5 ((mV.drop 7).drop 2) (aje S L R H d T K Rr dd e) Q)(l6:(decide ((↑S.rn:Int)>0))=false->ao fK 77 5 ((mV.drop 7).drop 2) (ajf S L R H d T K Rr dd e) Q):ao fK 77 5 (mV.drop 7) (SM S L R H d T K Rr dd e) Q:=
 aV (aiV S L R H d T K Rr dd e cZ) 2 (.fork 2 (aB [3,1,1,1,1,1,1] (.fork 0 (.leaf [2] [0,1,2,3,4,8,9,10] [8,9,10]) (.leaf [0] [0,1,2,3,4,8,9,10] [8,9,10]))) (.leaf [0] [0,1,2,3,4,5,6,7] [5,6,7])) (λu=>by kernel_rfl) (mF (c:=decide ((↑(ad.rn S):Int)>0)) (λh0=>(aO L R H (mN (kC [ap 0] (aP (ad.z S) L R H d)) (mN (aW K) (mN (aS Rr) (mN (aZ H) (mF (c:=e != 0) (λh1=>(mN (aW K) (mN (aS Rr) (mN (aZ H) (mR (l2 h0 h1)))))) (λh1=>(mN (aW K) (mN (aS Rr) (mN (aZ H) (mQ (l3 h0 h1))))))))))))) (λh0=>(aO L R H (mQ (l6 h0)))))
abbrev ajh:=λS L R H d=>(⟨[(0,ap 0)],zG S L R H d⟩:ai)
abbrev aji:=λS L R H d=>(⟨[(0,ap 0)],zG S L R H d⟩:ai)
theorem ajj(S:ad)(L R H d)(pH:(an H).all ag=true)(hL:(nG L)=S.rn)(hR:(nG R)=S.sn)(hH:(nG H)=S.hn){Q:aU}(l3:(decide ((↑S.sn:Int)>3))->ao fK 77 5 (JW.drop 2) (ajh S L R H d) Q)(l4:(decide ((↑S.sn:Int)>3))=false->Q (.exit 0) (aji S L R H d)):ao fK 77 5 JW (JY S L R H d) Q:=
 aV bp 2 (.fork 2 (.leaf [0] [0,1,2,3,4,5,6,7] [5,6,7]) (.leaf [0] [0,1,2,3,4,5,6,7] [5,6,7])) (λu=>by kernel_rfl) (mF (c:=decide ((↑(ad.sn S):Int)>3)) (λh0=>(aO L R H (mQ (l3 h0)))) (λh0=>(aO L R H (mE 0 (l4 h0)))))
abbrev J1:=λ(S:ad) L (R:List Int) H (d:aA) T (K:List ByteArray) Rr dd (e:Int)=>(⟨[(2,aa e)],[ab (aL (ad.z T) 1 5 6 7) 89,.abs dd,.dead,.dead,.dead,ab (ah L) 9,ab (ay Rr) 3,ab (an H) 114]⟩:ai)
theorem ajk(S L R H d T K Rr dd)(e:Int){Q:bu}(aY:DC (ah L) ag)(bh:DC (an H) ag)(hq:Q (.ret (aa e)) (J1 S L R H d T K Rr dd e).objs):aG fK 50 77 5 Q .ret (J1 S L R H d T K Rr dd e):=aG.ret (vs:=[aa e]) (l:=[]) (bs:=[0,1,2,3,4,5,6,7]) (pl:=[5,6,7]) (q:=[ah L,ay Rr,an H]) (λu=>by kernel_rfl) (by kernel_rfl) (aD aY (aD (by simp) (aD bh be))) hq
abbrev ajl:=λ(S:ad) L (R:List Int) H (d:aA) T (K:List ByteArray) Rr dd (e:Int)=>(⟨[(0,ap 0)],[ab (aL (ad.z T) 1 5 6 7) 89,.abs dd,.dead,.dead,.dead,ab (ah L) 9,ab (ay Rr) 3,ab (an H) 114]⟩:ai)
theorem SN(S:ad)(L R H d)(T:ad)(K Rr dd)(e:Int)(pH:(an H).all ag=true)(hL:(nG L)=S.rn)(hR:(nG R)=S.sn)(hH:(nG H)=S.hn)(kn:aF fK 75 [ap 0] (aP S.z L R H d) λr q=>r=.ret (aa e)/\q=xl T.z L Rr H dd){Q:aU}(l3:(e != 0)->Q .ret (J1 S L R H d T K Rr dd e))(l4:(e != 0)=false->Q .normal (ajl S L R H d T K Rr dd e)):ao fK 77 5 (JW.drop 2) (SM S L R H d T K Rr dd e) Q:=
 aV (aiX S L R H d T K Rr dd e kn) 1000 (aB [3,1,1,1,1,1,1] (.fork 0 (.leaf [2] [0,1,2,3,4,5,8,7] [5,8,7]) (.leaf [0] [0,1,2,3,4,5,8,7] [5,8,7]))) (λu=>by kernel_rfl) (aO L R H (mN (kC [ap 0] (aP (ad.z S) L R H d)) (mN (aW L) (mN (aZ H) (mN (aS Rr) (mF (c:=e != 0) (λh0=>(mN (aW L) (mN (aS Rr) (mN (aZ H) (mR (l3 h0)))))) (λh0=>(mN (aW L) (mN (aS Rr) (mN (aZ H) (mQ (ao.done (by kernel_rfl) (l4 h0)))))))))))))
abbrev ajm:=λS L R (H:List au) (d:aA) l dd (e:Int)=>(⟨[(9,aa 0)],[ab (aL (ad.mk (ad.at_ S) (ad.more S) (ad.bi S) (ad.B (ad.z S)) (ad.n S) (ad.failed S) (ad.aC S) 0 (ad.rn S) (ad.bJ S) (ad.sn S) (nG l) (ad.eL S) (ad.raw S) (ad.closed S)) 1 5 6 7) 89,.abs dd,.dead,.dead,.dead,ab (ah L) 9,ab (ay R) 3,ab (an l) 114]⟩:ai)
abbrev ajn:=λS L R (H:List au) (d:aA) (l:List au) dd (e:Int)=>(⟨[(9,aa e)],[ab (QQ (ad.z S) 1 (aq 5 (ad.rn S)) (aq 6 (ad.sn S)) (ci)) 89,.abs dd,.dead,.dead,.dead,ab (ah L) 9,ab (ay R) 3]⟩:ai)
abbrev ajo:=λS L R H d (l:List au) (dd:aA) (e:Int)=>(⟨[(0,ap 0)],zH S L R H d⟩:ai)
theorem ajp(S:ad)(L R H d l dd)(e:Int)(pH:(an H).all ag=true)(hL:(nG L)=S.rn)(hR:(nG R)=S.sn)(hH:(nG H)=S.hn)(pL:(an l).all ag=true)(dh:aF fK 76 [ap 0,aq 3 S.sn] (aP S.z L R H d) (qE S.z L R H (e,l,dd))){Q:aU}(l3:(e==0)->ao fK 77 5 ((mV.drop 10).drop 2) (ajm S L R H d l dd e) Q)(l4:(e==0)=false->ao fK 77 5 ((mV.drop 10).drop 2) (ajn S L R H d l dd e) Q):ao fK 77 5 (mV.drop 10) (ajo S L R H d l dd e) Q:=
 aV (aiZ S L R H d l dd e dh) 2 (aB [5,1,1,1] (.fork 0 (aB [1,1,1,1] (.leaf [9] [0,1,2,3,4,5,6,8] [5,6,8])) (aB [1,1,1] (.leaf [9] [0,1,2,3,4,5,6] [5,6])))) (λu=>by kernel_rfl) (aO L R H (mN (kC [ap 0,aq 3 (ad.sn S)] (aP (ad.z S) L R H d)) (mF (c:=e==0) (λh0=>(aO L R H (mN (aZ l) (mN (aW L) (mN (aS R) (mN (aZ l) (mQ (l3 h0)))))))) (λh0=>(aO L R H (mN (aW L) (mN (aS R) (mQ (l4 h0)))))))))
abbrev J2:=λS L R H d (e:Int)=>(⟨[(2,aa e)],zG S L R H d⟩:ai)
theorem SO(S L R H d)(e:Int){Q:bu}(hq:Q (.ret (aa e)) (J2 S L R H d e).objs):aG fK 50 77 5 Q .ret (J2 S L R H d e):=aG.ret (vs:=[aa e]) (l:=[]) (bs:=[0,1,2,3,4,5,6,7]) (pl:=[5,6,7]) (q:=[ah L,ay R,an H]) (λu=>by kernel_rfl) (by kernel_rfl) (ia L R H be) hq
abbrev ajq:=λS L R H d (e:Int)=>(⟨[(9,aa e)],zH S L R H d⟩:ai)
theorem SP(S:ad)(L R H d)(e:Int)(pH:(an H).all ag=true)(hL:(nG L)=S.rn)(hR:(nG R)=S.sn)(hH:(nG H)=S.hn){Q:aU}(l3:Q .ret (J2 S L R H d e)):ao fK 77 5 (mV.drop 12) (ajq S L R H d e) Q:=
 aV bp 1000 (.leaf [2] [0,1,2,3,4,5,6,7] [5,6,7]) (λu=>by kernel_rfl) (aO L R H (mR l3))
abbrev SQ:=λS L R H d=>([ab (aL (ad.mk (ad.at_ S) true (ad.bi S) (ad.B S) (ad.n S) (ad.failed S) (ad.aC S) (ad.ro S) (ad.rn S) (ad.bJ S) (ad.sn S) (ad.hn S) (ad.eL S) (ad.raw S) (ad.closed S)) 1 2 3 4) 89,.abs d,ab (ah L) 9,ab (ay R) 3,ab (an H) 114]:List ak)
abbrev J3:=λS L R H d (k:Int) (dd:aA) (e:Int)=>(⟨[(2,aa 0)],SQ S L R H d⟩:ai)
theorem ajr(S L R H d)(k:Int)(dd)(e:Int){Q:bu}(hq:Q (.ret (aa 0)) (J3 S L R H d k dd e).objs):aG fK 51 34 5 Q .ret (J3 S L R H d k dd e):=aG.ret (vs:=[aa 0]) (l:=[]) (bs:=[0,1,2,3,4]) (pl:=[2,3,4]) (q:=[ah L,ay R,an H]) (λu=>by kernel_rfl) (by kernel_rfl) (ia L R H be) hq
abbrev J4:=λS L R H d (k:Int) (dd:aA) (e:Int)=>(⟨[(2,aa 0)],SQ S L R H d⟩:ai)
theorem ajs(S L R H d)(k:Int)(dd)(e:Int){Q:bu}(hq:Q (.ret (aa 0)) (J4 S L R H d k dd e).objs):aG fK 51 34 5 Q .ret (J4 S L R H d k dd e):=aG.ret (vs:=[aa 0]) (l:=[]) (bs:=[0,1,2,3,4]) (pl:=[2,3,4]) (q:=[ah L,ay R,an H]) (λu=>by kernel_rfl) (by kernel_rfl) (ia L R H be) hq
abbrev J5:=λS L R H (d:aA) (k:Int) dd (e:Int)=>(⟨[(2,aa e)],[ab (aL (ad.mk (ad.at_ S) (ad.more S) true (ad.B S) (ad.n S) (ad.failed S) (ad.aC S) (ad.ro S) (ad.rn S) (ad.bJ S) (ad.sn S) (ad.hn S) (ad.eL S) (ad.raw S) (ad.closed S)) 1 2 3 4) 89,.abs dd,ab (ah L) 9,ab (ay R) 3,ab (an H) 114]⟩:ai)
theorem ajt(S L R H d)(k:Int)(dd)(e:Int){Q:bu}(hq:Q (.ret (aa e)) (J5 S L R H d k dd e).objs):aG fK 51 34 5 Q .ret (J5 S L R H d k dd e):=aG.ret (vs:=[aa e]) (l:=[]) (bs:=[0,1,2,3,4]) (pl:=[2,3,4]) (q:=[ah L,ay R,an H]) (λu=>by kernel_rfl) (by kernel_rfl) (ia L R H be) hq
abbrev aju:=λS L R H d (k:Int) (dd:aA) (e:Int)=>(⟨[(0,ap 0)],[ab (aL S 1 2 3 4) 89,.abs d,ab (ah L) 9,ab (ay R) 3,ab (an H) 114]⟩:ai)
theorem ajv(S:ad)(L R H d)(k:Int)(dd)(e:Int)(pH:(an H).all ag=true)(hR:(nG R)=S.sn)(hH:(nG H)=S.hn)(hle:aF fK 53 [ap 0,aq 4 S.hn] (aP S L R H d) λr q=>r=.ret (aa k)/\q=aP S L R H d)(iP:aF fK 78 [ap 0,aq 3 S.sn] (aP S L R H d) λr q=>r=.ret (aa e)/\q=aP S L R H dd){Q:aU}(l3:(decide ((↑S.rn:Int)>0))->Q .ret (J3 S L R H d k dd e))(l5:(decide ((↑S.rn:Int)>0))=false->(decide (k >= 0))->Q .ret (J4 S L R H d k dd e))(l7:(decide ((↑S.rn:Int)>0))=false->(decide (k >= 0))=false->Q .ret (J5 S L R H d k dd e)):ao fK 34 5 ai2 (aju S L R H d k dd e) Q:=
 aV (ai1 S L R H d k dd e hle iP) 1000 (.fork 2 (aB [1,1,1,1,1,1,1] (.leaf [2] [0,1,2,3,4] [2,3,4])) (aB [0,0,0,0,2,3,1,1,1,1,1,1,0,0] (.fork 0 (.leaf [2] [0,1,2,3,4] [2,3,4]) (aB [5,1,1,1,1,1,1] (.leaf [2] [0,1,2,3,4] [2,3,4]))))) (λu=>by kernel_rfl) (mF (c:=decide ((↑(ad.rn S):Int)>0)) (λh0=>(JX 7 h0 (aO L R H (mR (l3 h0))))) (λh0=>(JX 5 h0 (aO L R H (mN (kC [ap 0,aq 4 (ad.hn S)] (aP S L R H d)) (aO L R H (JX 2 h0 (mF (c:=decide (k >= 0)) (λh1=>(aO L R H (mR (l5 h0 h1)))) (λh1=>(aO L R H (mN (kC [ap 0,aq 3 (ad.sn S)] (aP S L R H d)) (aO L R H (aO L R H (mR (l7 h0 h1)))))))))))))))
end
theorem SS(no:Int):∀(l:List ByteArray) (d:aA),cg (ic no l d).2 no<=cg d no+a8 l/\∀m,m≠no->cg (ic no l d).2 m=cg d m
 | [],d=>⟨arO _,λ_ _=>rfl⟩
 |x::l,d=>by
  have h1:=Rl d no (bM x)
  rw[lH]at h1
  have h2:∀m,m≠no->cg (bP d no (bM x)).2 m=cg d m:=λm h=>Jg d _ h
  unfold ic
  split
  ·exact⟨by show _<=cg d no+(x.size+1+a8 l);omega,h2⟩
  ·obtain⟨a,b⟩:=SS no l (bP d no (bM x)).2
   exact⟨by show _<=cg d no+(x.size+1+a8 l);omega,λm h=>(b m h).trans (h2 m h)⟩
def mW(s:cm):Nat:=eO s.2.2.2 s.2.2.1+a8 s.2.1
structure Good(F:Nat)(s:cm):Prop where
 ok:jK s
 old:∀r∈s.2.2.1,r<=s.2.2.2.made
 bR:mW s<=F
theorem Good.runs{F:Nat}{s:cm}(h:Good F s)(hF:F<=1000000):jr s.2.2.2 s.2.2.1:=⟨h.ok.cL,h.old,by have:=h.bR;unfold mW at this;omega⟩
theorem ajw{d d':aA}{l:List Int}(h:∀r∈l,cg d' r=cg d r):eO d' l=eO d l:=by
 induction l with
 |nil=>rfl
 |cons x l ih=>unfold eO;rw[h x arH,ih λy hy=>h y (arG _ hy)]
theorem Good.jp{F:Nat}{s:cm}(h:Good F s)(he:(cM s.1 s.2.1 s.2.2.1 s.2.2.2).1=0):Good F (cM s.1 s.2.1 s.2.2.1 s.2.2.2).2:=by
 obtain⟨h1,h2⟩:=h.ok.jp
 refine⟨h1,?_,?_⟩
 ·obtain⟨S,L,R,d⟩:=s
  have hold:∀r∈R,r<=d.made:=h.old
  have ni:=I9 (d:=d)
  have fk:=CZ (d:=d)
  have hok:jK (S,L,R,d):=h.ok
  dsimp only at*
  unfold cM at he⊢
  split at he
  ·rename_i g;exact absurd he g
  rename_i g
  have g:(bj d).2.1=0:=ate.1 g
  rw[if_neg (λh=>h g)]
  split at he
  ·rename_i g2;exact absurd he g2
  rename_i g2
  rw[if_neg g2]
  rw[if_pos g]at ni
  have cC:=(I8 (bj d).1 (bb (aN S.aC) L) (bj d).2.2 (hok.cL.vb) λf hf=>by
   rw[zu hok.cL g]at hf
   cases hf
   show 0+_<=_
   rw[pO (ib L)]
   have:=hok.bR
   show 0+a8 L<=_
   have:a8 L<=400:=this
   omega).2
  intro r hr
  dsimp only at hr⊢
  rcases arL.1 hr with hr|hr
  ·have:=hold r hr;omega
  ·have e1:=ar0.1 hr
   have e2:=fk g
   omega
 ·obtain⟨S,L,R,d⟩:=s
  have hold:∀r∈R,r<=d.made:=h.old
  have iq:eO d R+a8 L<=F:=h.bR
  have fk:=CZ (d:=d)
  have hok:jK (S,L,R,d):=h.ok
  dsimp only at*
  unfold cM at he⊢
  split at he
  ·rename_i g;exact absurd he g
  rename_i g
  have g:(bj d).2.1=0:=ate.1 g
  rw[if_neg (λh=>h g)]
  split at he
  ·rename_i g2;exact absurd he g2
  rename_i g2
  rw[if_neg g2]
  obtain⟨w1,w2⟩:=SS (bj d).1 (bb (aN S.aC) L) (bj d).2.2
  rw[RB hok.cL g,pO (ib L)]at w1
  have e1:eO (ic (bj d).1 (bb (aN S.aC) L) (bj d).2.2).2 R=eO d R:=ajw λr hr=>by
   have h3:=hold r hr
   rw[w2 r (by rw[fk g];omega),Jk d r h3]
  unfold mW
  dsimp only
  rw[xc,e1]
  show eO d R+(cg _ _+0)+0<=F
  omega
theorem Good.put{F:Nat}{s:cm}(h:Good F s)(x:ByteArray)(hx:a8 s.2.1+(x.size+1)<=400):Good (F+(x.size+1)) (jT x s):=by
 refine⟨h.ok.put x hx,h.old,?_⟩
 have:=h.bR
 unfold mW jT at*
 dsimp only at*
 rw[lg]
 show _+(a8 s.2.1+(x.size+1+0))<=_
 omega
theorem zI:∀(l:List ByteArray) (F:Nat) (s:cm),Good F s->(∀x∈l,x.size<=64)->jK (cx l s).2/\((cx l s).1=0->Good (F+a8 l) (cx l s).2)
 | [],F,s,h,hx=>⟨h.ok,λ_=>h⟩
 |x::l,F,s,h,hx=>by
  have gq:=hx x arH
  have kw:∀y∈l,y.size<=64:=λy hy=>hx y (arG _ hy)
  have hw:=h.ok.bJ
  have hlen:=h.ok.len
  unfold cx
  by_cases hc:0<s.1.rn/\s.1.bJ+x.size+1>256
  ·rw[if_pos hc]
   by_cases he:(cM s.1 s.2.1 s.2.2.1 s.2.2.2).1=0
   ·rw[if_neg (λh=>h he)]
    have h1:=h.jp he
    have pf:=(h.ok.jp).2 he
    have hp:=h1.put x (by rw[pf];show 0+(x.size+1)<=400;omega)
    obtain⟨a,b⟩:=zI l _ _ hp kw
    exact⟨a,λe=>by have:=b e;show Good (F+(x.size+1+a8 l)) _;rw[<-atm];exact this⟩
   ·rw[if_pos he]
    exact⟨h.ok.jp.1,λe=>absurd e he⟩
  ·rw[if_neg hc]
   have hp:=h.put x (by
    by_cases h0:0<s.1.rn
    ·have:¬s.1.bJ+x.size+1>256:=λh=>hc ⟨h0,h⟩
     omega
    ·have:s.2.1=[]:=List.eq_nil_of_length_eq_zero (by omega)
     rw[this];show 0+(x.size+1)<=400;omega)
   obtain⟨a,b⟩:=zI l _ _ hp kw
   exact⟨a,λe=>by have:=b e;show Good (F+(x.size+1+a8 l)) _;rw[<-atm];exact this⟩
noncomputable def dj(f:Bool):Nat->List Int->aA->Int×List Int×aA
 |0,R,d=>(0,R,d)
 |m+1,R,d=>if R.length<=3 then(0,R,d)else if(gz f R d).1≠0 then((gz f R d).1,R,(gz f R d).2.2)else dj f m (gz f R d).2.1 (gz f R d).2.2
def fo(s:cm):Int×cm:=if s.1.n=0 then(0,s)else cx [eZ s.1] ({s.1 with n:=0},s.2)
def kJ(s:cm):cm:=({s.1 with eL:=true},s.2)
def fq(s:cm):Int×cm:=if 0<s.1.rn then cM s.1 s.2.1 s.2.2.1 s.2.2.2 else(0,s)
noncomputable def jt(s:cm)(H:List au):Int×cm×List au:=
 if(dj s.1.aC s.2.2.1.length s.2.2.1 s.2.2.2).1≠0 then((dj s.1.aC s.2.2.1.length s.2.2.1 s.2.2.2).1,({s.1 with sn:=(dj s.1.aC s.2.2.1.length s.2.2.1 s.2.2.2).2.1.length},s.2.1,(dj s.1.aC s.2.2.1.length s.2.2.1 s.2.2.2).2),H)
 else match dj s.1.aC s.2.2.1.length s.2.2.1 s.2.2.2 with
  |(_,R,d)=>match dB R [] d with
   |(e,l,dd)=>if e=0 then(0,({s.1 with sn:=R.length,hn:=l.length},s.2.1,R,dd),l)else(e,({s.1 with sn:=R.length,hn:=0},s.2.1,R,dd),[])
noncomputable def qG(s:cm)(H:List au):Int×cm×List au:=if(fq s).1≠0 then((fq s).1,(fq s).2,H)else jt (fq s).2 H
noncomputable def rS(s:cm)(H:List au):Int×cm×List au:=if s.1.sn=0 then(0,(s.1,bb (aN s.1.aC) s.2.1,s.2.2),H)else qG s H
noncomputable def gI(s:cm)(H:List au):Int×cm×List au:=if(fo s).1≠0 then((fo s).1,(fo s).2,H)else rS (kJ (fo s).2) H
theorem xm(S:ad):(eZ S).size=S.n.toNat:=by
 show(fS S.B S.n.toNat).toArray.size=_
 rw[List.size_toArray,JP]
theorem zJ{F:Nat}{s:cm}(h:Good F s)(hc:js s.1):jK (fo s).2/\((fo s).1=0->Good (F+(s.1.n.toNat+1)) (fo s).2):=by
 unfold fo
 split
 ·exact⟨h.ok,λ_=>⟨h.ok,h.old,by have:=h.bR;dsimp only;omega⟩⟩
 ·have h1:Good F ({s.1 with n:=0},s.2):=⟨⟨h.ok.len,h.ok.runs,h.ok.cL,h.ok.made,h.ok.bJ,h.ok.bR⟩,h.old,h.bR⟩
  have hn:=hc.n1
  obtain⟨a,b⟩:=zI [eZ s.1] F _ h1 λx hx=>by rw[ar0.1 hx,xm];omega
  refine⟨a,λe=>?_⟩
  have:=b e
  rw[show a8 [eZ s.1]=s.1.n.toNat+1 by show(eZ s.1).size+1+0=_;rw[xm]]at this
  exact this
theorem zK{F:Nat}{s:cm}(h:Good F s):Good F (kJ s):=⟨⟨h.ok.len,h.ok.runs,h.ok.cL,h.ok.made,h.ok.bJ,h.ok.bR⟩,h.old,h.bR⟩
theorem Dg(f:Bool):∀(m:Nat) (R:List Int) (d:aA),jr d R->ct (dj f m R d).2.2/\((dj f m R d).1=0->jr (dj f m R d).2.2 (dj f m R d).2.1/\(R.length<=m->(dj f m R d).2.1.length<=3))/\(dj f m R d).2.1.length<=R.length
 |0,R,d,h=>⟨h.cL,λ_=>⟨h,λhl=>by show R.length<=3;omega⟩,arO _⟩
 |m+1,R,d,h=>by
  unfold dj
  by_cases h3:R.length<=3
  ·rw[if_pos h3];exact⟨h.cL,λ_=>⟨h,λ_=>h3⟩,arO _⟩
  rw[if_neg h3]
  obtain⟨p1,p2⟩:=JN f h
  by_cases he:(gz f R d).1=0
  ·rw[if_neg (λh=>h he)]
   obtain⟨q1,q2,q3⟩:=p2 he
   obtain⟨a,b,c⟩:=Dg f m _ _ q1
   exact⟨a,λe=>⟨(b e).1,λhl=>(b e).2 (by omega)⟩,by omega⟩
  ·rw[if_pos he]
   exact⟨p1,λe=>absurd e he,arO _⟩
theorem ao.less{P:arC}{n k:Nat}{l:List ar3}{d:ai}{Q:bf->ai->Prop}(J6:List (Nat×Dy))(hc:(ja (d.sl.map (·.1))&&d.sl.all (λp=>arF p.1 n)&&arM n 1024)=true)(hs:∀p∈J6,p∈d.sl)(h:ao P n k l ⟨J6,d.objs⟩ Q):ao P n k l d Q:=by
 intro X hn hk a w hd
 subst hn hk
 obtain⟨ρ,u,M,hd⟩:=hd
 simp only[BV]at hc
 obtain⟨⟨c1,c2⟩,c3⟩:=hc
 have c3:=arU c3
 have cc:a.tmps.size=X.n:=by have:=hd.fr.size;rw[this];show(gY X.n u d.sl).length=_;unfold gY;simp[mA]
 have ul:a.defers=M.map e8:=hd.fr.sF rfl
 obtain⟨u',hu⟩:=FR.make (ρ:=ρ) (a:=a) (l:=J6) cc c3 ul (λi=>⟨_,hd.fr.at_ i⟩) λp hp=>by
  have hp:=hs p hp
  have hn:=ed.1 (ar1.1 c2 p hp)
  have h8:=hd.fr.at_ p.1
  rw[Fr.yB,wq c3 hn (wE c1 p hp)]at h8
  exact⟨hn,h8⟩
 exact h X rfl rfl a w ⟨ρ,u',M,hd.full,hd.kept,hu,hd.mem,hd.bR,hd.quiet,hd.gR,hd.outside⟩
def SU(x:Int×cm×List au)(r:bD)(q:List ak):Prop:=r=.ret (.int .i64 x.1)/\q=jI x.2.1.1.z x.2.1.2.1 x.2.1.2.2.1 x.2.2 x.2.1.2.2.2
abbrev J7(i:Nat)(s:cm)(H:List au)(x:Int×cm×List au):Prop:=
 ao fK (cp fK 50) 5 (mV.drop i) ⟨[(0,.pointer (some ⟨0,0,none⟩))],jI s.1.z s.2.1 s.2.2.1 H s.2.2.2⟩ (aG fK 50 (cp fK 50) 5 (SU x))
structure ajx(f:Bool)(v:Int×List Int×aA)(s:List Int×aA×Nat):Prop where
 e:dj f s.2.2 s.1 s.2.1=v
 ok:jr s.2.1 s.1
 m:s.1.length<=s.2.2
theorem ajy{f:Bool}{m:Nat}{R:List Int}{d:aA}(h:R.length<=3):dj f m R d=(0,R,d):=by
 cases m with
 |zero=>rfl
 |succ m=>unfold dj;rw[if_pos h]
theorem ajz{f:Bool}{m:Nat}{R:List Int}{d:aA}(h:¬R.length<=3):dj f (m+1) R d=if(gz f R d).1≠0 then((gz f R d).1,R,(gz f R d).2.2)else dj f m (gz f R d).2.1 (gz f R d).2.2:=by
 conv=>lhs;unfold dj
 rw[if_neg h]
theorem SW(S:ad)(L:List ByteArray)(R:List Int)(H:List au)(d:aA)(hL:L.length=S.rn)(hR:R.length=S.sn)(hH:H.length=S.hn)(SX:R.length<=900000)(hr:jr d R):J7 9 (S,L,R,d) H (jt (S,L,R,d) H):=by
 have pH:=aZ H
 have hv:jt (S,L,R,d) H=if(dj S.aC R.length R d).1≠0 then((dj S.aC R.length R d).1,({S with sn:=(dj S.aC R.length R d).2.1.length},L,(dj S.aC R.length R d).2),H)
  else match dj S.aC R.length R d with
   |(_,R,d)=>match dB R [] d with
    |(e,l,dd)=>if e=0 then(0,({S with sn:=R.length,hn:=l.length},L,R,dd),l)else(e,({S with sn:=R.length,hn:=0},L,R,dd),[]):=rfl
 rw[hv]
 clear hv
 obtain⟨v,hv⟩:∃v,v=dj S.aC R.length R d:=⟨_,rfl⟩
 rw[<-hv]
 refine ao.eX 9 0 (by kernel_rfl) ?_
 have hS:S={S with sn:=R.length}:=by rw[hR]
 rw[hS]
 clear hS
 refine ao.gu (λt:List Int×aA×Nat=>⟨[(0,.pointer (some ⟨0,0,none⟩))],jI (ad.z {S with sn:=t.1.length}) L t.1 H t.2.1⟩) (λt=>t.2.2) (λt=>ajx S.aC v t/\t.1.length<=900000) (R,d,R.length) (by kernel_rfl) ⟨⟨hv.symm,hr,arO _⟩,SX⟩ ?_
 clear hv hr hR SX
 rintro⟨R,d,m⟩ ⟨⟨h1,h2,h3⟩,h4⟩
 dsimp only at h1 h2 h3 h4
 apply ajj {S with sn:=R.length} L R H d pH hL rfl hH
 case l4=>
  intro g
  have g:=of_decide_eq_false g
  have g:¬((R.length:Nat):Int)>3:=g
  have g3:R.length<=3:=by omega
  rw[ajy g3]at h1
  rw[<-h1,if_neg (λh=>h rfl)]
  dsimp only
  with_reducible (repeat first|refine QL.ret ?_|refine QL.exit ?_|refine QB.ret ?_|refine QB.cw ?_|refine QB.normal ?_|refine QB.cJ (by rfl) ?_)
  have dh:=R9 (ad.z {S with sn:=R.length}) L R H d 0 R.length (by omega) h4 h2.cL
  rw[ava,avt]at dh
  generalize dB R [] d=o at*
  obtain⟨e,l,dd⟩:=o
  dsimp only
  apply ajp {S with sn:=R.length} L R H d l dd e pH hL rfl hH (aZ l) dh
  case l3=>
   intro ge
   have ge:e=0:=by simpa using ge
   rw[if_pos ge]
   apply SP {S with sn:=R.length,hn:=l.length} L R l dd 0 (aZ l) hL rfl rfl
   ·exact SO {S with sn:=R.length,hn:=l.length} L R l dd 0 ⟨rfl,rfl⟩
  case l4=>
   intro ge
   have ge:¬e=0:=by simpa using ge
   rw[if_neg ge]
   refine ao.nr 0 74 114 R6 rfl rfl (by kernel_rfl) (d':=⟨[(9,.int .i64 e)],jI (ad.z {S with sn:=R.length,hn:=0}) L R [] dd⟩) rfl ?_
   apply SP {S with sn:=R.length,hn:=0} L R [] dd e rfl hL rfl rfl
   ·exact SO {S with sn:=R.length,hn:=0} L R [] dd e ⟨rfl,rfl⟩
 case l3=>
  intro g
  have g:=of_decide_eq_true g
  have g:((R.length:Nat):Int)>3:=g
  have g3:¬R.length<=3:=by omega
  cases m with
  |zero=>omega
  |succ m=>
  rw[ajz g3]at h1
  have kn:=aiv (ad.z {S with sn:=R.length}) L R H d rfl (by omega) h4 h2
  obtain⟨p1,p2⟩:=JN S.aC h2
  rw[show(ad.z {S with sn:=R.length}).aC=S.aC from rfl]at kn
  generalize gz S.aC R d=o at*
  obtain⟨e,R2,dd⟩:=o
  dsimp only at*
  by_cases ge:e=0
  ·obtain⟨q1,q2,q3⟩:=p2 ge
   rw[if_neg (λh=>h ge)]at h1
   rw[show tz (ad.z {S with sn:=R.length}) R (e,R2,dd)=(ad.z {S with sn:=R2.length},R2)by unfold tz;rw[if_pos ge];rfl]at kn
   apply SN {S with sn:=R.length} L R H d {S with sn:=R2.length} [] R2 dd e pH hL rfl hH kn
   case l3=>intro g5;rw[ge]at g5;cases g5
   case l4=>intro _;exact QL.to (R2,dd,m) ⟨⟨h1,q1,by dsimp only;omega⟩,by dsimp only;omega⟩ (by dsimp only;omega) rfl
  ·rw[if_pos ge]at h1
   rw[show tz (ad.z {S with sn:=R.length}) R (e,R2,dd)=(ad.z {S with sn:=R.length},R)by unfold tz;rw[if_neg ge]]at kn
   apply SN {S with sn:=R.length} L R H d {S with sn:=R.length} [] R dd e pH hL rfl hH kn
   case l3=>
    intro g5
    rw[<-h1,if_pos ge]
    with_reducible (repeat first|refine QL.ret ?_|refine QL.exit ?_|refine QB.ret ?_|refine QB.cw ?_|refine QB.normal ?_|refine QB.cJ (by rfl) ?_)
    exact ajk {S with sn:=R.length} L R H d {S with sn:=R.length} [] R dd e (by simp) pH ⟨rfl,rfl⟩
   case l4=>intro g5;exact absurd (by simpa using g5) ge
theorem ajA(F:Nat)(S:ad)(L:List ByteArray)(R:List Int)(H:List au)(d:aA)(hF:F<=900000)(hg:Good F (S,L,R,d))(hH:H.length=S.hn):J7 7 (S,L,R,d) H (qG (S,L,R,d) H):=by
 have pH:=aZ H
 have hL:L.length=S.rn:=hg.ok.len
 have hR:R.length=S.sn:=hg.ok.runs
 have fC:ct d:=hg.ok.cL
 have iY:R.length<=d.made:=hg.ok.made
 have aqI:=fC.made
 have hw:a8 L<=400:=hg.ok.bR
 have cZ:=Q4 S L R H d hL hR fC (by omega) (by omega)
 have qi:=hg.jp
 have Dh:=hg.ok.jp
 have hv:qG (S,L,R,d) H=if 0<S.rn then(if(cM S L R d).1≠0 then((cM S L R d).1,(cM S L R d).2,H)else jt (cM S L R d).2 H)else jt (S,L,R,d) H:=by
  unfold qG fq
  by_cases h:0<S.rn
  ·rw[if_pos h,if_pos h]
  ·rw[if_neg h,if_neg h]
   exact if_neg (λh=>h rfl)
 rw[hv]
 clear hv
 dsimp only at qi Dh
 have J8:(cM S L R d).2.1.hn=S.hn:=by unfold cM;split;rfl;split;rfl;rfl
 generalize cM S L R d=o at*
 obtain⟨e,T,K,Rr,dd⟩:=o
 dsimp only at*
 apply ajg S L R H d T K Rr dd e pH hL hR hH cZ
 case l2=>
  intro g ge
  have g:=of_decide_eq_true g
  have ge:e≠0:=by simpa using ge
  rw[if_pos (by omega),if_pos ge]
  exact ajd S L R H d T K Rr dd e pH ⟨rfl,rfl⟩
 case l3=>
  intro g ge
  have g:=of_decide_eq_true g
  have ge:e=0:=by simpa using ge
  rw[if_pos (by omega),if_neg (λh=>h ge)]
  have h2:=qi ge
  have M3:Rr.length<=dd.made:=h2.ok.made
  have cC:=h2.ok.cL.made
  exact SW T K Rr H dd h2.ok.len h2.ok.runs (hH.trans J8.symm) (by have:dd.made<=64:=cC;omega) (h2.runs (by omega))
 case l6=>
  intro g
  have g:=of_decide_eq_false g
  rw[if_neg (by omega)]
  exact SW S L R H d hL hR hH (by omega) (hg.runs (by omega))
theorem SY(F:Nat)(S:ad)(L:List ByteArray)(R:List Int)(H:List au)(d:aA)(hF:F<=900000)(hg:Good F (S,L,R,d))(hH:H.length=S.hn):J7 4 (S,L,R,d) H (rS (kJ (S,L,R,d)) H):=by
 have pH:=aZ H
 have hL:L.length=S.rn:=hg.ok.len
 have hR:R.length=S.sn:=hg.ok.runs
 have hw:a8 L<=400:=hg.ok.bR
 have CJ:=rO L
 have hv:rS (kJ (S,L,R,d)) H=if S.sn=0 then(0,({S with eL:=true},bb (aN S.aC) L,R,d),H)else qG (kJ (S,L,R,d)) H:=rfl
 rw[hv]
 clear hv
 apply ajc S L R H d pH hL hR hH
 case n0=>
  intro _
  have hO:=w0 (S:=ad.z {S with eL:=true}) (R:=R) (H:=H) (d:=d) (L:=L) rfl hL (by omega)
  unfold da at hO
  rw[show(aL (ad.mk (ad.at_ S) (ad.more S) (ad.bi S) (ad.B (ad.z S)) (ad.n S) (ad.failed S) (ad.aC S) (0) (ad.rn S) (ad.bJ S) (ad.sn S) (ad.hn S) (true) (ad.raw S) (ad.closed S)) 2 0 3 4)=aL (ad.z {S with eL:=true}) 2 0 3 4 from rfl,hO]
  simp only[asx,Bool.and_self]
 case l3=>
  intro g
  have g:S.sn=0:=by have:((S.sn:Nat):Int)=0:=by simpa using g
                    omega
  rw[if_pos g]
  refine aja S L R H d (by simp) pH ⟨rfl,?_⟩
  rw[je]
  rfl
 case l5=>
  intro g
  have g:¬S.sn=0:=λh=>by rw[h]at g;cases g
  rw[if_neg g]
  rw[asI]
  exact ajA F {S with eL:=true} L R H d hF (zK hg) hH
theorem ajB(F:Nat)(S:ad)(L:List ByteArray)(R:List Int)(H:List au)(d:aA)(hF:F<=800000)(hg:Good F (S,L,R,d))(hc:js S)(hH:H.length=S.hn):
 aF fK 50 [.pointer (some ⟨0,0,none⟩)] (aP S.z L R H d) (SU (gI (S,L,R,d) H)):=by
 have pH:=aZ H
 have hL:L.length=S.rn:=hg.ok.len
 have hR:R.length=S.sn:=hg.ok.runs
 have nm:=hc.n0
 have ky:=hc.n1
 refine aF.dv (n:=cp fK 50) (by kernel_rfl) ?_
 refine ao.move (d':=⟨[(0,.pointer (some ⟨0,0,none⟩))],jI S.z L R H d⟩) [some 0,some 1,none,none,none,some 2,some 3,some 4] [2,3,4] (q:=[ah L,ay R,an H]) (by kernel_rfl) (aD (by simp) (aD (by simp) (aD pH be))) (by kernel_rfl) (by kernel_rfl) ?_
 apply ai5 S L R H d pH hL hR hH nm ky
 case l3=>
  intro g
  have g:S.n=0:=by simpa using g
  have hb:fo (S,L,R,d)=(0,(S,L,R,d)):=by unfold fo;exact if_pos g
  have hv:gI (S,L,R,d) H=rS (kJ (S,L,R,d)) H:=by unfold gI;rw[hb];exact if_neg (λh=>h rfl)
  rw[hv]
  refine ao.aeH 3 (c:=17) (by kernel_rfl) (by rfl) (by rfl) (by kernel_rfl) ?_
  refine ao.less [(0,.pointer (some ⟨0,0,none⟩))] (by kernel_rfl) (by intro p hp;rw[ar0.1 hp];exact arH) ?_
  exact SY F S L R H d (by omega) hg hH
 case n4=>
  intro _
  rw[show(aL (ad.mk (ad.at_ S) (ad.more S) (ad.bi S) (ad.B (ad.z S)) (0) (ad.failed S) (ad.aC S) (0) (ad.rn S) (ad.bJ S) (ad.sn S) (ad.hn S) (ad.eL S) (ad.raw S) (ad.closed S)) 1 5 6 7)=aL (ad.z {S with n:=0}) 1 5 6 7 from rfl,JQ _ _ _ _ _ _ (by omega)]
  rfl
 case l5=>
  intro g
  have g:¬S.n=0:=by simpa using g
  have hx:asp (ash (cut (aL (ad.mk (ad.at_ S) (ad.more S) (ad.bi S) (ad.B (ad.z S)) (0) (ad.failed S) (ad.aC S) (0) (ad.rn S) (ad.bJ S) (ad.sn S) (ad.hn S) (ad.eL S) (ad.raw S) (ad.closed S)) 1 5 6 7) 3 (m5 (ad.n S)-0)) bytesOf) []=fS S.B S.n.toNat:=by
   rw[show(aL (ad.mk (ad.at_ S) (ad.more S) (ad.bi S) (ad.B (ad.z S)) (0) (ad.failed S) (ad.aC S) (0) (ad.rn S) (ad.bJ S) (ad.sn S) (ad.hn S) (ad.eL S) (ad.raw S) (ad.closed S)) 1 5 6 7)=aL (ad.z {S with n:=0}) 1 5 6 7 from rfl,JQ _ _ _ _ _ _ (by omega)]
   rfl
  refine ao.wD 3 (c:=17) (b:=true) (by kernel_rfl) (by rfl) (by rfl) ?_
  refine ao.join ?_
  unfold SK
  rw[hx,show ar2 (fS S.B S.n.toNat).toArray=eZ S from rfl]
  refine ao.less [(0,.pointer (some ⟨0,0,none⟩)),(3,.string (eZ S))] (by kernel_rfl) (by intro p hp;rcases arD.1 hp with rfl|hp;exact arH;rw[ar0.1 hp];exact arG _ arH) ?_
  have ajC:Good F ({S with n:=0},L,R,d):=⟨⟨hg.ok.len,hg.ok.runs,hg.ok.cL,hg.ok.made,hg.ok.bJ,hg.ok.bR⟩,hg.old,hg.bR⟩
  have mU:=Rb [eZ S] false 1 rfl (by omega) (λx hx=>by rw[ar0.1 hx,xm];omega) H ({S with n:=0},L,R,d) ajC.ok
  obtain⟨r1,r2⟩:=zJ hg hc
  have hb:fo (S,L,R,d)=cx [eZ S] ({S with n:=0},L,R,d):=by unfold fo;exact if_neg g
  have J8:(cx [eZ S] ({S with n:=0},L,R,d)).2.1.hn=S.hn:=by
   unfold cx
   split
   ·split
    ·unfold cM;split;rfl;split;rfl;rfl
    ·show(cM _ _ _ _).2.1.hn=_;unfold cM;split;rfl;split;rfl;rfl
   ·rfl
  unfold gI
  rw[hb]at r1 r2⊢
  generalize cx [eZ S] ({S with n:=0},L,R,d)=o at*
  obtain⟨e,T,K,Rr,dd⟩:=o
  dsimp only at*
  apply ai9 {S with n:=0} L R H d T K Rr dd e (eZ S) pH hL hR hH mU
  case l2=>
   intro ge
   have ge:e≠0:=by simpa using ge
   rw[if_pos ge]
   refine QA.ret ?_
   exact ai6 {S with n:=0} L R H d T K Rr dd e (eZ S) pH ⟨rfl,rfl⟩
  case l3=>
   intro ge
   have ge:e=0:=by simpa using ge
   rw[if_neg (λh=>h ge)]
   refine QA.normal ?_
   exact SY (F+(S.n.toNat+1)) T K Rr H dd (by omega) (r2 ge) (hH.trans J8.symm)
@[simp] theorem aqJ(l:List au):(an l).all ag=true:=aZ l
def ad.pop(S:ad):ad:={S with ro:=S.ro+1,rn:=S.rn-1}
def jL(S:ad)(H:List au):Bool:=decide (0<S.rn)||(eo S.aC H).isSome
def cy(S:ad)(R:List Int)(H:List au)(d:aA):Int×ad×aA:=
 if jL S H then(0,{S with more:=true},d)else((eN R d).1,{S with bi:=true},(eN R d).2)
theorem SZ(S:ad)(L:List ByteArray)(R:List Int)(H:List au)(d:aA)(hR:R.length=S.sn)(hH:H.length=S.hn)(hl:H.length<=1000000)(hr:R.length<=1000000)(hd:ct d):
 aF fK 51 [.pointer (some ⟨0,0,none⟩)] (aP S L R H d) λr q=>r=.ret (.int .i64 (cy S R H d).1)/\q=aP (cy S R H d).2.1 L R H (cy S R H d).2.2:=by
 have pH:=aZ H
 have hle:=ag6 S L R d H hl
 rw[hH]at hle
 have iP:=RU S L R H d 0 R.length (by omega) hr hd
 rw[ava,avt,hR]at iP
 refine aF.dv (n:=cp fK 51) (by kernel_rfl) ?_
 apply ajv S L R H d (kI (eo S.aC H)) (eN R d).2 (eN R d).1 pH hR hH hle iP
 case l3=>
  intro g
  have g:=of_decide_eq_true g
  have hm:jL S H=true:=by unfold jL;rw[decide_eq_true (by omega)];rfl
  unfold cy
  rw[if_pos hm]
  exact ajr S L R H d (kI (eo S.aC H)) (eN R d).2 (eN R d).1 ⟨rfl,rfl⟩
 case l5=>
  intro g gk
  have gk:=of_decide_eq_true gk
  have hm:jL S H=true:=by
   unfold jL
   cases hk:eo S.aC H with
   |none=>rw[hk]at gk;exact absurd gk (by show¬(0:Int)<=-1;omega)
   |some k=>rw[Bool.or_comm];rfl
  unfold cy
  rw[if_pos hm]
  exact ajs S L R H d (kI (eo S.aC H)) (eN R d).2 (eN R d).1 ⟨rfl,rfl⟩
 case l7=>
  intro g gk
  have g:=of_decide_eq_false g
  have gk:=of_decide_eq_false gk
  have hm:jL S H=false:=by
   unfold jL
   rw[decide_eq_false (by omega)]
   cases hk:eo S.aC H with
   |none=>rfl
   |some k=>rw[hk]at gk;exact absurd (show(0:Int)<=(k:Int)by omega) gk
  unfold cy
  rw[if_neg (by rw[hm];simp)]
  exact ajt S L R H d (kI (eo S.aC H)) (eN R d).2 (eN R d).1 ⟨rfl,rfl⟩
end Go.Proofs.YtnlkkgpcikkpoaaGreat
