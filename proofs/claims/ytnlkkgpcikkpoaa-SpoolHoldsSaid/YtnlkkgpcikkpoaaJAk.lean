/- Part of the proof: HdE, Zci, Zpp, Zpq, Zoj, Zoi, Zok, Zps, Zpt, Zpu, Zpw. -/
import Derived.Test.YtnlkkgpcikkpoaaJAe
import Derived.Test.YtnlkkgpcikkpoaaJAj
import Derived.RangeFuncSeq
import Derived.KernelRfl
import Derived.Test.YtnlkkgpcikkpoaaJAi
open Array renaming getElem?_eq_some_iff→anq
open Bool renaming and_eq_true→amB
open ByteArray renaming mk→am7
open Decidable renaming not_not→aoa
open Go renaming Code→am3,FuncId→amY,Program→amF,Value→amn,World→amC
open Go.Fence renaming wide→api
open Go.IntKind renaming i64→amA,wrap→aml
open Go.Proofs.Try renaming prog→asz
open Go.RowKit.Below renaming heap_alloc→ao7
open Go.Value renaming int→amu,string→amT
open Go.World renaming alloc_heap_new→ard,putObj_heap_other→anM,putObj_heap_same→apU
open Int renaming toNat→amm
open List renaming all→amq,all_eq_true→am1,drop_drop→anE,drop_eq_getElem_cons→aoh,drop_of_length_le→an3,drop_zero→aqv,getElem?_eq_getElem→amt,getElem?_eq_some_iff→amy,getElem?_of_mem→anQ,length→mM,length_append→amD,length_drop→anA,map_append→anh,map_cons→ani,mem_append→amU,mem_cons→amH,mem_cons_of_mem→amK,mem_cons_self→amN,mem_of_getElem?→am8,mem_of_mem_drop→apv,mem_singleton→ank,nodup_cons→anP,of_mem_zip→aqU,range→aoO,take_length→ap2,take_of_length_le→anI,toArray→ang
open Nat renaming add_assoc→aok,add_zero→aoC,beq→amE,beq_refl→anw,ble→amO,ble_eq_true_of_le→am2,blt→amG,le_of_ble_eq_true→amS,le_refl→amX,zero_le→ann
open Option renaming bind→anj,getD→amL,isSome→apf
open Option.some renaming injEq→amr
open UInt8 renaming ofNat→ao5
set_option linter.unusedVariables false
set_option linter.unusedSimpArgs false
namespace Go.Proofs.Ytnlkkgpcikkpoaa.Vm
open Go.RowKit
def PG(P:amF)(gf:amY)(cap:List amn)(K:Nat)(O:Nat→List ai)(N:Nat)(X:Nat→List amn)(Y:Nat→List ai):Prop:=
 ∀(B:Nat→Prop) (w₀:amC) (ρ:Ren) (lb:Array amn) (l:Nat) (Ex:Nat→amC→Prop) (Es:amC→Prop) (W:amC),LR ρ cap lb.toList→(∀k A A',Ex k A→A.grownBy A' none→Ex k A')→(∀A A',Es A→A.grownBy A' none→Es A')→Full ρ→
  (∀k W' (xs:Array amn),k<N→(∃ρ':Ren,Full ρ'∧(∀x,x<K→ρ' x=ρ x)∧WR P B w₀ ρ' (cq (O k++Y k)) W'∧LR ρ' (X k) xs.toList)→Ex k W'→
   YieldAt api 3 P l xs W' fun e G9=>e=.returned (.bool true)∧St P B w₀ ρ K (O (k+1)) G9∧Ex (k+1) G9∨e=.returned (.bool false)∧Es G9)→
  St P B w₀ ρ K (O 0) W→Ex 0 W→CallsIn api 4 P gf (#[.func (.yield l) #[] #[]]++lb) W fun e W'=>(∃v,e=.returned v)∧(St P B w₀ ρ K (O N) W'∧Ex N W'∨Es W')
theorem al.aed{P:amF}{n k g:Nat}{ps:List Nat}{L:List am3}{K N:Nat}{sl:List (Nat×amn)}{Q:bf→aj→Prop}{gf:amY}{cap:List amn}{O:Nat→List ai}{X:Nat→List amn}{Y:Nat→List ai}
 (hl:Lj L=some (g,ps))(eg:∀args w,(callFunc gf args).run P w=.ok (.enter gf args) w)(ci:PG P gf cap K O N X Y)(G:Nat→Prop)(QE:List ai→Prop)(hG:G 0)
 (hg:ji sl g=some (.func (.func gf) #[] cap.toArray))(gY:amG g n=true)(hX:∀j,j<N→(X j).length=ps.length)
 (sE:uC (ET K) (sl.map (·.1)) (sl.map (·.2))=some sl)
 (hc:(nodupB (sl.map (·.1))&&sl.all (fun p=>amG p.1 n&& !(ps.any (amE p.1)))&&nodupB ps&&ps.all (fun p=>amG p n)&&amO k K&&amO n 1024)=true)
 (hO:∀j,j≤N→(O j).length≤262144)(hK:K≤(O 0).length)(hY:∀j,j<N→(O j++Y j).length≤262144)(aee:(((O 0).take K).drop k).all VV=true)
 (aef:∀j,j<N→G j→jx P n K (ba (Lk L)) ⟨sl++ps.zip (X j),O j++Y j⟩ fun x d1=>x=.normal∧jx P n K (ba (ES L)) d1 fun x d2=>x=.normal∧d2.objs=O (j+1)∧G (j+1)∨x=.ret∧QE d2.objs)
 (aeg:∀o,QE o→Q .ret ⟨sl,o⟩)
 (hdone:G N→al P n k L.tail ⟨sl,O N⟩ Q):al P n k L ⟨sl,O 0⟩ Q:=by
 intro Cx hn hk a w hd
 subst hn hk
 obtain⟨ρ,u,M,hd⟩:=hd
 unfold Lj at hl
 split at hl
 ·rename_i g' ly qt body rest
  simp only[amr,Prod.mk.injEq]at hl
  obtain⟨rfl,rfl⟩:=hl
  simp only[amB]at hc
  obtain⟨⟨⟨⟨⟨c1,c2⟩,c3⟩,c4⟩,c5⟩,c6⟩:=hc
  have c5:=amS c5
  have c6:=amS c6
  have cc:a.tmps.size=Cx.n:=by have:=hd.fr.size;rw[this];show(fU Cx.n u sl).length=_;unfold fU;simp[lg]
  have sC:a.defers=M.map eh:=hd.fr.qN rfl
  -- the slots
  have b9:∀q∈sl,VR ρ q.2 (a.tmps.getD q.1 undef):=fun q hq=>by
   have h8:=hd.fr.at_ q.1
   have:=am1.1 c2 q hq
   simp only[amB]at this
   rwa[Fr.wW,uE c6 (dI.1 this.1) (uR c1 q hq)]at h8
  have Ha:∀ρ':Ren,(∀x,x<K→ρ' x=ρ x)→∀q∈sl,VR ρ' q.2 (a.tmps.getD q.1 undef):=fun ρ' hρ q hq=>by
   obtain⟨j,v,h1,h2,h3⟩:=Eg sE q hq
   rw[List.getElem?_map]at h1 h2
   cases hj:sl[j]?with
   |none=>rw[hj]at h1;cases h1
   |some q'=>
    rw[hj]at h1 h2
    simp only[Option.map_some,amr]at h1 h2
    have h4:=b9 q' (am8 hj)
    rw[h1,h2]at h4
    refine p9 (τ:=ET K) (ρ:=ρ) (fun y i r hy hr=>?_) 6 _ _ _ h3 h4
    unfold ET at hy
    split at hy
    ·rename_i hb
     cases hy
     rw[hρ _ (dI.1 hb)];exact hr
    ·cases hy
  -- the iterator
  obtain⟨f',lb,aei,aej,se⟩:∃f' lb,a.eval (.tmp g')=.func (.func gf) f' lb∧LR ρ [] f'.toList∧LR ρ cap lb.toList:=by
   have h8:=hd.fr.at_ g'
   rw[Fr.wW,uE c6 (dI.1 gY) hg]at h8
   obtain⟨f',c',e1,e2,e3⟩:=h8.wl
   exact⟨f',c',e1,by simpa using e2,by simpa using e3⟩
  have aek:f'= #[]:=by apply Array.ext';rw[aej.kw]
  subst aek
  have Hb:∀ρ':Ren,Full ρ'→∀i,∃u,VR ρ' u (a.tmps.getD i undef):=fun ρ' hf i=>(hd.fr.at_ i).full hf
  have ael:=hd.mem.size
  refine(wpIn_wide (n:=5)).1 (wpIn_rangeFunc fun fn gh=>?_)
  obtain⟨rec,la⟩:∃rec:LoopState→Loop,rec=fun st=>{state:=st,pending:=none,fn,tmps:=a.tmps,params:=ly,assign:=qt,body,defers:=w.heap.size}:=⟨_,rfl⟩
  obtain⟨W1,vw⟩:∃W1,(w.alloc (.deferred (some []))).alloc (.loop (rec .ready))=W1:=⟨_,rfl⟩
  have AS:W1.heap[w.heap.size+1]?=some (.loop (rec .ready)):=by
   rw[←vw]
   have:=ard (w.alloc (.deferred (some []))) (.loop (rec .ready))
   rwa[World.size_alloc]at this
  have hold:∀D,D<w.heap.size→W1.heap[D]?=w.heap[D]? :=fun D hD=>by
   rw[←vw]
   exact(ao7 _ _ _ (by simp;omega)).trans (ao7 _ _ _ hD)
  have aem:W1.heap[w.heap.size]?=some (.deferred (some [])):=by
   rw[←vw];exact(ao7 _ _ _ (by simp)).trans (ard w _)
  have qZ:w.grownBy W1 none:=by
   rw[←vw]
   exact⟨rfl,rfl,rfl,by simp;omega,fun D hD _=>by rw[vw];exact hold D hD⟩
  have PH:∀D,Cx.B D→D<w.heap.size:=ael
  have nB:¬Cx.B (w.heap.size+1):=fun h=>by have:=PH _ h;omega
  have PI:¬Cx.B w.heap.size:=fun h=>by have:=PH _ h;omega
  have rK:∀D∈M,D<w.heap.size:=fun D hD=>(anq.1 (hd.quiet D hD)).1
  -- what the rounds keep besides
  obtain⟨Ex,tD⟩:∃Ex:Nat→amC→Prop,Ex=fun k W=>G k∧W.heap[w.heap.size+1]?=some (.loop (rec .ready))∧W.heap[w.heap.size]?=some (.deferred (some []))∧∀D∈M,W.heap[D]?=some (.deferred (some [])):=⟨_,rfl⟩
  obtain⟨Es,Bi⟩:∃Es:amC→Prop,Es=fun W=>∃o,QE o∧o.length≤262144∧St P Cx.B Cx.w₀ ρ K o W∧W.heap[w.heap.size+1]?=some (.loop {state:=.done,pending:=some .ret,fn,tmps:=a.tmps,params:=ly,assign:=qt,body,defers:=w.heap.size})∧W.heap[w.heap.size]?=some (.deferred (some []))∧∀D∈M,W.heap[D]?=some (.deferred (some [])):=⟨_,rfl⟩
  refine⟨w.heap.size+1,[eh w.heap.size],W1,{target:=.fn (.func gf) lb,args:= #[.func (.yield (w.heap.size+1)) #[] #[]]},W1,gf, #[.func (.yield (w.heap.size+1)) #[] #[]]++lb,W1,?_,?_,?_,?_,fun _=>by omega,?_⟩
  ·rw[←vw,la];exact run_enterLoop_outer _ _ _ _ _
  ·simp only[resolve,aei]
   simp[go_sem]
  ·intro alK alL;trivial
  ·simp[invoke,go_sem,eg]
  ·refine(ci Cx.B Cx.w₀ ρ lb (w.heap.size+1) Ex Es W1 se ?_ ?_ hd.full ?_ ⟨ρ,hd.full,fun _ _=>rfl,hd.mem.EV qZ⟩ (by rw[tD];exact⟨hG,AS,aem,fun D hD=>(hold D (rK D hD)).trans (hd.quiet D hD)⟩)).mono ?_
   ·intro k A A' hA kF
    rw[tD]at hA⊢
    exact⟨hA.1,uS kF hA.2.1,uS kF hA.2.2.1,fun D hD=>uS kF (hA.2.2.2 D hD)⟩
   ·intro A A' hA kF
    rw[Bi]at hA⊢
    obtain⟨o,q1,q2,⟨ρ',q3,q4,q5⟩,q6,q7,q8⟩:=hA
    exact⟨o,q1,q2,⟨ρ',q3,q4,q5.EV kF⟩,uS kF q6,uS kF q7,fun D hD=>uS kF (q8 D hD)⟩
   ·rintro j W xs hj ⟨ρ1,qR,uN,gy,fD⟩ hE
    rw[tD]at hE
    obtain⟨aen,pv,vx,rJ⟩:=hE
    have jK:ly.toList.length=xs.toList.length:=by rw[←hX j hj,fD.len]
    have hy:=run_yield (P:=P) (args:=xs) pv (by rw[la];have:=jK;simp at this;exact this.symm)
    refine⟨_,_,_,_,hy,roundIn_of_wpIn (by rw[la];exact gh) ?_⟩
    rw[la]at pv⊢
    dsimp only
    -- the frame of a round
    obtain⟨t1,sD⟩:∃t1,(ly.zip xs).foldl (fun tmps (x:Nat×amn)=>tmps.setIfInBounds x.1 x.2) a.tmps=t1:=⟨_,rfl⟩
    have lO:t1=(ly.toList.zip xs.toList).foldl (fun t p=>t.setIfInBounds p.1 p.2) a.tmps:=by
     rw[←sD,←Array.foldl_toList,Array.toList_zip]
    have aeo:(ly.zip xs).foldl (fun tmps (t,a)=>tmps.setIfInBounds t a) a.tmps=t1:=sD
    rw[aeo]
    have hM:∀V:amC,V.heap[w.heap.size+1]?=W.heap[w.heap.size+1]? ∨(∃r,V.heap[w.heap.size+1]?=some (.loop r))→V.heap[w.heap.size]?=some (.deferred (some []))→(∀D∈M,V.heap[D]?=some (.deferred (some [])))→
     ∀D∈(w.heap.size+1)::w.heap.size::M,∃o,V.heap[D]?=some o∧qP o=true:=by
     intro V h1 h2 h3 D hD
     rcases amH.1 hD with rfl|hD
     ·rcases h1 with h1|⟨r,h1⟩
      ·exact⟨_,h1.trans pv,rfl⟩
      ·exact⟨_,h1,rfl⟩
     ·rcases amH.1 hD with rfl|hD
      ·exact⟨_,h2,rfl⟩
      ·exact⟨_,h3 D hD,rfl⟩
    have PJ:=hM W (.inl rfl) vx rJ
    have kH:∀x,x<K→∃r,ρ1 x=some r:=fun x hx=>by
     rw[uN x hx]
     by_cases oY:x<Cx.k
     ·rw[hd.kept x oY];exact Cx.named x oY
     have alM:=hO 0 (ann _)
     have iB:small x=true:=gW.2 (by have:(2:Nat)^18=262144:=rfl;omega)
     have ho:(O 0)[x]?=some (O 0)[x]:=amt (by omega)
     refine hd.mem.named x (O 0)[x] (by rw[cA iB];exact ho) fun e=>?_
     have:=am1.1 aee _ (am8 (i:=x-Cx.k) (by rw[List.getElem?_drop,List.getElem?_take,show Cx.k+(x-Cx.k)=x by omega,if_pos hx];exact ho))
     rw[e]at this
     cases this
    have jw:(O j++Y j).length≤262144:=hY j hj
    obtain⟨u1,ul⟩:∃u1:Nat→amn,FR ρ1 ((ee Cx.n u1 (sl++ly.toList.zip (X j))).dx (([]:List Nat).map eh)) {tmps:=t1,defers:=[]}:=by
     refine FR.make (b:=[]) (by rw[lO];show((ly.toList.zip xs.toList).foldl _ a.tmps).size=_;rw[Ll];exact cc) c6 rfl (fun i=>?_) fun q hq=>?_
     ·show∃u,VR ρ1 u (t1.getD i undef)
      rw[lO]
      refine Lm _ _ (fun q hq=>?_) (Hb ρ1 qR) i
      obtain⟨i',e8⟩:=anQ (aqU hq).2
      have hlt:i'<(X j).length:=by rw[fD.len];exact(amy.1 e8).1
      exact⟨_,fD.at_ i' _ _ (amt hlt) e8⟩
     ·show q.1<Cx.n∧VR ρ1 q.2 (t1.getD q.1 undef)
      rcases amU.1 hq with hq|hq
      ·have h2:=am1.1 c2 q hq
       simp only[amB,Bool.not_eq_true',List.any_eq_false]at h2
       refine⟨dI.1 h2.1,?_⟩
       rw[lO,EU _ _ fun q' aep e=>?_]
       ·exact Ha ρ1 uN q hq
       ·have:=h2.2 q'.1 (aqU aep).1
        rw[e,anw]at this
        exact this rfl
      ·obtain⟨i',e8⟩:=anQ hq
       have hz:ly.toList[i']?=some q.1∧(X j)[i']?=some q.2:=by
        have:=List.getElem?_zip_eq_some.1 e8
        exact this
       have hp:=am1.1 c4 q.1 (am8 hz.1)
       refine⟨dI.1 hp,?_⟩
       obtain⟨v',fG,aeq⟩:=fD.get hz.2
       rw[lO,Ln _ _ _ c3 jK i' q.1 v' hz.1 fG (by rw[cc];exact dI.1 hp)]
       exact aeq
    have aer:Holds P ⟨fun D=>Cx.B D∨D∈(w.heap.size+1)::w.heap.size::M,W,K,ρ1,Cx.n,kH⟩ ⟨sl++ly.toList.zip (X j),O j++Y j⟩ {tmps:=t1,defers:=[]} W:=
     ⟨ρ1,u1,[],qR,fun _ _=>rfl,ul,gy.zp PJ,jw,(fun D hD=>by cases hD),.nil,fun D hD=>by cases hD⟩
    have aes:=aef j hj aen ⟨fun D=>Cx.B D∨D∈(w.heap.size+1)::w.heap.size::M,W,K,ρ1,Cx.n,kH⟩ rfl rfl (some (w.heap.size+1)) _ W aer
    refine wpIn_mono (Lo (m:=3) (Lh aes)) fun e a2 W2 he=>?_
    obtain⟨x,d1,⟨rfl,aet⟩,dq,ρ2,u2,M2,li⟩:=he
    cases dq
    have kB:∀D,D∈(w.heap.size+1)::w.heap.size::M→W2.heap[D]?=W.heap[D]? :=fun D hD=>li.mem.zr hD
    have js:W2.heap[w.heap.size+1]?=some (.loop {state:=.ready,pending:=none,fn,tmps:=a.tmps,params:=ly,assign:=qt,body,defers:=w.heap.size}):=(kB _ amN).trans pv
    refine⟨_,run_beginRound js rfl,?_⟩
    obtain⟨W3,Bj⟩:∃W3,W2.putObj (w.heap.size+1) (.loop {state:=.busy,pending:=none,fn,tmps:=a.tmps,params:=ly,assign:=qt,body,defers:=w.heap.size})=W3:=⟨_,rfl⟩
    have dG:=li.mem.zq gy.env gy.below gy.size PJ
    have mK:WR P Cx.B Cx.w₀ ρ2 (cq d1.objs) W3:=by rw[←Bj];exact dG.uG nB js rfl _
    have wF:W3.heap[w.heap.size+1]?=some (.loop {state:=.busy,pending:=none,fn,tmps:=a.tmps,params:=ly,assign:=qt,body,defers:=w.heap.size}):=by
     rw[←Bj];exact apU (anq.1 js).1
    have He:∀D,D≠w.heap.size+1→W3.heap[D]?=W2.heap[D]? :=fun D hD=>by rw[←Bj];exact anM hD
    have Hf:W3.heap[w.heap.size]?=some (.deferred (some [])):=(He _ (by omega)).trans ((kB _ (amK _ amN)).trans vx)
    have Hg:∀D∈M,W3.heap[D]?=some (.deferred (some [])):=fun D hD=>(He _ (by have:=rK D hD;omega)).trans ((kB _ (amK _ (amK _ hD))).trans (rJ D hD))
    have PK:=hM W3 (.inr ⟨_,wF⟩) Hf Hg
    have aeu:∀D∈M2,D∉(w.heap.size+1)::w.heap.size::M:=fun D hD e9=>li.outside D hD (.inr e9)
    have aev:Holds P ⟨fun D=>Cx.B D∨D∈(w.heap.size+1)::w.heap.size::M,W3,K,ρ1,Cx.n,kH⟩ d1 a2 W3:=
     ⟨ρ2,u2,M2,li.full,li.kept,li.fr,mK.zp PK,li.bS,fun D hD=>(He D (fun e=>aeu D hD (e▸amN))).trans (li.quiet D hD),li.gp,li.outside⟩
    have aew:=aet ⟨fun D=>Cx.B D∨D∈(w.heap.size+1)::w.heap.size::M,W3,K,ρ1,Cx.n,kH⟩ rfl rfl (some (w.heap.size+1)) a2 W3 aev
    rw[Bj]
    refine wpIn_mono (Lo (m:=3) (Lh aew)) fun e a3 W4 he=>?_
    obtain⟨x,d2,ju,dq,ρ4,u4,M4,tE⟩:=he
    have x8:∀D,D∈(w.heap.size+1)::w.heap.size::M→W4.heap[D]?=W3.heap[D]? :=fun D hD=>tE.mem.zr hD
    have vy:=(x8 _ amN).trans wF
    have Ax:=tE.mem.zq mK.env mK.below mK.size PK
    rcases ju with⟨rfl,nf,aex⟩|⟨rfl,nf⟩
    ·cases dq
     rw[nf]at Ax
     refine⟨_,_,run_endRound (P:=P) none vy,.inl ⟨rfl,⟨ρ4,tE.full,fun x hx=>(tE.kept x hx).trans (uN x hx),Ax.uG nB vy rfl _⟩,?_⟩⟩
     rw[tD,la]
     refine⟨aex,apU (anq.1 vy).1,?_,fun D hD=>?_⟩
     ·exact(anM (by omega)).trans ((x8 _ (amK _ amN)).trans Hf)
     ·exact(anM (by have:=rK D hD;omega)).trans ((x8 _ (amK _ (amK _ hD))).trans (Hg D hD))
    ·cases dq
     refine⟨_,_,run_endRound (P:=P) (some .ret) vy,.inr ⟨rfl,?_⟩⟩
     rw[Bi]
     refine⟨_,nf,tE.bS,⟨ρ4,tE.full,fun x hx=>(tE.kept x hx).trans (uN x hx),Ax.uG nB vy rfl _⟩,apU (anq.1 vy).1,?_,fun D hD=>?_⟩
     ·exact(anM (by omega)).trans ((x8 _ (amK _ amN)).trans Hf)
     ·exact(anM (by have:=rK D hD;omega)).trans ((x8 _ (amK _ (amK _ hD))).trans (Hg D hD))
   ·rintro e Wf ⟨⟨v,rfl⟩,⟨⟨ρf,tm,iE,vz⟩,hE⟩|hS⟩
    ·rw[tD]at hE
     obtain⟨aey,pv,vx,rJ⟩:=hE
     have sx:=run_endLoop (P:=P) pv (by rw[la];simp)
     rw[la]at sx
     refine⟨none,_,sx,?_⟩
     have qu:=vz.uG nB pv rfl (.loop {state:=.exhausted,pending:=none,fn,tmps:=a.tmps,params:=ly,assign:=qt,body,defers:=w.heap.size})
     obtain⟨uf,Hh⟩:∃uf:Nat→amn,FR ρf ((ee Cx.n uf sl).dx ((w.heap.size::M).map eh)) {a with defers:=[eh w.heap.size]++a.defers}:=by
      refine FR.make (a:={a with defers:=[eh w.heap.size]++a.defers}) (b:=(w.heap.size::M).map eh) cc c6 (by show[eh w.heap.size]++a.defers=_;rw[sC];rfl) (Hb ρf tm) fun q hq=>?_
      have h2:=am1.1 c2 q hq
      simp only[amB]at h2
      exact⟨dI.1 h2.1,Ha ρf iE q hq⟩
     refine hdone aey Cx rfl rfl _ _ ⟨ρf,uf,w.heap.size::M,tm,fun x hx=>(iE x (by omega)).trans (hd.kept x hx),Hh,qu,?_,fun D hD=>?_,?_,fun D hD=>?_⟩
     ·show(O N).length≤262144
      exact hO N (amX _)
     ·rcases amH.1 hD with rfl|hD
      ·exact(anM (by omega)).trans vx
      ·exact(anM (by have:=rK D hD;omega)).trans (rJ D hD)
     ·exact anP.2 ⟨fun h=>by have:=rK _ h;omega,hd.gp⟩
     ·rcases amH.1 hD with rfl|hD
      ·exact PI
      ·exact hd.outside D hD
    ·rw[Bi]at hS
     obtain⟨o,ho,gK,⟨ρf,tm,iE,vz⟩,pv,vx,rJ⟩:=hS
     have sx:=run_endLoop (P:=P) pv (by simp)
     refine⟨some .ret,_,sx,wpIn_ret ?_⟩
     have qu:=vz.uG nB pv rfl (.loop {state:=.exhausted,pending:=some .ret,fn,tmps:=a.tmps,params:=ly,assign:=qt,body,defers:=w.heap.size})
     obtain⟨uf,Hh⟩:∃uf:Nat→amn,FR ρf ((ee Cx.n uf sl).dx ((w.heap.size::M).map eh)) {a with defers:=[eh w.heap.size]++a.defers}:=by
      refine FR.make (a:={a with defers:=[eh w.heap.size]++a.defers}) (b:=(w.heap.size::M).map eh) cc c6 (by show[eh w.heap.size]++a.defers=_;rw[sC];rfl) (Hb ρf tm) fun q hq=>?_
      have h2:=am1.1 c2 q hq
      simp only[amB]at h2
      exact⟨dI.1 h2.1,Ha ρf iE q hq⟩
     refine⟨.ret,⟨sl,o⟩,aeg o ho,.ret,ρf,uf,w.heap.size::M,tm,fun x hx=>(iE x (by omega)).trans (hd.kept x hx),Hh,qu,?_,fun D hD=>?_,?_,fun D hD=>?_⟩
     ·exact gK
     ·rcases amH.1 hD with rfl|hD
      ·exact(anM (by omega)).trans vx
      ·exact(anM (by have:=rK D hD;omega)).trans (rJ D hD)
     ·exact anP.2 ⟨fun h=>by have:=rK _ h;omega,hd.gp⟩
     ·rcases amH.1 hD with rfl|hD
      ·exact PI
      ·exact hd.outside D hD
 ·cases hl
end Go.Proofs.Ytnlkkgpcikkpoaa.Vm
namespace Go.Proofs.Ytnlkkgpcikkpoaa
open Go Vm Go.RowKit
set_option maxRecDepth 100000
theorem cell_of{P:amF}{B:Nat→Prop}{w₀ w:amC}{ρ:Vm.Ren}{O:List ai}{xb:Nat}{v:amn}{el:TypeId}{r:Vm.bP}(h:WR P B w₀ ρ (cq O) w)(hl:O.length≤262144)(ho:O[xb]?=some (.cells [v] el false))(hr:ρ xb=some r):∃v',w.cell? ⟨r.aJ,r.sh,none⟩=some v'∧VR ρ v v':=by
 have hx:xb<O.length:=(amy.1 ho).1
 have hm:cq O xb=some (.cells [v] el false):=by rw[cA (gW.2 (by have:(2:Nat)^18=262144:=rfl;omega))];exact ho
 obtain⟨o',h1,h2,_⟩:=h.live xb _ r hm hr (nD (by simp))
 cases h2 with
 |cells _ _ bR _ c' fr hp us he hz hf hc=>
  obtain⟨v',q1,q2⟩:=hc 0 v rfl
  refine⟨v',?_,q2⟩
  simp only[World.cell?,h1]
  exact q1
theorem Vm.aez{F:Fence}{m:Nat}{P:amF}{l:Nat}{args:Array amn}{W:amC}{R R':Ending→amC→Prop}(h:YieldAt F m P l args W R)(hr:∀e w,R e w→R' e w):YieldAt F m P l args W R':=by
 obtain⟨fn,tmps,qt,body,h1,h2⟩:=h
 exact⟨fn,tmps,qt,body,h1,h2.mono hr⟩
theorem aeA{K xb bs bn N:Nat}{O:Nat→List ai}(hN:N≤1000000)(aeB:0<N)(hK:K<262144){el1 el2:TypeId}
 (hO:∀j,j≤(N+2)/3→(O j).length≤262144)(pK:bs<K)(aeC:bn<K)(hs:∀j,j≤(N+2)/3→(O j)[bs]?=some (.cells [.slice (some ⟨xb,0,none⟩) N N] el1 false))(hn:∀j,j≤(N+2)/3→(O j)[bn]?=some (.cells [.int .i64 3] el2 false))(PL:xb<K):
 PG asz 113 [.pointer (some ⟨bs,0,none⟩),.pointer (some ⟨bn,0,none⟩)] K O ((N+2)/3)
  (fun j=>[.slice (some ⟨xb,3*j,none⟩) (min 3 (N-3*j)) (min 3 (N-3*j))]) (fun _=>[]):=by
 intro B w₀ ρ lb l Ex Es W se tD Bi gP hY PM hE
 obtain⟨v1,l1,e1,e2,e3⟩:=se.gq
 obtain⟨v2,l2,e4,e5,e6⟩:=e3.gq
 rw[e6.kw]at e4
 obtain⟨r1,EI,rfl⟩:=e2.kx
 obtain⟨r2,eo,rfl⟩:=e5.kx
 have aeD:lb= #[.pointer (some ⟨r1.aJ,r1.sh+0,none⟩),.pointer (some ⟨r2.aJ,r2.sh+0,none⟩)]:=by rw[←Array.toArray_toList (xs:=lb),e1,e4]
 subst aeD
 rw[aoC,aoC]
 have ef:∀j W,j≤(N+2)/3→St asz B w₀ ρ K (O j) W→∃r,ρ xb=some r∧(∃cap,N≤cap∧W.cell? ⟨r1.aJ,r1.sh,none⟩=some (.slice (some ⟨r.aJ,r.sh,none⟩) N cap))∧W.cell? ⟨r2.aJ,r2.sh,none⟩=some (.int .i64 3):=fun j W hj ⟨ρ',_,hk,hw⟩=>by
  obtain⟨u1,q1,q2⟩:=cell_of hw (hO j hj) (hs j hj) ((hk bs pK).trans EI)
  obtain⟨u2,q3,q4⟩:=cell_of hw (hO j hj) (hn j hj) ((hk bn aeC).trans eo)
  have:=q4.jo
  subst this
  cases q2 with
  |bH _ h=>cases h
  |dV=>exact absurd aeB (by omega)
  |sl _ _ _ _ bq q hq hc=>
   refine⟨q,(hk xb PL).symm.trans hq,⟨bq,?_,q1⟩,q3⟩
   unfold Ce at hc
   omega
 obtain⟨r,hr,_,_⟩:=ef 0 W (ann _) PM
 refine(aeb r1.aJ r1.sh r2.aJ r2.sh r.aJ r.sh N hN 4 (by omega) l (fun j W=>j≤(N+2)/3∧St asz B w₀ ρ K (O j) W∧Ex j W) Es W ?_ ?_ ?_ ⟨ann _,PM,hE⟩).mono ?_
 ·rintro j A ⟨hj,hA,_⟩
  obtain⟨r',uv,h1,h2⟩:=ef j A hj hA
  rw[hr]at uv
  cases uv
  exact⟨h1,h2⟩
 ·rintro j W0 hj ⟨ZT,⟨ρ',a1,a2,a3⟩,hA⟩
  have hx:=hY j W0 #[.slice (some ⟨r.aJ,r.sh+3*j,none⟩) (min 3 (N-3*j)) (min 3 (N-3*j))] (by omega) ⟨ρ',a1,a2,by rw[List.append_nil];exact a3,LR.cons (.sl _ _ _ _ _ r ((a2 xb PL).trans hr) (.inl rfl)) (LR.nil _)⟩ hA
  exact Vm.aez hx fun e W' h=>h.imp (fun⟨k1,k2,k3⟩=>⟨k1,by omega,k2,k3⟩) id
 ·rintro j A ⟨hj,⟨ρ',a1,a2,a3⟩,hA⟩
  have hg:A.grownBy A.drew none:=⟨rfl,by simp,rfl,amX _,fun k hk _=>rfl⟩
  exact⟨hj,⟨ρ',a1,a2,a3.EV hg⟩,tD _ _ _ hA hg⟩
 ·rintro e W' ⟨hv,⟨_,h1,h2⟩|h⟩
  ·exact⟨hv,.inl ⟨h1,h2⟩⟩
  ·exact⟨hv,.inr h⟩
end Go.Proofs.Ytnlkkgpcikkpoaa
namespace Go.Proofs.Ytnlkkgpcikkpoaa
noncomputable section
open Go Vm Go.RowKit
set_option maxRecDepth 100000
def aeE(S:ad)(L:List ByteArray)(R:List Int)(H:List ap)(d:ay)(o n:Nat)(no e:Int)(dd:ay):List (amY×Sum):=[(105,Sum.one (fun _ _=>some [0,1,2,10,4]) [an 0,di 3 o n n] (aR S L R H d) (.ret (.tuple #[aa no,aa e])) (aR S L R H dd))]
theorem aeF(S:ad)(L:List ByteArray)(R:List Int)(H:List ap)(d:ay)(o n:Nat)(no e:Int)(dd:ay)(tF:aG asz 105 [an 0,di 3 o n n] (aR S L R H d) fun r q=>r=.ret (.tuple #[aa no,aa e])∧q=aR S L R H dd):dg asz (dE asz (dF (aeE S L R H d o n no e dd)) 50 40):=
 dJ cZ mixed (dQ (.cons (bp.one tF) .nil)) 50 40
noncomputable def Bk:List am3:=ba (dy asz 92)
open Tree renaming aU→mN,dh→mF,eQ→mL,fw→mQ,dz→mR,fI→mE
noncomputable abbrev Hi:List am3:=(ba (inner (Bk.drop 3)))
abbrev aeG:=fun S L R H d=>(⟨[(1,an 5),(2,an 6),(3,an 7),(11,.func (.func 113) #[] #[an 8,an 9])],[ab (aQ S 1 2 10 4) 64,.abs d,ab (ao L) 9,.dead,ab (ak H) 144,ab [an 0] 29,ab [aa 0] 27,ab [cd] 38,ab [ah 10 (ad.sn S)] 38,ab [aa 3] 3,ab (aq R) 3]⟩:aj)
abbrev aeH:=fun S L R H d=>(⟨[(0,an 0)],[ab (aQ S 1 2 5 4) 64,.abs d,ab (ao L) 9,.dead,ab (ak H) 144,ab (aq R) 3]⟩:aj)
theorem aeI(S:ad)(L R H d)(pH:(ak H).all af=true)(hR:(mM R)=S.sn){Q:aV}(l3:al asz 39 5 (Bk.drop 3) (aeG S L R H d) Q):al asz 39 5 Bk (aeH S L R H d) Q:=
 aZ bo 3 (.leaf [1,2,3,11] [0,1,2,3,4,6,7,8,9,10,5] [2,4,5]) (fun u=>by kernel_rfl) (mN (aN L) (mN (aY H) (mN (aS R) (mQ l3))))
abbrev aeJ:=fun S L R H d nx (o n:Nat)=>(⟨[(1,an 5),(2,an 6),(3,an 7),(4,di 10 o n n)],[ab (aQ S 1 2 10 4) 64,.abs d,ab (ao L) 9,.dead,ab (ak H) 144,ab [an 0] 29,ab [aa 0] 27,ab [ah 11 (mM nx)] 38,ab [ah 10 (ad.sn S)] 38,ab [aa 3] 3,ab (aq R) 3,ab (aq nx) 3]⟩:aj)
theorem aeK(S:ad)(L R H d nx)(o n:Nat)(pH:(ak H).all af=true){Q:aV}(l4:Q .normal (aeJ S L R H d nx o n)):jx asz 39 11 (ba (Lk Hi)) ⟨[(1,an 5),(2,an 6),(3,an 7),(11,.func (.func 113) #[] #[an 8,an 9]),(12,di 10 o n n)],[ab (aQ S 1 2 10 4) 64,.abs d,ab (ao L) 9,.dead,ab (ak H) 144,ab [an 0] 29,ab [aa 0] 27,ab [ah 11 (mM nx)] 38,ab [ah 10 S.sn] 38,ab [aa 3] 3,ab (aq R) 3,ab (aq nx) 3]⟩ Q:=
 jx.tree cZ mixed bo (lf:=50) (m:=1000) (s:=(.leaf [1,2,3,4] [0,1,2,3,4,5,6,7,8,9,10,11] [2,4,10,11])) (fun u=>by kernel_rfl) (mN (aN L) (mN (aY H) (mN (aS R) (mN (aS nx) (mQ (jx.done (by kernel_rfl) l4))))))
abbrev aeL:=fun S L R H d nx (o n:Nat)=>(⟨[],[ab (aQ S 1 2 10 4) 64,.abs d,ab (ao L) 9,.dead,ab (ak H) 144,ab [an 0] 29,ab [aa 0] 27,ab [ah 11 (mM nx+1)] 38,ab [ah 10 (ad.sn S)] 38,ab [aa 3] 3,ab (aq R) 3,ab (aq nx++[aa (au (aq R) (o+0))]) 3]⟩:aj)
theorem aeM(S:ad)(L R H d nx)(o n:Nat)(pH:(ak H).all af=true)(hR:(mM R)=S.sn)(h0:n=1)(h1:o<(mM R))(h2:(mM nx)≤1000000){Q:aV}(n0:(cy amA (aq R) (o+0))=true)(n1:(amO (mM nx+1) 1000000)=true)(aW:amq (ao L) af=true)(be:amq (ak H) af=true)(bB:amq (aq R) af=true)(l5:Q .normal (aeL S L R H d nx o n)):jx asz 39 11 (ba (ES Hi)) ⟨[(1,an 5),(2,an 6),(3,an 7),(4,di 10 o n n)],[ab (aQ S 1 2 10 4) 64,.abs d,ab (ao L) 9,.dead,ab (ak H) 144,ab [an 0] 29,ab [aa 0] 27,ab [ah 11 (mM nx)] 38,ab [ah 10 S.sn] 38,ab [aa 3] 3,ab (aq R) 3,ab (aq nx) 3]⟩ Q:=
 jx.tree cZ mixed bo (lf:=50) (m:=1000) (s:=(av [3,2,3,0,1,0,3,5,1] (.leaf [] [0,1,2,3,4,5,6,7,8,9,10,13] [2,4,10,13]))) (fun u=>by kernel_rfl) (mN (decide_eq_true (by omega):((↑n:Int)==1)=true) (mN (show(amG 0 n)=true by simp at pH hR h0 h1 h2⊢ <;>omega) (mN n0 (mN n1 (mN (kJ _:(full (mM nx) (mM nx))=true) (mN (show(amE (0+mM nx*1) (mM (aq nx)))=true by simp) (mN (aN L) (mN (aY H) (mN (aS R) (mN (show(amq (aq nx++[aa (au (aq R) (o+0))]) af)=true by first|exact aP _|assumption|exact aD (by assumption) rfl _|exact aD (aD (aD (by assumption) rfl _) rfl _) rfl _|exact aD (aP _) (cg (by rfl) _) _|exact aA (aO (aN _) _) _|(simp;done)|exact aB (by assumption) rfl|exact aB (aP _) rfl|exact aB rfl (aA (by assumption) _)|exact aB (by assumption) (aA (by assumption) _)|exact aB rfl (aA (aO (by assumption) _) _)|exact aA (aO (by assumption) _) _) (mQ (jx.done (by kernel_rfl) l5))))))))))))
abbrev aeN:=fun S L R H (d:ay) nx (o n:Nat) (no e:Int) dd=>(⟨[(2,an 6)],[ab (aQ S 1 2 10 4) 64,.abs dd,ab (ao L) 9,.dead,ab (ak H) 144,ab [an 0] 29,ab [aa e] 27,ab [ah 11 (mM nx)] 38,ab [ah 10 (ad.sn S)] 38,ab [aa 3] 3,ab (aq R) 3,ab (aq nx) 3]⟩:aj)
abbrev aeO:=fun S L R H (d:ay) nx (o n:Nat) (no e:Int) dd=>(⟨[],[ab (aQ S 1 2 10 4) 64,.abs dd,ab (ao L) 9,.dead,ab (ak H) 144,ab [an 0] 29,ab [aa 0] 27,ab [ah 11 (mM nx+1)] 38,ab [ah 10 (ad.sn S)] 38,ab [aa 3] 3,ab (aq R) 3,ab (aq nx++[aa no]) 3]⟩:aj)
theorem aeP(S:ad)(L R H d nx)(o n:Nat)(no e:Int)(dd:ay)(pH:(ak H).all af=true)(hR:(mM R)=S.sn)(tF:aG asz 105 [an 0,di 3 o n n] (aR S L R H d) fun r q=>r=.ret (.tuple #[aa no,aa e])∧q=aR S L R H dd)(h0:n≠1)(h1:(mM nx)≤1000000){Q:aV}(n0:(dX [an 0,di 3 o n n] [an 0,di 3 o n n] [ab (aQ S 1 2 3 4) 64,ai.abs d,ab (ao L) 9,ab (aq R) 3,ab (ak H) 144] (aR S L R H d))=true)(aW:amq (ao L) af=true)(be:amq (ak H) af=true)(bB:amq (aq R) af=true)(br:amq (aq nx) af=true)(l5:(e != 0)=true→Q .ret (aeN S L R H d nx o n no e dd))(n6:(e != 0)=false→(amO (mM nx+1) 1000000)=true)(l7:(e != 0)=false→Q .normal (aeO S L R H d nx o n no e dd)):jx asz 39 11 (ba (ES Hi)) ⟨[(1,an 5),(2,an 6),(3,an 7),(4,di 10 o n n)],[ab (aQ S 1 2 10 4) 64,.abs d,ab (ao L) 9,.dead,ab (ak H) 144,ab [an 0] 29,ab [aa 0] 27,ab [ah 11 (mM nx)] 38,ab [ah 10 S.sn] 38,ab [aa 3] 3,ab (aq R) 3,ab (aq nx) 3]⟩ Q:=
 jx.tree cZ mixed (aeF S L R H d o n no e dd tF) (lf:=50) (m:=1000) (s:=(av [2,5,1,1,1,1,1,1] (.fork 0 (.leaf [2] [0,1,2,3,4,5,6,7,8,9,10,11] [2,4,10,11]) (av [2,3,5,1] (.leaf [] [0,1,2,3,4,5,6,7,8,9,10,13] [2,4,10,13]))))) (fun u=>by kernel_rfl) (mN (decide_eq_false (by omega):((↑n:Int)==1)=false) (aM L R H (mN n0 (aM L R H (mF (c:=e != 0) (fun h0=>(mN (aN L) (mN (aY H) (mN (aS R) (mN (aS nx) (mR (l5 h0))))))) (fun h0=>(mN (n6 h0) (mN (kJ _:(full (mM nx) (mM nx))=true) (mN (show(amE (0+mM nx*1) (mM (aq nx)))=true by simp) (mN (aN L) (mN (aY H) (mN (aS R) (mN (show(amq (aq nx++[aa no]) af)=true by first|exact aP _|assumption|exact aD (by assumption) rfl _|exact aD (aD (aD (by assumption) rfl _) rfl _) rfl _|exact aD (aP _) (cg (by rfl) _) _|exact aA (aO (aN _) _) _|(simp;done)|exact aB (by assumption) rfl|exact aB (aP _) rfl|exact aB rfl (aA (by assumption) _)|exact aB (by assumption) (aA (by assumption) _)|exact aB rfl (aA (aO (by assumption) _) _)|exact aA (aO (by assumption) _) _) (mQ (jx.done (by kernel_rfl) (l7 h0))))))))))))))))
abbrev PN:=fun S L (R:List Int) H d nx=>(⟨[(2,an 5)],[ab (aQ (ad.mk (ad.at_ S) (ad.more S) (ad.over S) (ad.B S) (ad.n S) (ad.failed S) (ad.aC S) (ad.ro S) (ad.rn S) (ad.bM S) (mM nx) (ad.hn S) (ad.dR S) (ad.raw S) (ad.closed S)) 1 2 6 4) 64,.abs d,ab (ao L) 9,.dead,ab (ak H) 144,ab [aa 0] 27,ab (aq nx) 3]⟩:aj)
theorem aeQ(S L R H d nx){Q:bk}(hq:Q (.ret (aa 0)) [ab (aQ (ad.mk (ad.at_ S) (ad.more S) (ad.over S) (ad.B S) (ad.n S) (ad.failed S) (ad.aC S) (ad.ro S) (ad.rn S) (ad.bM S) (mM nx) (ad.hn S) (ad.dR S) (ad.raw S) (ad.closed S)) 1 2 5 4) 64,.abs d,ab (ao L) 9,.dead,ab (ak H) 144,ab (aq nx) 3]):aH asz 92 39 5 Q .ret (PN S L R H d nx):=aH.ret (vs:=[aa 0]) (l:=[5]) (bs:=[0,1,2,3,4,6]) (pl:=[2,4,6]) (q:=[ao L,ak H,aq nx]) (fun u=>by kernel_rfl) (by kernel_rfl) (aE (aN L) (aE (aY H) (aE (aS nx) bd))) hq
abbrev aeR:=fun(S:ad) L R H d nx=>(⟨[(1,an 5),(2,an 6),(3,an 7),(11,.func (.func 113) #[] #[an 8,an 9])],[ab (aQ S 1 2 10 4) 64,.abs d,ab (ao L) 9,.dead,ab (ak H) 144,ab [an 0] 29,ab [aa 0] 27,ab [ah 11 (mM nx)] 38,ab [ah 10 S.sn] 38,ab [aa 3] 3,ab (aq R) 3,ab (aq nx) 3]⟩:aj)
theorem aeS(S:ad)(L R H d nx)(pH:(ak H).all af=true)(hR:(mM R)=S.sn){Q:aV}(l3:Q .ret (PN S L R H d nx)):al asz 39 5 (Bk.drop 4) (aeR S L R H d nx) Q:=
 aZ bo 1000 (.leaf [2] [0,1,2,3,4,6,11] [2,4,11]) (fun u=>by kernel_rfl) (mN (aN L) (mN (aY H) (mN (aS nx) (mR l3))))
end
end Go.Proofs.Ytnlkkgpcikkpoaa
namespace Go.Proofs.Ytnlkkgpcikkpoaa
open Go Vm Go.RowKit
set_option maxRecDepth 100000
def gj(R:List Int)(j:Nat):List Int:=(R.drop (3*j)).take (min 3 (R.length-3*j))
noncomputable def jB(f:Bool)(R:List Int)(j:Nat)(s:List Int×ay):Int×List Int×ay:=
 if min 3 (R.length-3*j)=1 then(0,s.1++gj R j,s.2)else((gF f (gj R j) s.2).2.1,s.1++[(gF f (gj R j) s.2).1],(gF f (gj R j) s.2).2.2)
noncomputable def eL(f:Bool)(R:List Int)(d:ay):Nat→List Int×ay
 |0=>([],d)
 |j+1=>(jB f R j (eL f R d j)).2
noncomputable def pw(f:Bool)(R:List Int):Nat→Nat→List Int×ay→Int×List Int×ay
 |0,_,s=>(0,s)
 |n+1,j,s=>if(jB f R j s).1≠0 then jB f R j s else pw f R n (j+1) (jB f R j s).2
noncomputable def fO(f:Bool)(R:List Int)(d:ay):Int×List Int×ay:=pw f R ((R.length+2)/3) 0 ([],d)
theorem PO(R:List Int)(j:Nat):gj R j=(R.drop (3*j)).take 3:=by
 unfold gj
 by_cases h:3≤R.length-3*j
 ·rw[show min 3 (R.length-3*j)=3 by omega]
 ·rw[show min 3 (R.length-3*j)=R.length-3*j by omega,anI (by rw[anA];omega),anI (by rw[anA];omega)]
theorem aeT(R:List Int)(j:Nat):(gj R j).length=min 3 (R.length-3*j):=by
 unfold gj;rw[List.length_take,anA];omega
theorem PP(R:List Int)(j:Nat):R.drop (3*j)=gj R j++R.drop (3*(j+1)):=by
 rw[PO]
 conv=>lhs;rw[←List.take_append_drop 3 (R.drop (3*j))]
 rw[anE,show 3*j+3=3*(j+1)by omega]
theorem aeU{R:List Int}{j:Nat}{r:Int}(h:r∈gj R j):r∈R:=apv (List.mem_of_mem_take h)
structure lz(d0:ay)(R:List Int)(j:Nat)(s:List Int×ay):Prop where
 dv:cw s.2
 made:d0.made≤s.2.made
 len:s.1.length=j
 old:∀r∈s.1,r≤s.2.made
 bS:eK s.2 s.1+eK s.2 (R.drop (3*j))≤eK d0 R
theorem PQ{d d':ay}{l:List Int}(h:∀r∈l,ca d' r≤ca d r):eK d' l≤eK d l:=by
 induction l with
 |nil=>exact amX _
 |cons x l ih=>
  have h1:=h x amN
  have h2:=ih fun y hy=>h y (amK _ hy)
  unfold eK
  omega
theorem lz.zero{d:ay}{R:List Int}(h:jm d R):lz d R 0 ([],d):=
 ⟨h.dv,amX _,rfl,(fun _ h=>by cases h),by show 0+eK d R≤_;omega⟩
theorem lz.runs{d0:ay}{R:List Int}{j:Nat}{s:List Int×ay}(h:lz d0 R j s)(h0:jm d0 R):jm s.2 (gj R j):=by
 refine⟨h.dv,fun r hr=>?_,?_⟩
 ·have:=h0.old r (aeU hr)
  have:=h.made
  omega
 ·have h1:=h.bS
  have h2:=h0.bS
  rw[PP,vq]at h1
  omega
theorem lz.next(f:Bool){d0:ay}{R:List Int}{j:Nat}{s:List Int×ay}(h:lz d0 R j s)(h0:jm d0 R)(hj:3*j<R.length)(he:(jB f R j s).1=0):lz d0 R (j+1) (jB f R j s).2:=by
 have wq:=h.runs h0
 have hm:=OU f wq
 have ef:=aeT R j
 have hold:∀r∈R.drop (3*(j+1)),r≤s.2.made:=fun r hr=>by
  have:=h0.old r (apv hr)
  have:=h.made
  omega
 have jw:=h.bS
 rw[PP,vq]at jw
 unfold jB at he⊢
 by_cases h1:min 3 (R.length-3*j)=1
 ·rw[if_pos h1]
  refine⟨h.dv,h.made,by dsimp only;rw[amD,h.len,ef,h1],fun r hr=>?_,?_⟩
  ·rcases amU.1 hr with hr|hr
   ·exact h.old r hr
   ·exact wq.old r hr
  ·dsimp only
   rw[vq]
   omega
 ·rw[if_neg h1]at he⊢
  obtain⟨m1,m2,m3,m4⟩:=hm
  obtain⟨n1,n2,n3⟩:=m3 he
  refine⟨m1,by have:=h.made;dsimp only;omega,by dsimp only;rw[amD,h.len];rfl,fun r hr=>?_,?_⟩
  ·dsimp only at hr⊢
   rcases amU.1 hr with hr|hr
   ·have:=h.old r hr;omega
   ·rw[ank.1 hr,n1,n2];omega
  ·dsimp only
   rw[vq]
   have a1:=PQ (d:=s.2) (d':=(gF f (gj R j) s.2).2.2) (l:=s.1) fun r hr=>m4 r (h.old r hr)
   have a2:=PQ (d:=s.2) (d':=(gF f (gj R j) s.2).2.2) (l:=R.drop (3*(j+1))) fun r hr=>m4 r (hold r hr)
   have a3:eK (gF f (gj R j) s.2).2.2 [(gF f (gj R j) s.2).1]=ca (gF f (gj R j) s.2).2.2 (gF f (gj R j) s.2).1+0:=rfl
   omega
theorem lz.aeV(f:Bool){d0:ay}{R:List Int}{j:Nat}{s:List Int×ay}(h:lz d0 R j s)(h0:jm d0 R):cw (jB f R j s).2.2:=by
 unfold jB
 split
 ·exact h.dv
 ·exact(OU f (h.runs h0)).dv
theorem PS(f:Bool){d0:ay}{R:List Int}(h0:jm d0 R):∀(n j:Nat) (s:List Int×ay),j+n=(R.length+2)/3→lz d0 R j s→cw (pw f R n j s).2.2∧((pw f R n j s).1=0→lz d0 R ((R.length+2)/3) (pw f R n j s).2)
 |0,j,s,hn,hs=>⟨hs.dv,fun _=>by rw[←hn];exact hs⟩
 |n+1,j,s,hn,hs=>by
  unfold pw
  split
  ·rename_i he
   exact⟨hs.aeV f h0,fun h=>absurd h he⟩
  ·rename_i he
   exact PS f h0 n (j+1) _ (by omega) (hs.next f h0 (by omega) (aoa.1 he))
theorem PT(f:Bool){d:ay}{R:List Int}(h:jm d R):cw (fO f R d).2.2∧((fO f R d).1=0→jm (fO f R d).2.2 (fO f R d).2.1∧(fO f R d).2.1.length=(R.length+2)/3∧eK (fO f R d).2.2 (fO f R d).2.1≤eK d R):=by
 obtain⟨h1,h2⟩:=PS f h ((R.length+2)/3) 0 ([],d) (by omega) (lz.zero h)
 unfold fO
 generalize pw f R ((R.length+2)/3) 0 ([],d)=x at*
 refine⟨h1,fun he=>?_⟩
 obtain⟨a,b,c,e,g⟩:=h2 he
 have:=h.bS
 exact⟨⟨a,e,by omega⟩,c,by omega⟩
def vA(S:ad)(L:List ByteArray)(R:List Int)(H:List ap)(d:ay):List ai:=[.cells (aQ S 1 2 5 4) 64 false,.abs d,.cells (ao L) 9 false,.dead,.cells (ak H) 144 false,.cells (aq R) 3 false]
def rL(S:ad)(R:List Int)(x:Int×List Int×ay):ad×List Int:=if x.1=0 then({S with sn:=x.2.1.length},x.2.1)else(S,R)
def tG(S:ad)(L:List ByteArray)(R:List Int)(H:List ap)(s:List Int×ay):List ai:=
 [.cells (aQ S 1 2 10 4) 64 false,.abs s.2,.cells (ao L) 9 false,.dead,.cells (ak H) 144 false,.cells [.pointer (some ⟨0,0,none⟩)] 29 false,.cells [.int .i64 0] 27 false,.cells [.slice (some ⟨11,0,none⟩) s.1.length s.1.length] 38 false,.cells [.slice (some ⟨10,0,none⟩) S.sn S.sn] 38 false,.cells [.int .i64 3] 3 false,.cells (aq R) 3 false,.cells (aq s.1) 3 false]
def PU(S:ad)(L:List ByteArray)(R:List Int)(H:List ap)(e:Int)(nx:List Int)(d:ay):List ai:=
 [.cells (aQ S 1 2 10 4) 64 false,.abs d,.cells (ao L) 9 false,.dead,.cells (ak H) 144 false,.cells [.pointer (some ⟨0,0,none⟩)] 29 false,.cells [.int .i64 e] 27 false,.cells [.slice (some ⟨11,0,none⟩) nx.length nx.length] 38 false,.cells [.slice (some ⟨10,0,none⟩) S.sn S.sn] 38 false,.cells [.int .i64 3] 3 false,.cells (aq R) 3 false,.cells (aq nx) 3 false]
abbrev Hj:List (Nat×amn):=[(1,.pointer (some ⟨5,0,none⟩)),(2,.pointer (some ⟨6,0,none⟩)),(3,.pointer (some ⟨7,0,none⟩)),(11,.func (.func 113) #[] #[.pointer (some ⟨8,0,none⟩),.pointer (some ⟨9,0,none⟩)])]
theorem aeW(S:ad)(L:List ByteArray)(R:List Int)(H:List ap)(e:Int)(nx:List Int)(d:ay){Q:bL→List ai→Prop}(hq:Q (.ret (.int .i64 e)) (vA S L R H d)):
 aH asz 92 (ct asz 92) 5 Q .ret ⟨Hj,PU S L R H e nx d⟩:=
 aH.ret (vs:=[.int .i64 (e)]) (l:=[6]) (bs:=[0,1,2,3,4,10]) (pl:=[2,4,10]) (q:=[ao L,ak H,aq R]) (fun u=>by kernel_rfl) (by kernel_rfl) (aE (by simp) (aE (aY H) (aE (by simp) bd))) hq
theorem aeX{S:ad}{L:List ByteArray}{R:List Int}{H:List ap}{d:ay}{o n:Nat}{x:Int×List ap×ay}(h:aG asz 93 [.pointer (some ⟨0,0,none⟩),.slice (some ⟨3,o,none⟩) n n] (aR S L R H d) (pu S L R H x))(aeY:List amn→(Nat→Option ai)→Option (List Nat)):
 bp asz 93 ⟨aeY,(x7 S L R H d o n x).spec⟩:=fun a ob r q hq=>Pp h a ob r q hq
theorem PV(l:List Int)(x:Int):aq l++[amu amA x]=aq (l++[x]):=by unfold aq;rw[anh];rfl
theorem aeZ(S:ad)(L:List ByteArray)(R:List Int)(H:List ap)(d:ay)(hR:R.length=S.sn)(h0:0<R.length)(hl:R.length≤900000)(hr:jm d R):
 aG asz 92 [.pointer (some ⟨0,0,none⟩)] (aR S L R H d) fun r q=>
  r=.ret (.int .i64 (fO S.aC R d).1)∧q=vA (rL S R (fO S.aC R d)).1 L (rL S R (fO S.aC R d)).2 H (fO S.aC R d).2.2:=by
 have pH:=aY H
 refine aG.cM (n:=ct asz 92) (by kernel_rfl) ?_
 refine al.move (d':=⟨[(0,.pointer (some ⟨0,0,none⟩))],vA S L R H d⟩) [some 0,some 1,some 2,none,some 4,some 3] [2,4,3] (q:=[ao L,ak H,aq R]) (by kernel_rfl) (aE (by simp) (aE pH (aE (by simp) bd))) (by kernel_rfl) (by kernel_rfl) ?_
 apply aeI S L R H d pH hR
 ·
  refine al.mD 7 0 3 (s:=1) (c:=[.slice none 0 0]) (e:=38) (by kernel_rfl) (by rfl) (by rfl) (d':=⟨Hj,tG S L R H ([],d)⟩) (by kernel_rfl) (by kernel_rfl) ?_
  refine al.eJ 3 0 (by kernel_rfl) ?_
  have hN:R.length≤1000000:=by omega
  obtain⟨N,PW⟩:∃N,N=(R.length+2)/3:=⟨_,rfl⟩
  obtain⟨f,hf⟩:∃f,f=S.aC:=⟨_,rfl⟩
  rw[←hf]
  have ci:=aeA (K:=11) (xb:=10) (bs:=8) (bn:=9) (N:=R.length) (O:=fun j=>tG S L R H (eL f R d j)) (el1:=38) (el2:=3) hN h0 (by decide) (fun j _=>by show 12≤262144;decide) (by decide) (by decide) (fun j _=>by rw[hR];rfl) (fun j _=>rfl) (by decide)
  rw[←PW]at ci
  refine al.aed (g:=11) (ps:=[12]) (K:=11) (N:=N) (sl:=Hj) (O:=fun j=>tG S L R H (eL f R d j)) (by kernel_rfl) (enters_of Try.func113 (by kernel_rfl) rfl) ci
   (fun j=>lz d R j (eL f R d j)∧fO f R d=pw f R (N-j) j (eL f R d j)) (fun o=>∃e nx dd,e≠0∧(fO f R d).1=e∧(fO f R d).2.2=dd∧o=PU S L R H e nx dd)
   ⟨lz.zero hr,by rw[PW];rfl⟩ (by rfl) (by kernel_rfl) (fun j _=>rfl) (by rfl) (by kernel_rfl) (fun j _=>by show 12≤262144;decide) (by show 11≤12;decide) (fun j _=>by show 12≤262144;decide) (by rfl) (fun j hj hG=>?_) ?_ ?_
  ·obtain⟨g1,g2⟩:=hG
   have x9:3*j<R.length:=by omega
   have PB:=g1.len
   apply aeK S L R H (eL f R d j).2 (eL f R d j).1 (3*j) (min 3 (R.length-3*j)) pH
   ·
    refine⟨rfl,?_⟩
    obtain⟨m,hm⟩:∃m,N-j=m+1:=⟨N-j-1,by omega⟩
    have lp:N-(j+1)=m:=by omega
    rw[hm]at g2
    have g2:fO f R d=if(jB f R j (eL f R d j)).1≠0 then jB f R j (eL f R d j)else pw f R m (j+1) (jB f R j (eL f R d j)).2:=g2
    have PX:(jB f R j (eL f R d j)).1=0→lz d R (j+1) (eL f R d (j+1))∧fO f R d=pw f R (N-(j+1)) (j+1) (eL f R d (j+1)):=fun he=>by
     refine⟨g1.next f hr x9 he,?_⟩
     rw[g2,if_neg (fun h=>h he),lp]
     rfl
    by_cases hc:min 3 (R.length-3*j)=1
    ·have dw:jB f R j (eL f R d j)=(0,(eL f R d j).1++gj R j,(eL f R d j).2):=by unfold jB;rw[if_pos hc]
     have jV:gj R j=[R[3*j]]:=by
      rw[PO,aoh x9]
      have:R.drop (3*j+1)=[]:=an3 (by omega)
      rw[this];rfl
     have b9:au (aq R) (3*j+0)=R[3*j]:=by rw[aoC];exact EC x9
     apply aeM S L R H (eL f R d j).2 (eL f R d j).1 (3*j) (min 3 (R.length-3*j)) pH hR hc x9 (by omega)
     case aW=>simp
     case be=>exact pH
     case bB=>simp
     case n0=>rw[aoC];exact ED x9
     case n1=>exact am2 (by omega)
     case l5=>
      refine .inl ⟨rfl,?_,PX (by rw[dw])⟩
      show _=tG S L R H (jB f R j (eL f R d j)).2
      rw[dw,jV]
      unfold tG
      dsimp only
      rw[b9,PV,amD]
      rfl
    ·have dw:jB f R j (eL f R d j)=((gF f (gj R j) (eL f R d j).2).2.1,(eL f R d j).1++[(gF f (gj R j) (eL f R d j).2).1],(gF f (gj R j) (eL f R d j).2).2.2):=by unfold jB;rw[if_neg hc]
     have tF:=ad8 S L R H (eL f R d j).2 (3*j) (min 3 (R.length-3*j)) (by omega) (by omega) (g1.runs hr)
     rw[←hf]at tF
     rw[show(R.drop (3*j)).take (min 3 (R.length-3*j))=gj R j from rfl]at tF
     apply aeP S L R H (eL f R d j).2 (eL f R d j).1 (3*j) (min 3 (R.length-3*j)) (gF f (gj R j) (eL f R d j).2).1 (gF f (gj R j) (eL f R d j).2).2.1 (gF f (gj R j) (eL f R d j).2).2.2 pH hR tF hc (by omega)
     case n0=>exact fe rfl rfl
     case aW=>simp
     case be=>exact pH
     case bB=>simp
     case br=>simp
     case l5=>
      intro ge
      have ge:(gF f (gj R j) (eL f R d j).2).2.1≠0:=by simpa using ge
      refine .inr ⟨rfl,_,(eL f R d j).1,_,ge,?_,?_,rfl⟩
      ·rw[g2,if_pos (by rw[dw];exact ge),dw]
      ·rw[g2,if_pos (by rw[dw];exact ge),dw]
     case n6=>intro _;exact am2 (by omega)
     case l7=>
      intro ge
      have ge:(gF f (gj R j) (eL f R d j).2).2.1=0:=by simpa using ge
      refine .inl ⟨rfl,?_,PX (by rw[dw];exact ge)⟩
      show _=tG S L R H (jB f R j (eL f R d j)).2
      rw[dw]
      unfold tG
      dsimp only
      rw[PV,amD]
      rfl
  ·rintro o ⟨e,nx,dd,he,h1,h2,rfl⟩
   with_reducible (repeat first|refine QL.ret ?_|refine QL.exit ?_|refine QB.ret ?_|refine QB.ci ?_|refine QB.normal ?_|refine QB.cu (by rfl) ?_)
   refine aeW S L R H e nx dd ⟨?_,?_⟩
   ·rw[h1]
   ·unfold rL
    rw[h1,if_neg he,h2]
  ·rintro⟨g1,g2⟩
   refine al.done rfl ?_
   refine QB.normal ?_
   rw[Nat.sub_self]at g2
   have g2:fO f R d=(0,eL f R d N):=g2
   apply aeS S L R H (eL f R d N).2 (eL f R d N).1 pH hR
   ·
    refine aeQ S L R H (eL f R d N).2 (eL f R d N).1 ⟨?_,?_⟩
    ·rw[g2]
    ·rw[g2];unfold rL;rw[if_pos rfl];rfl
def qv(B:Nat→Int)(n:Nat):List UInt8:=(aoO n).map fun i=>ao5 (B i).toNat
def ix(S:ad):ByteArray:=⟨(qv S.B S.n.toNat).toArray⟩
theorem ae0(B:Nat→Int)(n:Nat):(qv B n).length=n:=by unfold qv;simp
theorem ae1(B:Nat→Int):xC B=(aoO 64).map fun i=>amu .u8 (B i):=rfl
theorem ae2(B:Nat→Int)(l:List Nat):bytesOf (l.map fun i=>amu .u8 (B i))=some (l.map fun i=>ao5 (B i).toNat):=by
 induction l with
 |nil=>rfl
 |cons x l ih=>rw[ani,ani];show(match bytesOf (l.map _)with|some r=>some (_::r)|none=>none)=_;rw[ih]
theorem Hk(S:ad)(a b c e:Nat)(n:Nat)(hn:n≤64):(cut (aQ S a b c e) 3 n).bind bytesOf=some (qv S.B n):=by
 have hl:(aQ S a b c e).length=78:=rfl
 have h1:amO (3+n) (aQ S a b c e).length=true:=by rw[hl];exact am2 (by omega)
 unfold cut
 rw[h1]
 show bytesOf (((aQ S a b c e).drop 3).take n)=_
 have h2:((aQ S a b c e).drop 3).take n=(xC S.B).take n:=by
  have:(aQ S a b c e).drop 3=xC S.B++[.int .i64 S.n,.bool S.failed,.pointer (some ⟨a,0,none⟩),.bool S.aC,.slice (some ⟨b,S.ro,none⟩) S.rn S.rn,.int .i64 S.bM,.slice (some ⟨c,0,none⟩) S.sn S.sn,.slice (some ⟨e,0,none⟩) S.hn S.hn,.bool S.dR,.int .i64 S.raw,.bool S.closed]:=rfl
  rw[this,List.take_append_of_le_length (by show n≤64;exact hn)]
 rw[h2,ae1,←List.map_take,ae2,List.take_range]
 rw[show min n 64=n by omega]
 rfl
def rM(S:ad)(x:UInt8):ad:={S with B:=fun j=>if j=S.n.toNat then(x.toNat:Int)else S.B j,n:=S.n+1}
def dL:List UInt8→ad→List ByteArray→Int×ad×List ByteArray
 | [],S,M=>(0,S,M)
 |x::l,S,M=>if x=10 then dL l {S with n:=0} (M++[ix S])else if S.n=64 then(20,{S with failed:=true,n:=0},M)else dL l (rM S x) M
structure jn(S:ad):Prop where
 n0:0≤S.n
 n1:S.n≤64
theorem jn.zero(S:ad):jn {S with n:=0}:=⟨by show(0:Int)≤0;omega,by show(0:Int)≤64;omega⟩
theorem jn.add{S:ad}(h:jn S)(hn:S.n≠64)(x:UInt8):jn (rM S x):=⟨by have:=h.n0;show 0≤S.n+1;omega,by have:=h.n1;show S.n+1≤64;omega⟩
end Go.Proofs.Ytnlkkgpcikkpoaa
namespace Go.Proofs.Ytnlkkgpcikkpoaa
noncomputable section
open Go Vm Go.RowKit
set_option maxRecDepth 100000
noncomputable def Bl:List am3:=ba (dy asz 80)
open Tree renaming aU→mN,dh→mF,eQ→mL,fw→mQ,dz→mR,fI→mE
noncomputable abbrev Hl:List am3:=(ba (inner (ba (inner (Bl.drop 5)))))
abbrev Hm:=fun S L R H d b=>([ab (aQ S 1 2 3 4) 64,.abs d,ab (ao L) 9,ab (aq R) 3,ab (ak H) 144,ab (ag b) 5]:List ai)
abbrev ae3:=fun S L R H d b=>(⟨[(4,cd),(5,aa 20)],Hm S L R H d b⟩:aj)
abbrev ae4:=fun S L R H d (b:ByteArray)=>(⟨[(0,.pointer (some ⟨0,3,none⟩)),(6,cd),(17,ah 5 b.size),(18,aa (b.size:Int)),(19,aa 0)],Hm S L R H d b⟩:aj)
abbrev ae5:=fun S L R H d (b:ByteArray)=>(⟨[(0,.pointer (some ⟨0,3,none⟩)),(1,ah 5 b.size)],Hm S L R H d b⟩:aj)
theorem ae6(S L R H d b)(pH:(ak H).all af=true){Q:aV}(l4:(ad.failed S)=true→Q .ret (ae3 S L R H d b))(l5:(ad.failed S)=false→al asz 72 6 (Bl.drop 5) (ae4 S L R H d b) Q):al asz 72 6 Bl (ae5 S L R H d b) Q:=
 aZ bo 5 (.fork 6 (.leaf [4,5] [0,1,2,3,4,5] [2,3,4,5]) (.leaf [0,6,17,18,19] [0,1,2,3,4,5] [2,3,4,5])) (fun u=>by kernel_rfl) (mF (c:=ad.failed S) (fun h0=>(aM L R H (mN (aI b) (mR (l4 h0))))) (fun h0=>(aM L R H (mN (aI b) (mQ (l5 h0))))))
abbrev ya:=fun S L R H d b M=>([ab (aQ S 1 2 3 4) 64,.abs d,ab (ao L) 9,ab (aq R) 3,ab (ak H) 144,ab (ag b) 5,ab (ao M) 9]:List ai)
abbrev ae7:=fun S L R H d (b:ByteArray) M (i:Int)=>(⟨[(0,.pointer (some ⟨0,3,none⟩)),(6,ah 6 (mM M)),(17,ah 5 b.size),(18,aa (b.size:Int)),(19,aa i)],ya S L R H d b M⟩:aj)
abbrev ae8:=fun S L R H d b M (i:Int)=>(⟨[(6,ah 6 (mM M))],ya S L R H d b M⟩:aj)
abbrev PY:=fun S L R H d (b:ByteArray) M (i:Int)=>(⟨[(0,.pointer (some ⟨0,3,none⟩)),(6,ah 6 (mM M)),(17,ah 5 b.size),(18,aa b.size),(19,aa i)],ya S L R H d b M⟩:aj)
theorem ae9(S L R H d)(b:ByteArray)(M)(i:Int)(pH:(ak H).all af=true){Q:aV}(l5:(decide (i<(b.size:Int)))=true→al asz 72 6 (Hl.drop 2) (ae7 S L R H d b M i) Q)(l6:(decide (i<(b.size:Int)))=false→Q (.exit 0) (ae8 S L R H d b M i)):al asz 72 6 Hl (PY S L R H d b M i) Q:=
 aZ bo 2 (.fork 0 (.leaf [0,6,17,18,19] [0,1,2,3,4,5,6] [2,3,4,5,6]) (.leaf [6] [0,1,2,3,4,5,6] [2,3,4,5,6])) (fun u=>by kernel_rfl) (mF (c:=decide (i<(b.size:Int))) (fun h0=>(aM L R H (mN (aI b) (mN (aN M) (mQ (l5 h0)))))) (fun h0=>(aM L R H (mN (aI b) (mN (aN M) (mE 0 (l6 h0)))))))
abbrev PZ:=fun S L R H d (b:ByteArray) M (i:Int)=>(⟨[(0,.pointer (some ⟨0,3,none⟩)),(6,ah 6 (mM M+1)),(17,ah 5 b.size),(18,aa (b.size:Int)),(19,.int .i64 (aml .i64 (i+1)))],[ab (aQ (ad.mk (ad.at_ S) (ad.more S) (ad.over S) (ad.B S) 0 (ad.failed S) (ad.aC S) (ad.ro S) (ad.rn S) (ad.bM S) (ad.sn S) (ad.hn S) (ad.dR S) (ad.raw S) (ad.closed S)) 1 2 3 4) 64,.abs d,ab (ao L) 9,ab (aq R) 3,ab (ak H) 144,ab (ag b) 5,ab (ao M++[amT (am7 (ang (amL (anj (cut (aQ S 1 2 3 4) 3 (amm (ad.n S)-0)) bytesOf) [])))]) 9]⟩:aj)
abbrev Hn:=fun S L R H d b M (i:Int)=>(⟨[(4,ah 6 (mM M)),(5,aa 20)],[ab (aQ (ad.mk (ad.at_ S) (ad.more S) (ad.over S) (ad.B S) 0 true (ad.aC S) (ad.ro S) (ad.rn S) (ad.bM S) (ad.sn S) (ad.hn S) (ad.dR S) (ad.raw S) (ad.closed S)) 1 2 3 4) 64,.abs d,ab (ao L) 9,ab (aq R) 3,ab (ak H) 144,ab (ag b) 5,ab (ao M) 9]⟩:aj)
theorem afa(S L R H d b M)(i:Int){Q:bk}(hq:Q (.ret (.tuple #[ah 6 (mM M),aa 20])) (Hn S L R H d b M i).objs):aH asz 80 72 6 Q .ret (Hn S L R H d b M i):=aH.ret (vs:=[ah 6 (mM M),aa 20]) (l:=[]) (bs:=[0,1,2,3,4,5,6]) (pl:=[2,3,4,5,6]) (q:=[ao L,aq R,ak H,ag b,ao M]) (fun u=>by kernel_rfl) (by kernel_rfl) (gi L R H (aE (aI b) (aE (aN M) bd))) hq
abbrev P0:=fun S L R H d (b:ByteArray) M (i:Int)=>(⟨[(0,.pointer (some ⟨0,3,none⟩)),(6,ah 6 (mM M)),(17,ah 5 b.size),(18,aa (b.size:Int)),(19,.int .i64 (aml .i64 (i+1)))],[ab (aQ (ad.mk (ad.at_ S) (ad.more S) (ad.over S) (fun j=>bif amE (3+amm (ad.n S)*1) (3+j)then au (ag b) (0+amm i*1)else ad.B S j) (aml .i64 (ad.n S+1)) (ad.failed S) (ad.aC S) (ad.ro S) (ad.rn S) (ad.bM S) (ad.sn S) (ad.hn S) (ad.dR S) (ad.raw S) (ad.closed S)) 1 2 3 4) 64,.abs d,ab (ao L) 9,ab (aq R) 3,ab (ak H) 144,ab (ag b) 5,ab (ao M) 9]⟩:aj)
theorem afb(S:ad)(L R H d)(b:ByteArray)(M)(i:Int)(pH:(ak H).all af=true)(h0:0≤i)(h1:i<b.size)(h2:b.size≤1000000)(h3:aml .i64 (i+1)=i+1)(h4:0≤S.n)(h5:S.n≤64)(h6:(mM M)≤100000)(h7:aml .i64 (S.n+1)=S.n+1){Q:aV}(n0:(cy IntKind.u8 (ag b) (0+amm i*1))=true)(n1:(au (ag b) (0+amm i*1)==10)=true→(apf (anj (cut (aQ S 1 2 3 4) 3 (amm (ad.n S)-0)) bytesOf))=true)(aW:amq (ao L) af=true)(be:amq (aq R) af=true)(bB:amq (ak H) af=true)(br:amq (ag b) af=true)(l6:(au (ag b) (0+amm i*1)==10)=true→Q .normal (PZ S L R H d b M i))(pg:amq (ao M) af=true)(l8:(au (ag b) (0+amm i*1)==10)=false→(ad.n S==64)=true→Q .ret (Hn S L R H d b M i))(l9:(au (ag b) (0+amm i*1)==10)=false→(ad.n S==64)=false→Q .normal (P0 S L R H d b M i)):al asz 72 6 (Hl.drop 2) (PY S L R H d b M i) Q:=
 aZ bo 1000 (av [0,1,1,0,1] (.fork 0 (av [2,1,3,0,1,0,3,5,1] (.leaf [0,6,17,18,19] [0,1,2,3,4,5,8] [2,3,4,5,8])) (.fork 1 (.leaf [4,5] [0,1,2,3,4,5,6] [2,3,4,5,6]) (av [2,1,1,0,1,0,0,0,0,0,0,0,0,0,0,0,0,0,0] (.leaf [0,6,17,18,19] [0,1,2,3,4,5,6] [2,3,4,5,6]))))) (fun u=>by kernel_rfl) (mN (decide_eq_true (by omega):(decide (0≤i))=true) (mN (show(amG (amm i) b.size)=true by simp at pH h0 h1 h2 h3 h4 h5 h6 h7⊢ <;>omega) (mN n0 (mF (c:=au (ag b) (0+amm i*1)==10) (fun h0=>(mN (decide_eq_true (by omega):(decide (0≤ad.n S))=true) (mN (show(amO (amm (ad.n S)) 64)=true by simp at pH h0 h1 h2 h3 h4 h5 h6 h7 h0⊢ <;>omega) (mN (n1 h0) (mN (show(amO (mM M+1) 1000000)=true by simp at pH h0 h1 h2 h3 h4 h5 h6 h7 h0⊢ <;>omega) (mN (kJ _:(full (mM M) (mM M))=true) (mN (show(amE (0+mM M*1) (mM (ao M)))=true by simp) (aM L R H (mN (aI b) (mN (show(amq (ao M++[amT (am7 (ang (amL (anj (cut (aQ S 1 2 3 4) 3 (amm (ad.n S)-0)) bytesOf) [])))]) af)=true by first|exact aP _|assumption|exact aD (by assumption) rfl _|exact aD (aD (aD (by assumption) rfl _) rfl _) rfl _|exact aD (aP _) (cg (by rfl) _) _|exact aA (aO (aN _) _) _|(simp;done)|exact aB (by assumption) rfl|exact aB (aP _) rfl|exact aB rfl (aA (by assumption) _)|exact aB (by assumption) (aA (by assumption) _)|exact aB rfl (aA (aO (by assumption) _) _)|exact aA (aO (by assumption) _) _) (mQ (al.done (by kernel_rfl) (l6 h0))))))))))))) (fun h0=>(mF (c:=ad.n S==64) (fun h1=>(aM L R H (mN (aI b) (mN (aN M) (mR (l8 h0 h1)))))) (fun h1=>(mN (decide_eq_true (by omega):(decide (0≤ad.n S))=true) (mN (show(amG (amm (ad.n S)) 64)=true by simp at pH h0 h1 h2 h3 h4 h5 h6 h7 h0 h1⊢ <;>omega) (mN (show(amG (3+amm (ad.n S)*1) (mM (aQ S 1 2 3 4)))=true by simp at pH h0 h1 h2 h3 h4 h5 h6 h7 h0 h1⊢ <;>omega) (mN (show(amE (3+amm (ad.n S)*1) 0)=false by simp) (mN (show(amE (3+amm (ad.n S)*1) 1)=false by simp at pH h0 h1 h2 h3 h4 h5 h6 h7 h0 h1⊢ <;>omega) (mN (show(amE (3+amm (ad.n S)*1) 2)=false by simp at pH h0 h1 h2 h3 h4 h5 h6 h7 h0 h1⊢ <;>omega) (mN (show(amE (3+amm (ad.n S)*1) 67)=false by simp at pH h0 h1 h2 h3 h4 h5 h6 h7 h0 h1⊢ <;>omega) (mN (show(amE (3+amm (ad.n S)*1) 68)=false by simp at pH h0 h1 h2 h3 h4 h5 h6 h7 h0 h1⊢ <;>omega) (mN (show(amE (3+amm (ad.n S)*1) 69)=false by simp at pH h0 h1 h2 h3 h4 h5 h6 h7 h0 h1⊢ <;>omega) (mN (show(amE (3+amm (ad.n S)*1) 70)=false by simp at pH h0 h1 h2 h3 h4 h5 h6 h7 h0 h1⊢ <;>omega) (mN (show(amE (3+amm (ad.n S)*1) 71)=false by simp at pH h0 h1 h2 h3 h4 h5 h6 h7 h0 h1⊢ <;>omega) (mN (show(amE (3+amm (ad.n S)*1) 72)=false by simp at pH h0 h1 h2 h3 h4 h5 h6 h7 h0 h1⊢ <;>omega) (mN (show(amE (3+amm (ad.n S)*1) 73)=false by simp at pH h0 h1 h2 h3 h4 h5 h6 h7 h0 h1⊢ <;>omega) (mN (show(amE (3+amm (ad.n S)*1) 74)=false by simp at pH h0 h1 h2 h3 h4 h5 h6 h7 h0 h1⊢ <;>omega) (mN (show(amE (3+amm (ad.n S)*1) 75)=false by simp at pH h0 h1 h2 h3 h4 h5 h6 h7 h0 h1⊢ <;>omega) (mN (show(amE (3+amm (ad.n S)*1) 76)=false by simp at pH h0 h1 h2 h3 h4 h5 h6 h7 h0 h1⊢ <;>omega) (mN (show(amE (3+amm (ad.n S)*1) 77)=false by simp at pH h0 h1 h2 h3 h4 h5 h6 h7 h0 h1⊢ <;>omega) (aM L R H (mN (aI b) (mN (aN M) (mQ (al.done (by kernel_rfl) (l9 h0 h1))))))))))))))))))))))))))))))
abbrev Ho:=fun S L R H d b M=>(⟨[(4,ah 6 (mM M)),(5,aa 0)],ya S L R H d b M⟩:aj)
theorem afc(S L R H d b M){Q:bk}(hq:Q (.ret (.tuple #[ah 6 (mM M),aa 0])) (Ho S L R H d b M).objs):aH asz 80 72 6 Q .ret (Ho S L R H d b M):=aH.ret (vs:=[ah 6 (mM M),aa 0]) (l:=[]) (bs:=[0,1,2,3,4,5,6]) (pl:=[2,3,4,5,6]) (q:=[ao L,aq R,ak H,ag b,ao M]) (fun u=>by kernel_rfl) (by kernel_rfl) (gi L R H (aE (aI b) (aE (aN M) bd))) hq
abbrev afd:=fun S L R H d b M=>(⟨[(6,ah 6 (mM M))],ya S L R H d b M⟩:aj)
theorem afe(S L R H d b M)(pH:(ak H).all af=true){Q:aV}(l5:Q .ret (Ho S L R H d b M)):al asz 72 6 (Bl.drop 6) (afd S L R H d b M) Q:=
 aZ bo 1000 (.leaf [4,5] [0,1,2,3,4,5,6] [2,3,4,5,6]) (fun u=>by kernel_rfl) (aM L R H (mN (aI b) (mN (aN M) (mR l5))))
end
end Go.Proofs.Ytnlkkgpcikkpoaa
namespace Go.Proofs.Ytnlkkgpcikkpoaa
open Go Vm Go.RowKit
set_option maxRecDepth 100000
theorem aff{b:ByteArray}{i:Nat}(h:i<b.size):∃x,b.data.toList[i]?=some x∧au (ag b) (0+amm (i:Int)*1)=(x.toNat:Int)∧cy .u8 (ag b) (0+amm (i:Int)*1)=true∧b.data.toList.drop i=x::b.data.toList.drop (i+1):=by
 have hl:i<b.data.toList.length:=by simpa using h
 refine⟨b.data.toList[i],amt hl,?_,?_,aoh hl⟩
 ·rw[show 0+amm (i:Int)*1=i by simp,K7 h];rfl
 ·rw[show 0+amm (i:Int)*1=i by simp];exact K8 h
theorem Hp(x:UInt8):((x.toNat:Int)==10)=true↔x=10:=by
 rw[beq_iff_eq]
 constructor
 ·intro h
  apply UInt8.toNat_inj.1
  show x.toNat=10
  omega
 ·intro h;subst h;rfl
def Bm(L:List ByteArray)(R:List Int)(H:List ap)(d:ay)(b:ByteArray)(s:Nat×ad×List ByteArray):aj:=
 ⟨[(0,.pointer (some ⟨0,3,none⟩)),(6,.slice (some ⟨6,0,none⟩) s.2.2.length s.2.2.length),(17,.slice (some ⟨5,0,none⟩) b.size b.size),(18,.int .i64 (b.size:Int)),(19,iZ s.1)],aR s.2.1 L R H d++[.cells (ag b) 5 false,.cells (ao s.2.2) 9 false]⟩
structure afg(b:ByteArray)(S0:ad)(s:Nat×ad×List ByteArray):Prop where
 i:s.1≤b.size
 e:dL (b.data.toList.drop s.1) s.2.1 s.2.2=dL b.data.toList S0 []
 ok:jn s.2.1
 bS:s.2.2.length≤s.1
theorem afh(S:ad)(L:List ByteArray)(R:List Int)(H:List ap)(d:ay)(b:ByteArray)(hS:jn S)(hf:S.failed=false)(hb:b.size≤100000):
 aG asz 80 [.pointer (some ⟨0,3,none⟩),.slice (some ⟨5,0,none⟩) b.size b.size] (aR S L R H d++[.cells (ag b) 5 false]) fun r q=>
  r=.ret (.tuple #[.slice (some ⟨6,0,none⟩) (dL b.data.toList S []).2.2.length (dL b.data.toList S []).2.2.length,.int .i64 (dL b.data.toList S []).1])∧q=aR (dL b.data.toList S []).2.1 L R H d++[.cells (ag b) 5 false,.cells (ao (dL b.data.toList S []).2.2) 9 false]:=by
 have pH:=aY H
 refine aG.cM (n:=ct asz 80) (by kernel_rfl) ?_
 apply ae6 S L R H d b pH
 case l4=>intro g;rw[hf]at g;cases g
 case l5=>
  intro _
  refine al.z1 6 9 (s:=1) Od (by rfl) (by rfl) (by rfl:_=Bm L R H d b (0,S,[])) ?_
  refine al.eJ 5 0 (by kernel_rfl) ?_
  refine al.fJ (Bm L R H d b) (fun t=>b.size-t.1) (afg b S) (0,S,[]) (by kernel_rfl) ⟨ann _,by simp,hS,amX _⟩ ?_
  rintro⟨i,S1,M⟩ ⟨h1,h2,h3,h4⟩
  dsimp only at h1 h2 h3 h4
  apply ae9 S1 L R H d b M i pH
  case l6=>
   intro g
   have g:=of_decide_eq_false g
   have cc:b.data.toList.length=b.size:=by simp
   rw[an3 (by omega)]at h2
   have h2:(0,S1,M)=dL b.data.toList S []:=h2
   rw[←h2]
   with_reducible (repeat first|refine QL.ret ?_|refine QL.exit ?_|refine QB.ret ?_|refine QB.ci ?_|refine QB.normal ?_|refine QB.cu (by rfl) ?_)
   apply afe S1 L R H d b M pH
   ·exact afc S1 L R H d b M ⟨rfl,rfl⟩
  case l5=>
   intro g
   have g:=of_decide_eq_true g
   obtain⟨x,x1,x2,x3,x4⟩:=aff (b:=b) (i:=i) (by omega)
   rw[x4]at h2
   have o9:=h3.n0
   have ka:=h3.n1
   have P1:=Hk S1 1 2 3 4 (amm S1.n-0) (by omega)
   apply afb S1 L R H d b M i pH (by omega) g (by omega) (bG (by omega) (by omega)) o9 ka (by omega) (bG (by omega) (by omega))
   case aW=>simp
   case be=>simp
   case bB=>exact pH
   case br=>simp
   case pg=>simp
   case n0=>exact x3
   case n1=>intro _;rw[P1];rfl
   case l6=>
    intro gx
    rw[x2,Hp]at gx
    have h2:(if x=10 then dL (b.data.toList.drop (i+1)) {S1 with n:=0} (M++[ix S1])else _)=dL b.data.toList S []:=h2
    rw[if_pos gx]at h2
    refine QL.to (i+1,{S1 with n:=0},M++[ix S1]) ⟨by dsimp only;omega,h2,jn.zero S1,by dsimp only;rw[amD];show M.length+1≤_;omega⟩ (by dsimp only;omega) ?_
    unfold PZ Bm
    rw[P1,fj (by omega)]
    show aj.mk _ _=aj.mk _ _
    rw[show(M++[ix S1]).length=M.length+1 by simp]
    unfold ix
    rw[show ao (M++[am7 (qv S1.B S1.n.toNat).toArray])=ao M++[amT (am7 (qv S1.B S1.n.toNat).toArray)]by unfold ao;rw[anh];rfl]
    rfl
   case l8=>
    intro gx rN
    rw[x2]at gx
    have gx:¬x=10:=fun h=>by rw[(Hp x).2 h]at gx;cases gx
    have rN:S1.n=64:=by simpa using rN
    have h2:(if x=10 then _ else if S1.n=64 then(20,{S1 with failed:=true,n:=0},M)else _)=dL b.data.toList S []:=h2
    rw[if_neg gx,if_pos rN]at h2
    rw[←h2]
    with_reducible (repeat first|refine QL.ret ?_|refine QL.exit ?_|refine QB.ret ?_|refine QB.ci ?_|refine QB.normal ?_|refine QB.cu (by rfl) ?_)
    exact afa S1 L R H d b M i ⟨rfl,rfl⟩
   case l9=>
    intro gx rN
    rw[x2]at gx
    have gx:¬x=10:=fun h=>by rw[(Hp x).2 h]at gx;cases gx
    have rN:¬S1.n=64:=by simpa using rN
    have h2:(if x=10 then _ else if S1.n=64 then _ else dL (b.data.toList.drop (i+1)) (rM S1 x) M)=dL b.data.toList S []:=h2
    rw[if_neg gx,if_neg rN]at h2
    refine QL.to (i+1,rM S1 x,M) ⟨by dsimp only;omega,h2,h3.add rN x,by dsimp only;omega⟩ (by dsimp only;omega) ?_
    have hB:(fun j=>bif amE (3+amm S1.n*1) (3+j)then au (ag b) (0+amm (i:Int)*1)else S1.B j)=(rM S1 x).B:=by
     funext j
     unfold rM
     dsimp only
     rw[x2]
     by_cases e:j=S1.n.toNat
     ·subst e
      rw[if_pos rfl,show amE (3+amm S1.n*1) (3+amm S1.n)=true by rw[Nat.mul_one];exact anw _];rfl
     ·rw[if_neg e,show amE (3+amm S1.n*1) (3+j)=false from Bool.eq_false_iff.2 fun h=>e (by have:=Nat.eq_of_beq_eq_true h;omega)];rfl
    unfold P0 Bm
    rw[hB,fj (by omega),bG (z:=S1.n+1) (by omega) (by omega)]
    rfl
end Go.Proofs.Ytnlkkgpcikkpoaa
namespace Go.Proofs.Ytnlkkgpcikkpoaa
noncomputable section
open Go Vm Go.RowKit
set_option maxRecDepth 100000
noncomputable def afi:List (amY×Sum):=[(89,Sum.du asz AL)]
theorem afj:dg asz (dE asz (dF afi) 50 40):=dJ cZ mixed (dQ (.cons NZ .nil)) 50 40
def afk(S:ad)(L:List ByteArray)(R:List Int)(H:List ap)(d:ay)(T:ad)(K:List ByteArray)(Rr:List Int)(dd:ay)(e:Int)(x:ByteArray):List (amY×Sum):=[(81,Sum.one (fun _ _=>some [0,1,5,6,7,8]) [an 0,ah 5 1] (aR S.z L R H d++[ab (ao [x]) 9]) (.ret (aa e)) (nl (ab (ao [x]) 9) T.z K Rr H dd))]
theorem afl(S:ad)(L:List ByteArray)(R:List Int)(H:List ap)(d:ay)(T:ad)(K:List ByteArray)(Rr:List Int)(dd:ay)(e:Int)(x:ByteArray)(nn:aG asz 81 [an 0,ah 5 1] (aR S.z L R H d++[ab (ao [x]) 9]) fun r q=>r=.ret (aa e)∧q=nl (ab (ao [x]) 9) T.z K Rr H dd):dg asz (dE asz (dF (afk S L R H d T K Rr dd e x)) 50 40):=dJ cZ mixed (dQ (.cons (bp.one nn) .nil)) 50 40
def afm(S:ad)(L:List ByteArray)(R:List Int)(H:List ap)(d:ay)(T:ad)(K:List ByteArray)(Rr:List Int)(dd:ay)(e:Int):List (amY×Sum):=[(91,Sum.one (fun _ _=>some [0,1,5,6,7]) [an 0] (aR S.z L R H d) (.ret (aa e)) (iM T.z K Rr H dd))]
theorem afn(S:ad)(L:List ByteArray)(R:List Int)(H:List ap)(d:ay)(T:ad)(K:List ByteArray)(Rr:List Int)(dd:ay)(e:Int)(cW:aG asz 91 [an 0] (aR S.z L R H d) fun r q=>r=.ret (aa e)∧q=iM T.z K Rr H dd):dg asz (dE asz (dF (afm S L R H d T K Rr dd e)) 50 40):=dJ cZ mixed (dQ (.cons (bp.one cW) .nil)) 50 40
def afo(S:ad)(L:List ByteArray)(R:List Int)(H:List ap)(d:ay)(T:ad)(K:List ByteArray)(Rr:List Int)(dd:ay)(e:Int):List (amY×Sum):=[(92,Sum.one (fun _ _=>some [0,1,5,6,7]) [an 0] (aR S.z L R H d) (.ret (aa e)) (vA T.z L Rr H dd))]
theorem afp(S:ad)(L:List ByteArray)(R:List Int)(H:List ap)(d:ay)(T:ad)(K:List ByteArray)(Rr:List Int)(dd:ay)(e:Int)(jq:aG asz 92 [an 0] (aR S.z L R H d) fun r q=>r=.ret (aa e)∧q=vA T.z L Rr H dd):dg asz (dE asz (dF (afo S L R H d T K Rr dd e)) 50 40):=dJ cZ mixed (dQ (.cons (bp.one jq) .nil)) 50 40
noncomputable def afq(S:ad)(L:List ByteArray)(R:List Int)(H:List ap)(d:ay)(l:List ap)(dd:ay)(e:Int):List (amY×Sum):=[(93,⟨fun _ _=>some [0,1,5,6,7],(x7 S.z L R H d 0 S.sn (e,l,dd)).spec⟩)]
theorem afr(S:ad)(L:List ByteArray)(R:List Int)(H:List ap)(d:ay)(l:List ap)(dd:ay)(e:Int)(cJ:aG asz 93 [an 0,ah 3 S.sn] (aR S.z L R H d) (pu S.z L R H (e,l,dd))):dg asz (dE asz (dF (afq S L R H d l dd e)) 50 40):=dJ cZ mixed (dQ (.cons (aeX cJ _) .nil)) 50 40
def afs(S:ad)(L:List ByteArray)(R:List Int)(H:List ap)(d:ay)(k:Int)(dd:ay)(e:Int):List (amY×Sum):=[(84,Sum.one (fun _ _=>some [0,1,2,3,4]) [an 0,ah 4 S.hn] (aR S L R H d) (.ret (aa k)) (aR S L R H d)),(96,Sum.one (fun _ _=>some [0,1,2,3,4]) [an 0,ah 3 S.sn] (aR S L R H d) (.ret (aa e)) (aR S L R H dd))]
theorem aft(S:ad)(L:List ByteArray)(R:List Int)(H:List ap)(d:ay)(k:Int)(dd:ay)(e:Int)(hle:aG asz 84 [an 0,ah 4 S.hn] (aR S L R H d) fun r q=>r=.ret (aa k)∧q=aR S L R H d)(gY:aG asz 96 [an 0,ah 3 S.sn] (aR S L R H d) fun r q=>r=.ret (aa e)∧q=aR S L R H dd):dg asz (dE asz (dF (afs S L R H d k dd e)) 50 40):=dJ cZ mixed (dQ (.cons (bp.one hle) (.cons (bp.one gY) .nil))) 50 40
noncomputable def lB:List am3:=ba (dy asz 76)
noncomputable def afu:List am3:=ba (dy asz 78)
open Tree renaming aU→mN,dh→mF,eQ→mL,fw→mQ,dz→mR,fI→mE
noncomputable abbrev Hq:List am3:=(ba (inner (ba (inner (lB.drop 9)))))
noncomputable abbrev afv:List am3:=(ba (o6 true (lB.drop 3)))
def P2:Nat→Bool→Bool→Tree→Tree
 |0,_,_,t=>t
 |n+1,d,b,t=>.cD d b (P2 n d b t)
theorem Hr{R:bf→aj→Prop}{c v:Bool}{t:Tree}(n:Nat)(h1:c=v)(h2:t.ok R):(P2 n c v t).ok R:=by
 induction n with
 |zero=>exact h2
 |succ n ih=>exact⟨h1,ih⟩
abbrev Bn:=fun S L R H d=>([ab (aQ (ad.z S) 1 5 6 7) 64,.abs d,.dead,.dead,.dead,ab (ao L) 9,ab (aq R) 3,ab (ak H) 144]:List ai)
abbrev afw:=fun S L R H d=>(⟨[(0,an 0),(3,.string (am7 #[])),(17,.bool false)],Bn S L R H d⟩:aj)
abbrev P3:=fun S L R H d=>(⟨[(0,an 0),(3,.string (am7 (ang (amL (anj (cut (aQ (ad.mk (ad.at_ S) (ad.more S) (ad.over S) (ad.B (ad.z S)) 0 (ad.failed S) (ad.aC S) 0 (ad.rn S) (ad.bM S) (ad.sn S) (ad.hn S) (ad.dR S) (ad.raw S) (ad.closed S)) 1 5 6 7) 3 (amm (ad.n S)-0)) bytesOf) [])))),(17,.bool true)],[ab (aQ (ad.mk (ad.at_ S) (ad.more S) (ad.over S) (ad.B (ad.z S)) 0 (ad.failed S) (ad.aC S) 0 (ad.rn S) (ad.bM S) (ad.sn S) (ad.hn S) (ad.dR S) (ad.raw S) (ad.closed S)) 1 5 6 7) 64,.abs d,.dead,.dead,.dead,ab (ao L) 9,ab (aq R) 3,ab (ak H) 144]⟩:aj)
abbrev yb:=fun(S:ad) L R H d=>([ab (aQ S.z 1 5 6 7) 64,.abs d,.dead,.dead,.dead,ab (ao L) 9,ab (aq R) 3,ab (ak H) 144]:List ai)
abbrev Hs:=fun S L R H d=>(⟨[(0,an 0)],yb S L R H d⟩:aj)
theorem afx(S:ad)(L R H d)(pH:(ak H).all af=true)(hL:(mM L)=S.rn)(hR:(mM R)=S.sn)(hH:(mM H)=S.hn)(h0:0≤S.n)(h1:S.n≤64){Q:aV}(l3:(ad.n S==0)=true→al asz 77 5 (lB.drop 3) (afw S L R H d) Q)(n4:(ad.n S==0)=false→(apf (anj (cut (aQ (ad.mk (ad.at_ S) (ad.more S) (ad.over S) (ad.B (ad.z S)) 0 (ad.failed S) (ad.aC S) 0 (ad.rn S) (ad.bM S) (ad.sn S) (ad.hn S) (ad.dR S) (ad.raw S) (ad.closed S)) 1 5 6 7) 3 (amm (ad.n S)-0)) bytesOf))=true)(l5:(ad.n S==0)=false→al asz 77 5 (lB.drop 3) (P3 S L R H d) Q):al asz 77 5 lB (Hs S L R H d) Q:=
 aZ bo 3 (.fork 4 (.leaf [0,3,17] [0,1,2,3,4,5,6,7] [5,6,7]) (av [4,1,3,0,1] (.leaf [0,3,17] [0,1,2,3,4,5,6,7] [5,6,7]))) (fun u=>by kernel_rfl) (mF (c:=ad.n S==0) (fun h0=>(aM L R H (mQ (l3 h0)))) (fun h0=>(mN (decide_eq_true (by omega):(decide (0≤ad.n S))=true) (mN (show(amO (amm (ad.n S)) 64)=true by simp at pH hL hR hH h0 h1 h0⊢ <;>omega) (mN (n4 h0) (aM L R H (mQ (l5 h0))))))))
abbrev Qa:=fun H T K Rr dd=>([ab (aQ (ad.z T) 1 5 6 7) 64,.abs dd,.dead,.dead,.dead,ab (ao K) 9,ab (aq Rr) 3,ab (ak H) 144]:List ai)
abbrev Ht:=fun(S:ad) (L:List ByteArray) (R:List Int) H (d:ay) T K Rr dd (e:Int) (x:ByteArray)=>(⟨[(2,aa e)],Qa H T K Rr dd⟩:aj)
theorem afy(S L R H d T K Rr dd)(e:Int)(x){Q:bk}(aW:amq (ak H) af=true)(hq:Q (.ret (aa e)) (Ht S L R H d T K Rr dd e x).objs):aH asz 76 77 5 Q .ret (Ht S L R H d T K Rr dd e x):=aH.ret (vs:=[aa e]) (l:=[]) (bs:=[0,1,2,3,4,5,6,7]) (pl:=[5,6,7]) (q:=[ao K,aq Rr,ak H]) (fun u=>by kernel_rfl) (by kernel_rfl) (aE (by first|exact aP _|assumption|exact aD (by assumption) rfl _|exact aD (aD (aD (by assumption) rfl _) rfl _) rfl _|exact aD (aP _) (cg (by rfl) _) _|exact aA (aO (aN _) _) _|(simp;done)|exact aB (by assumption) rfl|exact aB (aP _) rfl|exact aB rfl (aA (by assumption) _)|exact aB (by assumption) (aA (by assumption) _)|exact aB rfl (aA (aO (by assumption) _) _)|exact aA (aO (by assumption) _) _) (aE (by first|exact aP _|assumption|exact aD (by assumption) rfl _|exact aD (aD (aD (by assumption) rfl _) rfl _) rfl _|exact aD (aP _) (cg (by rfl) _) _|exact aA (aO (aN _) _) _|(simp;done)|exact aB (by assumption) rfl|exact aB (aP _) rfl|exact aB rfl (aA (by assumption) _)|exact aB (by assumption) (aA (by assumption) _)|exact aB rfl (aA (aO (by assumption) _) _)|exact aA (aO (by assumption) _) _) (aE aW bd))) hq
abbrev afz:=fun(S:ad) (L:List ByteArray) (R:List Int) H (d:ay) T K Rr dd (e:Int) (x:ByteArray)=>(⟨[(0,an 0)],Qa H T K Rr dd⟩:aj)
abbrev afA:=fun S L R H d (T:ad) (K:List ByteArray) (Rr:List Int) (dd:ay) (e:Int) x=>(⟨[(0,an 0),(3,.string x)],yb S L R H d⟩:aj)
theorem afB(S:ad)(L R H d)(T:ad)(K Rr dd)(e:Int)(x)(pH:(ak H).all af=true)(hL:(mM L)=S.rn)(hR:(mM R)=S.sn)(hH:(mM H)=S.hn)(nn:aG asz 81 [an 0,ah 5 1] (aR S.z L R H d++[ab (ao [x]) 9]) fun r q=>r=.ret (aa e)∧q=nl (ab (ao [x]) 9) T.z K Rr H dd){Q:aV}(l2:(e != 0)=true→Q .ret (Ht S L R H d T K Rr dd e x))(l3:(e != 0)=false→Q .normal (afz S L R H d T K Rr dd e x)):al asz 77 5 afv (afA S L R H d T K Rr dd e x) Q:=
 aZ (afl S L R H d T K Rr dd e x nn) 1000 (av [3,1,1,3,3,1,1] (.fork 0 (.leaf [2] [0,1,2,3,4,9,10,11] [9,10,11]) (.leaf [0] [0,1,2,3,4,9,10,11] [9,10,11]))) (fun u=>by kernel_rfl) (aM L R H (mN (kh [an 0,ah 5 1] (aR (ad.z S) L R H d++[ab (ao [x]) 9])) (mN (aN K) (mN (aS Rr) (mN (aY H) (mF (c:=e != 0) (fun h0=>(mN (aN K) (mN (aS Rr) (mN (aY H) (mR (l2 h0)))))) (fun h0=>(mN (aN K) (mN (aS Rr) (mN (aY H) (mQ (al.done (by kernel_rfl) (l3 h0)))))))))))))
abbrev P5:=fun S L R H d=>(⟨[(2,aa 0)],[ab (aQ (ad.mk (ad.at_ S) (ad.more S) (ad.over S) (ad.B (ad.z S)) (ad.n S) (ad.failed S) (ad.aC S) 0 (ad.rn S) (ad.bM S) (ad.sn S) (ad.hn S) true (ad.raw S) (ad.closed S)) 1 5 6 7) 64,.abs d,.dead,.dead,.dead,ab (ao (bE (a7 (ad.aC S)) (cU (ao L)))) 9,ab (aq R) 3,ab (ak H) 144]⟩:aj)
theorem afC(S L R H d){Q:bk}(aW:amq (aq R) af=true)(be:amq (ak H) af=true)(hq:Q (.ret (aa 0)) [ab (aQ (ad.mk (ad.at_ S) (ad.more S) (ad.over S) (ad.B (ad.z S)) (ad.n S) (ad.failed S) (ad.aC S) 0 (ad.rn S) (ad.bM S) (ad.sn S) (ad.hn S) true (ad.raw S) (ad.closed S)) 1 5 6 7) 64,.abs d,.dead,.dead,.dead,ab (ao (bE (a7 (ad.aC S)) (cU (ao L)))) 9,ab (aq R) 3,ab (ak H) 144]):aH asz 76 77 5 Q .ret (P5 S L R H d):=aH.ret (vs:=[aa 0]) (l:=[]) (bs:=[0,1,2,3,4,5,6,7]) (pl:=[5,6,7]) (q:=[ao (bE (a7 (ad.aC S)) (cU (ao L))),aq R,ak H]) (fun u=>by kernel_rfl) (by kernel_rfl) (aE (by first|exact aP _|assumption|exact aD (by assumption) rfl _|exact aD (aD (aD (by assumption) rfl _) rfl _) rfl _|exact aD (aP _) (cg (by rfl) _) _|exact aA (aO (aN _) _) _|(simp;done)|exact aB (by assumption) rfl|exact aB (aP _) rfl|exact aB rfl (aA (by assumption) _)|exact aB (by assumption) (aA (by assumption) _)|exact aB rfl (aA (aO (by assumption) _) _)|exact aA (aO (by assumption) _) _) (aE aW (aE be bd))) hq
abbrev afD:=fun S L R H d=>(⟨[(0,an 0)],[ab (aQ (ad.mk (ad.at_ S) (ad.more S) (ad.over S) (ad.B (ad.z S)) (ad.n S) (ad.failed S) (ad.aC S) 0 (ad.rn S) (ad.bM S) (ad.sn S) (ad.hn S) true (ad.raw S) (ad.closed S)) 1 5 6 7) 64,.abs d,.dead,.dead,.dead,ab (ao L) 9,ab (aq R) 3,ab (ak H) 144]⟩:aj)
theorem afE(S:ad)(L R H d)(pH:(ak H).all af=true)(hL:(mM L)=S.rn)(hR:(mM R)=S.sn)(hH:(mM H)=S.hn){Q:aV}(n0:((↑(ad.sn S):Int)==0)=true→(ig [ab (ao L) 9,ab (aQ (ad.mk (ad.at_ S) (ad.more S) (ad.over S) (ad.B (ad.z S)) (ad.n S) (ad.failed S) (ad.aC S) 0 (ad.rn S) (ad.bM S) (ad.sn S) (ad.hn S) true (ad.raw S) (ad.closed S)) 2 0 3 4) 64,ai.abs d,ab (aq R) 3,ab (ak H) 144] (ad.rn S)&&(amE (ad.rn S) (ad.rn S)&&amE 90 90))=true)(l3:((↑(ad.sn S):Int)==0)=true→Q .ret (P5 S L R H d))(l5:((↑(ad.sn S):Int)==0)=false→al asz 77 5 ((lB.drop 4).drop 3) (afD S L R H d) Q):al asz 77 5 (lB.drop 4) (Hs S L R H d) Q:=
 aZ afj 3 (.fork 3 (av [5,1,1,1,1,1,1] (.leaf [2] [0,1,2,3,4,5,6,7] [5,6,7])) (.leaf [0] [0,1,2,3,4,5,6,7] [5,6,7])) (fun u=>by kernel_rfl) (mF (c:=(↑(ad.sn S):Int)==0) (fun h0=>(aM L R H (mN (n0 h0) (mN (aN (bE (a7 (ad.aC S)) (cU (ao L)))) (mN (aS R) (mN (aY H) (mN (aN (bE (a7 (ad.aC S)) (cU (ao L)))) (mN (aS R) (mN (aY H) (mR (l3 h0))))))))))) (fun h0=>(aM L R H (mQ (l5 h0)))))
abbrev Hu:=fun(S:ad) (L:List ByteArray) (R:List Int) H (d:ay) T K Rr dd (e:Int)=>(⟨[(2,aa e)],Qa H T K Rr dd⟩:aj)
theorem afF(S L R H d T K Rr dd)(e:Int){Q:bk}(aW:amq (ak H) af=true)(hq:Q (.ret (aa e)) (Hu S L R H d T K Rr dd e).objs):aH asz 76 77 5 Q .ret (Hu S L R H d T K Rr dd e):=aH.ret (vs:=[aa e]) (l:=[]) (bs:=[0,1,2,3,4,5,6,7]) (pl:=[5,6,7]) (q:=[ao K,aq Rr,ak H]) (fun u=>by kernel_rfl) (by kernel_rfl) (aE (by first|exact aP _|assumption|exact aD (by assumption) rfl _|exact aD (aD (aD (by assumption) rfl _) rfl _) rfl _|exact aD (aP _) (cg (by rfl) _) _|exact aA (aO (aN _) _) _|(simp;done)|exact aB (by assumption) rfl|exact aB (aP _) rfl|exact aB rfl (aA (by assumption) _)|exact aB (by assumption) (aA (by assumption) _)|exact aB rfl (aA (aO (by assumption) _) _)|exact aA (aO (by assumption) _) _) (aE (by first|exact aP _|assumption|exact aD (by assumption) rfl _|exact aD (aD (aD (by assumption) rfl _) rfl _) rfl _|exact aD (aP _) (cg (by rfl) _) _|exact aA (aO (aN _) _) _|(simp;done)|exact aB (by assumption) rfl|exact aB (aP _) rfl|exact aB rfl (aA (by assumption) _)|exact aB (by assumption) (aA (by assumption) _)|exact aB rfl (aA (aO (by assumption) _) _)|exact aA (aO (by assumption) _) _) (aE aW bd))) hq
abbrev afG:=fun(S:ad) (L:List ByteArray) (R:List Int) H (d:ay) T K Rr dd (e:Int)=>(⟨[(0,an 0)],Qa H T K Rr dd⟩:aj)
abbrev afH:=fun S L R H d (T:ad) (K:List ByteArray) (Rr:List Int) (dd:ay) (e:Int)=>(⟨[(0,an 0)],Bn S L R H d⟩:aj)
abbrev P6:=fun S L R H d (T:ad) (K:List ByteArray) (Rr:List Int) (dd:ay) (e:Int)=>(⟨[(0,an 0)],yb S L R H d⟩:aj)
theorem afI(S:ad)(L R H d)(T:ad)(K Rr dd)(e:Int)(pH:(ak H).all af=true)(hL:(mM L)=S.rn)(hR:(mM R)=S.sn)(hH:(mM H)=S.hn)(cW:aG asz 91 [an 0] (aR S.z L R H d) fun r q=>r=.ret (aa e)∧q=iM T.z K Rr H dd){Q:aV}(l2:(decide ((↑(ad.rn S):Int)>0))=true→(e != 0)=true→Q .ret (Hu S L R H d T K Rr dd e))(l3:(decide ((↑(ad.rn S):Int)>0))=true→(e != 0)=false→al asz 77 5 ((lB.drop 7).drop 2) (afG S L R H d T K Rr dd e) Q)(l6:(decide ((↑(ad.rn S):Int)>0))=false→al asz 77 5 ((lB.drop 7).drop 2) (afH S L R H d T K Rr dd e) Q):al asz 77 5 (lB.drop 7) (P6 S L R H d T K Rr dd e) Q:=
 aZ (afn S L R H d T K Rr dd e cW) 2 (.fork 2 (av [3,1,1,1,1,1,1] (.fork 0 (.leaf [2] [0,1,2,3,4,8,9,10] [8,9,10]) (.leaf [0] [0,1,2,3,4,8,9,10] [8,9,10]))) (.leaf [0] [0,1,2,3,4,5,6,7] [5,6,7])) (fun u=>by kernel_rfl) (mF (c:=decide ((↑(ad.rn S):Int)>0)) (fun h0=>(aM L R H (mN (kh [an 0] (aR (ad.z S) L R H d)) (mN (aN K) (mN (aS Rr) (mN (aY H) (mF (c:=e != 0) (fun h1=>(mN (aN K) (mN (aS Rr) (mN (aY H) (mR (l2 h0 h1)))))) (fun h1=>(mN (aN K) (mN (aS Rr) (mN (aY H) (mQ (l3 h0 h1))))))))))))) (fun h0=>(aM L R H (mQ (l6 h0)))))
abbrev afJ:=fun S L R H d=>(⟨[(0,an 0)],Bn S L R H d⟩:aj)
abbrev afK:=fun S L R H d=>(⟨[(0,an 0)],Bn S L R H d⟩:aj)
theorem afL(S:ad)(L R H d)(pH:(ak H).all af=true)(hL:(mM L)=S.rn)(hR:(mM R)=S.sn)(hH:(mM H)=S.hn){Q:aV}(l3:(decide ((↑(ad.sn S):Int)>3))=true→al asz 77 5 (Hq.drop 2) (afJ S L R H d) Q)(l4:(decide ((↑(ad.sn S):Int)>3))=false→Q (.exit 0) (afK S L R H d)):al asz 77 5 Hq (Hs S L R H d) Q:=
 aZ bo 2 (.fork 2 (.leaf [0] [0,1,2,3,4,5,6,7] [5,6,7]) (.leaf [0] [0,1,2,3,4,5,6,7] [5,6,7])) (fun u=>by kernel_rfl) (mF (c:=decide ((↑(ad.sn S):Int)>3)) (fun h0=>(aM L R H (mQ (l3 h0)))) (fun h0=>(aM L R H (mE 0 (l4 h0)))))
abbrev Hv:=fun(S:ad) L (R:List Int) H (d:ay) T (K:List ByteArray) Rr dd (e:Int)=>(⟨[(2,aa e)],[ab (aQ (ad.z T) 1 5 6 7) 64,.abs dd,.dead,.dead,.dead,ab (ao L) 9,ab (aq Rr) 3,ab (ak H) 144]⟩:aj)
theorem afM(S L R H d T K Rr dd)(e:Int){Q:bk}(aW:amq (ao L) af=true)(be:amq (ak H) af=true)(hq:Q (.ret (aa e)) (Hv S L R H d T K Rr dd e).objs):aH asz 76 77 5 Q .ret (Hv S L R H d T K Rr dd e):=aH.ret (vs:=[aa e]) (l:=[]) (bs:=[0,1,2,3,4,5,6,7]) (pl:=[5,6,7]) (q:=[ao L,aq Rr,ak H]) (fun u=>by kernel_rfl) (by kernel_rfl) (aE aW (aE (by first|exact aP _|assumption|exact aD (by assumption) rfl _|exact aD (aD (aD (by assumption) rfl _) rfl _) rfl _|exact aD (aP _) (cg (by rfl) _) _|exact aA (aO (aN _) _) _|(simp;done)|exact aB (by assumption) rfl|exact aB (aP _) rfl|exact aB rfl (aA (by assumption) _)|exact aB (by assumption) (aA (by assumption) _)|exact aB rfl (aA (aO (by assumption) _) _)|exact aA (aO (by assumption) _) _) (aE be bd))) hq
abbrev afN:=fun(S:ad) L (R:List Int) H (d:ay) T (K:List ByteArray) Rr dd (e:Int)=>(⟨[(0,an 0)],[ab (aQ (ad.z T) 1 5 6 7) 64,.abs dd,.dead,.dead,.dead,ab (ao L) 9,ab (aq Rr) 3,ab (ak H) 144]⟩:aj)
theorem P7(S:ad)(L R H d)(T:ad)(K Rr dd)(e:Int)(pH:(ak H).all af=true)(hL:(mM L)=S.rn)(hR:(mM R)=S.sn)(hH:(mM H)=S.hn)(jq:aG asz 92 [an 0] (aR S.z L R H d) fun r q=>r=.ret (aa e)∧q=vA T.z L Rr H dd){Q:aV}(l3:(e != 0)=true→Q .ret (Hv S L R H d T K Rr dd e))(l4:(e != 0)=false→Q .normal (afN S L R H d T K Rr dd e)):al asz 77 5 (Hq.drop 2) (P6 S L R H d T K Rr dd e) Q:=
 aZ (afp S L R H d T K Rr dd e jq) 1000 (av [3,1,1,1,1,1,1] (.fork 0 (.leaf [2] [0,1,2,3,4,5,8,7] [5,8,7]) (.leaf [0] [0,1,2,3,4,5,8,7] [5,8,7]))) (fun u=>by kernel_rfl) (aM L R H (mN (kh [an 0] (aR (ad.z S) L R H d)) (mN (aN L) (mN (aY H) (mN (aS Rr) (mF (c:=e != 0) (fun h0=>(mN (aN L) (mN (aS Rr) (mN (aY H) (mR (l3 h0)))))) (fun h0=>(mN (aN L) (mN (aS Rr) (mN (aY H) (mQ (al.done (by kernel_rfl) (l4 h0)))))))))))))
abbrev afO:=fun S L R (H:List ap) (d:ay) l dd (e:Int)=>(⟨[(9,aa 0)],[ab (aQ (ad.mk (ad.at_ S) (ad.more S) (ad.over S) (ad.B (ad.z S)) (ad.n S) (ad.failed S) (ad.aC S) 0 (ad.rn S) (ad.bM S) (ad.sn S) (mM l) (ad.dR S) (ad.raw S) (ad.closed S)) 1 5 6 7) 64,.abs dd,.dead,.dead,.dead,ab (ao L) 9,ab (aq R) 3,ab (ak l) 144]⟩:aj)
abbrev afP:=fun S L R (H:List ap) (d:ay) (l:List ap) dd (e:Int)=>(⟨[(9,aa e)],[ab (N3 (ad.z S) 1 (ah 5 (ad.rn S)) (ah 6 (ad.sn S)) (cd)) 64,.abs dd,.dead,.dead,.dead,ab (ao L) 9,ab (aq R) 3]⟩:aj)
abbrev afQ:=fun S L R H d (l:List ap) (dd:ay) (e:Int)=>(⟨[(0,an 0)],yb S L R H d⟩:aj)
theorem afR(S:ad)(L R H d l dd)(e:Int)(pH:(ak H).all af=true)(hL:(mM L)=S.rn)(hR:(mM R)=S.sn)(hH:(mM H)=S.hn)(pL:(ak l).all af=true)(cJ:aG asz 93 [an 0,ah 3 S.sn] (aR S.z L R H d) (pu S.z L R H (e,l,dd))){Q:aV}(l3:(e==0)=true→al asz 77 5 ((lB.drop 10).drop 2) (afO S L R H d l dd e) Q)(l4:(e==0)=false→al asz 77 5 ((lB.drop 10).drop 2) (afP S L R H d l dd e) Q):al asz 77 5 (lB.drop 10) (afQ S L R H d l dd e) Q:=
 aZ (afr S L R H d l dd e cJ) 2 (av [5,1,1,1] (.fork 0 (av [1,1,1,1] (.leaf [9] [0,1,2,3,4,5,6,8] [5,6,8])) (av [1,1,1] (.leaf [9] [0,1,2,3,4,5,6] [5,6])))) (fun u=>by kernel_rfl) (aM L R H (mN (kh [an 0,ah 3 (ad.sn S)] (aR (ad.z S) L R H d)) (mF (c:=e==0) (fun h0=>(aM L R H (mN (aY l) (mN (aN L) (mN (aS R) (mN (aY l) (mQ (l3 h0)))))))) (fun h0=>(aM L R H (mN (aN L) (mN (aS R) (mQ (l4 h0)))))))))
abbrev Hw:=fun S L R H d (e:Int)=>(⟨[(2,aa e)],Bn S L R H d⟩:aj)
theorem P8(S L R H d)(e:Int){Q:bk}(hq:Q (.ret (aa e)) (Hw S L R H d e).objs):aH asz 76 77 5 Q .ret (Hw S L R H d e):=aH.ret (vs:=[aa e]) (l:=[]) (bs:=[0,1,2,3,4,5,6,7]) (pl:=[5,6,7]) (q:=[ao L,aq R,ak H]) (fun u=>by kernel_rfl) (by kernel_rfl) (gi L R H bd) hq
abbrev afS:=fun S L R H d (e:Int)=>(⟨[(9,aa e)],yb S L R H d⟩:aj)
theorem P9(S:ad)(L R H d)(e:Int)(pH:(ak H).all af=true)(hL:(mM L)=S.rn)(hR:(mM R)=S.sn)(hH:(mM H)=S.hn){Q:aV}(l3:Q .ret (Hw S L R H d e)):al asz 77 5 (lB.drop 12) (afS S L R H d e) Q:=
 aZ bo 1000 (.leaf [2] [0,1,2,3,4,5,6,7] [5,6,7]) (fun u=>by kernel_rfl) (aM L R H (mR l3))
abbrev P4:=fun S L R H d=>([ab (aQ (ad.mk (ad.at_ S) true (ad.over S) (ad.B S) (ad.n S) (ad.failed S) (ad.aC S) (ad.ro S) (ad.rn S) (ad.bM S) (ad.sn S) (ad.hn S) (ad.dR S) (ad.raw S) (ad.closed S)) 1 2 3 4) 64,.abs d,ab (ao L) 9,ab (aq R) 3,ab (ak H) 144]:List ai)
abbrev Hx:=fun S L R H d (k:Int) (dd:ay) (e:Int)=>(⟨[(2,aa 0)],P4 S L R H d⟩:aj)
theorem afT(S L R H d)(k:Int)(dd)(e:Int){Q:bk}(hq:Q (.ret (aa 0)) (Hx S L R H d k dd e).objs):aH asz 78 34 5 Q .ret (Hx S L R H d k dd e):=aH.ret (vs:=[aa 0]) (l:=[]) (bs:=[0,1,2,3,4]) (pl:=[2,3,4]) (q:=[ao L,aq R,ak H]) (fun u=>by kernel_rfl) (by kernel_rfl) (gi L R H bd) hq
abbrev Hy:=fun S L R H d (k:Int) (dd:ay) (e:Int)=>(⟨[(2,aa 0)],P4 S L R H d⟩:aj)
theorem afU(S L R H d)(k:Int)(dd)(e:Int){Q:bk}(hq:Q (.ret (aa 0)) (Hy S L R H d k dd e).objs):aH asz 78 34 5 Q .ret (Hy S L R H d k dd e):=aH.ret (vs:=[aa 0]) (l:=[]) (bs:=[0,1,2,3,4]) (pl:=[2,3,4]) (q:=[ao L,aq R,ak H]) (fun u=>by kernel_rfl) (by kernel_rfl) (gi L R H bd) hq
abbrev Hz:=fun S L R H (d:ay) (k:Int) dd (e:Int)=>(⟨[(2,aa e)],[ab (aQ (ad.mk (ad.at_ S) (ad.more S) true (ad.B S) (ad.n S) (ad.failed S) (ad.aC S) (ad.ro S) (ad.rn S) (ad.bM S) (ad.sn S) (ad.hn S) (ad.dR S) (ad.raw S) (ad.closed S)) 1 2 3 4) 64,.abs dd,ab (ao L) 9,ab (aq R) 3,ab (ak H) 144]⟩:aj)
theorem afV(S L R H d)(k:Int)(dd)(e:Int){Q:bk}(hq:Q (.ret (aa e)) (Hz S L R H d k dd e).objs):aH asz 78 34 5 Q .ret (Hz S L R H d k dd e):=aH.ret (vs:=[aa e]) (l:=[]) (bs:=[0,1,2,3,4]) (pl:=[2,3,4]) (q:=[ao L,aq R,ak H]) (fun u=>by kernel_rfl) (by kernel_rfl) (gi L R H bd) hq
abbrev afW:=fun S L R H d (k:Int) (dd:ay) (e:Int)=>(⟨[(0,an 0)],[ab (aQ S 1 2 3 4) 64,.abs d,ab (ao L) 9,ab (aq R) 3,ab (ak H) 144]⟩:aj)
theorem afX(S:ad)(L R H d)(k:Int)(dd)(e:Int)(pH:(ak H).all af=true)(hR:(mM R)=S.sn)(hH:(mM H)=S.hn)(hle:aG asz 84 [an 0,ah 4 S.hn] (aR S L R H d) fun r q=>r=.ret (aa k)∧q=aR S L R H d)(gY:aG asz 96 [an 0,ah 3 S.sn] (aR S L R H d) fun r q=>r=.ret (aa e)∧q=aR S L R H dd){Q:aV}(l3:(decide ((↑(ad.rn S):Int)>0))=true→Q .ret (Hx S L R H d k dd e))(l5:(decide ((↑(ad.rn S):Int)>0))=false→(decide (k ≥ 0))=true→Q .ret (Hy S L R H d k dd e))(l7:(decide ((↑(ad.rn S):Int)>0))=false→(decide (k ≥ 0))=false→Q .ret (Hz S L R H d k dd e)):al asz 34 5 afu (afW S L R H d k dd e) Q:=
 aZ (aft S L R H d k dd e hle gY) 1000 (.fork 2 (av [1,1,1,1,1,1,1] (.leaf [2] [0,1,2,3,4] [2,3,4])) (av [0,0,0,0,2,3,1,1,1,1,1,1,0,0] (.fork 0 (.leaf [2] [0,1,2,3,4] [2,3,4]) (av [5,1,1,1,1,1,1] (.leaf [2] [0,1,2,3,4] [2,3,4]))))) (fun u=>by kernel_rfl) (mF (c:=decide ((↑(ad.rn S):Int)>0)) (fun h0=>(Hr 7 h0 (aM L R H (mR (l3 h0))))) (fun h0=>(Hr 5 h0 (aM L R H (mN (kh [an 0,ah 4 (ad.hn S)] (aR S L R H d)) (aM L R H (Hr 2 h0 (mF (c:=decide (k ≥ 0)) (fun h1=>(aM L R H (mR (l5 h0 h1)))) (fun h1=>(aM L R H (mN (kh [an 0,ah 3 (ad.sn S)] (aR S L R H d)) (aM L R H (aM L R H (mR (l7 h0 h1)))))))))))))))
end
end Go.Proofs.Ytnlkkgpcikkpoaa
namespace Go.Proofs.Ytnlkkgpcikkpoaa
open Go Vm Go.RowKit
set_option maxRecDepth 100000
theorem Qb(no:Int):∀(l:List ByteArray) (d:ay),ca (iw no l d).2 no≤ca d no+bO l∧∀m,m≠no→ca (iw no l d).2 m=ca d m
 | [],d=>⟨amX _,fun _ _=>rfl⟩
 |x::l,d=>by
  have h1:=Oz d no (b7 x)
  rw[ls]at h1
  have h2:∀m,m≠no→ca (bN d no (b7 x)).2 m=ca d m:=fun m h=>GO d _ h
  unfold iw
  split
  ·exact⟨by show _≤ca d no+(x.size+1+bO l);omega,h2⟩
  ·obtain⟨a,b⟩:=Qb no l (bN d no (b7 x)).2
   exact⟨by show _≤ca d no+(x.size+1+bO l);omega,fun m h=>(b m h).trans (h2 m h)⟩
def mP(s:cN):Nat:=eK s.2.2.2 s.2.2.1+bO s.2.1
structure Good(F:Nat)(s:cN):Prop where
 ok:iX s
 old:∀r∈s.2.2.1,r≤s.2.2.2.made
 bS:mP s≤F
theorem Good.runs{F:Nat}{s:cN}(h:Good F s)(hF:F≤1000000):jm s.2.2.2 s.2.2.1:=⟨h.ok.dv,h.old,by have:=h.bS;unfold mP at this;omega⟩
theorem afY{d d':ay}{l:List Int}(h:∀r∈l,ca d' r=ca d r):eK d' l=eK d l:=by
 induction l with
 |nil=>rfl
 |cons x l ih=>unfold eK;rw[h x amN,ih fun y hy=>h y (amK _ hy)]
theorem Good.mO{F:Nat}{s:cN}(h:Good F s)(he:(dS s.1 s.2.1 s.2.2.1 s.2.2.2).1=0):Good F (dS s.1 s.2.1 s.2.2.1 s.2.2.2).2:=by
 obtain⟨h1,h2⟩:=h.ok.mO
 refine⟨h1,?_,?_⟩
 ·obtain⟨S,L,R,d⟩:=s
  have hold:∀r∈R,r≤d.made:=h.old
  have m8:=GG (d:=d)
  have fW:=A8 (d:=d)
  have hok:iX (S,L,R,d):=h.ok
  dsimp only at*
  unfold dS at he⊢
  split at he
  ·rename_i g;exact absurd he g
  rename_i g
  have g:(bw d).2.1=0:=aoa.1 g
  rw[if_neg (fun h=>h g)]
  split at he
  ·rename_i g2;exact absurd he g2
  rename_i g2
  rw[if_neg g2]
  rw[if_pos g]at m8
  have cj:=(GF (bw d).1 (bE (a7 S.aC) L) (bw d).2.2 (hok.dv.tz) fun f hf=>by
   rw[AQ hok.dv g]at hf
   cases hf
   show 0+_≤_
   rw[vo (kl L)]
   have:=hok.bS
   show 0+bO L≤_
   have:bO L≤400:=this
   omega).2
  intro r hr
  dsimp only at hr⊢
  rcases amU.1 hr with hr|hr
  ·have:=hold r hr;omega
  ·have e1:=ank.1 hr
   have e2:=fW g
   omega
 ·obtain⟨S,L,R,d⟩:=s
  have hold:∀r∈R,r≤d.made:=h.old
  have jw:eK d R+bO L≤F:=h.bS
  have fW:=A8 (d:=d)
  have hok:iX (S,L,R,d):=h.ok
  dsimp only at*
  unfold dS at he⊢
  split at he
  ·rename_i g;exact absurd he g
  rename_i g
  have g:(bw d).2.1=0:=aoa.1 g
  rw[if_neg (fun h=>h g)]
  split at he
  ·rename_i g2;exact absurd he g2
  rename_i g2
  rw[if_neg g2]
  obtain⟨w1,w2⟩:=Qb (bw d).1 (bE (a7 S.aC) L) (bw d).2.2
  rw[OT hok.dv g,vo (kl L)]at w1
  have e1:eK (iw (bw d).1 (bE (a7 S.aC) L) (bw d).2.2).2 R=eK d R:=afY fun r hr=>by
   have h3:=hold r hr
   rw[w2 r (by rw[fW g];omega),GU d r h3]
  unfold mP
  dsimp only
  rw[vq,e1]
  show eK d R+(ca _ _+0)+0≤F
  omega
theorem Good.put{F:Nat}{s:cN}(h:Good F s)(x:ByteArray)(hx:bO s.2.1+(x.size+1)≤400):Good (F+(x.size+1)) (lv x s):=by
 refine⟨h.ok.put x hx,h.old,?_⟩
 have:=h.bS
 unfold mP lv at*
 dsimp only at*
 rw[xW]
 show _+(bO s.2.1+(x.size+1+0))≤_
 omega
theorem Bo:∀(l:List ByteArray) (F:Nat) (s:cN),Good F s→(∀x∈l,x.size≤64)→iX (eX l s).2∧((eX l s).1=0→Good (F+bO l) (eX l s).2)
 | [],F,s,h,hx=>⟨h.ok,fun _=>h⟩
 |x::l,F,s,h,hx=>by
  have fD:=hx x amN
  have ju:∀y∈l,y.size≤64:=fun y hy=>hx y (amK _ hy)
  have hw:=h.ok.bM
  have hlen:=h.ok.len
  unfold eX
  by_cases hc:0<s.1.rn∧s.1.bM+x.size+1>256
  ·rw[if_pos hc]
   by_cases he:(dS s.1 s.2.1 s.2.2.1 s.2.2.2).1=0
   ·rw[if_neg (fun h=>h he)]
    have h1:=h.mO he
    have sd:=(h.ok.mO).2 he
    have hp:=h1.put x (by rw[sd];show 0+(x.size+1)≤400;omega)
    obtain⟨a,b⟩:=Bo l _ _ hp ju
    exact⟨a,fun e=>by have:=b e;show Good (F+(x.size+1+bO l)) _;rw[←aok];exact this⟩
   ·rw[if_pos he]
    exact⟨h.ok.mO.1,fun e=>absurd e he⟩
  ·rw[if_neg hc]
   have hp:=h.put x (by
    by_cases h0:0<s.1.rn
    ·have:¬s.1.bM+x.size+1>256:=fun h=>hc ⟨h0,h⟩
     omega
    ·have:s.2.1=[]:=List.eq_nil_of_length_eq_zero (by omega)
     rw[this];show 0+(x.size+1)≤400;omega)
   obtain⟨a,b⟩:=Bo l _ _ hp ju
   exact⟨a,fun e=>by have:=b e;show Good (F+(x.size+1+bO l)) _;rw[←aok];exact this⟩
noncomputable def eT(f:Bool):Nat→List Int→ay→Int×List Int×ay
 |0,R,d=>(0,R,d)
 |m+1,R,d=>if R.length≤3 then(0,R,d)else if(fO f R d).1≠0 then((fO f R d).1,R,(fO f R d).2.2)else eT f m (fO f R d).2.1 (fO f R d).2.2
def gU(s:cN):Int×cN:=if s.1.n=0 then(0,s)else eX [ix s.1] ({s.1 with n:=0},s.2)
def mS(s:cN):cN:=({s.1 with dR:=true},s.2)
def iy(s:cN):Int×cN:=if 0<s.1.rn then dS s.1 s.2.1 s.2.2.1 s.2.2.2 else(0,s)
noncomputable def np(s:cN)(H:List ap):Int×cN×List ap:=
 if(eT s.1.aC s.2.2.1.length s.2.2.1 s.2.2.2).1≠0 then((eT s.1.aC s.2.2.1.length s.2.2.1 s.2.2.2).1,({s.1 with sn:=(eT s.1.aC s.2.2.1.length s.2.2.1 s.2.2.2).2.1.length},s.2.1,(eT s.1.aC s.2.2.1.length s.2.2.1 s.2.2.2).2),H)
 else match eT s.1.aC s.2.2.1.length s.2.2.1 s.2.2.2 with
  |(_,R,d)=>match dY R [] d with
   |(e,l,dd)=>if e=0 then(0,({s.1 with sn:=R.length,hn:=l.length},s.2.1,R,dd),l)else(e,({s.1 with sn:=R.length,hn:=0},s.2.1,R,dd),[])
noncomputable def tH(s:cN)(H:List ap):Int×cN×List ap:=if(iy s).1≠0 then((iy s).1,(iy s).2,H)else np (iy s).2 H
noncomputable def vB(s:cN)(H:List ap):Int×cN×List ap:=if s.1.sn=0 then(0,(s.1,bE (a7 s.1.aC) s.2.1,s.2.2),H)else tH s H
noncomputable def km(s:cN)(H:List ap):Int×cN×List ap:=if(gU s).1≠0 then((gU s).1,(gU s).2,H)else vB (mS (gU s).2) H
theorem vC(S:ad):(ix S).size=S.n.toNat:=by
 show(qv S.B S.n.toNat).toArray.size=_
 rw[List.size_toArray,ae0]
theorem HA{F:Nat}{s:cN}(h:Good F s)(hc:jn s.1):iX (gU s).2∧((gU s).1=0→Good (F+(s.1.n.toNat+1)) (gU s).2):=by
 unfold gU
 split
 ·exact⟨h.ok,fun _=>⟨h.ok,h.old,by have:=h.bS;dsimp only;omega⟩⟩
 ·have h1:Good F ({s.1 with n:=0},s.2):=⟨⟨h.ok.len,h.ok.runs,h.ok.dv,h.ok.made,h.ok.bM,h.ok.bS⟩,h.old,h.bS⟩
  have hn:=hc.n1
  obtain⟨a,b⟩:=Bo [ix s.1] F _ h1 fun x hx=>by rw[ank.1 hx,vC];omega
  refine⟨a,fun e=>?_⟩
  have:=b e
  rw[show bO [ix s.1]=s.1.n.toNat+1 by show(ix s.1).size+1+0=_;rw[vC]]at this
  exact this
theorem HB{F:Nat}{s:cN}(h:Good F s):Good F (mS s):=⟨⟨h.ok.len,h.ok.runs,h.ok.dv,h.ok.made,h.ok.bM,h.ok.bS⟩,h.old,h.bS⟩
theorem HC(f:Bool):∀(m:Nat) (R:List Int) (d:ay),jm d R→cw (eT f m R d).2.2∧((eT f m R d).1=0→jm (eT f m R d).2.2 (eT f m R d).2.1∧(R.length≤m→(eT f m R d).2.1.length≤3))∧(eT f m R d).2.1.length≤R.length
 |0,R,d,h=>⟨h.dv,fun _=>⟨h,fun hl=>by show R.length≤3;omega⟩,amX _⟩
 |m+1,R,d,h=>by
  unfold eT
  by_cases h3:R.length≤3
  ·rw[if_pos h3];exact⟨h.dv,fun _=>⟨h,fun _=>h3⟩,amX _⟩
  rw[if_neg h3]
  obtain⟨p1,p2⟩:=PT f h
  by_cases he:(fO f R d).1=0
  ·rw[if_neg (fun h=>h he)]
   obtain⟨q1,q2,q3⟩:=p2 he
   obtain⟨a,b,c⟩:=HC f m _ _ q1
   exact⟨a,fun e=>⟨(b e).1,fun hl=>(b e).2 (by omega)⟩,by omega⟩
  ·rw[if_pos he]
   exact⟨p1,fun e=>absurd e he,amX _⟩
theorem al.less{P:amF}{n k:Nat}{l:List am3}{d:aj}{Q:bf→aj→Prop}(HD:List (Nat×amn))(hc:(nodupB (d.sl.map (·.1))&&d.sl.all (fun p=>amG p.1 n)&&amO n 1024)=true)(hs:∀p∈HD,p∈d.sl)(h:al P n k l ⟨HD,d.objs⟩ Q):al P n k l d Q:=by
 intro X hn hk a w hd
 subst hn hk
 obtain⟨ρ,u,M,hd⟩:=hd
 simp only[amB]at hc
 obtain⟨⟨c1,c2⟩,c3⟩:=hc
 have c3:=amS c3
 have cc:a.tmps.size=X.n:=by have:=hd.fr.size;rw[this];show(fU X.n u d.sl).length=_;unfold fU;simp[lg]
 have sC:a.defers=M.map eh:=hd.fr.qN rfl
 obtain⟨u',hu⟩:=FR.make (ρ:=ρ) (a:=a) (l:=HD) cc c3 sC (fun i=>⟨_,hd.fr.at_ i⟩) fun p hp=>by
  have hp:=hs p hp
  have hn:=dI.1 (am1.1 c2 p hp)
  have h8:=hd.fr.at_ p.1
  rw[Fr.wW,uE c3 hn (uR c1 p hp)]at h8
  exact⟨hn,h8⟩
 exact h X rfl rfl a w ⟨ρ,u',M,hd.full,hd.kept,hu,hd.mem,hd.bS,hd.quiet,hd.gp,hd.outside⟩
def Qc(x:Int×cN×List ap)(r:bL)(q:List ai):Prop:=r=.ret (.int .i64 x.1)∧q=iM x.2.1.1.z x.2.1.2.1 x.2.1.2.2.1 x.2.2 x.2.1.2.2.2
abbrev HE(i:Nat)(s:cN)(H:List ap)(x:Int×cN×List ap):Prop:=
 al asz (ct asz 76) 5 (lB.drop i) ⟨[(0,.pointer (some ⟨0,0,none⟩))],iM s.1.z s.2.1 s.2.2.1 H s.2.2.2⟩ (aH asz 76 (ct asz 76) 5 (Qc x))
structure afZ(f:Bool)(v:Int×List Int×ay)(s:List Int×ay×Nat):Prop where
 e:eT f s.2.2 s.1 s.2.1=v
 ok:jm s.2.1 s.1
 m:s.1.length≤s.2.2
theorem af0{f:Bool}{m:Nat}{R:List Int}{d:ay}(h:R.length≤3):eT f m R d=(0,R,d):=by
 cases m with
 |zero=>rfl
 |succ m=>unfold eT;rw[if_pos h]
theorem af1{f:Bool}{m:Nat}{R:List Int}{d:ay}(h:¬R.length≤3):eT f (m+1) R d=if(fO f R d).1≠0 then((fO f R d).1,R,(fO f R d).2.2)else eT f m (fO f R d).2.1 (fO f R d).2.2:=by
 conv=>lhs;unfold eT
 rw[if_neg h]
theorem Qd(S:ad)(L:List ByteArray)(R:List Int)(H:List ap)(d:ay)(hL:L.length=S.rn)(hR:R.length=S.sn)(hH:H.length=S.hn)(Qe:R.length≤900000)(hr:jm d R):HE 9 (S,L,R,d) H (np (S,L,R,d) H):=by
 have pH:=aY H
 have hv:np (S,L,R,d) H=if(eT S.aC R.length R d).1≠0 then((eT S.aC R.length R d).1,({S with sn:=(eT S.aC R.length R d).2.1.length},L,(eT S.aC R.length R d).2),H)
  else match eT S.aC R.length R d with
   |(_,R,d)=>match dY R [] d with
    |(e,l,dd)=>if e=0 then(0,({S with sn:=R.length,hn:=l.length},L,R,dd),l)else(e,({S with sn:=R.length,hn:=0},L,R,dd),[]):=rfl
 rw[hv]
 clear hv
 obtain⟨v,hv⟩:∃v,v=eT S.aC R.length R d:=⟨_,rfl⟩
 rw[←hv]
 refine al.eJ 9 0 (by kernel_rfl) ?_
 have hS:S={S with sn:=R.length}:=by rw[hR]
 rw[hS]
 clear hS
 refine al.fJ (fun t:List Int×ay×Nat=>⟨[(0,.pointer (some ⟨0,0,none⟩))],iM (ad.z {S with sn:=t.1.length}) L t.1 H t.2.1⟩) (fun t=>t.2.2) (fun t=>afZ S.aC v t∧t.1.length≤900000) (R,d,R.length) (by kernel_rfl) ⟨⟨hv.symm,hr,amX _⟩,Qe⟩ ?_
 clear hv hr hR Qe
 rintro⟨R,d,m⟩ ⟨⟨h1,h2,h3⟩,h4⟩
 dsimp only at h1 h2 h3 h4
 apply afL {S with sn:=R.length} L R H d pH hL rfl hH
 case l4=>
  intro g
  have g:=of_decide_eq_false g
  have g:¬((R.length:Nat):Int)>3:=g
  have g3:R.length≤3:=by omega
  rw[af0 g3]at h1
  rw[←h1,if_neg (fun h=>h rfl)]
  dsimp only
  with_reducible (repeat first|refine QL.ret ?_|refine QL.exit ?_|refine QB.ret ?_|refine QB.ci ?_|refine QB.normal ?_|refine QB.cu (by rfl) ?_)
  have cJ:=Pq (ad.z {S with sn:=R.length}) L R H d 0 R.length (by omega) h4 h2.dv
  rw[aqv,ap2]at cJ
  generalize dY R [] d=o at*
  obtain⟨e,l,dd⟩:=o
  dsimp only
  apply afR {S with sn:=R.length} L R H d l dd e pH hL rfl hH (aY l) cJ
  case l3=>
   intro ge
   have ge:e=0:=by simpa using ge
   rw[if_pos ge]
   apply P9 {S with sn:=R.length,hn:=l.length} L R l dd 0 (aY l) hL rfl rfl
   ·exact P8 {S with sn:=R.length,hn:=l.length} L R l dd 0 ⟨rfl,rfl⟩
  case l4=>
   intro ge
   have ge:¬e=0:=by simpa using ge
   rw[if_neg ge]
   refine al.mD 0 74 144 Pn rfl rfl (by kernel_rfl) (d':=⟨[(9,.int .i64 e)],iM (ad.z {S with sn:=R.length,hn:=0}) L R [] dd⟩) rfl ?_
   apply P9 {S with sn:=R.length,hn:=0} L R [] dd e rfl hL rfl rfl
   ·exact P8 {S with sn:=R.length,hn:=0} L R [] dd e ⟨rfl,rfl⟩
 case l3=>
  intro g
  have g:=of_decide_eq_true g
  have g:((R.length:Nat):Int)>3:=g
  have g3:¬R.length≤3:=by omega
  cases m with
  |zero=>omega
  |succ m=>
  rw[af1 g3]at h1
  have jq:=aeZ (ad.z {S with sn:=R.length}) L R H d rfl (by omega) h4 h2
  obtain⟨p1,p2⟩:=PT S.aC h2
  rw[show(ad.z {S with sn:=R.length}).aC=S.aC from rfl]at jq
  generalize fO S.aC R d=o at*
  obtain⟨e,R2,dd⟩:=o
  dsimp only at*
  by_cases ge:e=0
  ·obtain⟨q1,q2,q3⟩:=p2 ge
   rw[if_neg (fun h=>h ge)]at h1
   rw[show rL (ad.z {S with sn:=R.length}) R (e,R2,dd)=(ad.z {S with sn:=R2.length},R2)by unfold rL;rw[if_pos ge];rfl]at jq
   apply P7 {S with sn:=R.length} L R H d {S with sn:=R2.length} [] R2 dd e pH hL rfl hH jq
   case l3=>intro g5;rw[ge]at g5;cases g5
   case l4=>intro _;exact QL.to (R2,dd,m) ⟨⟨h1,q1,by dsimp only;omega⟩,by dsimp only;omega⟩ (by dsimp only;omega) rfl
  ·rw[if_pos ge]at h1
   rw[show rL (ad.z {S with sn:=R.length}) R (e,R2,dd)=(ad.z {S with sn:=R.length},R)by unfold rL;rw[if_neg ge]]at jq
   apply P7 {S with sn:=R.length} L R H d {S with sn:=R.length} [] R dd e pH hL rfl hH jq
   case l3=>
    intro g5
    rw[←h1,if_pos ge]
    with_reducible (repeat first|refine QL.ret ?_|refine QL.exit ?_|refine QB.ret ?_|refine QB.ci ?_|refine QB.normal ?_|refine QB.cu (by rfl) ?_)
    exact afM {S with sn:=R.length} L R H d {S with sn:=R.length} [] R dd e (by simp) pH ⟨rfl,rfl⟩
   case l4=>intro g5;exact absurd (by simpa using g5) ge
theorem af2(F:Nat)(S:ad)(L:List ByteArray)(R:List Int)(H:List ap)(d:ay)(hF:F≤900000)(hg:Good F (S,L,R,d))(hH:H.length=S.hn):HE 7 (S,L,R,d) H (tH (S,L,R,d) H):=by
 have pH:=aY H
 have hL:L.length=S.rn:=hg.ok.len
 have hR:R.length=S.sn:=hg.ok.runs
 have gg:cw d:=hg.ok.dv
 have ib:R.length≤d.made:=hg.ok.made
 have alN:=gg.made
 have hw:bO L≤400:=hg.ok.bS
 have cW:=Oe S L R H d hL hR gg (by omega) (by omega)
 have oV:=hg.mO
 have af3:=hg.ok.mO
 have hv:tH (S,L,R,d) H=if 0<S.rn then(if(dS S L R d).1≠0 then((dS S L R d).1,(dS S L R d).2,H)else np (dS S L R d).2 H)else np (S,L,R,d) H:=by
  unfold tH iy
  by_cases h:0<S.rn
  ·rw[if_pos h,if_pos h]
  ·rw[if_neg h,if_neg h]
   exact if_neg (fun h=>h rfl)
 rw[hv]
 clear hv
 dsimp only at oV af3
 have HF:(dS S L R d).2.1.hn=S.hn:=by unfold dS;split;rfl;split;rfl;rfl
 generalize dS S L R d=o at*
 obtain⟨e,T,K,Rr,dd⟩:=o
 dsimp only at*
 apply afI S L R H d T K Rr dd e pH hL hR hH cW
 case l2=>
  intro g ge
  have g:=of_decide_eq_true g
  have ge:e≠0:=by simpa using ge
  rw[if_pos (by omega),if_pos ge]
  exact afF S L R H d T K Rr dd e pH ⟨rfl,rfl⟩
 case l3=>
  intro g ge
  have g:=of_decide_eq_true g
  have ge:e=0:=by simpa using ge
  rw[if_pos (by omega),if_neg (fun h=>h ge)]
  have h2:=oV ge
  have Kg:Rr.length≤dd.made:=h2.ok.made
  have cj:=h2.ok.dv.made
  exact Qd T K Rr H dd h2.ok.len h2.ok.runs (hH.trans HF.symm) (by have:dd.made≤64:=cj;omega) (h2.runs (by omega))
 case l6=>
  intro g
  have g:=of_decide_eq_false g
  rw[if_neg (by omega)]
  exact Qd S L R H d hL hR hH (by omega) (hg.runs (by omega))
theorem Qf(F:Nat)(S:ad)(L:List ByteArray)(R:List Int)(H:List ap)(d:ay)(hF:F≤900000)(hg:Good F (S,L,R,d))(hH:H.length=S.hn):HE 4 (S,L,R,d) H (vB (mS (S,L,R,d)) H):=by
 have pH:=aY H
 have hL:L.length=S.rn:=hg.ok.len
 have hR:R.length=S.sn:=hg.ok.runs
 have hw:bO L≤400:=hg.ok.bS
 have Of:=xV L
 have hv:vB (mS (S,L,R,d)) H=if S.sn=0 then(0,({S with dR:=true},bE (a7 S.aC) L,R,d),H)else tH (mS (S,L,R,d)) H:=rfl
 rw[hv]
 clear hv
 apply afE S L R H d pH hL hR hH
 case n0=>
  intro _
  have hO:=vi (S:=ad.z {S with dR:=true}) (R:=R) (H:=H) (d:=d) (L:=L) rfl hL (by omega)
  unfold cF at hO
  rw[show(aQ (ad.mk (ad.at_ S) (ad.more S) (ad.over S) (ad.B (ad.z S)) (ad.n S) (ad.failed S) (ad.aC S) (0) (ad.rn S) (ad.bM S) (ad.sn S) (ad.hn S) (true) (ad.raw S) (ad.closed S)) 2 0 3 4)=aQ (ad.z {S with dR:=true}) 2 0 3 4 from rfl,hO]
  simp only[anw,Bool.and_self]
 case l3=>
  intro g
  have g:S.sn=0:=by have:((S.sn:Nat):Int)=0:=by simpa using g
                    omega
  rw[if_pos g]
  refine afC S L R H d (by simp) pH ⟨rfl,?_⟩
  rw[ie]
  rfl
 case l5=>
  intro g
  have g:¬S.sn=0:=fun h=>by rw[h]at g;cases g
  rw[if_neg g]
  rw[anE]
  exact af2 F {S with dR:=true} L R H d hF (HB hg) hH
theorem af4(F:Nat)(S:ad)(L:List ByteArray)(R:List Int)(H:List ap)(d:ay)(hF:F≤800000)(hg:Good F (S,L,R,d))(hc:jn S)(hH:H.length=S.hn):
 aG asz 76 [.pointer (some ⟨0,0,none⟩)] (aR S.z L R H d) (Qc (km (S,L,R,d) H)):=by
 have pH:=aY H
 have hL:L.length=S.rn:=hg.ok.len
 have hR:R.length=S.sn:=hg.ok.runs
 have o9:=hc.n0
 have ka:=hc.n1
 refine aG.cM (n:=ct asz 76) (by kernel_rfl) ?_
 refine al.move (d':=⟨[(0,.pointer (some ⟨0,0,none⟩))],iM S.z L R H d⟩) [some 0,some 1,none,none,none,some 2,some 3,some 4] [2,3,4] (q:=[ao L,aq R,ak H]) (by kernel_rfl) (aE (by simp) (aE (by simp) (aE pH bd))) (by kernel_rfl) (by kernel_rfl) ?_
 apply afx S L R H d pH hL hR hH o9 ka
 case l3=>
  intro g
  have g:S.n=0:=by simpa using g
  have hb:gU (S,L,R,d)=(0,(S,L,R,d)):=by unfold gU;exact if_pos g
  have hv:km (S,L,R,d) H=vB (mS (S,L,R,d)) H:=by unfold km;rw[hb];exact if_neg (fun h=>h rfl)
  rw[hv]
  refine al.aaZ 3 (c:=17) (by kernel_rfl) (by rfl) (by rfl) (by kernel_rfl) ?_
  refine al.less [(0,.pointer (some ⟨0,0,none⟩))] (by kernel_rfl) (by intro p hp;rw[ank.1 hp];exact amN) ?_
  exact Qf F S L R H d (by omega) hg hH
 case n4=>
  intro _
  rw[show(aQ (ad.mk (ad.at_ S) (ad.more S) (ad.over S) (ad.B (ad.z S)) (0) (ad.failed S) (ad.aC S) (0) (ad.rn S) (ad.bM S) (ad.sn S) (ad.hn S) (ad.dR S) (ad.raw S) (ad.closed S)) 1 5 6 7)=aQ (ad.z {S with n:=0}) 1 5 6 7 from rfl,Hk _ _ _ _ _ _ (by omega)]
  rfl
 case l5=>
  intro g
  have g:¬S.n=0:=by simpa using g
  have hx:amL (anj (cut (aQ (ad.mk (ad.at_ S) (ad.more S) (ad.over S) (ad.B (ad.z S)) (0) (ad.failed S) (ad.aC S) (0) (ad.rn S) (ad.bM S) (ad.sn S) (ad.hn S) (ad.dR S) (ad.raw S) (ad.closed S)) 1 5 6 7) 3 (amm (ad.n S)-0)) bytesOf) []=qv S.B S.n.toNat:=by
   rw[show(aQ (ad.mk (ad.at_ S) (ad.more S) (ad.over S) (ad.B (ad.z S)) (0) (ad.failed S) (ad.aC S) (0) (ad.rn S) (ad.bM S) (ad.sn S) (ad.hn S) (ad.dR S) (ad.raw S) (ad.closed S)) 1 5 6 7)=aQ (ad.z {S with n:=0}) 1 5 6 7 from rfl,Hk _ _ _ _ _ _ (by omega)]
   rfl
  refine al.uP 3 (c:=17) (b:=true) (by kernel_rfl) (by rfl) (by rfl) ?_
  refine al.join ?_
  unfold P3
  rw[hx,show am7 (qv S.B S.n.toNat).toArray=ix S from rfl]
  refine al.less [(0,.pointer (some ⟨0,0,none⟩)),(3,.string (ix S))] (by kernel_rfl) (by intro p hp;rcases amH.1 hp with rfl|hp;exact amN;rw[ank.1 hp];exact amK _ amN) ?_
  have af5:Good F ({S with n:=0},L,R,d):=⟨⟨hg.ok.len,hg.ok.runs,hg.ok.dv,hg.ok.made,hg.ok.bM,hg.ok.bS⟩,hg.old,hg.bS⟩
  have nn:=On [ix S] false 1 rfl (by omega) (fun x hx=>by rw[ank.1 hx,vC];omega) H ({S with n:=0},L,R,d) af5.ok
  obtain⟨r1,r2⟩:=HA hg hc
  have hb:gU (S,L,R,d)=eX [ix S] ({S with n:=0},L,R,d):=by unfold gU;exact if_neg g
  have HF:(eX [ix S] ({S with n:=0},L,R,d)).2.1.hn=S.hn:=by
   unfold eX
   split
   ·split
    ·unfold dS;split;rfl;split;rfl;rfl
    ·show(dS _ _ _ _).2.1.hn=_;unfold dS;split;rfl;split;rfl;rfl
   ·rfl
  unfold km
  rw[hb]at r1 r2⊢
  generalize eX [ix S] ({S with n:=0},L,R,d)=o at*
  obtain⟨e,T,K,Rr,dd⟩:=o
  dsimp only at*
  apply afB {S with n:=0} L R H d T K Rr dd e (ix S) pH hL hR hH nn
  case l2=>
   intro ge
   have ge:e≠0:=by simpa using ge
   rw[if_pos ge]
   refine QA.ret ?_
   exact afy {S with n:=0} L R H d T K Rr dd e (ix S) pH ⟨rfl,rfl⟩
  case l3=>
   intro ge
   have ge:e=0:=by simpa using ge
   rw[if_neg (fun h=>h ge)]
   refine QA.normal ?_
   exact Qf (F+(S.n.toNat+1)) T K Rr H dd (by omega) (r2 ge) (hH.trans HF.symm)
@[simp] theorem alO(l:List ap):(ak l).all af=true:=aY l
def ad.pop(S:ad):ad:={S with ro:=S.ro+1,rn:=S.rn-1}
def mb(S:ad)(H:List ap):Bool:=decide (0<S.rn)||(eE S.aC H).isSome
def eN(S:ad)(R:List Int)(H:List ap)(d:ay):Int×ad×ay:=
 if mb S H then(0,{S with more:=true},d)else((fN R d).1,{S with over:=true},(fN R d).2)
theorem Qg(S:ad)(L:List ByteArray)(R:List Int)(H:List ap)(d:ay)(hR:R.length=S.sn)(hH:H.length=S.hn)(hl:H.length≤1000000)(hr:R.length≤1000000)(hd:cw d):
 aG asz 78 [.pointer (some ⟨0,0,none⟩)] (aR S L R H d) fun r q=>r=.ret (.int .i64 (eN S R H d).1)∧q=aR (eN S R H d).2.1 L R H (eN S R H d).2.2:=by
 have pH:=aY H
 have hle:=adv S L R d H hl
 rw[hH]at hle
 have gY:=Pb S L R H d 0 R.length (by omega) hr hd
 rw[aqv,ap2,hR]at gY
 refine aG.cM (n:=ct asz 78) (by kernel_rfl) ?_
 apply afX S L R H d (kI (eE S.aC H)) (fN R d).2 (fN R d).1 pH hR hH hle gY
 case l3=>
  intro g
  have g:=of_decide_eq_true g
  have hm:mb S H=true:=by unfold mb;rw[decide_eq_true (by omega)];rfl
  unfold eN
  rw[if_pos hm]
  exact afT S L R H d (kI (eE S.aC H)) (fN R d).2 (fN R d).1 ⟨rfl,rfl⟩
 case l5=>
  intro g gk
  have gk:=of_decide_eq_true gk
  have hm:mb S H=true:=by
   unfold mb
   cases hk:eE S.aC H with
   |none=>rw[hk]at gk;exact absurd gk (by show¬(0:Int)≤-1;omega)
   |some k=>rw[Bool.or_comm];rfl
  unfold eN
  rw[if_pos hm]
  exact afU S L R H d (kI (eE S.aC H)) (fN R d).2 (fN R d).1 ⟨rfl,rfl⟩
 case l7=>
  intro g gk
  have g:=of_decide_eq_false g
  have gk:=of_decide_eq_false gk
  have hm:mb S H=false:=by
   unfold mb
   rw[decide_eq_false (by omega)]
   cases hk:eE S.aC H with
   |none=>rfl
   |some k=>rw[hk]at gk;exact absurd (show(0:Int)≤(k:Int)by omega) gk
  unfold eN
  rw[if_neg (by rw[hm];simp)]
  exact afV S L R H d (kI (eE S.aC H)) (fN R d).2 (fN R d).1 ⟨rfl,rfl⟩
end Go.Proofs.Ytnlkkgpcikkpoaa
