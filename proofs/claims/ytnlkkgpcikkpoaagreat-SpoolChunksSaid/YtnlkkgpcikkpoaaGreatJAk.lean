/- Part of the proof: HdE, Zci, Zpp, Zpq, Zoj, Zoi, Zok, Zps, Zpt, Zpu, Zpw. -/
import Derived.Test.YtnlkkgpcikkpoaaGreatJAe
import Derived.Test.YtnlkkgpcikkpoaaGreatJAj
import Derived.RangeFuncSeq
import Derived.KernelRfl
import Derived.Test.YtnlkkgpcikkpoaaGreatJAi
open Array renaming getElem?_eq_some_iff→aqe
open Bool renaming and_eq_true→apt
open ByteArray renaming mk→ap0
open Decidable renaming not_not→aq2
open Go renaming Code→apV,FuncId→apQ,Program→apu,Value→ape,World→aps
open Go.Fence renaming wide→are
open Go.IntKind renaming i64→apr,wrap→apc
open Go.Proofs.Tryz renaming prog→av9
open Go.RowKit.Below renaming heap_alloc→arK
open Go.Value renaming int→apm,string→apJ
open Go.World renaming alloc_heap_new→aut,putObj_heap_other→aqC,putObj_heap_same→asU
open Int renaming toNat→apd
open List renaming all→aph,all_eq_true→apR,drop_drop→aqu,drop_eq_getElem_cons→arb,drop_of_length_le→aqU,drop_zero→atB,getElem?_eq_getElem→apl,getElem?_eq_some_iff→app,getElem?_of_mem→aqG,length→apb,length_append→apv,length_drop→aqp,map_append→aqa,map_cons→aqb,mem_append→apN,mem_cons→apx,mem_cons_of_mem→apB,mem_cons_self→apC,mem_of_getElem?→apX,mem_of_mem_drop→ast,mem_singleton→aqd,nodup_cons→aqB,of_mem_zip→at9,range→arO,take_length→as2,take_of_length_le→aqy,toArray→ap9
open Nat renaming add_assoc→arf,add_zero→arx,beq→apw,beq_refl→aqn,ble→apG,ble_eq_true_of_le→apU,blt→apy,le_of_ble_eq_true→apL,le_refl→apI,zero_le→ap7
open Option renaming bind→aqc,getD→apD,isSome→asg
open Option.some renaming injEq→api
open UInt8 renaming ofNat→ar6
set_option linter.unusedVariables false
set_option linter.unusedSimpArgs false
set_option maxRecDepth 100000
namespace Go.Proofs.YtnlkkgpcikkpoaaGreat.Vm
open Go.RowKit
def Rb(P:apu)(gf:apQ)(cap:List ape)(K:Nat)(O:Nat→List ag)(N:Nat)(X:Nat→List ape)(Y:Nat→List ag):Prop:=
 ∀(B:Nat→Prop) (w₀:aps) (ρ:Ren) (lb:Array ape) (l:Nat) (Ex:Nat→aps→Prop) (Es:aps→Prop) (W:aps),LR ρ cap lb.toList→(∀k A A',Ex k A→A.grownBy A' none→Ex k A')→(∀A A',Es A→A.grownBy A' none→Es A')→Full ρ→
  (∀k W' (xs:Array ape),k<N→(∃ρ':Ren,Full ρ'∧(∀x,x<K→ρ' x=ρ x)∧WR P B w₀ ρ' (cm (O k++Y k)) W'∧LR ρ' (X k) xs.toList)→Ex k W'→
   YieldAt are 3 P l xs W' fun e Iy=>e=.returned (.bool true)∧St P B w₀ ρ K (O (k+1)) Iy∧Ex (k+1) Iy∨e=.returned (.bool false)∧Es Iy)→
  St P B w₀ ρ K (O 0) W→Ex 0 W→CallsIn are 4 P gf (#[.func (.yield l) #[] #[]]++lb) W fun e W'=>(∃v,e=.returned v)∧(St P B w₀ ρ K (O N) W'∧Ex N W'∨Es W')
theorem an.af7{P:apu}{n k g:Nat}{ps:List Nat}{L:List apV}{K N:Nat}{sl:List (Nat×ape)}{Q:bd→aj→Prop}{gf:apQ}{cap:List ape}{O:Nat→List ag}{X:Nat→List ape}{Y:Nat→List ag}
 (hl:M5 L=some (g,ps))(eg:∀args w,(callFunc gf args).run P w=.ok (.enter gf args) w)(cp:Rb P gf cap K O N X Y)(G:Nat→Prop)(QE:List ag→Prop)(hG:G 0)
 (hg:jC sl g=some (.func (.func gf) #[] cap.toArray))(iz:apy g n=true)(hX:∀j,j<N→(X j).length=ps.length)
 (tH:vA (Gi K) (sl.map (·.1)) (sl.map (·.2))=some sl)
 (hc:(iK (sl.map (·.1))&&sl.all (fun p=>apy p.1 n&& !(ps.any (apw p.1)))&&iK ps&&ps.all (fun p=>apy p n)&&apG k K&&apG n 1024)=true)
 (hO:∀j,j≤N→(O j).length≤262144)(hK:K≤(O 0).length)(hY:∀j,j<N→(O j++Y j).length≤262144)(af8:(((O 0).take K).drop k).all XU=true)
 (af9:∀j,j<N→G j→jU P n K (aY (M6 L)) ⟨sl++ps.zip (X j),O j++Y j⟩ fun x d1=>x=.normal∧jU P n K (aY (Gh L)) d1 fun x d2=>x=.normal∧d2.objs=O (j+1)∧G (j+1)∨x=.ret∧QE d2.objs)
 (aga:∀o,QE o→Q .ret ⟨sl,o⟩)
 (hdone:G N→an P n k L.tail ⟨sl,O N⟩ Q):an P n k L ⟨sl,O 0⟩ Q:=by
 intro Cx hn hk a w hd
 subst hn hk
 obtain⟨ρ,u,M,hd⟩:=hd
 unfold M5 at hl
 split at hl
 ·rename_i g' mh qW body rest
  simp only[api,Prod.mk.injEq]at hl
  obtain⟨rfl,rfl⟩:=hl
  simp only[apt]at hc
  obtain⟨⟨⟨⟨⟨c1,c2⟩,c3⟩,c4⟩,c5⟩,c6⟩:=hc
  have c5:=apL c5
  have c6:=apL c6
  have cf:a.tmps.size=Cx.n:=by have:=hd.fr.size;rw[this];show(gB Cx.n u sl).length=_;unfold gB;simp[lN]
  have tF:a.defers=M.map eQ:=hd.fr.rK rfl
  -- the slots
  have ca:∀q∈sl,VR ρ q.2 (a.tmps.getD q.1 undef):=fun q hq=>by
   have h8:=hd.fr.at_ q.1
   have:=apR.1 c2 q hq
   simp only[apt]at this
   rwa[Fr.xZ,vC c6 (dQ.1 this.1) (vO c1 q hq)]at h8
  have Iz:∀ρ':Ren,(∀x,x<K→ρ' x=ρ x)→∀q∈sl,VR ρ' q.2 (a.tmps.getD q.1 undef):=fun ρ' hρ q hq=>by
   obtain⟨j,v,h1,h2,h3⟩:=FJ tH q hq
   rw[List.getElem?_map]at h1 h2
   cases hj:sl[j]?with
   |none=>rw[hj]at h1;cases h1
   |some q'=>
    rw[hj]at h1 h2
    simp only[Option.map_some,api]at h1 h2
    have h4:=ca q' (apX hj)
    rw[h1,h2]at h4
    refine qE (τ:=Gi K) (ρ:=ρ) (fun y i r hy hr=>?_) 6 _ _ _ h3 h4
    unfold Gi at hy
    split at hy
    ·rename_i hb
     cases hy
     rw[hρ _ (dQ.1 hb)];exact hr
    ·cases hy
  -- the iterator
  obtain⟨f',lb,agb,agc,tl⟩:∃f' lb,a.eval (.tmp g')=.func (.func gf) f' lb∧LR ρ [] f'.toList∧LR ρ cap lb.toList:=by
   have h8:=hd.fr.at_ g'
   rw[Fr.xZ,vC c6 (dQ.1 iz) hg]at h8
   obtain⟨f',c',e1,e2,e3⟩:=h8.xr
   exact⟨f',c',e1,by simpa using e2,by simpa using e3⟩
  have agd:f'= #[]:=by apply Array.ext';rw[agc.kD]
  subst agd
  have IA:∀ρ':Ren,Full ρ'→∀i,∃u,VR ρ' u (a.tmps.getD i undef):=fun ρ' hf i=>(hd.fr.at_ i).full hf
  have age:=hd.mem.size
  refine(wpIn_wide (n:=5)).1 (wpIn_rangeFunc fun fn gJ=>?_)
  obtain⟨rec,lL⟩:∃rec:LoopState→Loop,rec=fun st=>{state:=st,pending:=none,fn,tmps:=a.tmps,params:=mh,assign:=qW,body,defers:=w.heap.size}:=⟨_,rfl⟩
  obtain⟨W1,wD⟩:∃W1,(w.alloc (.deferred (some []))).alloc (.loop (rec .ready))=W1:=⟨_,rfl⟩
  have B3:W1.heap[w.heap.size+1]?=some (.loop (rec .ready)):=by
   rw[←wD]
   have:=aut (w.alloc (.deferred (some []))) (.loop (rec .ready))
   rwa[World.size_alloc]at this
  have hold:∀D,D<w.heap.size→W1.heap[D]?=w.heap[D]? :=fun D hD=>by
   rw[←wD]
   exact(arK _ _ _ (by simp;omega)).trans (arK _ _ _ hD)
  have agf:W1.heap[w.heap.size]?=some (.deferred (some [])):=by
   rw[←wD];exact(arK _ _ _ (by simp)).trans (aut w _)
  have pM:w.grownBy W1 none:=by
   rw[←wD]
   exact⟨rfl,rfl,rfl,by simp;omega,fun D hD _=>by rw[wD];exact hold D hD⟩
  have Rc:∀D,Cx.B D→D<w.heap.size:=age
  have nB:¬Cx.B (w.heap.size+1):=fun h=>by have:=Rc _ h;omega
  have Re:¬Cx.B w.heap.size:=fun h=>by have:=Rc _ h;omega
  have sG:∀D∈M,D<w.heap.size:=fun D hD=>(aqe.1 (hd.quiet D hD)).1
  -- what the rounds keep besides
  obtain⟨Ex,uG⟩:∃Ex:Nat→aps→Prop,Ex=fun k W=>G k∧W.heap[w.heap.size+1]?=some (.loop (rec .ready))∧W.heap[w.heap.size]?=some (.deferred (some []))∧∀D∈M,W.heap[D]?=some (.deferred (some [])):=⟨_,rfl⟩
  obtain⟨Es,Cr⟩:∃Es:aps→Prop,Es=fun W=>∃o,QE o∧o.length≤262144∧St P Cx.B Cx.w₀ ρ K o W∧W.heap[w.heap.size+1]?=some (.loop {state:=.done,pending:=some .ret,fn,tmps:=a.tmps,params:=mh,assign:=qW,body,defers:=w.heap.size})∧W.heap[w.heap.size]?=some (.deferred (some []))∧∀D∈M,W.heap[D]?=some (.deferred (some [])):=⟨_,rfl⟩
  refine⟨w.heap.size+1,[eQ w.heap.size],W1,{target:=.fn (.func gf) lb,args:= #[.func (.yield (w.heap.size+1)) #[] #[]]},W1,gf, #[.func (.yield (w.heap.size+1)) #[] #[]]++lb,W1,?_,?_,?_,?_,fun _=>by omega,?_⟩
  ·rw[←wD,lL];exact run_enterLoop_outer _ _ _ _ _
  ·simp only[resolve,agb]
   simp[go_sem]
  ·intro aow aox;trivial
  ·simp[invoke,go_sem,eg]
  ·refine(cp Cx.B Cx.w₀ ρ lb (w.heap.size+1) Ex Es W1 tl ?_ ?_ hd.full ?_ ⟨ρ,hd.full,fun _ _=>rfl,hd.mem.Gk pM⟩ (by rw[uG];exact⟨hG,B3,agf,fun D hD=>(hold D (sG D hD)).trans (hd.quiet D hD)⟩)).mono ?_
   ·intro k A A' hA lg
    rw[uG]at hA⊢
    exact⟨hA.1,vP lg hA.2.1,vP lg hA.2.2.1,fun D hD=>vP lg (hA.2.2.2 D hD)⟩
   ·intro A A' hA lg
    rw[Cr]at hA⊢
    obtain⟨o,q1,q2,⟨ρ',q3,q4,q5⟩,q6,q7,q8⟩:=hA
    exact⟨o,q1,q2,⟨ρ',q3,q4,q5.Gk lg⟩,vP lg q6,vP lg q7,fun D hD=>vP lg (q8 D hD)⟩
   ·rintro j W xs hj ⟨ρ1,rO,vL,gQ,fQ⟩ hE
    rw[uG]at hE
    obtain⟨agh,p9,wE,sF⟩:=hE
    have kg:mh.toList.length=xs.toList.length:=by rw[←hX j hj,fQ.len]
    have hy:=run_yield (P:=P) (args:=xs) p9 (by rw[lL];have:=kg;simp at this;exact this.symm)
    refine⟨_,_,_,_,hy,roundIn_of_wpIn (by rw[lL];exact gJ) ?_⟩
    rw[lL]at p9⊢
    dsimp only
    -- the frame of a round
    obtain⟨t1,tG⟩:∃t1,(mh.zip xs).foldl (fun tmps (x:Nat×ape)=>tmps.setIfInBounds x.1 x.2) a.tmps=t1:=⟨_,rfl⟩
    have mC:t1=(mh.toList.zip xs.toList).foldl (fun t p=>t.setIfInBounds p.1 p.2) a.tmps:=by
     rw[←tG,←Array.foldl_toList,Array.toList_zip]
    have agi:(mh.zip xs).foldl (fun tmps (t,a)=>tmps.setIfInBounds t a) a.tmps=t1:=tG
    rw[agi]
    have hM:∀V:aps,V.heap[w.heap.size+1]?=W.heap[w.heap.size+1]? ∨(∃r,V.heap[w.heap.size+1]?=some (.loop r))→V.heap[w.heap.size]?=some (.deferred (some []))→(∀D∈M,V.heap[D]?=some (.deferred (some [])))→
     ∀D∈(w.heap.size+1)::w.heap.size::M,∃o,V.heap[D]?=some o∧rM o=true:=by
     intro V h1 h2 h3 D hD
     rcases apx.1 hD with rfl|hD
     ·rcases h1 with h1|⟨r,h1⟩
      ·exact⟨_,h1.trans p9,rfl⟩
      ·exact⟨_,h1,rfl⟩
     ·rcases apx.1 hD with rfl|hD
      ·exact⟨_,h2,rfl⟩
      ·exact⟨_,h3 D hD,rfl⟩
    have Rf:=hM W (.inl rfl) wE sF
    have lk:∀x,x<K→∃r,ρ1 x=some r:=fun x hx=>by
     rw[vL x hx]
     by_cases pC:x<Cx.k
     ·rw[hd.kept x pC];exact Cx.named x pC
     have aoy:=hO 0 (ap7 _)
     have je:small x=true:=gX.2 (by have:(2:Nat)^18=262144:=rfl;omega)
     have ho:(O 0)[x]?=some (O 0)[x]:=apl (by omega)
     refine hd.mem.named x (O 0)[x] (by rw[cx je];exact ho) fun e=>?_
     have:=apR.1 af8 _ (apX (i:=x-Cx.k) (by rw[List.getElem?_drop,List.getElem?_take,show Cx.k+(x-Cx.k)=x by omega,if_pos hx];exact ho))
     rw[e]at this
     cases this
    have iL:(O j++Y j).length≤262144:=hY j hj
    obtain⟨u1,vg⟩:∃u1:Nat→ape,FR ρ1 ((eH Cx.n u1 (sl++mh.toList.zip (X j))).dH (([]:List Nat).map eQ)) {tmps:=t1,defers:=[]}:=by
     refine FR.make (b:=[]) (by rw[mC];show((mh.toList.zip xs.toList).foldl _ a.tmps).size=_;rw[M7];exact cf) c6 rfl (fun i=>?_) fun q hq=>?_
     ·show∃u,VR ρ1 u (t1.getD i undef)
      rw[mC]
      refine M8 _ _ (fun q hq=>?_) (IA ρ1 rO) i
      obtain⟨i',fj⟩:=aqG (at9 hq).2
      have hlt:i'<(X j).length:=by rw[fQ.len];exact(app.1 fj).1
      exact⟨_,fQ.at_ i' _ _ (apl hlt) fj⟩
     ·show q.1<Cx.n∧VR ρ1 q.2 (t1.getD q.1 undef)
      rcases apN.1 hq with hq|hq
      ·have h2:=apR.1 c2 q hq
       simp only[apt,Bool.not_eq_true',List.any_eq_false]at h2
       refine⟨dQ.1 h2.1,?_⟩
       rw[mC,Gj _ _ fun q' agj e=>?_]
       ·exact Iz ρ1 vL q hq
       ·have:=h2.2 q'.1 (at9 agj).1
        rw[e,aqn]at this
        exact this rfl
      ·obtain⟨i',fj⟩:=aqG hq
       have hz:mh.toList[i']?=some q.1∧(X j)[i']?=some q.2:=by
        have:=List.getElem?_zip_eq_some.1 fj
        exact this
       have hp:=apR.1 c4 q.1 (apX hz.1)
       refine⟨dQ.1 hp,?_⟩
       obtain⟨v',fY,agk⟩:=fQ.get hz.2
       rw[mC,M9 _ _ _ c3 kg i' q.1 v' hz.1 fY (by rw[cf];exact dQ.1 hp)]
       exact agk
    have agl:Holds P ⟨fun D=>Cx.B D∨D∈(w.heap.size+1)::w.heap.size::M,W,K,ρ1,Cx.n,lk⟩ ⟨sl++mh.toList.zip (X j),O j++Y j⟩ {tmps:=t1,defers:=[]} W:=
     ⟨ρ1,u1,[],rO,fun _ _=>rfl,vg,gQ.Aw Rf,iL,(fun D hD=>by cases hD),.nil,fun D hD=>by cases hD⟩
    have agm:=af9 j hj agh ⟨fun D=>Cx.B D∨D∈(w.heap.size+1)::w.heap.size::M,W,K,ρ1,Cx.n,lk⟩ rfl rfl (some (w.heap.size+1)) _ W agl
    refine wpIn_mono (Na (m:=3) (M0 agm)) fun e a2 W2 he=>?_
    obtain⟨x,d1,⟨rfl,agn⟩,dF,ρ2,u2,M2,kp⟩:=he
    cases dF
    have kB:∀D,D∈(w.heap.size+1)::w.heap.size::M→W2.heap[D]?=W.heap[D]? :=fun D hD=>kp.mem.Ay hD
    have jP:W2.heap[w.heap.size+1]?=some (.loop {state:=.ready,pending:=none,fn,tmps:=a.tmps,params:=mh,assign:=qW,body,defers:=w.heap.size}):=(kB _ apC).trans p9
    refine⟨_,run_beginRound jP rfl,?_⟩
    obtain⟨W3,Cs⟩:∃W3,W2.putObj (w.heap.size+1) (.loop {state:=.busy,pending:=none,fn,tmps:=a.tmps,params:=mh,assign:=qW,body,defers:=w.heap.size})=W3:=⟨_,rfl⟩
    have dG:=kp.mem.Ax gQ.env gQ.below gQ.size Rf
    have nq:WR P Cx.B Cx.w₀ ρ2 (cm d1.objs) W3:=by rw[←Cs];exact dG.vE nB jP rfl _
    have xH:W3.heap[w.heap.size+1]?=some (.loop {state:=.busy,pending:=none,fn,tmps:=a.tmps,params:=mh,assign:=qW,body,defers:=w.heap.size}):=by
     rw[←Cs];exact asU (aqe.1 jP).1
    have IB:∀D,D≠w.heap.size+1→W3.heap[D]?=W2.heap[D]? :=fun D hD=>by rw[←Cs];exact aqC hD
    have IC:W3.heap[w.heap.size]?=some (.deferred (some [])):=(IB _ (by omega)).trans ((kB _ (apB _ apC)).trans wE)
    have IE:∀D∈M,W3.heap[D]?=some (.deferred (some [])):=fun D hD=>(IB _ (by have:=sG D hD;omega)).trans ((kB _ (apB _ (apB _ hD))).trans (sF D hD))
    have Rg:=hM W3 (.inr ⟨_,xH⟩) IC IE
    have ago:∀D∈M2,D∉(w.heap.size+1)::w.heap.size::M:=fun D hD fk=>kp.outside D hD (.inr fk)
    have agp:Holds P ⟨fun D=>Cx.B D∨D∈(w.heap.size+1)::w.heap.size::M,W3,K,ρ1,Cx.n,lk⟩ d1 a2 W3:=
     ⟨ρ2,u2,M2,kp.full,kp.kept,kp.fr,nq.Aw Rg,kp.bQ,fun D hD=>(IB D (fun e=>ago D hD (e▸apC))).trans (kp.quiet D hD),kp.fX,kp.outside⟩
    have agq:=agn ⟨fun D=>Cx.B D∨D∈(w.heap.size+1)::w.heap.size::M,W3,K,ρ1,Cx.n,lk⟩ rfl rfl (some (w.heap.size+1)) a2 W3 agp
    rw[Cs]
    refine wpIn_mono (Na (m:=3) (M0 agq)) fun e a3 W4 he=>?_
    obtain⟨x,d2,jR,dF,ρ4,u4,M4,uH⟩:=he
    have y4:∀D,D∈(w.heap.size+1)::w.heap.size::M→W4.heap[D]?=W3.heap[D]? :=fun D hD=>uH.mem.Ay hD
    have wF:=(y4 _ apC).trans xH
    have BF:=uH.mem.Ax nq.env nq.below nq.size Rg
    rcases jR with⟨rfl,nO,agr⟩|⟨rfl,nO⟩
    ·cases dF
     rw[nO]at BF
     refine⟨_,_,run_endRound (P:=P) none wF,.inl ⟨rfl,⟨ρ4,uH.full,fun x hx=>(uH.kept x hx).trans (vL x hx),BF.vE nB wF rfl _⟩,?_⟩⟩
     rw[uG,lL]
     refine⟨agr,asU (aqe.1 wF).1,?_,fun D hD=>?_⟩
     ·exact(aqC (by omega)).trans ((y4 _ (apB _ apC)).trans IC)
     ·exact(aqC (by have:=sG D hD;omega)).trans ((y4 _ (apB _ (apB _ hD))).trans (IE D hD))
    ·cases dF
     refine⟨_,_,run_endRound (P:=P) (some .ret) wF,.inr ⟨rfl,?_⟩⟩
     rw[Cr]
     refine⟨_,nO,uH.bQ,⟨ρ4,uH.full,fun x hx=>(uH.kept x hx).trans (vL x hx),BF.vE nB wF rfl _⟩,asU (aqe.1 wF).1,?_,fun D hD=>?_⟩
     ·exact(aqC (by omega)).trans ((y4 _ (apB _ apC)).trans IC)
     ·exact(aqC (by have:=sG D hD;omega)).trans ((y4 _ (apB _ (apB _ hD))).trans (IE D hD))
   ·rintro e Wf ⟨⟨v,rfl⟩,⟨⟨ρf,uv,jf,sH⟩,hE⟩|hS⟩
    ·rw[uG]at hE
     obtain⟨ags,p9,wE,sF⟩:=hE
     have tB:=run_endLoop (P:=P) p9 (by rw[lL];simp)
     rw[lL]at tB
     refine⟨none,_,tB,?_⟩
     have qX:=sH.vE nB p9 rfl (.loop {state:=.exhausted,pending:=none,fn,tmps:=a.tmps,params:=mh,assign:=qW,body,defers:=w.heap.size})
     obtain⟨uf,IG⟩:∃uf:Nat→ape,FR ρf ((eH Cx.n uf sl).dH ((w.heap.size::M).map eQ)) {a with defers:=[eQ w.heap.size]++a.defers}:=by
      refine FR.make (a:={a with defers:=[eQ w.heap.size]++a.defers}) (b:=(w.heap.size::M).map eQ) cf c6 (by show[eQ w.heap.size]++a.defers=_;rw[tF];rfl) (IA ρf uv) fun q hq=>?_
      have h2:=apR.1 c2 q hq
      simp only[apt]at h2
      exact⟨dQ.1 h2.1,Iz ρf jf q hq⟩
     refine hdone ags Cx rfl rfl _ _ ⟨ρf,uf,w.heap.size::M,uv,fun x hx=>(jf x (by omega)).trans (hd.kept x hx),IG,qX,?_,fun D hD=>?_,?_,fun D hD=>?_⟩
     ·show(O N).length≤262144
      exact hO N (apI _)
     ·rcases apx.1 hD with rfl|hD
      ·exact(aqC (by omega)).trans wE
      ·exact(aqC (by have:=sG D hD;omega)).trans (sF D hD)
     ·exact aqB.2 ⟨fun h=>by have:=sG _ h;omega,hd.fX⟩
     ·rcases apx.1 hD with rfl|hD
      ·exact Re
      ·exact hd.outside D hD
    ·rw[Cr]at hS
     obtain⟨o,ho,ie,⟨ρf,uv,jf,sH⟩,p9,wE,sF⟩:=hS
     have tB:=run_endLoop (P:=P) p9 (by simp)
     refine⟨some .ret,_,tB,wpIn_ret ?_⟩
     have qX:=sH.vE nB p9 rfl (.loop {state:=.exhausted,pending:=some .ret,fn,tmps:=a.tmps,params:=mh,assign:=qW,body,defers:=w.heap.size})
     obtain⟨uf,IG⟩:∃uf:Nat→ape,FR ρf ((eH Cx.n uf sl).dH ((w.heap.size::M).map eQ)) {a with defers:=[eQ w.heap.size]++a.defers}:=by
      refine FR.make (a:={a with defers:=[eQ w.heap.size]++a.defers}) (b:=(w.heap.size::M).map eQ) cf c6 (by show[eQ w.heap.size]++a.defers=_;rw[tF];rfl) (IA ρf uv) fun q hq=>?_
      have h2:=apR.1 c2 q hq
      simp only[apt]at h2
      exact⟨dQ.1 h2.1,Iz ρf jf q hq⟩
     refine⟨.ret,⟨sl,o⟩,aga o ho,.ret,ρf,uf,w.heap.size::M,uv,fun x hx=>(jf x (by omega)).trans (hd.kept x hx),IG,qX,?_,fun D hD=>?_,?_,fun D hD=>?_⟩
     ·exact ie
     ·rcases apx.1 hD with rfl|hD
      ·exact(aqC (by omega)).trans wE
      ·exact(aqC (by have:=sG D hD;omega)).trans (sF D hD)
     ·exact aqB.2 ⟨fun h=>by have:=sG _ h;omega,hd.fX⟩
     ·rcases apx.1 hD with rfl|hD
      ·exact Re
      ·exact hd.outside D hD
 ·cases hl
end Go.Proofs.YtnlkkgpcikkpoaaGreat.Vm
namespace Go.Proofs.YtnlkkgpcikkpoaaGreat
open Go Vm Go.RowKit
theorem cell_of{P:apu}{B:Nat→Prop}{w₀ w:aps}{ρ:Vm.Ren}{O:List ag}{xb:Nat}{v:ape}{el:TypeId}{r:Vm.bN}(h:WR P B w₀ ρ (cm O) w)(hl:O.length≤262144)(ho:O[xb]?=some (.cells [v] el false))(hr:ρ xb=some r):∃v',w.cell? ⟨r.aI,r.sh,none⟩=some v'∧VR ρ v v':=by
 have hx:xb<O.length:=(app.1 ho).1
 have hm:cm O xb=some (.cells [v] el false):=by rw[cx (gX.2 (by have:(2:Nat)^18=262144:=rfl;omega))];exact ho
 obtain⟨o',h1,h2,_⟩:=h.live xb _ r hm hr (om (by simp))
 cases h2 with
 |cells _ _ bU _ c' fr hp vo he hz hf hc=>
  obtain⟨v',q1,q2⟩:=hc 0 v rfl
  refine⟨v',?_,q2⟩
  simp only[World.cell?,h1]
  exact q1
theorem Vm.agt{F:Fence}{m:Nat}{P:apu}{l:Nat}{args:Array ape}{W:aps}{R R':Ending→aps→Prop}(h:YieldAt F m P l args W R)(hr:∀e w,R e w→R' e w):YieldAt F m P l args W R':=by
 obtain⟨fn,tmps,qW,body,h1,h2⟩:=h
 exact⟨fn,tmps,qW,body,h1,h2.mono hr⟩
theorem agu{K xb bs bn N:Nat}{O:Nat→List ag}(hN:N≤1000000)(agv:0<N)(hK:K<262144){el1 el2:TypeId}
 (hO:∀j,j≤(N+2)/3→(O j).length≤262144)(qn:bs<K)(agw:bn<K)(hs:∀j,j≤(N+2)/3→(O j)[bs]?=some (.cells [.slice (some ⟨xb,0,none⟩) N N] el1 false))(hn:∀j,j≤(N+2)/3→(O j)[bn]?=some (.cells [.int .i64 3] el2 false))(Rh:xb<K):
 Rb av9 124 [.pointer (some ⟨bs,0,none⟩),.pointer (some ⟨bn,0,none⟩)] K O ((N+2)/3)
  (fun j=>[.slice (some ⟨xb,3*j,none⟩) (min 3 (N-3*j)) (min 3 (N-3*j))]) (fun _=>[]):=by
 intro B w₀ ρ lb l Ex Es W tl uG Cr gK hY Ri hE
 obtain⟨v1,l1,e1,e2,e3⟩:=tl.gI
 obtain⟨v2,l2,e4,e5,e6⟩:=e3.gI
 rw[e6.kD]at e4
 obtain⟨r1,F8,rfl⟩:=e2.kE
 obtain⟨r2,eO,rfl⟩:=e5.kE
 have agx:lb= #[.pointer (some ⟨r1.aI,r1.sh+0,none⟩),.pointer (some ⟨r2.aI,r2.sh+0,none⟩)]:=by rw[←Array.toArray_toList (xs:=lb),e1,e4]
 subst agx
 rw[arx,arx]
 have eN:∀j W,j≤(N+2)/3→St av9 B w₀ ρ K (O j) W→∃r,ρ xb=some r∧(∃cap,N≤cap∧W.cell? ⟨r1.aI,r1.sh,none⟩=some (.slice (some ⟨r.aI,r.sh,none⟩) N cap))∧W.cell? ⟨r2.aI,r2.sh,none⟩=some (.int .i64 3):=fun j W hj ⟨ρ',_,hk,hw⟩=>by
  obtain⟨u1,q1,q2⟩:=cell_of hw (hO j hj) (hs j hj) ((hk bs qn).trans F8)
  obtain⟨u2,q3,q4⟩:=cell_of hw (hO j hj) (hn j hj) ((hk bn agw).trans eO)
  have:=q4.jL
  subst this
  cases q2 with
  |bG _ h=>cases h
  |eh=>exact absurd agv (by omega)
  |sl _ _ _ _ bw q hq hc=>
   refine⟨q,(hk xb Rh).symm.trans hq,⟨bw,?_,q1⟩,q3⟩
   unfold DB at hc
   omega
 obtain⟨r,hr,_,_⟩:=eN 0 W (ap7 _) Ri
 refine(af5 r1.aI r1.sh r2.aI r2.sh r.aI r.sh N hN 4 (by omega) l (fun j W=>j≤(N+2)/3∧St av9 B w₀ ρ K (O j) W∧Ex j W) Es W ?_ ?_ ?_ ⟨ap7 _,Ri,hE⟩).mono ?_
 ·rintro j A ⟨hj,hA,_⟩
  obtain⟨r',vq,h1,h2⟩:=eN j A hj hA
  rw[hr]at vq
  cases vq
  exact⟨h1,h2⟩
 ·rintro j W0 hj ⟨abN,⟨ρ',a1,a2,a3⟩,hA⟩
  have hx:=hY j W0 #[.slice (some ⟨r.aI,r.sh+3*j,none⟩) (min 3 (N-3*j)) (min 3 (N-3*j))] (by omega) ⟨ρ',a1,a2,by rw[List.append_nil];exact a3,LR.cons (.sl _ _ _ _ _ r ((a2 xb Rh).trans hr) (.inl rfl)) (LR.nil _)⟩ hA
  exact Vm.agt hx fun e W' h=>h.imp (fun⟨k1,k2,k3⟩=>⟨k1,by omega,k2,k3⟩) id
 ·rintro j A ⟨hj,⟨ρ',a1,a2,a3⟩,hA⟩
  have hg:A.grownBy A.drew none:=⟨rfl,by simp,rfl,apI _,fun k hk _=>rfl⟩
  exact⟨hj,⟨ρ',a1,a2,a3.Gk hg⟩,uG _ _ _ hA hg⟩
 ·rintro e W' ⟨hv,⟨_,h1,h2⟩|h⟩
  ·exact⟨hv,.inl ⟨h1,h2⟩⟩
  ·exact⟨hv,.inr h⟩
noncomputable section
def agy(S:ad)(L:List ByteArray)(R:List Int)(H:List au)(d:ay)(o n:Nat)(no e:Int)(dd:ay):List (apQ×Sum):=[(102,Sum.one (fun _ _=>some [0,1,2,10,4]) [ao 0,dx 3 o n n] (aO S L R H d) (.ret (.tuple #[aa no,aa e])) (aO S L R H dd))]
theorem agz(S:ad)(L:List ByteArray)(R:List Int)(H:List au)(d:ay)(o n:Nat)(no e:Int)(dd:ay)(uI:aE av9 102 [ao 0,dx 3 o n n] (aO S L R H d) fun r q=>r=.ret (.tuple #[aa no,aa e])∧q=aO S L R H dd):dw av9 (dM av9 (dN (agy S L R H d o n no e dd)) 50 40):=
 dR du mixed (ed (.cons (bp.one uI) .nil)) 50 40
noncomputable def Ct:List apV:=aY (dz av9 75)
open Tree renaming aN→mN,dj→mF,eT→mL,fz→mQ,dB→mR,fH→mE
noncomputable abbrev IH:List apV:=(aY (inner (Ct.drop 3)))
abbrev agA:=fun S L R H d=>(⟨[(1,ao 5),(2,ao 6),(3,ao 7),(11,.func (.func 124) #[] #[ao 8,ao 9])],[ab (aJ S 1 2 10 4) 89,.abs d,ab (ap L) 9,.dead,ab (ak H) 114,ab [ao 0] 37,ab [aa 0] 26,ab [b8] 25,ab [ah 10 (ad.sn S)] 25,ab [aa 3] 3,ab (aq R) 3]⟩:aj)
abbrev agB:=fun S L R H d=>(⟨[(0,ao 0)],[ab (aJ S 1 2 5 4) 89,.abs d,ab (ap L) 9,.dead,ab (ak H) 114,ab (aq R) 3]⟩:aj)
theorem agC(S:ad)(L R H d)(pH:(ak H).all af=true)(hR:(apb R)=S.sn){Q:aQ}(l3:an av9 39 5 (Ct.drop 3) (agA S L R H d) Q):an av9 39 5 Ct (agB S L R H d) Q:=
 aS bo 3 (.leaf [1,2,3,11] [0,1,2,3,4,6,7,8,9,10,5] [2,4,5]) (fun u=>by kernel_rfl) (mN (aZ L) (mN (aU H) (mN (aG R) (mQ l3))))
abbrev agD:=fun S L R H d nx (o n:Nat)=>(⟨[(1,ao 5),(2,ao 6),(3,ao 7),(4,dx 10 o n n)],[ab (aJ S 1 2 10 4) 89,.abs d,ab (ap L) 9,.dead,ab (ak H) 114,ab [ao 0] 37,ab [aa 0] 26,ab [ah 11 (apb nx)] 25,ab [ah 10 (ad.sn S)] 25,ab [aa 3] 3,ab (aq R) 3,ab (aq nx) 3]⟩:aj)
theorem agE(S:ad)(L R H d nx)(o n:Nat)(pH:(ak H).all af=true){Q:aQ}(l4:Q .normal (agD S L R H d nx o n)):jU av9 39 11 (aY (M6 IH)) ⟨[(1,ao 5),(2,ao 6),(3,ao 7),(11,.func (.func 124) #[] #[ao 8,ao 9]),(12,dx 10 o n n)],[ab (aJ S 1 2 10 4) 89,.abs d,ab (ap L) 9,.dead,ab (ak H) 114,ab [ao 0] 37,ab [aa 0] 26,ab [ah 11 (apb nx)] 25,ab [ah 10 S.sn] 25,ab [aa 3] 3,ab (aq R) 3,ab (aq nx) 3]⟩ Q:=
 jU.tree du mixed bo (lf:=50) (m:=1000) (s:=(.leaf [1,2,3,4] [0,1,2,3,4,5,6,7,8,9,10,11] [2,4,10,11])) (fun u=>by kernel_rfl) (mN (aZ L) (mN (aU H) (mN (aG R) (mN (aG nx) (mQ (jU.done (by kernel_rfl) l4))))))
abbrev agF:=fun S L R H d nx (o n:Nat)=>(⟨[],[ab (aJ S 1 2 10 4) 89,.abs d,ab (ap L) 9,.dead,ab (ak H) 114,ab [ao 0] 37,ab [aa 0] 26,ab [ah 11 (apb nx+1)] 25,ab [ah 10 (ad.sn S)] 25,ab [aa 3] 3,ab (aq R) 3,ab (aq nx++[aa (av (aq R) (o+0))]) 3]⟩:aj)
theorem agG(S:ad)(L R H d nx)(o n:Nat)(pH:(ak H).all af=true)(hR:(apb R)=S.sn)(h0:n=1)(h1:o<(apb R))(h2:(apb nx)≤1000000){Q:aQ}(n0:(cA apr (aq R) (o+0))=true)(n1:(apG (apb nx+1) 1000000)=true)(aR:aph (ap L) af=true)(be:aph (ak H) af=true)(bB:aph (aq R) af=true)(l5:Q .normal (agF S L R H d nx o n)):jU av9 39 11 (aY (Gh IH)) ⟨[(1,ao 5),(2,ao 6),(3,ao 7),(4,dx 10 o n n)],[ab (aJ S 1 2 10 4) 89,.abs d,ab (ap L) 9,.dead,ab (ak H) 114,ab [ao 0] 37,ab [aa 0] 26,ab [ah 11 (apb nx)] 25,ab [ah 10 S.sn] 25,ab [aa 3] 3,ab (aq R) 3,ab (aq nx) 3]⟩ Q:=
 jU.tree du mixed bo (lf:=50) (m:=1000) (s:=(aA [3,2,3,0,1,0,3,5,1] (.leaf [] [0,1,2,3,4,5,6,7,8,9,10,13] [2,4,10,13]))) (fun u=>by kernel_rfl) (mN (decide_eq_true (by omega):((↑n:Int)==1)=true) (mN (show(apy 0 n)=true by simp at pH hR h0 h1 h2⊢ <;>omega) (mN n0 (mN n1 (mN (ln _:(full (apb nx) (apb nx))=true) (mN (show(apw (0+apb nx*1) (apb (aq nx)))=true by simp) (mN (aZ L) (mN (aU H) (mN (aG R) (mN (show(aph (aq nx++[aa (av (aq R) (o+0))]) af)=true by simp) (mQ (jU.done (by kernel_rfl) l5))))))))))))
abbrev agH:=fun S L R H (d:ay) nx (o n:Nat) (no e:Int) dd=>(⟨[(2,ao 6)],[ab (aJ S 1 2 10 4) 89,.abs dd,ab (ap L) 9,.dead,ab (ak H) 114,ab [ao 0] 37,ab [aa e] 26,ab [ah 11 (apb nx)] 25,ab [ah 10 (ad.sn S)] 25,ab [aa 3] 3,ab (aq R) 3,ab (aq nx) 3]⟩:aj)
abbrev agI:=fun S L R H (d:ay) nx (o n:Nat) (no e:Int) dd=>(⟨[],[ab (aJ S 1 2 10 4) 89,.abs dd,ab (ap L) 9,.dead,ab (ak H) 114,ab [ao 0] 37,ab [aa 0] 26,ab [ah 11 (apb nx+1)] 25,ab [ah 10 (ad.sn S)] 25,ab [aa 3] 3,ab (aq R) 3,ab (aq nx++[aa no]) 3]⟩:aj)
theorem agJ(S:ad)(L R H d nx)(o n:Nat)(no e:Int)(dd:ay)(pH:(ak H).all af=true)(hR:(apb R)=S.sn)(uI:aE av9 102 [ao 0,dx 3 o n n] (aO S L R H d) fun r q=>r=.ret (.tuple #[aa no,aa e])∧q=aO S L R H dd)(h0:n≠1)(h1:(apb nx)≤1000000){Q:aQ}(n0:(eD [ao 0,dx 3 o n n] [ao 0,dx 3 o n n] [ab (aJ S 1 2 3 4) 89,ag.abs d,ab (ap L) 9,ab (aq R) 3,ab (ak H) 114] (aO S L R H d))=true)(aR:aph (ap L) af=true)(be:aph (ak H) af=true)(bB:aph (aq R) af=true)(br:aph (aq nx) af=true)(l5:(e != 0)=true→Q .ret (agH S L R H d nx o n no e dd))(n6:(e != 0)=false→(apG (apb nx+1) 1000000)=true)(l7:(e != 0)=false→Q .normal (agI S L R H d nx o n no e dd)):jU av9 39 11 (aY (Gh IH)) ⟨[(1,ao 5),(2,ao 6),(3,ao 7),(4,dx 10 o n n)],[ab (aJ S 1 2 10 4) 89,.abs d,ab (ap L) 9,.dead,ab (ak H) 114,ab [ao 0] 37,ab [aa 0] 26,ab [ah 11 (apb nx)] 25,ab [ah 10 S.sn] 25,ab [aa 3] 3,ab (aq R) 3,ab (aq nx) 3]⟩ Q:=
 jU.tree du mixed (agz S L R H d o n no e dd uI) (lf:=50) (m:=1000) (s:=(aA [2,5,1,1,1,1,1,1] (.fork 0 (.leaf [2] [0,1,2,3,4,5,6,7,8,9,10,11] [2,4,10,11]) (aA [2,3,5,1] (.leaf [] [0,1,2,3,4,5,6,7,8,9,10,13] [2,4,10,13]))))) (fun u=>by kernel_rfl) (mN (decide_eq_false (by omega):((↑n:Int)==1)=false) (aM L R H (mN n0 (aM L R H (mF (c:=e != 0) (fun h0=>(mN (aZ L) (mN (aU H) (mN (aG R) (mN (aG nx) (mR (l5 h0))))))) (fun h0=>(mN (n6 h0) (mN (ln _:(full (apb nx) (apb nx))=true) (mN (show(apw (0+apb nx*1) (apb (aq nx)))=true by simp) (mN (aZ L) (mN (aU H) (mN (aG R) (mN (show(aph (aq nx++[aa no]) af)=true by simp) (mQ (jU.done (by kernel_rfl) (l7 h0))))))))))))))))
abbrev Rj:=fun S L (R:List Int) H d nx=>(⟨[(2,ao 5)],[ab (aJ (ad.mk (ad.at_ S) (ad.more S) (ad.bq S) (ad.B S) (ad.n S) (ad.failed S) (ad.aB S) (ad.ro S) (ad.rn S) (ad.bH S) (apb nx) (ad.hn S) (ad.ee S) (ad.raw S) (ad.closed S)) 1 2 6 4) 89,.abs d,ab (ap L) 9,.dead,ab (ak H) 114,ab [aa 0] 26,ab (aq nx) 3]⟩:aj)
theorem agK(S L R H d nx){Q:bg}(hq:Q (.ret (aa 0)) [ab (aJ (ad.mk (ad.at_ S) (ad.more S) (ad.bq S) (ad.B S) (ad.n S) (ad.failed S) (ad.aB S) (ad.ro S) (ad.rn S) (ad.bH S) (apb nx) (ad.hn S) (ad.ee S) (ad.raw S) (ad.closed S)) 1 2 5 4) 89,.abs d,ab (ap L) 9,.dead,ab (ak H) 114,ab (aq nx) 3]):aF av9 75 39 5 Q .ret (Rj S L R H d nx):=aF.ret (vs:=[aa 0]) (l:=[5]) (bs:=[0,1,2,3,4,6]) (pl:=[2,4,6]) (q:=[ap L,ak H,aq nx]) (fun u=>by kernel_rfl) (by kernel_rfl) (aC (aZ L) (aC (aU H) (aC (aG nx) bc))) hq
abbrev agL:=fun(S:ad) L R H d nx=>(⟨[(1,ao 5),(2,ao 6),(3,ao 7),(11,.func (.func 124) #[] #[ao 8,ao 9])],[ab (aJ S 1 2 10 4) 89,.abs d,ab (ap L) 9,.dead,ab (ak H) 114,ab [ao 0] 37,ab [aa 0] 26,ab [ah 11 (apb nx)] 25,ab [ah 10 S.sn] 25,ab [aa 3] 3,ab (aq R) 3,ab (aq nx) 3]⟩:aj)
theorem agM(S:ad)(L R H d nx)(pH:(ak H).all af=true)(hR:(apb R)=S.sn){Q:aQ}(l3:Q .ret (Rj S L R H d nx)):an av9 39 5 (Ct.drop 4) (agL S L R H d nx) Q:=
 aS bo 1000 (.leaf [2] [0,1,2,3,4,6,11] [2,4,11]) (fun u=>by kernel_rfl) (mN (aZ L) (mN (aU H) (mN (aG nx) (mR l3))))
end
def gM(R:List Int)(j:Nat):List Int:=(R.drop (3*j)).take (min 3 (R.length-3*j))
noncomputable def j5(f:Bool)(R:List Int)(j:Nat)(s:List Int×ay):Int×List Int×ay:=
 if min 3 (R.length-3*j)=1 then(0,s.1++gM R j,s.2)else((g9 f (gM R j) s.2).2.1,s.1++[(g9 f (gM R j) s.2).1],(g9 f (gM R j) s.2).2.2)
noncomputable def eZ(f:Bool)(R:List Int)(d:ay):Nat→List Int×ay
 |0=>([],d)
 |j+1=>(j5 f R j (eZ f R d j)).2
noncomputable def qa(f:Bool)(R:List Int):Nat→Nat→List Int×ay→Int×List Int×ay
 |0,_,s=>(0,s)
 |n+1,j,s=>if(j5 f R j s).1≠0 then j5 f R j s else qa f R n (j+1) (j5 f R j s).2
noncomputable def fU(f:Bool)(R:List Int)(d:ay):Int×List Int×ay:=qa f R ((R.length+2)/3) 0 ([],d)
theorem Rk(R:List Int)(j:Nat):gM R j=(R.drop (3*j)).take 3:=by
 unfold gM
 by_cases h:3≤R.length-3*j
 ·rw[show min 3 (R.length-3*j)=3 by omega]
 ·rw[show min 3 (R.length-3*j)=R.length-3*j by omega,aqy (by rw[aqp];omega),aqy (by rw[aqp];omega)]
theorem agN(R:List Int)(j:Nat):(gM R j).length=min 3 (R.length-3*j):=by
 unfold gM;rw[List.length_take,aqp];omega
theorem Rl(R:List Int)(j:Nat):R.drop (3*j)=gM R j++R.drop (3*(j+1)):=by
 rw[Rk]
 conv=>lhs;rw[←List.take_append_drop 3 (R.drop (3*j))]
 rw[aqu,show 3*j+3=3*(j+1)by omega]
theorem agO{R:List Int}{j:Nat}{r:Int}(h:r∈gM R j):r∈R:=ast (List.mem_of_mem_take h)
structure mj(d0:ay)(R:List Int)(j:Nat)(s:List Int×ay):Prop where
 cF:cj s.2
 made:d0.made≤s.2.made
 len:s.1.length=j
 old:∀r∈s.1,r≤s.2.made
 bQ:eK s.2 s.1+eK s.2 (R.drop (3*j))≤eK d0 R
theorem Rm{d d':ay}{l:List Int}(h:∀r∈l,b7 d' r≤b7 d r):eK d' l≤eK d l:=by
 induction l with
 |nil=>exact apI _
 |cons x l ih=>
  have h1:=h x apC
  have h2:=ih fun y hy=>h y (apB _ hy)
  unfold eK
  omega
theorem mj.zero{d:ay}{R:List Int}(h:jo d R):mj d R 0 ([],d):=
 ⟨h.cF,apI _,rfl,(fun _ h=>by cases h),by show 0+eK d R≤_;omega⟩
theorem mj.runs{d0:ay}{R:List Int}{j:Nat}{s:List Int×ay}(h:mj d0 R j s)(h0:jo d0 R):jo s.2 (gM R j):=by
 refine⟨h.cF,fun r hr=>?_,?_⟩
 ·have:=h0.old r (agO hr)
  have:=h.made
  omega
 ·have h1:=h.bQ
  have h2:=h0.bQ
  rw[Rl,wx]at h1
  omega
theorem mj.next(f:Bool){d0:ay}{R:List Int}{j:Nat}{s:List Int×ay}(h:mj d0 R j s)(h0:jo d0 R)(hj:3*j<R.length)(he:(j5 f R j s).1=0):mj d0 R (j+1) (j5 f R j s).2:=by
 have xw:=h.runs h0
 have hm:=Ql f xw
 have eN:=agN R j
 have hold:∀r∈R.drop (3*(j+1)),r≤s.2.made:=fun r hr=>by
  have:=h0.old r (ast hr)
  have:=h.made
  omega
 have iL:=h.bQ
 rw[Rl,wx]at iL
 unfold j5 at he⊢
 by_cases h1:min 3 (R.length-3*j)=1
 ·rw[if_pos h1]
  refine⟨h.cF,h.made,by dsimp only;rw[apv,h.len,eN,h1],fun r hr=>?_,?_⟩
  ·rcases apN.1 hr with hr|hr
   ·exact h.old r hr
   ·exact xw.old r hr
  ·dsimp only
   rw[wx]
   omega
 ·rw[if_neg h1]at he⊢
  obtain⟨m1,m2,m3,m4⟩:=hm
  obtain⟨n1,n2,n3⟩:=m3 he
  refine⟨m1,by have:=h.made;dsimp only;omega,by dsimp only;rw[apv,h.len];rfl,fun r hr=>?_,?_⟩
  ·dsimp only at hr⊢
   rcases apN.1 hr with hr|hr
   ·have:=h.old r hr;omega
   ·rw[aqd.1 hr,n1,n2];omega
  ·dsimp only
   rw[wx]
   have a1:=Rm (d:=s.2) (d':=(g9 f (gM R j) s.2).2.2) (l:=s.1) fun r hr=>m4 r (h.old r hr)
   have a2:=Rm (d:=s.2) (d':=(g9 f (gM R j) s.2).2.2) (l:=R.drop (3*(j+1))) fun r hr=>m4 r (hold r hr)
   have a3:eK (g9 f (gM R j) s.2).2.2 [(g9 f (gM R j) s.2).1]=b7 (g9 f (gM R j) s.2).2.2 (g9 f (gM R j) s.2).1+0:=rfl
   omega
theorem mj.agP(f:Bool){d0:ay}{R:List Int}{j:Nat}{s:List Int×ay}(h:mj d0 R j s)(h0:jo d0 R):cj (j5 f R j s).2.2:=by
 unfold j5
 split
 ·exact h.cF
 ·exact(Ql f (h.runs h0)).cF
theorem Rn(f:Bool){d0:ay}{R:List Int}(h0:jo d0 R):∀(n j:Nat) (s:List Int×ay),j+n=(R.length+2)/3→mj d0 R j s→cj (qa f R n j s).2.2∧((qa f R n j s).1=0→mj d0 R ((R.length+2)/3) (qa f R n j s).2)
 |0,j,s,hn,hs=>⟨hs.cF,fun _=>by rw[←hn];exact hs⟩
 |n+1,j,s,hn,hs=>by
  unfold qa
  split
  ·rename_i he
   exact⟨hs.agP f h0,fun h=>absurd h he⟩
  ·rename_i he
   exact Rn f h0 n (j+1) _ (by omega) (hs.next f h0 (by omega) (aq2.1 he))
theorem II(f:Bool){d:ay}{R:List Int}(h:jo d R):cj (fU f R d).2.2∧((fU f R d).1=0→jo (fU f R d).2.2 (fU f R d).2.1∧(fU f R d).2.1.length=(R.length+2)/3∧eK (fU f R d).2.2 (fU f R d).2.1≤eK d R):=by
 obtain⟨h1,h2⟩:=Rn f h ((R.length+2)/3) 0 ([],d) (by omega) (mj.zero h)
 unfold fU
 generalize qa f R ((R.length+2)/3) 0 ([],d)=x at*
 refine⟨h1,fun he=>?_⟩
 obtain⟨a,b,c,e,g⟩:=h2 he
 have:=h.bQ
 exact⟨⟨a,e,by omega⟩,c,by omega⟩
def wG(S:ad)(L:List ByteArray)(R:List Int)(H:List au)(d:ay):List ag:=[.cells (aJ S 1 2 5 4) 89 false,.abs d,.cells (ap L) 9 false,.dead,.cells (ak H) 114 false,.cells (aq R) 3 false]
def sI(S:ad)(R:List Int)(x:Int×List Int×ay):ad×List Int:=if x.1=0 then({S with sn:=x.2.1.length},x.2.1)else(S,R)
def uJ(S:ad)(L:List ByteArray)(R:List Int)(H:List au)(s:List Int×ay):List ag:=
 [.cells (aJ S 1 2 10 4) 89 false,.abs s.2,.cells (ap L) 9 false,.dead,.cells (ak H) 114 false,.cells [.pointer (some ⟨0,0,none⟩)] 37 false,.cells [.int .i64 0] 26 false,.cells [.slice (some ⟨11,0,none⟩) s.1.length s.1.length] 25 false,.cells [.slice (some ⟨10,0,none⟩) S.sn S.sn] 25 false,.cells [.int .i64 3] 3 false,.cells (aq R) 3 false,.cells (aq s.1) 3 false]
def Ro(S:ad)(L:List ByteArray)(R:List Int)(H:List au)(e:Int)(nx:List Int)(d:ay):List ag:=
 [.cells (aJ S 1 2 10 4) 89 false,.abs d,.cells (ap L) 9 false,.dead,.cells (ak H) 114 false,.cells [.pointer (some ⟨0,0,none⟩)] 37 false,.cells [.int .i64 e] 26 false,.cells [.slice (some ⟨11,0,none⟩) nx.length nx.length] 25 false,.cells [.slice (some ⟨10,0,none⟩) S.sn S.sn] 25 false,.cells [.int .i64 3] 3 false,.cells (aq R) 3 false,.cells (aq nx) 3 false]
abbrev IJ:List (Nat×ape):=[(1,.pointer (some ⟨5,0,none⟩)),(2,.pointer (some ⟨6,0,none⟩)),(3,.pointer (some ⟨7,0,none⟩)),(11,.func (.func 124) #[] #[.pointer (some ⟨8,0,none⟩),.pointer (some ⟨9,0,none⟩)])]
theorem agQ(S:ad)(L:List ByteArray)(R:List Int)(H:List au)(e:Int)(nx:List Int)(d:ay){Q:bx→List ag→Prop}(hq:Q (.ret (.int .i64 e)) (wG S L R H d)):
 aF av9 75 (cn av9 75) 5 Q .ret ⟨IJ,Ro S L R H e nx d⟩:=
 aF.ret (vs:=[.int .i64 (e)]) (l:=[6]) (bs:=[0,1,2,3,4,10]) (pl:=[2,4,10]) (q:=[ap L,ak H,aq R]) (fun u=>by kernel_rfl) (by kernel_rfl) (aC (by simp) (aC (aU H) (aC (by simp) bc))) hq
theorem agR{S:ad}{L:List ByteArray}{R:List Int}{H:List au}{d:ay}{o n:Nat}{x:Int×List au×ay}(h:aE av9 76 [.pointer (some ⟨0,0,none⟩),.slice (some ⟨3,o,none⟩) n n] (aO S L R H d) (p8 S L R H x))(agS:List ape→(Nat→Option ag)→Option (List Nat)):
 bp av9 76 ⟨agS,(y3 S L R H d o n x).spec⟩:=fun a ob r q hq=>QS h a ob r q hq
theorem Rp(l:List Int)(x:Int):aq l++[apm apr x]=aq (l++[x]):=by unfold aq;rw[aqa];rfl
theorem agT(S:ad)(L:List ByteArray)(R:List Int)(H:List au)(d:ay)(hR:R.length=S.sn)(h0:0<R.length)(hl:R.length≤900000)(hr:jo d R):
 aE av9 75 [.pointer (some ⟨0,0,none⟩)] (aO S L R H d) fun r q=>
  r=.ret (.int .i64 (fU S.aB R d).1)∧q=wG (sI S R (fU S.aB R d)).1 L (sI S R (fU S.aB R d)).2 H (fU S.aB R d).2.2:=by
 have pH:=aU H
 refine aE.cT (n:=cn av9 75) (by kernel_rfl) ?_
 refine an.move (d':=⟨[(0,.pointer (some ⟨0,0,none⟩))],wG S L R H d⟩) [some 0,some 1,some 2,none,some 4,some 3] [2,4,3] (q:=[ap L,ak H,aq R]) (by kernel_rfl) (aC (by simp) (aC pH (aC (by simp) bc))) (by kernel_rfl) (by kernel_rfl) ?_
 apply agC S L R H d pH hR
 ·
  refine an.lp 7 0 3 (s:=1) (c:=[.slice none 0 0]) (e:=25) (by kernel_rfl) (by rfl) (by rfl) (d':=⟨IJ,uJ S L R H ([],d)⟩) (by kernel_rfl) (by kernel_rfl) ?_
  refine an.eU 3 0 (by kernel_rfl) ?_
  have hN:R.length≤1000000:=by omega
  obtain⟨N,Rq⟩:∃N,N=(R.length+2)/3:=⟨_,rfl⟩
  obtain⟨f,hf⟩:∃f,f=S.aB:=⟨_,rfl⟩
  rw[←hf]
  have cp:=agu (K:=11) (xb:=10) (bs:=8) (bn:=9) (N:=R.length) (O:=fun j=>uJ S L R H (eZ f R d j)) (el1:=25) (el2:=3) hN h0 (by decide) (fun j _=>by show 12≤262144;decide) (by decide) (by decide) (fun j _=>by rw[hR];rfl) (fun j _=>rfl) (by decide)
  rw[←Rq]at cp
  refine an.af7 (g:=11) (ps:=[12]) (K:=11) (N:=N) (sl:=IJ) (O:=fun j=>uJ S L R H (eZ f R d j)) (by kernel_rfl) (enters_of Tryz.func124 (by kernel_rfl) rfl) cp
   (fun j=>mj d R j (eZ f R d j)∧fU f R d=qa f R (N-j) j (eZ f R d j)) (fun o=>∃e nx dd,e≠0∧(fU f R d).1=e∧(fU f R d).2.2=dd∧o=Ro S L R H e nx dd)
   ⟨mj.zero hr,by rw[Rq];rfl⟩ (by rfl) (by kernel_rfl) (fun j _=>rfl) (by rfl) (by kernel_rfl) (fun j _=>by show 12≤262144;decide) (by show 11≤12;decide) (fun j _=>by show 12≤262144;decide) (by rfl) (fun j hj hG=>?_) ?_ ?_
  ·obtain⟨g1,g2⟩:=hG
   have y5:3*j<R.length:=by omega
   have Q6:=g1.len
   apply agE S L R H (eZ f R d j).2 (eZ f R d j).1 (3*j) (min 3 (R.length-3*j)) pH
   ·
    refine⟨rfl,?_⟩
    obtain⟨m,hm⟩:∃m,N-j=m+1:=⟨N-j-1,by omega⟩
    have lY:N-(j+1)=m:=by omega
    rw[hm]at g2
    have g2:fU f R d=if(j5 f R j (eZ f R d j)).1≠0 then j5 f R j (eZ f R d j)else qa f R m (j+1) (j5 f R j (eZ f R d j)).2:=g2
    have Rs:(j5 f R j (eZ f R d j)).1=0→mj d R (j+1) (eZ f R d (j+1))∧fU f R d=qa f R (N-(j+1)) (j+1) (eZ f R d (j+1)):=fun he=>by
     refine⟨g1.next f hr y5 he,?_⟩
     rw[g2,if_neg (fun h=>h he),lY]
     rfl
    by_cases hc:min 3 (R.length-3*j)=1
    ·have cP:j5 f R j (eZ f R d j)=(0,(eZ f R d j).1++gM R j,(eZ f R d j).2):=by unfold j5;rw[if_pos hc]
     have kx:gM R j=[R[3*j]]:=by
      rw[Rk,arb y5]
      have:R.drop (3*j+1)=[]:=aqU (by omega)
      rw[this];rfl
     have ca:av (aq R) (3*j+0)=R[3*j]:=by rw[arx];exact F3 y5
     apply agG S L R H (eZ f R d j).2 (eZ f R d j).1 (3*j) (min 3 (R.length-3*j)) pH hR hc y5 (by omega)
     case aR=>simp
     case be=>exact pH
     case bB=>simp
     case n0=>rw[arx];exact A6 y5
     case n1=>exact apU (by omega)
     case l5=>
      refine .inl ⟨rfl,?_,Rs (by rw[cP])⟩
      show _=uJ S L R H (j5 f R j (eZ f R d j)).2
      rw[cP,kx]
      unfold uJ
      dsimp only
      rw[ca,Rp,apv]
      rfl
    ·have cP:j5 f R j (eZ f R d j)=((g9 f (gM R j) (eZ f R d j).2).2.1,(eZ f R d j).1++[(g9 f (gM R j) (eZ f R d j).2).1],(g9 f (gM R j) (eZ f R d j).2).2.2):=by unfold j5;rw[if_neg hc]
     have uI:=af3 S L R H (eZ f R d j).2 (3*j) (min 3 (R.length-3*j)) (by omega) (by omega) (g1.runs hr)
     rw[←hf]at uI
     rw[show(R.drop (3*j)).take (min 3 (R.length-3*j))=gM R j from rfl]at uI
     apply agJ S L R H (eZ f R d j).2 (eZ f R d j).1 (3*j) (min 3 (R.length-3*j)) (g9 f (gM R j) (eZ f R d j).2).1 (g9 f (gM R j) (eZ f R d j).2).2.1 (g9 f (gM R j) (eZ f R d j).2).2.2 pH hR uI hc (by omega)
     case n0=>exact fo rfl rfl
     case aR=>simp
     case be=>exact pH
     case bB=>simp
     case br=>simp
     case l5=>
      intro ge
      have ge:(g9 f (gM R j) (eZ f R d j).2).2.1≠0:=by simpa using ge
      refine .inr ⟨rfl,_,(eZ f R d j).1,_,ge,?_,?_,rfl⟩
      ·rw[g2,if_pos (by rw[cP];exact ge),cP]
      ·rw[g2,if_pos (by rw[cP];exact ge),cP]
     case n6=>intro _;exact apU (by omega)
     case l7=>
      intro ge
      have ge:(g9 f (gM R j) (eZ f R d j).2).2.1=0:=by simpa using ge
      refine .inl ⟨rfl,?_,Rs (by rw[cP];exact ge)⟩
      show _=uJ S L R H (j5 f R j (eZ f R d j)).2
      rw[cP]
      unfold uJ
      dsimp only
      rw[Rp,apv]
      rfl
  ·rintro o ⟨e,nx,dd,he,h1,h2,rfl⟩
   with_reducible (repeat first|refine QL.ret ?_|refine QL.exit ?_|refine QB.ret ?_|refine QB.cp ?_|refine QB.normal ?_|refine QB.cy (by rfl) ?_)
   refine agQ S L R H e nx dd ⟨?_,?_⟩
   ·rw[h1]
   ·unfold sI
    rw[h1,if_neg he,h2]
  ·rintro⟨g1,g2⟩
   refine an.done rfl ?_
   refine QB.normal ?_
   rw[Nat.sub_self]at g2
   have g2:fU f R d=(0,eZ f R d N):=g2
   apply agM S L R H (eZ f R d N).2 (eZ f R d N).1 pH hR
   ·
    refine agK S L R H (eZ f R d N).2 (eZ f R d N).1 ⟨?_,?_⟩
    ·rw[g2]
    ·rw[g2];unfold sI;rw[if_pos rfl];rfl
def qY(B:Nat→Int)(n:Nat):List UInt8:=(arO n).map fun i=>ar6 (B i).toNat
def gU(S:ad):ByteArray:=⟨(qY S.B S.n.toNat).toArray⟩
theorem agU(B:Nat→Int)(n:Nat):(qY B n).length=n:=by unfold qY;simp
theorem agV(B:Nat→Int):yC B=(arO 64).map fun i=>apm .u8 (B i):=rfl
theorem agW(B:Nat→Int)(l:List Nat):bytesOf (l.map fun i=>apm .u8 (B i))=some (l.map fun i=>ar6 (B i).toNat):=by
 induction l with
 |nil=>rfl
 |cons x l ih=>rw[aqb,aqb];show(match bytesOf (l.map _)with|some r=>some (_::r)|none=>none)=_;rw[ih]
theorem IK(S:ad)(a b c e:Nat)(n:Nat)(hn:n≤64):(cut (aJ S a b c e) 3 n).bind bytesOf=some (qY S.B n):=by
 have hl:(aJ S a b c e).length=78:=rfl
 have h1:apG (3+n) (aJ S a b c e).length=true:=by rw[hl];exact apU (by omega)
 unfold cut
 rw[h1]
 show bytesOf (((aJ S a b c e).drop 3).take n)=_
 have h2:((aJ S a b c e).drop 3).take n=(yC S.B).take n:=by
  have:(aJ S a b c e).drop 3=yC S.B++[.int .i64 S.n,.bool S.failed,.pointer (some ⟨a,0,none⟩),.bool S.aB,.slice (some ⟨b,S.ro,none⟩) S.rn S.rn,.int .i64 S.bH,.slice (some ⟨c,0,none⟩) S.sn S.sn,.slice (some ⟨e,0,none⟩) S.hn S.hn,.bool S.ee,.int .i64 S.raw,.bool S.closed]:=rfl
  rw[this,List.take_append_of_le_length (by show n≤64;exact hn)]
 rw[h2,agV,←List.map_take,agW,List.take_range]
 rw[show min n 64=n by omega]
 rfl
def o6(S:ad)(x:UInt8):ad:={S with B:=fun j=>if j=S.n.toNat then(x.toNat:Int)else S.B j,n:=S.n+1}
def cg:List UInt8→ad→List ByteArray→Int×ad×List ByteArray
 | [],S,M=>(0,S,M)
 |x::l,S,M=>if x=10 then cg l {S with n:=0} (M++[gU S])else if S.n=64 then(20,{S with failed:=true,n:=0},M)else cg l (o6 S x) M
structure jJ(S:ad):Prop where
 n0:0≤S.n
 n1:S.n≤64
theorem jJ.zero(S:ad):jJ {S with n:=0}:=⟨by show(0:Int)≤0;omega,by show(0:Int)≤64;omega⟩
theorem jJ.add{S:ad}(h:jJ S)(hn:S.n≠64)(x:UInt8):jJ (o6 S x):=⟨by have:=h.n0;show 0≤S.n+1;omega,by have:=h.n1;show S.n+1≤64;omega⟩
noncomputable section
noncomputable def Cu:List apV:=aY (dz av9 46)
open Tree renaming aN→mN,dj→mF,eT→mL,fz→mQ,dB→mR,fH→mE
noncomputable abbrev IL:List apV:=(aY (inner (aY (inner (Cu.drop 5)))))
abbrev IM:=fun S L R H d b=>([ab (aJ S 1 2 3 4) 89,.abs d,ab (ap L) 9,ab (aq R) 3,ab (ak H) 114,ab (ai b) 5]:List ag)
abbrev agX:=fun S L R H d b=>(⟨[(4,b8),(5,aa 20)],IM S L R H d b⟩:aj)
abbrev agY:=fun S L R H d (b:ByteArray)=>(⟨[(0,.pointer (some ⟨0,3,none⟩)),(6,b8),(17,ah 5 b.size),(18,aa (b.size:Int)),(19,aa 0)],IM S L R H d b⟩:aj)
abbrev agZ:=fun S L R H d (b:ByteArray)=>(⟨[(0,.pointer (some ⟨0,3,none⟩)),(1,ah 5 b.size)],IM S L R H d b⟩:aj)
theorem ag0(S L R H d b)(pH:(ak H).all af=true){Q:aQ}(l4:(ad.failed S)=true→Q .ret (agX S L R H d b))(l5:(ad.failed S)=false→an av9 72 6 (Cu.drop 5) (agY S L R H d b) Q):an av9 72 6 Cu (agZ S L R H d b) Q:=
 aS bo 5 (.fork 6 (.leaf [4,5] [0,1,2,3,4,5] [2,3,4,5]) (.leaf [0,6,17,18,19] [0,1,2,3,4,5] [2,3,4,5])) (fun u=>by kernel_rfl) (mF (c:=ad.failed S) (fun h0=>(aM L R H (mN (aH b) (mR (l4 h0))))) (fun h0=>(aM L R H (mN (aH b) (mQ (l5 h0))))))
abbrev y6:=fun S L R H d b M=>([ab (aJ S 1 2 3 4) 89,.abs d,ab (ap L) 9,ab (aq R) 3,ab (ak H) 114,ab (ai b) 5,ab (ap M) 9]:List ag)
abbrev ag1:=fun S L R H d (b:ByteArray) M (i:Int)=>(⟨[(0,.pointer (some ⟨0,3,none⟩)),(6,ah 6 (apb M)),(17,ah 5 b.size),(18,aa (b.size:Int)),(19,aa i)],y6 S L R H d b M⟩:aj)
abbrev ag2:=fun S L R H d b M (i:Int)=>(⟨[(6,ah 6 (apb M))],y6 S L R H d b M⟩:aj)
abbrev Rt:=fun S L R H d (b:ByteArray) M (i:Int)=>(⟨[(0,.pointer (some ⟨0,3,none⟩)),(6,ah 6 (apb M)),(17,ah 5 b.size),(18,aa b.size),(19,aa i)],y6 S L R H d b M⟩:aj)
theorem ag3(S L R H d)(b:ByteArray)(M)(i:Int)(pH:(ak H).all af=true){Q:aQ}(l5:(decide (i<(b.size:Int)))=true→an av9 72 6 (IL.drop 2) (ag1 S L R H d b M i) Q)(l6:(decide (i<(b.size:Int)))=false→Q (.exit 0) (ag2 S L R H d b M i)):an av9 72 6 IL (Rt S L R H d b M i) Q:=
 aS bo 2 (.fork 0 (.leaf [0,6,17,18,19] [0,1,2,3,4,5,6] [2,3,4,5,6]) (.leaf [6] [0,1,2,3,4,5,6] [2,3,4,5,6])) (fun u=>by kernel_rfl) (mF (c:=decide (i<(b.size:Int))) (fun h0=>(aM L R H (mN (aH b) (mN (aZ M) (mQ (l5 h0)))))) (fun h0=>(aM L R H (mN (aH b) (mN (aZ M) (mE 0 (l6 h0)))))))
abbrev Ru:=fun S L R H d (b:ByteArray) M (i:Int)=>(⟨[(0,.pointer (some ⟨0,3,none⟩)),(6,ah 6 (apb M+1)),(17,ah 5 b.size),(18,aa (b.size:Int)),(19,.int .i64 (apc .i64 (i+1)))],[ab (aJ (ad.mk (ad.at_ S) (ad.more S) (ad.bq S) (ad.B S) 0 (ad.failed S) (ad.aB S) (ad.ro S) (ad.rn S) (ad.bH S) (ad.sn S) (ad.hn S) (ad.ee S) (ad.raw S) (ad.closed S)) 1 2 3 4) 89,.abs d,ab (ap L) 9,ab (aq R) 3,ab (ak H) 114,ab (ai b) 5,ab (ap M++[apJ (ap0 (ap9 (apD (aqc (cut (aJ S 1 2 3 4) 3 (apd (ad.n S)-0)) bytesOf) [])))]) 9]⟩:aj)
abbrev IP:=fun S L R H d b M (i:Int)=>(⟨[(4,ah 6 (apb M)),(5,aa 20)],[ab (aJ (ad.mk (ad.at_ S) (ad.more S) (ad.bq S) (ad.B S) 0 true (ad.aB S) (ad.ro S) (ad.rn S) (ad.bH S) (ad.sn S) (ad.hn S) (ad.ee S) (ad.raw S) (ad.closed S)) 1 2 3 4) 89,.abs d,ab (ap L) 9,ab (aq R) 3,ab (ak H) 114,ab (ai b) 5,ab (ap M) 9]⟩:aj)
theorem ag4(S L R H d b M)(i:Int){Q:bg}(hq:Q (.ret (.tuple #[ah 6 (apb M),aa 20])) (IP S L R H d b M i).objs):aF av9 46 72 6 Q .ret (IP S L R H d b M i):=aF.ret (vs:=[ah 6 (apb M),aa 20]) (l:=[]) (bs:=[0,1,2,3,4,5,6]) (pl:=[2,3,4,5,6]) (q:=[ap L,aq R,ak H,ai b,ap M]) (fun u=>by kernel_rfl) (by kernel_rfl) (gL L R H (aC (aH b) (aC (aZ M) bc))) hq
abbrev Rv:=fun S L R H d (b:ByteArray) M (i:Int)=>(⟨[(0,.pointer (some ⟨0,3,none⟩)),(6,ah 6 (apb M)),(17,ah 5 b.size),(18,aa (b.size:Int)),(19,.int .i64 (apc .i64 (i+1)))],[ab (aJ (ad.mk (ad.at_ S) (ad.more S) (ad.bq S) (fun j=>bif apw (3+apd (ad.n S)*1) (3+j)then av (ai b) (0+apd i*1)else ad.B S j) (apc .i64 (ad.n S+1)) (ad.failed S) (ad.aB S) (ad.ro S) (ad.rn S) (ad.bH S) (ad.sn S) (ad.hn S) (ad.ee S) (ad.raw S) (ad.closed S)) 1 2 3 4) 89,.abs d,ab (ap L) 9,ab (aq R) 3,ab (ak H) 114,ab (ai b) 5,ab (ap M) 9]⟩:aj)
theorem ag5(S:ad)(L R H d)(b:ByteArray)(M)(i:Int)(pH:(ak H).all af=true)(h0:0≤i)(h1:i<b.size)(h2:b.size≤1000000)(h3:apc .i64 (i+1)=i+1)(h4:0≤S.n)(h5:S.n≤64)(h6:(apb M)≤100000)(h7:apc .i64 (S.n+1)=S.n+1){Q:aQ}(n0:(cA IntKind.u8 (ai b) (0+apd i*1))=true)(n1:(av (ai b) (0+apd i*1)==10)=true→(asg (aqc (cut (aJ S 1 2 3 4) 3 (apd (ad.n S)-0)) bytesOf))=true)(aR:aph (ap L) af=true)(be:aph (aq R) af=true)(bB:aph (ak H) af=true)(br:aph (ai b) af=true)(l6:(av (ai b) (0+apd i*1)==10)=true→Q .normal (Ru S L R H d b M i))(jG:aph (ap M) af=true)(l8:(av (ai b) (0+apd i*1)==10)=false→(ad.n S==64)=true→Q .ret (IP S L R H d b M i))(l9:(av (ai b) (0+apd i*1)==10)=false→(ad.n S==64)=false→Q .normal (Rv S L R H d b M i)):an av9 72 6 (IL.drop 2) (Rt S L R H d b M i) Q:=
 aS bo 1000 (aA [0,1,1,0,1] (.fork 0 (aA [2,1,3,0,1,0,3,5,1] (.leaf [0,6,17,18,19] [0,1,2,3,4,5,8] [2,3,4,5,8])) (.fork 1 (.leaf [4,5] [0,1,2,3,4,5,6] [2,3,4,5,6]) (aA [2,1,1,0,1,0,0,0,0,0,0,0,0,0,0,0,0,0,0] (.leaf [0,6,17,18,19] [0,1,2,3,4,5,6] [2,3,4,5,6]))))) (fun u=>by kernel_rfl) (mN (decide_eq_true (by omega):(decide (0≤i))=true) (mN (show(apy (apd i) b.size)=true by simp at pH h0 h1 h2 h3 h4 h5 h6 h7⊢ <;>omega) (mN n0 (mF (c:=av (ai b) (0+apd i*1)==10) (fun h0=>(mN (decide_eq_true (by omega):(decide (0≤ad.n S))=true) (mN (show(apG (apd (ad.n S)) 64)=true by simp at pH h0 h1 h2 h3 h4 h5 h6 h7 h0⊢ <;>omega) (mN (n1 h0) (mN (show(apG (apb M+1) 1000000)=true by simp at pH h0 h1 h2 h3 h4 h5 h6 h7 h0⊢ <;>omega) (mN (ln _:(full (apb M) (apb M))=true) (mN (show(apw (0+apb M*1) (apb (ap M)))=true by simp) (aM L R H (mN (aH b) (mN (show(aph (ap M++[apJ (ap0 (ap9 (apD (aqc (cut (aJ S 1 2 3 4) 3 (apd (ad.n S)-0)) bytesOf) [])))]) af)=true by simp) (mQ (an.done (by kernel_rfl) (l6 h0))))))))))))) (fun h0=>(mF (c:=ad.n S==64) (fun h1=>(aM L R H (mN (aH b) (mN (aZ M) (mR (l8 h0 h1)))))) (fun h1=>(mN (decide_eq_true (by omega):(decide (0≤ad.n S))=true) (mN (show(apy (apd (ad.n S)) 64)=true by simp at pH h0 h1 h2 h3 h4 h5 h6 h7 h0 h1⊢ <;>omega) (mN (show(apy (3+apd (ad.n S)*1) (apb (aJ S 1 2 3 4)))=true by simp at pH h0 h1 h2 h3 h4 h5 h6 h7 h0 h1⊢ <;>omega) (mN (show(apw (3+apd (ad.n S)*1) 0)=false by simp) (mN (show(apw (3+apd (ad.n S)*1) 1)=false by simp at pH h0 h1 h2 h3 h4 h5 h6 h7 h0 h1⊢ <;>omega) (mN (show(apw (3+apd (ad.n S)*1) 2)=false by simp at pH h0 h1 h2 h3 h4 h5 h6 h7 h0 h1⊢ <;>omega) (mN (show(apw (3+apd (ad.n S)*1) 67)=false by simp at pH h0 h1 h2 h3 h4 h5 h6 h7 h0 h1⊢ <;>omega) (mN (show(apw (3+apd (ad.n S)*1) 68)=false by simp at pH h0 h1 h2 h3 h4 h5 h6 h7 h0 h1⊢ <;>omega) (mN (show(apw (3+apd (ad.n S)*1) 69)=false by simp at pH h0 h1 h2 h3 h4 h5 h6 h7 h0 h1⊢ <;>omega) (mN (show(apw (3+apd (ad.n S)*1) 70)=false by simp at pH h0 h1 h2 h3 h4 h5 h6 h7 h0 h1⊢ <;>omega) (mN (show(apw (3+apd (ad.n S)*1) 71)=false by simp at pH h0 h1 h2 h3 h4 h5 h6 h7 h0 h1⊢ <;>omega) (mN (show(apw (3+apd (ad.n S)*1) 72)=false by simp at pH h0 h1 h2 h3 h4 h5 h6 h7 h0 h1⊢ <;>omega) (mN (show(apw (3+apd (ad.n S)*1) 73)=false by simp at pH h0 h1 h2 h3 h4 h5 h6 h7 h0 h1⊢ <;>omega) (mN (show(apw (3+apd (ad.n S)*1) 74)=false by simp at pH h0 h1 h2 h3 h4 h5 h6 h7 h0 h1⊢ <;>omega) (mN (show(apw (3+apd (ad.n S)*1) 75)=false by simp at pH h0 h1 h2 h3 h4 h5 h6 h7 h0 h1⊢ <;>omega) (mN (show(apw (3+apd (ad.n S)*1) 76)=false by simp at pH h0 h1 h2 h3 h4 h5 h6 h7 h0 h1⊢ <;>omega) (mN (show(apw (3+apd (ad.n S)*1) 77)=false by simp at pH h0 h1 h2 h3 h4 h5 h6 h7 h0 h1⊢ <;>omega) (aM L R H (mN (aH b) (mN (aZ M) (mQ (an.done (by kernel_rfl) (l9 h0 h1))))))))))))))))))))))))))))))
abbrev IQ:=fun S L R H d b M=>(⟨[(4,ah 6 (apb M)),(5,aa 0)],y6 S L R H d b M⟩:aj)
theorem ag6(S L R H d b M){Q:bg}(hq:Q (.ret (.tuple #[ah 6 (apb M),aa 0])) (IQ S L R H d b M).objs):aF av9 46 72 6 Q .ret (IQ S L R H d b M):=aF.ret (vs:=[ah 6 (apb M),aa 0]) (l:=[]) (bs:=[0,1,2,3,4,5,6]) (pl:=[2,3,4,5,6]) (q:=[ap L,aq R,ak H,ai b,ap M]) (fun u=>by kernel_rfl) (by kernel_rfl) (gL L R H (aC (aH b) (aC (aZ M) bc))) hq
abbrev ag7:=fun S L R H d b M=>(⟨[(6,ah 6 (apb M))],y6 S L R H d b M⟩:aj)
theorem ag8(S L R H d b M)(pH:(ak H).all af=true){Q:aQ}(l5:Q .ret (IQ S L R H d b M)):an av9 72 6 (Cu.drop 6) (ag7 S L R H d b M) Q:=
 aS bo 1000 (.leaf [4,5] [0,1,2,3,4,5,6] [2,3,4,5,6]) (fun u=>by kernel_rfl) (aM L R H (mN (aH b) (mN (aZ M) (mR l5))))
end
theorem ag9{b:ByteArray}{i:Nat}(h:i<b.size):∃x,b.data.toList[i]?=some x∧av (ai b) (0+apd (i:Int)*1)=(x.toNat:Int)∧cA .u8 (ai b) (0+apd (i:Int)*1)=true∧b.data.toList.drop i=x::b.data.toList.drop (i+1):=by
 have hl:i<b.data.toList.length:=by simpa using h
 refine⟨b.data.toList[i],apl hl,?_,?_,arb hl⟩
 ·rw[show 0+apd (i:Int)*1=i by simp,MP h];rfl
 ·rw[show 0+apd (i:Int)*1=i by simp];exact MQ h
theorem IR(x:UInt8):((x.toNat:Int)==10)=true↔x=10:=by
 rw[beq_iff_eq]
 constructor
 ·intro h
  apply UInt8.toNat_inj.1
  show x.toNat=10
  omega
 ·intro h;subst h;rfl
def Cv(L:List ByteArray)(R:List Int)(H:List au)(d:ay)(b:ByteArray)(s:Nat×ad×List ByteArray):aj:=
 ⟨[(0,.pointer (some ⟨0,3,none⟩)),(6,.slice (some ⟨6,0,none⟩) s.2.2.length s.2.2.length),(17,.slice (some ⟨5,0,none⟩) b.size b.size),(18,.int .i64 (b.size:Int)),(19,iZ s.1)],aO s.2.1 L R H d++[.cells (ai b) 5 false,.cells (ap s.2.2) 9 false]⟩
structure aha(b:ByteArray)(S0:ad)(s:Nat×ad×List ByteArray):Prop where
 i:s.1≤b.size
 e:cg (b.data.toList.drop s.1) s.2.1 s.2.2=cg b.data.toList S0 []
 ok:jJ s.2.1
 bQ:s.2.2.length≤s.1
theorem ahb(S:ad)(L:List ByteArray)(R:List Int)(H:List au)(d:ay)(b:ByteArray)(hS:jJ S)(hf:S.failed=false)(hb:b.size≤100000):
 aE av9 46 [.pointer (some ⟨0,3,none⟩),.slice (some ⟨5,0,none⟩) b.size b.size] (aO S L R H d++[.cells (ai b) 5 false]) fun r q=>
  r=.ret (.tuple #[.slice (some ⟨6,0,none⟩) (cg b.data.toList S []).2.2.length (cg b.data.toList S []).2.2.length,.int .i64 (cg b.data.toList S []).1])∧q=aO (cg b.data.toList S []).2.1 L R H d++[.cells (ai b) 5 false,.cells (ap (cg b.data.toList S []).2.2) 9 false]:=by
 have pH:=aU H
 refine aE.cT (n:=cn av9 46) (by kernel_rfl) ?_
 apply ag0 S L R H d b pH
 case l4=>intro g;rw[hf]at g;cases g
 case l5=>
  intro _
  refine an.Ba 6 9 (s:=1) PO (by rfl) (by rfl) (by rfl:_=Cv L R H d b (0,S,[])) ?_
  refine an.eU 5 0 (by kernel_rfl) ?_
  refine an.fS (Cv L R H d b) (fun t=>b.size-t.1) (aha b S) (0,S,[]) (by kernel_rfl) ⟨ap7 _,by simp,hS,apI _⟩ ?_
  rintro⟨i,S1,M⟩ ⟨h1,h2,h3,h4⟩
  dsimp only at h1 h2 h3 h4
  apply ag3 S1 L R H d b M i pH
  case l6=>
   intro g
   have g:=of_decide_eq_false g
   have cf:b.data.toList.length=b.size:=by simp
   rw[aqU (by omega)]at h2
   have h2:(0,S1,M)=cg b.data.toList S []:=h2
   rw[←h2]
   with_reducible (repeat first|refine QL.ret ?_|refine QL.exit ?_|refine QB.ret ?_|refine QB.cp ?_|refine QB.normal ?_|refine QB.cy (by rfl) ?_)
   apply ag8 S1 L R H d b M pH
   ·exact ag6 S1 L R H d b M ⟨rfl,rfl⟩
  case l5=>
   intro g
   have g:=of_decide_eq_true g
   obtain⟨x,x1,x2,x3,x4⟩:=ag9 (b:=b) (i:=i) (by omega)
   rw[x4]at h2
   have pK:=h3.n0
   have kn:=h3.n1
   have Rw:=IK S1 1 2 3 4 (apd S1.n-0) (by omega)
   apply ag5 S1 L R H d b M i pH (by omega) g (by omega) (bI (by omega) (by omega)) pK kn (by omega) (bI (by omega) (by omega))
   case aR=>simp
   case be=>simp
   case bB=>exact pH
   case br=>simp
   case jG=>simp
   case n0=>exact x3
   case n1=>intro _;rw[Rw];rfl
   case l6=>
    intro gx
    rw[x2,IR]at gx
    have h2:(if x=10 then cg (b.data.toList.drop (i+1)) {S1 with n:=0} (M++[gU S1])else _)=cg b.data.toList S []:=h2
    rw[if_pos gx]at h2
    refine QL.to (i+1,{S1 with n:=0},M++[gU S1]) ⟨by dsimp only;omega,h2,jJ.zero S1,by dsimp only;rw[apv];show M.length+1≤_;omega⟩ (by dsimp only;omega) ?_
    unfold Ru Cv
    rw[Rw,fA (by omega)]
    show aj.mk _ _=aj.mk _ _
    rw[show(M++[gU S1]).length=M.length+1 by simp]
    unfold gU
    rw[show ap (M++[ap0 (qY S1.B S1.n.toNat).toArray])=ap M++[apJ (ap0 (qY S1.B S1.n.toNat).toArray)]by unfold ap;rw[aqa];rfl]
    rfl
   case l8=>
    intro gx sJ
    rw[x2]at gx
    have gx:¬x=10:=fun h=>by rw[(IR x).2 h]at gx;cases gx
    have sJ:S1.n=64:=by simpa using sJ
    have h2:(if x=10 then _ else if S1.n=64 then(20,{S1 with failed:=true,n:=0},M)else _)=cg b.data.toList S []:=h2
    rw[if_neg gx,if_pos sJ]at h2
    rw[←h2]
    with_reducible (repeat first|refine QL.ret ?_|refine QL.exit ?_|refine QB.ret ?_|refine QB.cp ?_|refine QB.normal ?_|refine QB.cy (by rfl) ?_)
    exact ag4 S1 L R H d b M i ⟨rfl,rfl⟩
   case l9=>
    intro gx sJ
    rw[x2]at gx
    have gx:¬x=10:=fun h=>by rw[(IR x).2 h]at gx;cases gx
    have sJ:¬S1.n=64:=by simpa using sJ
    have h2:(if x=10 then _ else if S1.n=64 then _ else cg (b.data.toList.drop (i+1)) (o6 S1 x) M)=cg b.data.toList S []:=h2
    rw[if_neg gx,if_neg sJ]at h2
    refine QL.to (i+1,o6 S1 x,M) ⟨by dsimp only;omega,h2,h3.add sJ x,by dsimp only;omega⟩ (by dsimp only;omega) ?_
    have hB:(fun j=>bif apw (3+apd S1.n*1) (3+j)then av (ai b) (0+apd (i:Int)*1)else S1.B j)=(o6 S1 x).B:=by
     funext j
     unfold o6
     dsimp only
     rw[x2]
     by_cases e:j=S1.n.toNat
     ·subst e
      rw[if_pos rfl,show apw (3+apd S1.n*1) (3+apd S1.n)=true by rw[Nat.mul_one];exact aqn _];rfl
     ·rw[if_neg e,show apw (3+apd S1.n*1) (3+j)=false from Bool.eq_false_iff.2 fun h=>e (by have:=Nat.eq_of_beq_eq_true h;omega)];rfl
    unfold Rv Cv
    rw[hB,fA (by omega),bI (z:=S1.n+1) (by omega) (by omega)]
    rfl
noncomputable section
noncomputable def ahc:List (apQ×Sum):=[(73,Sum.dq av9 BT)]
theorem ahd:dw av9 (dM av9 (dN ahc) 50 40):=dR du mixed (ed (.cons PB .nil)) 50 40
def ahe(S:ad)(L:List ByteArray)(R:List Int)(H:List au)(d:ay)(T:ad)(K:List ByteArray)(Rr:List Int)(dd:ay)(e:Int)(x:ByteArray):List (apQ×Sum):=[(47,Sum.one (fun _ _=>some [0,1,5,6,7,8]) [ao 0,ah 5 1] (aO S.z L R H d++[ab (ap [x]) 9]) (.ret (aa e)) (nW (ab (ap [x]) 9) T.z K Rr H dd))]
theorem ahf(S:ad)(L:List ByteArray)(R:List Int)(H:List au)(d:ay)(T:ad)(K:List ByteArray)(Rr:List Int)(dd:ay)(e:Int)(x:ByteArray)(nX:aE av9 47 [ao 0,ah 5 1] (aO S.z L R H d++[ab (ap [x]) 9]) fun r q=>r=.ret (aa e)∧q=nW (ab (ap [x]) 9) T.z K Rr H dd):dw av9 (dM av9 (dN (ahe S L R H d T K Rr dd e x)) 50 40):=dR du mixed (ed (.cons (bp.one nX) .nil)) 50 40
def ahg(S:ad)(L:List ByteArray)(R:List Int)(H:List au)(d:ay)(T:ad)(K:List ByteArray)(Rr:List Int)(dd:ay)(e:Int):List (apQ×Sum):=[(70,Sum.one (fun _ _=>some [0,1,5,6,7]) [ao 0] (aO S.z L R H d) (.ret (aa e)) (jm T.z K Rr H dd))]
theorem ahh(S:ad)(L:List ByteArray)(R:List Int)(H:List au)(d:ay)(T:ad)(K:List ByteArray)(Rr:List Int)(dd:ay)(e:Int)(dk:aE av9 70 [ao 0] (aO S.z L R H d) fun r q=>r=.ret (aa e)∧q=jm T.z K Rr H dd):dw av9 (dM av9 (dN (ahg S L R H d T K Rr dd e)) 50 40):=dR du mixed (ed (.cons (bp.one dk) .nil)) 50 40
def ahi(S:ad)(L:List ByteArray)(R:List Int)(H:List au)(d:ay)(T:ad)(K:List ByteArray)(Rr:List Int)(dd:ay)(e:Int):List (apQ×Sum):=[(75,Sum.one (fun _ _=>some [0,1,5,6,7]) [ao 0] (aO S.z L R H d) (.ret (aa e)) (wG T.z L Rr H dd))]
theorem ahj(S:ad)(L:List ByteArray)(R:List Int)(H:List au)(d:ay)(T:ad)(K:List ByteArray)(Rr:List Int)(dd:ay)(e:Int)(jN:aE av9 75 [ao 0] (aO S.z L R H d) fun r q=>r=.ret (aa e)∧q=wG T.z L Rr H dd):dw av9 (dM av9 (dN (ahi S L R H d T K Rr dd e)) 50 40):=dR du mixed (ed (.cons (bp.one jN) .nil)) 50 40
noncomputable def ahk(S:ad)(L:List ByteArray)(R:List Int)(H:List au)(d:ay)(l:List au)(dd:ay)(e:Int):List (apQ×Sum):=[(76,⟨fun _ _=>some [0,1,5,6,7],(y3 S.z L R H d 0 S.sn (e,l,dd)).spec⟩)]
theorem ahl(S:ad)(L:List ByteArray)(R:List Int)(H:List au)(d:ay)(l:List au)(dd:ay)(e:Int)(cQ:aE av9 76 [ao 0,ah 3 S.sn] (aO S.z L R H d) (p8 S.z L R H (e,l,dd))):dw av9 (dM av9 (dN (ahk S L R H d l dd e)) 50 40):=dR du mixed (ed (.cons (agR cQ _) .nil)) 50 40
def ahm(S:ad)(L:List ByteArray)(R:List Int)(H:List au)(d:ay)(k:Int)(dd:ay)(e:Int):List (apQ×Sum):=[(53,Sum.one (fun _ _=>some [0,1,2,3,4]) [ao 0,ah 4 S.hn] (aO S L R H d) (.ret (aa k)) (aO S L R H d)),(78,Sum.one (fun _ _=>some [0,1,2,3,4]) [ao 0,ah 3 S.sn] (aO S L R H d) (.ret (aa e)) (aO S L R H dd))]
theorem ahn(S:ad)(L:List ByteArray)(R:List Int)(H:List au)(d:ay)(k:Int)(dd:ay)(e:Int)(hle:aE av9 53 [ao 0,ah 4 S.hn] (aO S L R H d) fun r q=>r=.ret (aa k)∧q=aO S L R H d)(iz:aE av9 78 [ao 0,ah 3 S.sn] (aO S L R H d) fun r q=>r=.ret (aa e)∧q=aO S L R H dd):dw av9 (dM av9 (dN (ahm S L R H d k dd e)) 50 40):=dR du mixed (ed (.cons (bp.one hle) (.cons (bp.one iz) .nil))) 50 40
noncomputable def ml:List apV:=aY (dz av9 50)
noncomputable def aho:List apV:=aY (dz av9 51)
open Tree renaming aN→mN,dj→mF,eT→mL,fz→mQ,dB→mR,fH→mE
noncomputable abbrev IT:List apV:=(aY (inner (aY (inner (ml.drop 9)))))
noncomputable abbrev ahp:List apV:=(aY (pF true (ml.drop 3)))
def Rx:Nat→Bool→Bool→Tree→Tree
 |0,_,_,t=>t
 |n+1,d,b,t=>.cD d b (Rx n d b t)
theorem IU{R:bd→aj→Prop}{c v:Bool}{t:Tree}(n:Nat)(h1:c=v)(h2:t.ok R):(Rx n c v t).ok R:=by
 induction n with
 |zero=>exact h2
 |succ n ih=>exact⟨h1,ih⟩
abbrev y7:=fun S L R H d=>([ab (aJ (ad.z S) 1 5 6 7) 89,.abs d,.dead,.dead,.dead,ab (ap L) 9,ab (aq R) 3,ab (ak H) 114]:List ag)
abbrev ahq:=fun S L R H d=>(⟨[(0,ao 0),(3,.string (ap0 #[])),(17,.bool false)],y7 S L R H d⟩:aj)
abbrev Ry:=fun S L R H d=>(⟨[(0,ao 0),(3,.string (ap0 (ap9 (apD (aqc (cut (aJ (ad.mk (ad.at_ S) (ad.more S) (ad.bq S) (ad.B (ad.z S)) 0 (ad.failed S) (ad.aB S) 0 (ad.rn S) (ad.bH S) (ad.sn S) (ad.hn S) (ad.ee S) (ad.raw S) (ad.closed S)) 1 5 6 7) 3 (apd (ad.n S)-0)) bytesOf) [])))),(17,.bool true)],[ab (aJ (ad.mk (ad.at_ S) (ad.more S) (ad.bq S) (ad.B (ad.z S)) 0 (ad.failed S) (ad.aB S) 0 (ad.rn S) (ad.bH S) (ad.sn S) (ad.hn S) (ad.ee S) (ad.raw S) (ad.closed S)) 1 5 6 7) 89,.abs d,.dead,.dead,.dead,ab (ap L) 9,ab (aq R) 3,ab (ak H) 114]⟩:aj)
abbrev y8:=fun(S:ad) L R H d=>([ab (aJ S.z 1 5 6 7) 89,.abs d,.dead,.dead,.dead,ab (ap L) 9,ab (aq R) 3,ab (ak H) 114]:List ag)
abbrev IV:=fun S L R H d=>(⟨[(0,ao 0)],y8 S L R H d⟩:aj)
theorem ahr(S:ad)(L R H d)(pH:(ak H).all af=true)(hL:(apb L)=S.rn)(hR:(apb R)=S.sn)(hH:(apb H)=S.hn)(h0:0≤S.n)(h1:S.n≤64){Q:aQ}(l3:(ad.n S==0)=true→an av9 77 5 (ml.drop 3) (ahq S L R H d) Q)(n4:(ad.n S==0)=false→(asg (aqc (cut (aJ (ad.mk (ad.at_ S) (ad.more S) (ad.bq S) (ad.B (ad.z S)) 0 (ad.failed S) (ad.aB S) 0 (ad.rn S) (ad.bH S) (ad.sn S) (ad.hn S) (ad.ee S) (ad.raw S) (ad.closed S)) 1 5 6 7) 3 (apd (ad.n S)-0)) bytesOf))=true)(l5:(ad.n S==0)=false→an av9 77 5 (ml.drop 3) (Ry S L R H d) Q):an av9 77 5 ml (IV S L R H d) Q:=
 aS bo 3 (.fork 4 (.leaf [0,3,17] [0,1,2,3,4,5,6,7] [5,6,7]) (aA [4,1,3,0,1] (.leaf [0,3,17] [0,1,2,3,4,5,6,7] [5,6,7]))) (fun u=>by kernel_rfl) (mF (c:=ad.n S==0) (fun h0=>(aM L R H (mQ (l3 h0)))) (fun h0=>(mN (decide_eq_true (by omega):(decide (0≤ad.n S))=true) (mN (show(apG (apd (ad.n S)) 64)=true by simp at pH hL hR hH h0 h1 h0⊢ <;>omega) (mN (n4 h0) (aM L R H (mQ (l5 h0))))))))
abbrev Cw:=fun H T K Rr dd=>([ab (aJ (ad.z T) 1 5 6 7) 89,.abs dd,.dead,.dead,.dead,ab (ap K) 9,ab (aq Rr) 3,ab (ak H) 114]:List ag)
abbrev IW:=fun(S:ad) (L:List ByteArray) (R:List Int) H (d:ay) T K Rr dd (e:Int) (x:ByteArray)=>(⟨[(2,aa e)],Cw H T K Rr dd⟩:aj)
theorem ahs(S L R H d T K Rr dd)(e:Int)(x){Q:bg}(aR:aph (ak H) af=true)(hq:Q (.ret (aa e)) (IW S L R H d T K Rr dd e x).objs):aF av9 50 77 5 Q .ret (IW S L R H d T K Rr dd e x):=aF.ret (vs:=[aa e]) (l:=[]) (bs:=[0,1,2,3,4,5,6,7]) (pl:=[5,6,7]) (q:=[ap K,aq Rr,ak H]) (fun u=>by kernel_rfl) (by kernel_rfl) (aC (by simp) (aC (by simp) (aC aR bc))) hq
abbrev aht:=fun(S:ad) (L:List ByteArray) (R:List Int) H (d:ay) T K Rr dd (e:Int) (x:ByteArray)=>(⟨[(0,ao 0)],Cw H T K Rr dd⟩:aj)
abbrev ahu:=fun S L R H d (T:ad) (K:List ByteArray) (Rr:List Int) (dd:ay) (e:Int) x=>(⟨[(0,ao 0),(3,.string x)],y8 S L R H d⟩:aj)
theorem ahv(S:ad)(L R H d)(T:ad)(K Rr dd)(e:Int)(x)(pH:(ak H).all af=true)(hL:(apb L)=S.rn)(hR:(apb R)=S.sn)(hH:(apb H)=S.hn)(nX:aE av9 47 [ao 0,ah 5 1] (aO S.z L R H d++[ab (ap [x]) 9]) fun r q=>r=.ret (aa e)∧q=nW (ab (ap [x]) 9) T.z K Rr H dd){Q:aQ}(l2:(e != 0)=true→Q .ret (IW S L R H d T K Rr dd e x))(l3:(e != 0)=false→Q .normal (aht S L R H d T K Rr dd e x)):an av9 77 5 ahp (ahu S L R H d T K Rr dd e x) Q:=
 aS (ahf S L R H d T K Rr dd e x nX) 1000 (aA [3,1,1,3,3,1,1] (.fork 0 (.leaf [2] [0,1,2,3,4,9,10,11] [9,10,11]) (.leaf [0] [0,1,2,3,4,9,10,11] [9,10,11]))) (fun u=>by kernel_rfl) (aM L R H (mN (ll [ao 0,ah 5 1] (aO (ad.z S) L R H d++[ab (ap [x]) 9])) (mN (aZ K) (mN (aG Rr) (mN (aU H) (mF (c:=e != 0) (fun h0=>(mN (aZ K) (mN (aG Rr) (mN (aU H) (mR (l2 h0)))))) (fun h0=>(mN (aZ K) (mN (aG Rr) (mN (aU H) (mQ (an.done (by kernel_rfl) (l3 h0)))))))))))))
abbrev Rz:=fun S L R H d=>(⟨[(2,aa 0)],[ab (aJ (ad.mk (ad.at_ S) (ad.more S) (ad.bq S) (ad.B (ad.z S)) (ad.n S) (ad.failed S) (ad.aB S) 0 (ad.rn S) (ad.bH S) (ad.sn S) (ad.hn S) true (ad.raw S) (ad.closed S)) 1 5 6 7) 89,.abs d,.dead,.dead,.dead,ab (ap (bE (aV (ad.aB S)) (cU (ap L)))) 9,ab (aq R) 3,ab (ak H) 114]⟩:aj)
theorem ahw(S L R H d){Q:bg}(aR:aph (aq R) af=true)(be:aph (ak H) af=true)(hq:Q (.ret (aa 0)) [ab (aJ (ad.mk (ad.at_ S) (ad.more S) (ad.bq S) (ad.B (ad.z S)) (ad.n S) (ad.failed S) (ad.aB S) 0 (ad.rn S) (ad.bH S) (ad.sn S) (ad.hn S) true (ad.raw S) (ad.closed S)) 1 5 6 7) 89,.abs d,.dead,.dead,.dead,ab (ap (bE (aV (ad.aB S)) (cU (ap L)))) 9,ab (aq R) 3,ab (ak H) 114]):aF av9 50 77 5 Q .ret (Rz S L R H d):=aF.ret (vs:=[aa 0]) (l:=[]) (bs:=[0,1,2,3,4,5,6,7]) (pl:=[5,6,7]) (q:=[ap (bE (aV (ad.aB S)) (cU (ap L))),aq R,ak H]) (fun u=>by kernel_rfl) (by kernel_rfl) (aC (by simp) (aC aR (aC be bc))) hq
abbrev ahx:=fun S L R H d=>(⟨[(0,ao 0)],[ab (aJ (ad.mk (ad.at_ S) (ad.more S) (ad.bq S) (ad.B (ad.z S)) (ad.n S) (ad.failed S) (ad.aB S) 0 (ad.rn S) (ad.bH S) (ad.sn S) (ad.hn S) true (ad.raw S) (ad.closed S)) 1 5 6 7) 89,.abs d,.dead,.dead,.dead,ab (ap L) 9,ab (aq R) 3,ab (ak H) 114]⟩:aj)
theorem ahy(S:ad)(L R H d)(pH:(ak H).all af=true)(hL:(apb L)=S.rn)(hR:(apb R)=S.sn)(hH:(apb H)=S.hn){Q:aQ}(n0:((↑(ad.sn S):Int)==0)=true→(iQ [ab (ap L) 9,ab (aJ (ad.mk (ad.at_ S) (ad.more S) (ad.bq S) (ad.B (ad.z S)) (ad.n S) (ad.failed S) (ad.aB S) 0 (ad.rn S) (ad.bH S) (ad.sn S) (ad.hn S) true (ad.raw S) (ad.closed S)) 2 0 3 4) 89,ag.abs d,ab (aq R) 3,ab (ak H) 114] (ad.rn S)&&(apw (ad.rn S) (ad.rn S)&&apw 74 74))=true)(l3:((↑(ad.sn S):Int)==0)=true→Q .ret (Rz S L R H d))(l5:((↑(ad.sn S):Int)==0)=false→an av9 77 5 ((ml.drop 4).drop 3) (ahx S L R H d) Q):an av9 77 5 (ml.drop 4) (IV S L R H d) Q:=
 aS ahd 3 (.fork 3 (aA [5,1,1,1,1,1,1] (.leaf [2] [0,1,2,3,4,5,6,7] [5,6,7])) (.leaf [0] [0,1,2,3,4,5,6,7] [5,6,7])) (fun u=>by kernel_rfl) (mF (c:=(↑(ad.sn S):Int)==0) (fun h0=>(aM L R H (mN (n0 h0) (mN (aZ (bE (aV (ad.aB S)) (cU (ap L)))) (mN (aG R) (mN (aU H) (mN (aZ (bE (aV (ad.aB S)) (cU (ap L)))) (mN (aG R) (mN (aU H) (mR (l3 h0))))))))))) (fun h0=>(aM L R H (mQ (l5 h0)))))
abbrev IX:=fun(S:ad) (L:List ByteArray) (R:List Int) H (d:ay) T K Rr dd (e:Int)=>(⟨[(2,aa e)],Cw H T K Rr dd⟩:aj)
theorem ahz(S L R H d T K Rr dd)(e:Int){Q:bg}(aR:aph (ak H) af=true)(hq:Q (.ret (aa e)) (IX S L R H d T K Rr dd e).objs):aF av9 50 77 5 Q .ret (IX S L R H d T K Rr dd e):=aF.ret (vs:=[aa e]) (l:=[]) (bs:=[0,1,2,3,4,5,6,7]) (pl:=[5,6,7]) (q:=[ap K,aq Rr,ak H]) (fun u=>by kernel_rfl) (by kernel_rfl) (aC (by simp) (aC (by simp) (aC aR bc))) hq
abbrev ahA:=fun(S:ad) (L:List ByteArray) (R:List Int) H (d:ay) T K Rr dd (e:Int)=>(⟨[(0,ao 0)],Cw H T K Rr dd⟩:aj)
abbrev ahB:=fun S L R H d (T:ad) (K:List ByteArray) (Rr:List Int) (dd:ay) (e:Int)=>(⟨[(0,ao 0)],y7 S L R H d⟩:aj)
abbrev RA:=fun S L R H d (T:ad) (K:List ByteArray) (Rr:List Int) (dd:ay) (e:Int)=>(⟨[(0,ao 0)],y8 S L R H d⟩:aj)
theorem ahC(S:ad)(L R H d)(T:ad)(K Rr dd)(e:Int)(pH:(ak H).all af=true)(hL:(apb L)=S.rn)(hR:(apb R)=S.sn)(hH:(apb H)=S.hn)(dk:aE av9 70 [ao 0] (aO S.z L R H d) fun r q=>r=.ret (aa e)∧q=jm T.z K Rr H dd){Q:aQ}(l2:(decide ((↑(ad.rn S):Int)>0))=true→(e != 0)=true→Q .ret (IX S L R H d T K Rr dd e))(l3:(decide ((↑(ad.rn S):Int)>0))=true→(e != 0)=false→an av9 77 5 ((ml.drop 7).drop 2) (ahA S L R H d T K Rr dd e) Q)(l6:(decide ((↑(ad.rn S):Int)>0))=false→an av9 77 5 ((ml.drop 7).drop 2) (ahB S L R H d T K Rr dd e) Q):an av9 77 5 (ml.drop 7) (RA S L R H d T K Rr dd e) Q:=
 aS (ahh S L R H d T K Rr dd e dk) 2 (.fork 2 (aA [3,1,1,1,1,1,1] (.fork 0 (.leaf [2] [0,1,2,3,4,8,9,10] [8,9,10]) (.leaf [0] [0,1,2,3,4,8,9,10] [8,9,10]))) (.leaf [0] [0,1,2,3,4,5,6,7] [5,6,7])) (fun u=>by kernel_rfl) (mF (c:=decide ((↑(ad.rn S):Int)>0)) (fun h0=>(aM L R H (mN (ll [ao 0] (aO (ad.z S) L R H d)) (mN (aZ K) (mN (aG Rr) (mN (aU H) (mF (c:=e != 0) (fun h1=>(mN (aZ K) (mN (aG Rr) (mN (aU H) (mR (l2 h0 h1)))))) (fun h1=>(mN (aZ K) (mN (aG Rr) (mN (aU H) (mQ (l3 h0 h1))))))))))))) (fun h0=>(aM L R H (mQ (l6 h0)))))
abbrev ahD:=fun S L R H d=>(⟨[(0,ao 0)],y7 S L R H d⟩:aj)
abbrev ahE:=fun S L R H d=>(⟨[(0,ao 0)],y7 S L R H d⟩:aj)
theorem ahF(S:ad)(L R H d)(pH:(ak H).all af=true)(hL:(apb L)=S.rn)(hR:(apb R)=S.sn)(hH:(apb H)=S.hn){Q:aQ}(l3:(decide ((↑(ad.sn S):Int)>3))=true→an av9 77 5 (IT.drop 2) (ahD S L R H d) Q)(l4:(decide ((↑(ad.sn S):Int)>3))=false→Q (.exit 0) (ahE S L R H d)):an av9 77 5 IT (IV S L R H d) Q:=
 aS bo 2 (.fork 2 (.leaf [0] [0,1,2,3,4,5,6,7] [5,6,7]) (.leaf [0] [0,1,2,3,4,5,6,7] [5,6,7])) (fun u=>by kernel_rfl) (mF (c:=decide ((↑(ad.sn S):Int)>3)) (fun h0=>(aM L R H (mQ (l3 h0)))) (fun h0=>(aM L R H (mE 0 (l4 h0)))))
abbrev IY:=fun(S:ad) L (R:List Int) H (d:ay) T (K:List ByteArray) Rr dd (e:Int)=>(⟨[(2,aa e)],[ab (aJ (ad.z T) 1 5 6 7) 89,.abs dd,.dead,.dead,.dead,ab (ap L) 9,ab (aq Rr) 3,ab (ak H) 114]⟩:aj)
theorem ahG(S L R H d T K Rr dd)(e:Int){Q:bg}(aR:aph (ap L) af=true)(be:aph (ak H) af=true)(hq:Q (.ret (aa e)) (IY S L R H d T K Rr dd e).objs):aF av9 50 77 5 Q .ret (IY S L R H d T K Rr dd e):=aF.ret (vs:=[aa e]) (l:=[]) (bs:=[0,1,2,3,4,5,6,7]) (pl:=[5,6,7]) (q:=[ap L,aq Rr,ak H]) (fun u=>by kernel_rfl) (by kernel_rfl) (aC aR (aC (by simp) (aC be bc))) hq
abbrev ahH:=fun(S:ad) L (R:List Int) H (d:ay) T (K:List ByteArray) Rr dd (e:Int)=>(⟨[(0,ao 0)],[ab (aJ (ad.z T) 1 5 6 7) 89,.abs dd,.dead,.dead,.dead,ab (ap L) 9,ab (aq Rr) 3,ab (ak H) 114]⟩:aj)
theorem RB(S:ad)(L R H d)(T:ad)(K Rr dd)(e:Int)(pH:(ak H).all af=true)(hL:(apb L)=S.rn)(hR:(apb R)=S.sn)(hH:(apb H)=S.hn)(jN:aE av9 75 [ao 0] (aO S.z L R H d) fun r q=>r=.ret (aa e)∧q=wG T.z L Rr H dd){Q:aQ}(l3:(e != 0)=true→Q .ret (IY S L R H d T K Rr dd e))(l4:(e != 0)=false→Q .normal (ahH S L R H d T K Rr dd e)):an av9 77 5 (IT.drop 2) (RA S L R H d T K Rr dd e) Q:=
 aS (ahj S L R H d T K Rr dd e jN) 1000 (aA [3,1,1,1,1,1,1] (.fork 0 (.leaf [2] [0,1,2,3,4,5,8,7] [5,8,7]) (.leaf [0] [0,1,2,3,4,5,8,7] [5,8,7]))) (fun u=>by kernel_rfl) (aM L R H (mN (ll [ao 0] (aO (ad.z S) L R H d)) (mN (aZ L) (mN (aU H) (mN (aG Rr) (mF (c:=e != 0) (fun h0=>(mN (aZ L) (mN (aG Rr) (mN (aU H) (mR (l3 h0)))))) (fun h0=>(mN (aZ L) (mN (aG Rr) (mN (aU H) (mQ (an.done (by kernel_rfl) (l4 h0)))))))))))))
abbrev ahI:=fun S L R (H:List au) (d:ay) l dd (e:Int)=>(⟨[(9,aa 0)],[ab (aJ (ad.mk (ad.at_ S) (ad.more S) (ad.bq S) (ad.B (ad.z S)) (ad.n S) (ad.failed S) (ad.aB S) 0 (ad.rn S) (ad.bH S) (ad.sn S) (apb l) (ad.ee S) (ad.raw S) (ad.closed S)) 1 5 6 7) 89,.abs dd,.dead,.dead,.dead,ab (ap L) 9,ab (aq R) 3,ab (ak l) 114]⟩:aj)
abbrev ahJ:=fun S L R (H:List au) (d:ay) (l:List au) dd (e:Int)=>(⟨[(9,aa e)],[ab (HR (ad.z S) 1 (ah 5 (ad.rn S)) (ah 6 (ad.sn S)) (b8)) 89,.abs dd,.dead,.dead,.dead,ab (ap L) 9,ab (aq R) 3]⟩:aj)
abbrev ahK:=fun S L R H d (l:List au) (dd:ay) (e:Int)=>(⟨[(0,ao 0)],y8 S L R H d⟩:aj)
theorem ahL(S:ad)(L R H d l dd)(e:Int)(pH:(ak H).all af=true)(hL:(apb L)=S.rn)(hR:(apb R)=S.sn)(hH:(apb H)=S.hn)(pL:(ak l).all af=true)(cQ:aE av9 76 [ao 0,ah 3 S.sn] (aO S.z L R H d) (p8 S.z L R H (e,l,dd))){Q:aQ}(l3:(e==0)=true→an av9 77 5 ((ml.drop 10).drop 2) (ahI S L R H d l dd e) Q)(l4:(e==0)=false→an av9 77 5 ((ml.drop 10).drop 2) (ahJ S L R H d l dd e) Q):an av9 77 5 (ml.drop 10) (ahK S L R H d l dd e) Q:=
 aS (ahl S L R H d l dd e cQ) 2 (aA [5,1,1,1] (.fork 0 (aA [1,1,1,1] (.leaf [9] [0,1,2,3,4,5,6,8] [5,6,8])) (aA [1,1,1] (.leaf [9] [0,1,2,3,4,5,6] [5,6])))) (fun u=>by kernel_rfl) (aM L R H (mN (ll [ao 0,ah 3 (ad.sn S)] (aO (ad.z S) L R H d)) (mF (c:=e==0) (fun h0=>(aM L R H (mN (aU l) (mN (aZ L) (mN (aG R) (mN (aU l) (mQ (l3 h0)))))))) (fun h0=>(aM L R H (mN (aZ L) (mN (aG R) (mQ (l4 h0)))))))))
abbrev IZ:=fun S L R H d (e:Int)=>(⟨[(2,aa e)],y7 S L R H d⟩:aj)
theorem RC(S L R H d)(e:Int){Q:bg}(hq:Q (.ret (aa e)) (IZ S L R H d e).objs):aF av9 50 77 5 Q .ret (IZ S L R H d e):=aF.ret (vs:=[aa e]) (l:=[]) (bs:=[0,1,2,3,4,5,6,7]) (pl:=[5,6,7]) (q:=[ap L,aq R,ak H]) (fun u=>by kernel_rfl) (by kernel_rfl) (gL L R H bc) hq
abbrev ahM:=fun S L R H d (e:Int)=>(⟨[(9,aa e)],y8 S L R H d⟩:aj)
theorem RD(S:ad)(L R H d)(e:Int)(pH:(ak H).all af=true)(hL:(apb L)=S.rn)(hR:(apb R)=S.sn)(hH:(apb H)=S.hn){Q:aQ}(l3:Q .ret (IZ S L R H d e)):an av9 77 5 (ml.drop 12) (ahM S L R H d e) Q:=
 aS bo 1000 (.leaf [2] [0,1,2,3,4,5,6,7] [5,6,7]) (fun u=>by kernel_rfl) (aM L R H (mR l3))
abbrev RE:=fun S L R H d=>([ab (aJ (ad.mk (ad.at_ S) true (ad.bq S) (ad.B S) (ad.n S) (ad.failed S) (ad.aB S) (ad.ro S) (ad.rn S) (ad.bH S) (ad.sn S) (ad.hn S) (ad.ee S) (ad.raw S) (ad.closed S)) 1 2 3 4) 89,.abs d,ab (ap L) 9,ab (aq R) 3,ab (ak H) 114]:List ag)
abbrev I0:=fun S L R H d (k:Int) (dd:ay) (e:Int)=>(⟨[(2,aa 0)],RE S L R H d⟩:aj)
theorem ahN(S L R H d)(k:Int)(dd)(e:Int){Q:bg}(hq:Q (.ret (aa 0)) (I0 S L R H d k dd e).objs):aF av9 51 34 5 Q .ret (I0 S L R H d k dd e):=aF.ret (vs:=[aa 0]) (l:=[]) (bs:=[0,1,2,3,4]) (pl:=[2,3,4]) (q:=[ap L,aq R,ak H]) (fun u=>by kernel_rfl) (by kernel_rfl) (gL L R H bc) hq
abbrev I1:=fun S L R H d (k:Int) (dd:ay) (e:Int)=>(⟨[(2,aa 0)],RE S L R H d⟩:aj)
theorem ahO(S L R H d)(k:Int)(dd)(e:Int){Q:bg}(hq:Q (.ret (aa 0)) (I1 S L R H d k dd e).objs):aF av9 51 34 5 Q .ret (I1 S L R H d k dd e):=aF.ret (vs:=[aa 0]) (l:=[]) (bs:=[0,1,2,3,4]) (pl:=[2,3,4]) (q:=[ap L,aq R,ak H]) (fun u=>by kernel_rfl) (by kernel_rfl) (gL L R H bc) hq
abbrev I2:=fun S L R H (d:ay) (k:Int) dd (e:Int)=>(⟨[(2,aa e)],[ab (aJ (ad.mk (ad.at_ S) (ad.more S) true (ad.B S) (ad.n S) (ad.failed S) (ad.aB S) (ad.ro S) (ad.rn S) (ad.bH S) (ad.sn S) (ad.hn S) (ad.ee S) (ad.raw S) (ad.closed S)) 1 2 3 4) 89,.abs dd,ab (ap L) 9,ab (aq R) 3,ab (ak H) 114]⟩:aj)
theorem ahP(S L R H d)(k:Int)(dd)(e:Int){Q:bg}(hq:Q (.ret (aa e)) (I2 S L R H d k dd e).objs):aF av9 51 34 5 Q .ret (I2 S L R H d k dd e):=aF.ret (vs:=[aa e]) (l:=[]) (bs:=[0,1,2,3,4]) (pl:=[2,3,4]) (q:=[ap L,aq R,ak H]) (fun u=>by kernel_rfl) (by kernel_rfl) (gL L R H bc) hq
abbrev ahQ:=fun S L R H d (k:Int) (dd:ay) (e:Int)=>(⟨[(0,ao 0)],[ab (aJ S 1 2 3 4) 89,.abs d,ab (ap L) 9,ab (aq R) 3,ab (ak H) 114]⟩:aj)
theorem ahR(S:ad)(L R H d)(k:Int)(dd)(e:Int)(pH:(ak H).all af=true)(hR:(apb R)=S.sn)(hH:(apb H)=S.hn)(hle:aE av9 53 [ao 0,ah 4 S.hn] (aO S L R H d) fun r q=>r=.ret (aa k)∧q=aO S L R H d)(iz:aE av9 78 [ao 0,ah 3 S.sn] (aO S L R H d) fun r q=>r=.ret (aa e)∧q=aO S L R H dd){Q:aQ}(l3:(decide ((↑(ad.rn S):Int)>0))=true→Q .ret (I0 S L R H d k dd e))(l5:(decide ((↑(ad.rn S):Int)>0))=false→(decide (k ≥ 0))=true→Q .ret (I1 S L R H d k dd e))(l7:(decide ((↑(ad.rn S):Int)>0))=false→(decide (k ≥ 0))=false→Q .ret (I2 S L R H d k dd e)):an av9 34 5 aho (ahQ S L R H d k dd e) Q:=
 aS (ahn S L R H d k dd e hle iz) 1000 (.fork 2 (aA [1,1,1,1,1,1,1] (.leaf [2] [0,1,2,3,4] [2,3,4])) (aA [0,0,0,0,2,3,1,1,1,1,1,1,0,0] (.fork 0 (.leaf [2] [0,1,2,3,4] [2,3,4]) (aA [5,1,1,1,1,1,1] (.leaf [2] [0,1,2,3,4] [2,3,4]))))) (fun u=>by kernel_rfl) (mF (c:=decide ((↑(ad.rn S):Int)>0)) (fun h0=>(IU 7 h0 (aM L R H (mR (l3 h0))))) (fun h0=>(IU 5 h0 (aM L R H (mN (ll [ao 0,ah 4 (ad.hn S)] (aO S L R H d)) (aM L R H (IU 2 h0 (mF (c:=decide (k ≥ 0)) (fun h1=>(aM L R H (mR (l5 h0 h1)))) (fun h1=>(aM L R H (mN (ll [ao 0,ah 3 (ad.sn S)] (aO S L R H d)) (aM L R H (aM L R H (mR (l7 h0 h1)))))))))))))))
end
theorem RF(no:Int):∀(l:List ByteArray) (d:ay),b7 (ja no l d).2 no≤b7 d no+bP l∧∀m,m≠no→b7 (ja no l d).2 m=b7 d m
 | [],d=>⟨apI _,fun _ _=>rfl⟩
 |x::l,d=>by
  have h1:=P6 d no (cd x)
  rw[mc]at h1
  have h2:∀m,m≠no→b7 (bO d no (cd x)).2 m=b7 d m:=fun m h=>Ia d _ h
  unfold ja
  split
  ·exact⟨by show _≤b7 d no+(x.size+1+bP l);omega,h2⟩
  ·obtain⟨a,b⟩:=RF no l (bO d no (cd x)).2
   exact⟨by show _≤b7 d no+(x.size+1+bP l);omega,fun m h=>(b m h).trans (h2 m h)⟩
def mm(s:ci):Nat:=eK s.2.2.2 s.2.2.1+bP s.2.1
structure Good(F:Nat)(s:ci):Prop where
 ok:ju s
 old:∀r∈s.2.2.1,r≤s.2.2.2.made
 bQ:mm s≤F
theorem Good.runs{F:Nat}{s:ci}(h:Good F s)(hF:F≤1000000):jo s.2.2.2 s.2.2.1:=⟨h.ok.cF,h.old,by have:=h.bQ;unfold mm at this;omega⟩
theorem ahS{d d':ay}{l:List Int}(h:∀r∈l,b7 d' r=b7 d r):eK d' l=eK d l:=by
 induction l with
 |nil=>rfl
 |cons x l ih=>unfold eK;rw[h x apC,ih fun y hy=>h y (apB _ hy)]
theorem Good.mf{F:Nat}{s:ci}(h:Good F s)(he:(cM s.1 s.2.1 s.2.2.1 s.2.2.2).1=0):Good F (cM s.1 s.2.1 s.2.2.1 s.2.2.2).2:=by
 obtain⟨h1,h2⟩:=h.ok.mf
 refine⟨h1,?_,?_⟩
 ·obtain⟨S,L,R,d⟩:=s
  have hold:∀r∈R,r≤d.made:=h.old
  have nK:=H2 (d:=d)
  have gj:=Ch (d:=d)
  have hok:ju (S,L,R,d):=h.ok
  dsimp only at*
  unfold cM at he⊢
  split at he
  ·rename_i g;exact absurd he g
  rename_i g
  have g:(bu d).2.1=0:=aq2.1 g
  rw[if_neg (fun h=>h g)]
  split at he
  ·rename_i g2;exact absurd he g2
  rename_i g2
  rw[if_neg g2]
  rw[if_pos g]at nK
  have cq:=(H0 (bu d).1 (bE (aV S.aB) L) (bu d).2.2 (hok.cF.uC) fun f hf=>by
   rw[B0 hok.cF g]at hf
   cases hf
   show 0+_≤_
   rw[wu (kR L)]
   have:=hok.bQ
   show 0+bP L≤_
   have:bP L≤400:=this
   omega).2
  intro r hr
  dsimp only at hr⊢
  rcases apN.1 hr with hr|hr
  ·have:=hold r hr;omega
  ·have e1:=aqd.1 hr
   have e2:=gj g
   omega
 ·obtain⟨S,L,R,d⟩:=s
  have hold:∀r∈R,r≤d.made:=h.old
  have iL:eK d R+bP L≤F:=h.bQ
  have gj:=Ch (d:=d)
  have hok:ju (S,L,R,d):=h.ok
  dsimp only at*
  unfold cM at he⊢
  split at he
  ·rename_i g;exact absurd he g
  rename_i g
  have g:(bu d).2.1=0:=aq2.1 g
  rw[if_neg (fun h=>h g)]
  split at he
  ·rename_i g2;exact absurd he g2
  rename_i g2
  rw[if_neg g2]
  obtain⟨w1,w2⟩:=RF (bu d).1 (bE (aV S.aB) L) (bu d).2.2
  rw[Qk hok.cF g,wu (kR L)]at w1
  have e1:eK (ja (bu d).1 (bE (aV S.aB) L) (bu d).2.2).2 R=eK d R:=ahS fun r hr=>by
   have h3:=hold r hr
   rw[w2 r (by rw[gj g];omega),Ig d r h3]
  unfold mm
  dsimp only
  rw[wx,e1]
  show eK d R+(b7 _ _+0)+0≤F
  omega
theorem Good.put{F:Nat}{s:ci}(h:Good F s)(x:ByteArray)(hx:bP s.2.1+(x.size+1)≤400):Good (F+(x.size+1)) (jI x s):=by
 refine⟨h.ok.put x hx,h.old,?_⟩
 have:=h.bQ
 unfold mm jI at*
 dsimp only at*
 rw[yU]
 show _+(bP s.2.1+(x.size+1+0))≤_
 omega
theorem y9:∀(l:List ByteArray) (F:Nat) (s:ci),Good F s→(∀x∈l,x.size≤64)→ju (cY l s).2∧((cY l s).1=0→Good (F+bP l) (cY l s).2)
 | [],F,s,h,hx=>⟨h.ok,fun _=>h⟩
 |x::l,F,s,h,hx=>by
  have fQ:=hx x apC
  have jR:∀y∈l,y.size≤64:=fun y hy=>hx y (apB _ hy)
  have hw:=h.ok.bH
  have hlen:=h.ok.len
  unfold cY
  by_cases hc:0<s.1.rn∧s.1.bH+x.size+1>256
  ·rw[if_pos hc]
   by_cases he:(cM s.1 s.2.1 s.2.2.1 s.2.2.2).1=0
   ·rw[if_neg (fun h=>h he)]
    have h1:=h.mf he
    have qj:=(h.ok.mf).2 he
    have hp:=h1.put x (by rw[qj];show 0+(x.size+1)≤400;omega)
    obtain⟨a,b⟩:=y9 l _ _ hp jR
    exact⟨a,fun e=>by have:=b e;show Good (F+(x.size+1+bP l)) _;rw[←arf];exact this⟩
   ·rw[if_pos he]
    exact⟨h.ok.mf.1,fun e=>absurd e he⟩
  ·rw[if_neg hc]
   have hp:=h.put x (by
    by_cases h0:0<s.1.rn
    ·have:¬s.1.bH+x.size+1>256:=fun h=>hc ⟨h0,h⟩
     omega
    ·have:s.2.1=[]:=List.eq_nil_of_length_eq_zero (by omega)
     rw[this];show 0+(x.size+1)≤400;omega)
   obtain⟨a,b⟩:=y9 l _ _ hp jR
   exact⟨a,fun e=>by have:=b e;show Good (F+(x.size+1+bP l)) _;rw[←arf];exact this⟩
noncomputable def dI(f:Bool):Nat→List Int→ay→Int×List Int×ay
 |0,R,d=>(0,R,d)
 |m+1,R,d=>if R.length≤3 then(0,R,d)else if(fU f R d).1≠0 then((fU f R d).1,R,(fU f R d).2.2)else dI f m (fU f R d).2.1 (fU f R d).2.2
def fV(s:ci):Int×ci:=if s.1.n=0 then(0,s)else cY [gU s.1] ({s.1 with n:=0},s.2)
def lv(s:ci):ci:=({s.1 with ee:=true},s.2)
def fL(s:ci):Int×ci:=if 0<s.1.rn then cM s.1 s.2.1 s.2.2.1 s.2.2.2 else(0,s)
noncomputable def jp(s:ci)(H:List au):Int×ci×List au:=
 if(dI s.1.aB s.2.2.1.length s.2.2.1 s.2.2.2).1≠0 then((dI s.1.aB s.2.2.1.length s.2.2.1 s.2.2.2).1,({s.1 with sn:=(dI s.1.aB s.2.2.1.length s.2.2.1 s.2.2.2).2.1.length},s.2.1,(dI s.1.aB s.2.2.1.length s.2.2.1 s.2.2.2).2),H)
 else match dI s.1.aB s.2.2.1.length s.2.2.1 s.2.2.2 with
  |(_,R,d)=>match dS R [] d with
   |(e,l,dd)=>if e=0 then(0,({s.1 with sn:=R.length,hn:=l.length},s.2.1,R,dd),l)else(e,({s.1 with sn:=R.length,hn:=0},s.2.1,R,dd),[])
noncomputable def qZ(s:ci)(H:List au):Int×ci×List au:=if(fL s).1≠0 then((fL s).1,(fL s).2,H)else jp (fL s).2 H
noncomputable def sK(s:ci)(H:List au):Int×ci×List au:=if s.1.sn=0 then(0,(s.1,bE (aV s.1.aB) s.2.1,s.2.2),H)else qZ s H
noncomputable def iw(s:ci)(H:List au):Int×ci×List au:=if(fV s).1≠0 then((fV s).1,(fV s).2,H)else sK (lv (fV s).2) H
theorem wH(S:ad):(gU S).size=S.n.toNat:=by
 show(qY S.B S.n.toNat).toArray.size=_
 rw[List.size_toArray,agU]
theorem Cy{F:Nat}{s:ci}(h:Good F s)(hc:jJ s.1):ju (fV s).2∧((fV s).1=0→Good (F+(s.1.n.toNat+1)) (fV s).2):=by
 unfold fV
 split
 ·exact⟨h.ok,fun _=>⟨h.ok,h.old,by have:=h.bQ;dsimp only;omega⟩⟩
 ·have h1:Good F ({s.1 with n:=0},s.2):=⟨⟨h.ok.len,h.ok.runs,h.ok.cF,h.ok.made,h.ok.bH,h.ok.bQ⟩,h.old,h.bQ⟩
  have hn:=hc.n1
  obtain⟨a,b⟩:=y9 [gU s.1] F _ h1 fun x hx=>by rw[aqd.1 hx,wH];omega
  refine⟨a,fun e=>?_⟩
  have:=b e
  rw[show bP [gU s.1]=s.1.n.toNat+1 by show(gU s.1).size+1+0=_;rw[wH]]at this
  exact this
theorem Cz{F:Nat}{s:ci}(h:Good F s):Good F (lv s):=⟨⟨h.ok.len,h.ok.runs,h.ok.cF,h.ok.made,h.ok.bH,h.ok.bQ⟩,h.old,h.bQ⟩
theorem CA(f:Bool):∀(m:Nat) (R:List Int) (d:ay),jo d R→cj (dI f m R d).2.2∧((dI f m R d).1=0→jo (dI f m R d).2.2 (dI f m R d).2.1∧(R.length≤m→(dI f m R d).2.1.length≤3))∧(dI f m R d).2.1.length≤R.length
 |0,R,d,h=>⟨h.cF,fun _=>⟨h,fun hl=>by show R.length≤3;omega⟩,apI _⟩
 |m+1,R,d,h=>by
  unfold dI
  by_cases h3:R.length≤3
  ·rw[if_pos h3];exact⟨h.cF,fun _=>⟨h,fun _=>h3⟩,apI _⟩
  rw[if_neg h3]
  obtain⟨p1,p2⟩:=II f h
  by_cases he:(fU f R d).1=0
  ·rw[if_neg (fun h=>h he)]
   obtain⟨q1,q2,q3⟩:=p2 he
   obtain⟨a,b,c⟩:=CA f m _ _ q1
   exact⟨a,fun e=>⟨(b e).1,fun hl=>(b e).2 (by omega)⟩,by omega⟩
  ·rw[if_pos he]
   exact⟨p1,fun e=>absurd e he,apI _⟩
theorem an.less{P:apu}{n k:Nat}{l:List apV}{d:aj}{Q:bd→aj→Prop}(I3:List (Nat×ape))(hc:(iK (d.sl.map (·.1))&&d.sl.all (fun p=>apy p.1 n)&&apG n 1024)=true)(hs:∀p∈I3,p∈d.sl)(h:an P n k l ⟨I3,d.objs⟩ Q):an P n k l d Q:=by
 intro X hn hk a w hd
 subst hn hk
 obtain⟨ρ,u,M,hd⟩:=hd
 simp only[apt]at hc
 obtain⟨⟨c1,c2⟩,c3⟩:=hc
 have c3:=apL c3
 have cf:a.tmps.size=X.n:=by have:=hd.fr.size;rw[this];show(gB X.n u d.sl).length=_;unfold gB;simp[lN]
 have tF:a.defers=M.map eQ:=hd.fr.rK rfl
 obtain⟨u',hu⟩:=FR.make (ρ:=ρ) (a:=a) (l:=I3) cf c3 tF (fun i=>⟨_,hd.fr.at_ i⟩) fun p hp=>by
  have hp:=hs p hp
  have hn:=dQ.1 (apR.1 c2 p hp)
  have h8:=hd.fr.at_ p.1
  rw[Fr.xZ,vC c3 hn (vO c1 p hp)]at h8
  exact⟨hn,h8⟩
 exact h X rfl rfl a w ⟨ρ,u',M,hd.full,hd.kept,hu,hd.mem,hd.bQ,hd.quiet,hd.fX,hd.outside⟩
def RG(x:Int×ci×List au)(r:bx)(q:List ag):Prop:=r=.ret (.int .i64 x.1)∧q=jm x.2.1.1.z x.2.1.2.1 x.2.1.2.2.1 x.2.2 x.2.1.2.2.2
abbrev I4(i:Nat)(s:ci)(H:List au)(x:Int×ci×List au):Prop:=
 an av9 (cn av9 50) 5 (ml.drop i) ⟨[(0,.pointer (some ⟨0,0,none⟩))],jm s.1.z s.2.1 s.2.2.1 H s.2.2.2⟩ (aF av9 50 (cn av9 50) 5 (RG x))
structure ahT(f:Bool)(v:Int×List Int×ay)(s:List Int×ay×Nat):Prop where
 e:dI f s.2.2 s.1 s.2.1=v
 ok:jo s.2.1 s.1
 m:s.1.length≤s.2.2
theorem ahU{f:Bool}{m:Nat}{R:List Int}{d:ay}(h:R.length≤3):dI f m R d=(0,R,d):=by
 cases m with
 |zero=>rfl
 |succ m=>unfold dI;rw[if_pos h]
theorem ahV{f:Bool}{m:Nat}{R:List Int}{d:ay}(h:¬R.length≤3):dI f (m+1) R d=if(fU f R d).1≠0 then((fU f R d).1,R,(fU f R d).2.2)else dI f m (fU f R d).2.1 (fU f R d).2.2:=by
 conv=>lhs;unfold dI
 rw[if_neg h]
theorem RH(S:ad)(L:List ByteArray)(R:List Int)(H:List au)(d:ay)(hL:L.length=S.rn)(hR:R.length=S.sn)(hH:H.length=S.hn)(RI:R.length≤900000)(hr:jo d R):I4 9 (S,L,R,d) H (jp (S,L,R,d) H):=by
 have pH:=aU H
 have hv:jp (S,L,R,d) H=if(dI S.aB R.length R d).1≠0 then((dI S.aB R.length R d).1,({S with sn:=(dI S.aB R.length R d).2.1.length},L,(dI S.aB R.length R d).2),H)
  else match dI S.aB R.length R d with
   |(_,R,d)=>match dS R [] d with
    |(e,l,dd)=>if e=0 then(0,({S with sn:=R.length,hn:=l.length},L,R,dd),l)else(e,({S with sn:=R.length,hn:=0},L,R,dd),[]):=rfl
 rw[hv]
 clear hv
 obtain⟨v,hv⟩:∃v,v=dI S.aB R.length R d:=⟨_,rfl⟩
 rw[←hv]
 refine an.eU 9 0 (by kernel_rfl) ?_
 have hS:S={S with sn:=R.length}:=by rw[hR]
 rw[hS]
 clear hS
 refine an.fS (fun t:List Int×ay×Nat=>⟨[(0,.pointer (some ⟨0,0,none⟩))],jm (ad.z {S with sn:=t.1.length}) L t.1 H t.2.1⟩) (fun t=>t.2.2) (fun t=>ahT S.aB v t∧t.1.length≤900000) (R,d,R.length) (by kernel_rfl) ⟨⟨hv.symm,hr,apI _⟩,RI⟩ ?_
 clear hv hr hR RI
 rintro⟨R,d,m⟩ ⟨⟨h1,h2,h3⟩,h4⟩
 dsimp only at h1 h2 h3 h4
 apply ahF {S with sn:=R.length} L R H d pH hL rfl hH
 case l4=>
  intro g
  have g:=of_decide_eq_false g
  have g:¬((R.length:Nat):Int)>3:=g
  have g3:R.length≤3:=by omega
  rw[ahU g3]at h1
  rw[←h1,if_neg (fun h=>h rfl)]
  dsimp only
  with_reducible (repeat first|refine QL.ret ?_|refine QL.exit ?_|refine QB.ret ?_|refine QB.cp ?_|refine QB.normal ?_|refine QB.cy (by rfl) ?_)
  have cQ:=QU (ad.z {S with sn:=R.length}) L R H d 0 R.length (by omega) h4 h2.cF
  rw[atB,as2]at cQ
  generalize dS R [] d=o at*
  obtain⟨e,l,dd⟩:=o
  dsimp only
  apply ahL {S with sn:=R.length} L R H d l dd e pH hL rfl hH (aU l) cQ
  case l3=>
   intro ge
   have ge:e=0:=by simpa using ge
   rw[if_pos ge]
   apply RD {S with sn:=R.length,hn:=l.length} L R l dd 0 (aU l) hL rfl rfl
   ·exact RC {S with sn:=R.length,hn:=l.length} L R l dd 0 ⟨rfl,rfl⟩
  case l4=>
   intro ge
   have ge:¬e=0:=by simpa using ge
   rw[if_neg ge]
   refine an.lp 0 74 114 QQ rfl rfl (by kernel_rfl) (d':=⟨[(9,.int .i64 e)],jm (ad.z {S with sn:=R.length,hn:=0}) L R [] dd⟩) rfl ?_
   apply RD {S with sn:=R.length,hn:=0} L R [] dd e rfl hL rfl rfl
   ·exact RC {S with sn:=R.length,hn:=0} L R [] dd e ⟨rfl,rfl⟩
 case l3=>
  intro g
  have g:=of_decide_eq_true g
  have g:((R.length:Nat):Int)>3:=g
  have g3:¬R.length≤3:=by omega
  cases m with
  |zero=>omega
  |succ m=>
  rw[ahV g3]at h1
  have jN:=agT (ad.z {S with sn:=R.length}) L R H d rfl (by omega) h4 h2
  obtain⟨p1,p2⟩:=II S.aB h2
  rw[show(ad.z {S with sn:=R.length}).aB=S.aB from rfl]at jN
  generalize fU S.aB R d=o at*
  obtain⟨e,R2,dd⟩:=o
  dsimp only at*
  by_cases ge:e=0
  ·obtain⟨q1,q2,q3⟩:=p2 ge
   rw[if_neg (fun h=>h ge)]at h1
   rw[show sI (ad.z {S with sn:=R.length}) R (e,R2,dd)=(ad.z {S with sn:=R2.length},R2)by unfold sI;rw[if_pos ge];rfl]at jN
   apply RB {S with sn:=R.length} L R H d {S with sn:=R2.length} [] R2 dd e pH hL rfl hH jN
   case l3=>intro g5;rw[ge]at g5;cases g5
   case l4=>intro _;exact QL.to (R2,dd,m) ⟨⟨h1,q1,by dsimp only;omega⟩,by dsimp only;omega⟩ (by dsimp only;omega) rfl
  ·rw[if_pos ge]at h1
   rw[show sI (ad.z {S with sn:=R.length}) R (e,R2,dd)=(ad.z {S with sn:=R.length},R)by unfold sI;rw[if_neg ge]]at jN
   apply RB {S with sn:=R.length} L R H d {S with sn:=R.length} [] R dd e pH hL rfl hH jN
   case l3=>
    intro g5
    rw[←h1,if_pos ge]
    with_reducible (repeat first|refine QL.ret ?_|refine QL.exit ?_|refine QB.ret ?_|refine QB.cp ?_|refine QB.normal ?_|refine QB.cy (by rfl) ?_)
    exact ahG {S with sn:=R.length} L R H d {S with sn:=R.length} [] R dd e (by simp) pH ⟨rfl,rfl⟩
   case l4=>intro g5;exact absurd (by simpa using g5) ge
theorem ahW(F:Nat)(S:ad)(L:List ByteArray)(R:List Int)(H:List au)(d:ay)(hF:F≤900000)(hg:Good F (S,L,R,d))(hH:H.length=S.hn):I4 7 (S,L,R,d) H (qZ (S,L,R,d) H):=by
 have pH:=aU H
 have hL:L.length=S.rn:=hg.ok.len
 have hR:R.length=S.sn:=hg.ok.runs
 have fm:cj d:=hg.ok.cF
 have iJ:R.length≤d.made:=hg.ok.made
 have aoz:=fm.made
 have hw:bP L≤400:=hg.ok.bQ
 have dk:=PP S L R H d hL hR fm (by omega) (by omega)
 have pz:=hg.mf
 have ahX:=hg.ok.mf
 have hv:qZ (S,L,R,d) H=if 0<S.rn then(if(cM S L R d).1≠0 then((cM S L R d).1,(cM S L R d).2,H)else jp (cM S L R d).2 H)else jp (S,L,R,d) H:=by
  unfold qZ fL
  by_cases h:0<S.rn
  ·rw[if_pos h,if_pos h]
  ·rw[if_neg h,if_neg h]
   exact if_neg (fun h=>h rfl)
 rw[hv]
 clear hv
 dsimp only at pz ahX
 have I5:(cM S L R d).2.1.hn=S.hn:=by unfold cM;split;rfl;split;rfl;rfl
 generalize cM S L R d=o at*
 obtain⟨e,T,K,Rr,dd⟩:=o
 dsimp only at*
 apply ahC S L R H d T K Rr dd e pH hL hR hH dk
 case l2=>
  intro g ge
  have g:=of_decide_eq_true g
  have ge:e≠0:=by simpa using ge
  rw[if_pos (by omega),if_pos ge]
  exact ahz S L R H d T K Rr dd e pH ⟨rfl,rfl⟩
 case l3=>
  intro g ge
  have g:=of_decide_eq_true g
  have ge:e=0:=by simpa using ge
  rw[if_pos (by omega),if_neg (fun h=>h ge)]
  have h2:=pz ge
  have LS:Rr.length≤dd.made:=h2.ok.made
  have cq:=h2.ok.cF.made
  exact RH T K Rr H dd h2.ok.len h2.ok.runs (hH.trans I5.symm) (by have:dd.made≤64:=cq;omega) (h2.runs (by omega))
 case l6=>
  intro g
  have g:=of_decide_eq_false g
  rw[if_neg (by omega)]
  exact RH S L R H d hL hR hH (by omega) (hg.runs (by omega))
theorem RJ(F:Nat)(S:ad)(L:List ByteArray)(R:List Int)(H:List au)(d:ay)(hF:F≤900000)(hg:Good F (S,L,R,d))(hH:H.length=S.hn):I4 4 (S,L,R,d) H (sK (lv (S,L,R,d)) H):=by
 have pH:=aU H
 have hL:L.length=S.rn:=hg.ok.len
 have hR:R.length=S.sn:=hg.ok.runs
 have hw:bP L≤400:=hg.ok.bQ
 have PQ:=wv L
 have hv:sK (lv (S,L,R,d)) H=if S.sn=0 then(0,({S with ee:=true},bE (aV S.aB) L,R,d),H)else qZ (lv (S,L,R,d)) H:=rfl
 rw[hv]
 clear hv
 apply ahy S L R H d pH hL hR hH
 case n0=>
  intro _
  have hO:=wl (S:=ad.z {S with ee:=true}) (R:=R) (H:=H) (d:=d) (L:=L) rfl hL (by omega)
  unfold cL at hO
  rw[show(aJ (ad.mk (ad.at_ S) (ad.more S) (ad.bq S) (ad.B (ad.z S)) (ad.n S) (ad.failed S) (ad.aB S) (0) (ad.rn S) (ad.bH S) (ad.sn S) (ad.hn S) (true) (ad.raw S) (ad.closed S)) 2 0 3 4)=aJ (ad.z {S with ee:=true}) 2 0 3 4 from rfl,hO]
  simp only[aqn,Bool.and_self]
 case l3=>
  intro g
  have g:S.sn=0:=by have:((S.sn:Nat):Int)=0:=by simpa using g
                    omega
  rw[if_pos g]
  refine ahw S L R H d (by simp) pH ⟨rfl,?_⟩
  rw[iP]
  rfl
 case l5=>
  intro g
  have g:¬S.sn=0:=fun h=>by rw[h]at g;cases g
  rw[if_neg g]
  rw[aqu]
  exact ahW F {S with ee:=true} L R H d hF (Cz hg) hH
theorem ahY(F:Nat)(S:ad)(L:List ByteArray)(R:List Int)(H:List au)(d:ay)(hF:F≤800000)(hg:Good F (S,L,R,d))(hc:jJ S)(hH:H.length=S.hn):
 aE av9 50 [.pointer (some ⟨0,0,none⟩)] (aO S.z L R H d) (RG (iw (S,L,R,d) H)):=by
 have pH:=aU H
 have hL:L.length=S.rn:=hg.ok.len
 have hR:R.length=S.sn:=hg.ok.runs
 have pK:=hc.n0
 have kn:=hc.n1
 refine aE.cT (n:=cn av9 50) (by kernel_rfl) ?_
 refine an.move (d':=⟨[(0,.pointer (some ⟨0,0,none⟩))],jm S.z L R H d⟩) [some 0,some 1,none,none,none,some 2,some 3,some 4] [2,3,4] (q:=[ap L,aq R,ak H]) (by kernel_rfl) (aC (by simp) (aC (by simp) (aC pH bc))) (by kernel_rfl) (by kernel_rfl) ?_
 apply ahr S L R H d pH hL hR hH pK kn
 case l3=>
  intro g
  have g:S.n=0:=by simpa using g
  have hb:fV (S,L,R,d)=(0,(S,L,R,d)):=by unfold fV;exact if_pos g
  have hv:iw (S,L,R,d) H=sK (lv (S,L,R,d)) H:=by unfold iw;rw[hb];exact if_neg (fun h=>h rfl)
  rw[hv]
  refine an.acW 3 (c:=17) (by kernel_rfl) (by rfl) (by rfl) (by kernel_rfl) ?_
  refine an.less [(0,.pointer (some ⟨0,0,none⟩))] (by kernel_rfl) (by intro p hp;rw[aqd.1 hp];exact apC) ?_
  exact RJ F S L R H d (by omega) hg hH
 case n4=>
  intro _
  rw[show(aJ (ad.mk (ad.at_ S) (ad.more S) (ad.bq S) (ad.B (ad.z S)) (0) (ad.failed S) (ad.aB S) (0) (ad.rn S) (ad.bH S) (ad.sn S) (ad.hn S) (ad.ee S) (ad.raw S) (ad.closed S)) 1 5 6 7)=aJ (ad.z {S with n:=0}) 1 5 6 7 from rfl,IK _ _ _ _ _ _ (by omega)]
  rfl
 case l5=>
  intro g
  have g:¬S.n=0:=by simpa using g
  have hx:apD (aqc (cut (aJ (ad.mk (ad.at_ S) (ad.more S) (ad.bq S) (ad.B (ad.z S)) (0) (ad.failed S) (ad.aB S) (0) (ad.rn S) (ad.bH S) (ad.sn S) (ad.hn S) (ad.ee S) (ad.raw S) (ad.closed S)) 1 5 6 7) 3 (apd (ad.n S)-0)) bytesOf) []=qY S.B S.n.toNat:=by
   rw[show(aJ (ad.mk (ad.at_ S) (ad.more S) (ad.bq S) (ad.B (ad.z S)) (0) (ad.failed S) (ad.aB S) (0) (ad.rn S) (ad.bH S) (ad.sn S) (ad.hn S) (ad.ee S) (ad.raw S) (ad.closed S)) 1 5 6 7)=aJ (ad.z {S with n:=0}) 1 5 6 7 from rfl,IK _ _ _ _ _ _ (by omega)]
   rfl
  refine an.vN 3 (c:=17) (b:=true) (by kernel_rfl) (by rfl) (by rfl) ?_
  refine an.join ?_
  unfold Ry
  rw[hx,show ap0 (qY S.B S.n.toNat).toArray=gU S from rfl]
  refine an.less [(0,.pointer (some ⟨0,0,none⟩)),(3,.string (gU S))] (by kernel_rfl) (by intro p hp;rcases apx.1 hp with rfl|hp;exact apC;rw[aqd.1 hp];exact apB _ apC) ?_
  have ahZ:Good F ({S with n:=0},L,R,d):=⟨⟨hg.ok.len,hg.ok.runs,hg.ok.cF,hg.ok.made,hg.ok.bH,hg.ok.bQ⟩,hg.old,hg.bQ⟩
  have nX:=PY [gU S] false 1 rfl (by omega) (fun x hx=>by rw[aqd.1 hx,wH];omega) H ({S with n:=0},L,R,d) ahZ.ok
  obtain⟨r1,r2⟩:=Cy hg hc
  have hb:fV (S,L,R,d)=cY [gU S] ({S with n:=0},L,R,d):=by unfold fV;exact if_neg g
  have I5:(cY [gU S] ({S with n:=0},L,R,d)).2.1.hn=S.hn:=by
   unfold cY
   split
   ·split
    ·unfold cM;split;rfl;split;rfl;rfl
    ·show(cM _ _ _ _).2.1.hn=_;unfold cM;split;rfl;split;rfl;rfl
   ·rfl
  unfold iw
  rw[hb]at r1 r2⊢
  generalize cY [gU S] ({S with n:=0},L,R,d)=o at*
  obtain⟨e,T,K,Rr,dd⟩:=o
  dsimp only at*
  apply ahv {S with n:=0} L R H d T K Rr dd e (gU S) pH hL hR hH nX
  case l2=>
   intro ge
   have ge:e≠0:=by simpa using ge
   rw[if_pos ge]
   refine QA.ret ?_
   exact ahs {S with n:=0} L R H d T K Rr dd e (gU S) pH ⟨rfl,rfl⟩
  case l3=>
   intro ge
   have ge:e=0:=by simpa using ge
   rw[if_neg (fun h=>h ge)]
   refine QA.normal ?_
   exact RJ (F+(S.n.toNat+1)) T K Rr H dd (by omega) (r2 ge) (hH.trans I5.symm)
@[simp] theorem aoA(l:List au):(ak l).all af=true:=aU l
def ad.pop(S:ad):ad:={S with ro:=S.ro+1,rn:=S.rn-1}
def lx(S:ad)(H:List au):Bool:=decide (0<S.rn)||(eI S.aB H).isSome
def cZ(S:ad)(R:List Int)(H:List au)(d:ay):Int×ad×ay:=
 if lx S H then(0,{S with more:=true},d)else((fK R d).1,{S with bq:=true},(fK R d).2)
theorem RK(S:ad)(L:List ByteArray)(R:List Int)(H:List au)(d:ay)(hR:R.length=S.sn)(hH:H.length=S.hn)(hl:H.length≤1000000)(hr:R.length≤1000000)(hd:cj d):
 aE av9 51 [.pointer (some ⟨0,0,none⟩)] (aO S L R H d) fun r q=>r=.ret (.int .i64 (cZ S R H d).1)∧q=aO (cZ S R H d).2.1 L R H (cZ S R H d).2.2:=by
 have pH:=aU H
 have hle:=afq S L R d H hl
 rw[hH]at hle
 have iz:=QF S L R H d 0 R.length (by omega) hr hd
 rw[atB,as2,hR]at iz
 refine aE.cT (n:=cn av9 51) (by kernel_rfl) ?_
 apply ahR S L R H d (kI (eI S.aB H)) (fK R d).2 (fK R d).1 pH hR hH hle iz
 case l3=>
  intro g
  have g:=of_decide_eq_true g
  have hm:lx S H=true:=by unfold lx;rw[decide_eq_true (by omega)];rfl
  unfold cZ
  rw[if_pos hm]
  exact ahN S L R H d (kI (eI S.aB H)) (fK R d).2 (fK R d).1 ⟨rfl,rfl⟩
 case l5=>
  intro g gk
  have gk:=of_decide_eq_true gk
  have hm:lx S H=true:=by
   unfold lx
   cases hk:eI S.aB H with
   |none=>rw[hk]at gk;exact absurd gk (by show¬(0:Int)≤-1;omega)
   |some k=>rw[Bool.or_comm];rfl
  unfold cZ
  rw[if_pos hm]
  exact ahO S L R H d (kI (eI S.aB H)) (fK R d).2 (fK R d).1 ⟨rfl,rfl⟩
 case l7=>
  intro g gk
  have g:=of_decide_eq_false g
  have gk:=of_decide_eq_false gk
  have hm:lx S H=false:=by
   unfold lx
   rw[decide_eq_false (by omega)]
   cases hk:eI S.aB H with
   |none=>rfl
   |some k=>rw[hk]at gk;exact absurd (show(0:Int)≤(k:Int)by omega) gk
  unfold cZ
  rw[if_neg (by rw[hm];simp)]
  exact ahP S L R H d (kI (eI S.aB H)) (fK R d).2 (fK R d).1 ⟨rfl,rfl⟩
end Go.Proofs.YtnlkkgpcikkpoaaGreat
