/- Part of the proof: Zuc, Zud, Zug, Zuh, Ztj2, Lvp, Liv, Liw, Lru, Lck, Lct, Spw, Dks. -/
import Derived.Test.YtnlkkgpcikkpoaaGreatJAm
import Derived.KernelRfl
import Derived.Test.YtnlkkgpcikkpoaaGreatJAj
import Derived.Shelf.SlIterI.Nil
import Derived.Shelf.SortM.Plain
import Derived.Shelf.SortM.SortNone
import Derived.Test.YtnlkkgpcikkpoaaGreatProg
import Derived.Test.YtnlkkgpcikkpoaaGreatChecked
import Derived.WalkKit
import Derived.Test.YtnlkkgpcikkpoaaGreatJAg
import Derived.Test.YtnlkkgpcikkpoaaGreatJAf
import Derived.Test.YtnlkkgpcikkpoaaGreatJAe
open Array renaming getElem?_eq_some_iff->asq
open ByteArray renaming beq->awb,empty->KI,mk->ar2,size->DD,toList->asA
open Classical renaming propDecidable->arT
open Go renaming Code->ar3,DataW->avL,FuncId->arY,Program->arC,Value->Dy,callsIn_wide->avE
open Go.DataW renaming insert->awt
open Go.Fence renaming wide->ats
open Go.IntKind renaming i64->Ul,wrap->m6
open Go.Maps renaming size->axd
open Go.Proofs.SlLaysM renaming n5->ayp
open Go.Proofs.SlLaysZI renaming n6->aym,n7->ayl
open Go.Proofs.Tryz renaming func61->ayi,func62->ayg,isAgg0->axo,isAgg25->axc,isAgg3->awH,isAgg4->ayh,isAgg97->ax5,prog->arX,prog->fK,sizeOf0->axb,sizeOf25->awZ,sizeOf3->awr,sizeOf4->ax4,sizeOf97->axR,underlying0->awp,underlying25->auD,underlying3->atC,underlying4->awq,underlying97->axj,zeroValue0->awC,zeroValue25->aws,zeroValue3->avK,zeroValue4->axC,zeroValue97->axq
open Go.Shelf renaming Ren->axa
open Go.Value renaming int->KJ,string->arS
open Go.WideElems renaming rd->ax7,rg->au2
open Go.WideShapes renaming sorted_perm->ayj
open Int renaming toNat->m5
open List renaming all->DC,append_assoc->arI,append_nil->asg,cons_append->as5,eq_nil_of_length_eq_zero->ar5,getElem?_eq_none->asC,length->nG,length_append->KO,length_cons->ar4,length_drop->ass,length_map->aty,length_nil->as2,length_singleton->avA,length_take->asj,map_append->asm,map_map->at1,mem_append->arL,mem_append_right->asc,mem_cons->arD,mem_cons_of_mem->arG,mem_cons_self->arH,mem_map->as8,mem_map_of_mem->atb,mem_singleton->ar0,nil_append->asK,nodup_cons->asG,nodup_nil->avW,pairwise_map->ave,take->arP,take_of_length_le->asN,take_succ_eq_append_getElem->aur,toArray->ar6
open List.Nodup renaming not_mem_erase->ax6
open Nat renaming beq->arE,ble->arM,ble_eq_true_of_le->arZ,blt->arF,le_refl->arO,le_trans->atW,succ_pos->ax3,zero_le->asb
open Option renaming bind->ash,getD->asp,isSome->at3
open Option.some renaming injEq->DE
set_option linter.unusedVariables false
set_option linter.unusedSimpArgs false
set_option maxRecDepth 100000
namespace Go.Proofs.YtnlkkgpcikkpoaaGreat
open Go Vm Go.RowKit
def dH:List UInt8->List UInt8->List ByteArray×Option (List UInt8)
 | [],dy=>([],some dy)
 |x::l,dy=>if x=10 then(⟨dy.toArray⟩::(dH l []).1,(dH l []).2)else if dy.length=64 then([],none)else dH l (dy++[x])
theorem zX(x:UInt8)(l dy:List UInt8):dH (x::l) dy=if x=10 then(⟨dy.toArray⟩::(dH l []).1,(dH l []).2)else if dy.length=64 then([],none)else dH l (dy++[x]):=rfl
theorem amE(S:ad)(x:UInt8)(h:0<=S.n):fS (mc S x).B (mc S x).n.toNat=fS S.B S.n.toNat++[x]:=by
 have h1:=congrArg (λb:ByteArray=>b.data.toList) (aiA S x h)
 unfold eZ at h1
 simpa using h1
theorem KQ:∀(l:List UInt8) (S:ad) (M:List ByteArray) (dy:List UInt8),fS S.B S.n.toNat=dy->js S->(bW l S M).2.2=M++(dH l dy).1/\((dH l dy).2=none->(bW l S M).1=20)/\∀r,(dH l dy).2=some r->(bW l S M).1=0/\fS (bW l S M).2.1.B (bW l S M).2.1.n.toNat=r
 | [],S,M,dy,h,hc=>⟨(asg M).symm,(λe=>by cases e),λr e=>by cases e;exact⟨rfl,h⟩⟩
 |x::l,S,M,dy,h,hc=>by
  have nm:=hc.n0
  have hlen:dy.length=S.n.toNat:=by rw[<-h,JP]
  unfold bW dH
  by_cases hx:x=10
  ·rw[if_pos hx,if_pos hx]
   obtain⟨a,b,c⟩:=KQ l {S with n:=0} (M++[eZ S]) [] rfl (js.zero S)
   refine⟨?_,b,c⟩
   rw[a,arI]
   unfold eZ
   rw[h]
   rfl
  ·rw[if_neg hx,if_neg hx]
   by_cases h6:S.n=64
   ·rw[if_pos h6,if_pos (by omega)]
    exact⟨(asg M).symm,λ_=>rfl,λr e=>by cases e⟩
   ·rw[if_neg h6,if_neg (by omega)]
    exact KQ l (mc S x) M (dy++[x]) (by rw[amE S x nm,h]) (hc.add h6 x)
theorem DF:∀(l dy:List UInt8),dy.length<=64->(10:UInt8)∉dy->(∀y∈(dH l dy).1,jX y)/\∀r,(dH l dy).2=some r->jX ⟨r.toArray⟩
 | [],dy,h1,h2=>⟨(λy hy=>by cases hy),λr e=>by cases e;exact⟨by show dy.toArray.size<=64;simpa using h1,by simpa using h2⟩⟩
 |x::l,dy,h1,h2=>by
  unfold dH
  by_cases hx:x=10
  ·rw[if_pos hx]
   obtain⟨a,b⟩:=DF l [] (by simp) (by simp)
   refine⟨λy hy=>?_,b⟩
   rcases arD.1 hy with rfl|hy
   ·exact⟨by show dy.toArray.size<=64;simpa using h1,by simpa using h2⟩
   ·exact a y hy
  ·rw[if_neg hx]
   by_cases h6:dy.length=64
   ·rw[if_pos h6]
    exact⟨(λy hy=>by cases hy),λr e=>by cases e⟩
   ·rw[if_neg h6]
    refine DF l (dy++[x]) (by rw[KO,avA];omega) λhm=>?_
    rcases arL.1 hm with hm|hm
    ·exact h2 hm
    ·exact hx (ar0.1 hm).symm
def gQ(r:List UInt8):List ByteArray:=if r=[]then[]else[⟨r.toArray⟩]
structure Has(f:Bool)(s:cm)(T:List ByteArray):Prop where
 aC:s.1.aC=f
 run:∀y∈s.2.1,jX y
 runs:∃X,ml f s.2.2.2 s.2.2.1 X/\(X.flatten++s.2.1).Perm T
theorem Has.jp{f:Bool}{s:cm}{T:List ByteArray}(h:Has f s T)(hok:jK s)(hT:a8 T<=1000000):(cM s.1 s.2.1 s.2.2.1 s.2.2.2).1=17\/((cM s.1 s.2.1 s.2.2.1 s.2.2.2).1=0/\Has f (cM s.1 s.2.1 s.2.2.1 s.2.2.2).2 T):=by
 obtain⟨S,L,R,d⟩:=s
 obtain⟨h1,h2,X,hX,hp⟩:=h
 have cZ:=hok.jp.1
 dsimp only at*
 subst h1
 have du:∀y∈bb (aN S.aC) L,jX y:=λy hy=>h2 y ((ib L).mem_iff.1 hy)
 have ir:=Ue hX.ok hX.sc
 have hw:a8 (X.flatten++L)<=1000000:=by rw[pO hp];exact hT
 unfold cM at cZ⊢
 generalize bj d=c at*
 obtain⟨no,e,d1⟩:=c
 dsimp only at*
 rcases ir with⟨he,_⟩|⟨he,fk,hf,Dx,jn,kG,qu⟩
 ·rw[if_pos (by rw[he];simp)]
  exact .inl he
 subst he fk
 rw[if_neg (λh=>h rfl)]at cZ⊢
 obtain⟨w1,w2,w3,w4⟩:=Ud ((d.made:Int)+1) (bb (aN S.aC) L) [] d1 jn hf du
 rw[if_neg (λh=>h w1)]at cZ⊢
 rw[asK]at w2
 refine .inr ⟨rfl,rfl,(λy hy=>by cases hy),X++[bb (aN S.aC) L],⟨w4.sc.trans jn,cZ.cL,?_,?_,λy hy=>?_,λr hr=>?_,λp hp=>?_,?_⟩,?_⟩
 ·refine(hX.at_.imp λr hr _ _ g=>⟨?_,g.2⟩).kp (.cons w2 .nil)
  have:=hX.old r hr
  rw[w3 r (by omega),Dx r (by omega)]
  exact g.1
 ·refine List.nodup_append.2 ⟨hX.nd,asG.2 ⟨(λh=>by cases h),avW⟩,λa ha b hb=>?_⟩
  have:=hX.old a ha
  rw[ar0.1 hb]
  omega
 ·rcases arL.1 hy with hy|hy
  ·exact hX.bb y hy
  ·rw[ar0.1 hy];exact ny (og _) _
 ·rw[w4.ef,kG]
  rcases arL.1 hr with hr|hr
  ·have:=hX.old r hr;omega
  ·rw[ar0.1 hr];omega
 ·have hk:p.1∈d.files.map (·.1)++[d.made+1]:=by
   rw[<-qu,<-w4.ks]
   exact atb hp
  rcases arL.1 hk with hk|hk
  ·obtain⟨q,hq,e⟩:=as8.1 hk
   have:=hX.all q hq
   rw[e]at this
   exact List.mem_append_left _ this
  ·rw[ar0.1 hk]
   exact asc _ (ar0.2 (by omega))
 ·rw[qI,lg]
  rw[lg]at hw
  show _+a8 (_++[])<=_
  rw[asg,pO (ib L)]
  exact hw
 ·refine List.Perm.trans ?_ hp
  rw[qI,asg]
  show(X.flatten++(_++[])).Perm _
  rw[asg]
  exact List.Perm.append_left _ (ib L)
theorem Has.put{f:Bool}{s:cm}{T:List ByteArray}(h:Has f s T){x:ByteArray}(hx:jX x):Has f (jT x s) (T++[x]):=by
 obtain⟨h1,h2,X,hX,hp⟩:=h
 refine⟨h1,λy hy=>?_,X,hX,?_⟩
 ·rcases arL.1 hy with hy|hy
  ·exact h2 y hy
  ·rw[ar0.1 hy];exact hx
 ·show(X.flatten++(s.2.1++[x])).Perm _
  rw[<-arI]
  exact hp.append_right _
theorem DG{f:Bool}:∀(l:List ByteArray) (F:Nat) (s:cm) (T:List ByteArray),Good F s->Has f s T->(∀x∈l,jX x)->a8 T+a8 l<=1000000->(cx l s).1=17\/((cx l s).1=0/\Has f (cx l s).2 (T++l))
 | [],F,s,T,hg,h,hl,hw=>.inr ⟨rfl,by rw[asg];exact h⟩
 |x::l,F,s,T,hg,h,hl,hw=>by
  have hx:=hl x arH
  have jx:∀y∈l,jX y:=λy hy=>hl y (arG _ hy)
  have gq:=hx.small
  have CP:=hg.ok.bJ
  have hlen:=hg.ok.len
  have hw:a8 T+(x.size+1+a8 l)<=1000000:=hw
  have fV:a8 (T++[x])+a8 l<=1000000:=by rw[lg];show a8 T+(x.size+1+0)+_<=_;omega
  have Aq:T++x::l=T++[x]++l:=by rw[arI];rfl
  rw[Aq]
  unfold cx
  by_cases hc:0<s.1.rn/\s.1.bJ+x.size+1>256
  ·rw[if_pos hc]
   rcases h.jp hg.ok (by omega)with he|⟨he,h1⟩
   ·rw[if_pos (by rw[he];simp)]
    exact .inl he
   ·rw[if_neg (λh=>h he)]
    have g1:=hg.jp he
    have pf:=(hg.ok.jp).2 he
    have gp:=g1.put x (by rw[pf];show 0+(x.size+1)<=400;omega)
    exact DG l _ _ _ gp (h1.put hx) jx fV
  ·rw[if_neg hc]
   have gp:=hg.put x (by
    by_cases h0:0<s.1.rn
    ·have:¬s.1.bJ+x.size+1>256:=λh=>hc ⟨h0,h⟩
     omega
    ·have:s.2.1=[]:=ar5 (by omega)
     rw[this];show 0+(x.size+1)<=400;omega)
   exact DG l _ _ _ gp (h.put hx) jx fV
inductive oC(f:Bool):MS->List ByteArray->Prop
 |row {x:MS} {rem:List ByteArray} (hH:x.H=[]) (hR:x.R=[]) (hd:x.d.files=[]) (hr:x.S.rn=rem.length) (he:(x.L.drop x.S.ro)=rem) (hf:x.S.aC=f):oC f x rem
 |runs {x:MS} {rem:List ByteArray} {X0 X:List (List ByteArray)} (hn:x.S.rn=0) (h0:ml f x.d x.R X0) (h1:bS (kj x.d) x.H X) (h2:∀l∈X,dp (aN f) l) (h3:rem=bb (aN f) X.flatten) (hf:x.S.aC=f):oC f x rem
theorem Uz{c:ByteArray->ByteArray->Int}:bb c ([]:List ByteArray)=[]:=ar5 (lG _)
theorem ml.gone{f:Bool}{d:aA}{R:List Int}{X:List (List ByteArray)}(h:ml f d R X):(eN R d).1=0/\(eN R d).2.files=[]:=by
 have hx:∀r∈R,∃b,fileOf d.files r=some b:=by
  have key:∀{l:List Int} {X:List (List ByteArray)},bS (jY d) l X->∀r∈l,∃b,fileOf d.files r=some b:=λh=>by
   induction h with
   |nil=>intro r hr;cases hr
   |cons g _ ih=>
    intro r hr
    rcases arD.1 hr with rfl|hr
    ·exact⟨_,g.1⟩
    ·exact ih r hr
  exact key h.at_
 obtain⟨g1,g2,g3,g4,g5⟩:=KB R d h.sc hx h.nd
 refine⟨g1,?_⟩
 cases hf:(eN R d).2.files with
 |nil=>rfl
 |cons p l=>
  obtain⟨a,b⟩:=g5 p (by rw[hf];exact arH)
  exact absurd (h.all p a) b
theorem oC.rest{f:Bool}{x:MS}{rem:List ByteArray}(h:oC f x rem):(cy x.S x.R x.H x.d).1=0/\(rem=[]->(cy x.S x.R x.H x.d).2.1.bi=true/\(cy x.S x.R x.H x.d).2.2.files=[])/\(rem≠[]->(cy x.S x.R x.H x.d).2.1={x.S with more:=true}/\oC f ⟨(cy x.S x.R x.H x.d).2.1,x.L,x.R,x.H,(cy x.S x.R x.H x.d).2.2⟩ rem):=by
 have UA:jL x.S x.H=true->cy x.S x.R x.H x.d=(0,{x.S with more:=true},x.d):=λh=>by unfold cy;rw[h];rfl
 have no:jL x.S x.H=false->cy x.S x.R x.H x.d=((eN x.R x.d).1,{x.S with bi:=true},(eN x.R x.d).2):=λh=>by unfold cy;rw[h];rfl
 cases h with
 |row hH hR hd hr he hf=>
  cases rem with
  |nil=>
   rw[no (by unfold jL;rw[hr,hH];rfl),hR]
   exact⟨rfl,λ_=>⟨rfl,hd⟩,λh=>absurd rfl h⟩
  |cons y l=>
   rw[UA (by unfold jL;rw[hr,decide_eq_true (show 0<(y::l).length from ax3 _)];rfl)]
   exact⟨rfl,(λh=>by cases h),λ_=>⟨rfl,.row hH hR hd hr he hf⟩⟩
 |@runs X0 X hn h0 h1 h2 h3 hf=>
  rcases KD h1 h2 with⟨hk,hX⟩|⟨k,y,l,hk,hp⟩
  ·rw[no (by unfold jL;rw[hn,hf,hk];rfl)]
   obtain⟨g1,g2⟩:=h0.gone
   refine⟨g1,λ_=>⟨rfl,g2⟩,λh=>absurd ?_ h⟩
   rw[h3,hX,Uz]
  ·rw[UA (by unfold jL;rw[hn,hf,hk];rfl)]
   refine⟨rfl,λh=>?_,λ_=>⟨rfl,.runs hn h0 h1 h2 h3 hf⟩⟩
   rw[h3,hp.bb]at h
   cases h
theorem amF{f:Bool}{d:aA}{R:List Int}{X:List (List ByteArray)}(h:ml f d R X):ml f (fz d) R X:=⟨h.sc,h.ok.w8,h.at_,h.nd,h.bb,h.old,h.all,h.bR⟩
theorem oC.more{f:Bool}{x:MS}{y:ByteArray}{rem:List ByteArray}(h:oC f x (y::rem))(ho:x.S.bi=false):(fv x).1=0/\(fv x).2.1=y/\(rem=[]->(fv x).2.2.S.bi=true/\(fv x).2.2.d.files=[])/\(rem≠[]->(fv x).2.2.S.bi=false/\(fv x).2.2.S.more=true/\oC f (fv x).2.2 rem):=by
 cases h with
 |row hH hR hd hr he hf=>
  have jd:0<x.S.rn:=by rw[hr];exact ax3 _
  have h1:oC f ⟨x.S.pop,x.L,x.R,x.H,x.d⟩ rem:=.row hH hR hd (by show x.S.rn-1=_;rw[hr];rfl) (by show x.L.drop (x.S.ro+1)=rem;rw[<-List.tail_drop,he];rfl) hf
  obtain⟨a,b,c⟩:=h1.rest
  dsimp only at a b c
  have hy:tD x.L x.S.ro=y:=by
   unfold tD
   rw[List.getD_eq_getElem?_getD]
   have:(x.L.drop x.S.ro)[0]?=some y:=by rw[he];rfl
   rw[List.getElem?_drop,Nat.add_zero]at this
   rw[this];rfl
  unfold fv
  rw[if_pos jd]
  generalize cy x.S.pop x.R x.H x.d=o at*
  obtain⟨e,U,d3⟩:=o
  dsimp only at*
  subst a
  rw[if_neg (λh=>h rfl)]
  refine⟨rfl,hy,λhn=>b hn,λhn=>?_⟩
  obtain⟨c1,c2⟩:=c hn
  refine⟨?_,?_,c2⟩
  ·dsimp only;rw[c1];exact ho
  ·dsimp only;rw[c1]
 |@runs X0 X hn h0 h1 h2 h3 hf=>
  have hs:=h0.sc
  rcases KD h1 h2 with⟨hk,hX⟩|⟨k,z,l,hk,hp⟩
  ·rw[hX,Uz]at h3;cases h3
  have hz:=hp.bb
  rw[<-h3]at hz
  obtain⟨rfl,xy⟩:z=y/\rem=bb (aN f) (X.set k l).flatten:=by
   injection hz with a b
   exact⟨a.symm,b⟩
  obtain⟨r1,r2,r3,r4⟩:=hp.read h1 hs
  unfold fv
  rw[if_neg (by rw[hn];omega),hf,hk]
  dsimp only
  have hl:oC f ⟨x.S,x.L,x.R,x.H.set k (bE (aK x.H k) x.d).2.1,(bE (aK x.H k) x.d).2.2⟩ rem:=.runs hn (by dsimp only;rw[r2];exact amF h0) (by dsimp only;rw[r2];exact r3) hp.each xy hf
  obtain⟨a,b,c⟩:=hl.rest
  dsimp only at a b c
  have amG:=hp.line
  generalize bE (aK x.H k) x.d=o at*
  obtain⟨e,y1,dd⟩:=o
  dsimp only at*
  subst r1
  rw[if_neg (λh=>h rfl)]
  generalize cy x.S x.R (x.H.set k y1) dd=o at*
  obtain⟨e,U,d3⟩:=o
  dsimp only at*
  subst a
  rw[if_neg (λh=>h rfl)]
  refine⟨rfl,amG,λhn=>b hn,λhn=>?_⟩
  obtain⟨c1,c2⟩:=c hn
  refine⟨?_,?_,c2⟩
  ·dsimp only;rw[c1];exact ho
  ·dsimp only;rw[c1]
theorem UB{f:Bool}{s:aX}(C:List Int):∀(rem:List ByteArray) (m k:Nat) (g:DS),g.t=s.bytes.size->g.er=0->g.nd= -2->g.x.S.bi=false->rem≠[]->oC f g.x rem->rem.length<=m->(dR s C m k g).er=0/\(dR s C m k g).nd= -1/\(dR s C m k g).o=g.o++fw rem/\(dR s C m k g).x.d.files=[]
 | [],m,k,g,ht,he,hn,ho,hr,hl,hm=>absurd rfl hr
 |y::rem,0,k,g,ht,he,hn,ho,hr,hl,hm=>absurd hm (by simp)
 |y::rem,m+1,k,g,ht,he,hn,ho,hr,hl,hm=>by
  have cN:fF s C k g=some (kL g):=by unfold fF;rw[if_pos hn]
  rw[tF ⟨he,by omega⟩ cN]
  obtain⟨a,b,c,d⟩:=hl.more ho
  have e1:(kL g).er=0:=a
  have e2:(kL g).o=g.o++bM y:=by show g.o++bM (fv g.x).2.1=_;rw[b]
  have e3:(kL g).nd=fT (fv g.x).2.2.S:=rfl
  have e4:(kL g).x=(fv g.x).2.2:=rfl
  by_cases xy:rem=[]
  ·obtain⟨c1,c2⟩:=c xy
   have e5:(kL g).nd= -1:=by rw[e3,tG c1]
   rw[rU (λh=>h.2 e5)]
   refine⟨e1,e5,?_,by rw[e4];exact c2⟩
   rw[e2,xy,T9]
  ·obtain⟨d1,d2,d3⟩:=d xy
   have e5:(kL g).nd= -2:=by rw[e3,vw d1 d2]
   obtain⟨i1,i2,i3,i4⟩:=UB C rem m (k+1) (kL g) ht e1 e5 (by rw[e4];exact d1) xy (by rw[e4];exact d3) (by simpa using hm)
   refine⟨i1,i2,?_,i4⟩
   rw[i3,e2]
   show _=g.o++(bM y++fw rem)
   rw[ByteArray.append_assoc]
theorem ml.same{f:Bool}{d d':aA}{R:List Int}{X:List (List ByteArray)}(h:ml f d R X)(hf:d'.files=d.files)(hs:Sm d d')(hd:ct d'):ml f d' R X:=
 ⟨hs.sc.trans h.sc,hd,h.at_.imp λ_ _ _ _ g=>⟨by rw[hf];exact g.1,g.2⟩,h.nd,h.bb,by rw[hs.ef];exact h.old,by rw[hf];exact h.all,h.bR⟩
theorem DH:∀(l dy:List UInt8),a8 (dH l dy).1<=l.length+dy.length
 | [],dy=>asb _
 |x::l,dy=>by
  unfold dH
  by_cases hx:x=10
  ·rw[if_pos hx]
   have:=DH l []
   show(⟨dy.toArray⟩:ByteArray).size+1+a8 (dH l []).1<=_
   have h2:(⟨dy.toArray⟩:ByteArray).size=dy.length:=by show dy.toArray.size=_;simp
   simp only[ar4,as2]at*
   omega
  ·rw[if_neg hx]
   by_cases h6:dy.length=64
   ·rw[if_pos h6];exact asb _
   ·rw[if_neg h6]
    have:=DH l (dy++[x])
    simp only[ar4,KO,as2]at*
    omega
theorem amH{f:Bool}{F:Nat}{s:cm}{T:List ByteArray}(hg:Good F s)(hc:js s.1)(h:Has f s T)(du:jX (eZ s.1))(hw:a8 T+65<=1000000):(fo s).1=17\/((fo s).1=0/\Has f (fo s).2 (T++gQ (fS s.1.B s.1.n.toNat))):=by
 unfold fo
 by_cases h0:s.1.n=0
 ·rw[if_pos h0]
  refine .inr ⟨rfl,?_⟩
  rw[h0]
  show Has f s (T++gQ [])
  rw[show gQ []=[]from rfl,asg]
  exact h
 ·rw[if_neg h0]
  have nm:=hc.n0
  have oO:Good F ({s.1 with n:=0},s.2):=⟨⟨hg.ok.len,hg.ok.runs,hg.ok.cL,hg.ok.made,hg.ok.bJ,hg.ok.bR⟩,hg.old,hg.bR⟩
  have hh:Has f ({s.1 with n:=0},s.2) T:=⟨h.aC,h.run,h.runs⟩
  have hs:=du.small
  have hr:gQ (fS s.1.B s.1.n.toNat)=[eZ s.1]:=by
   unfold gQ
   rw[if_neg]
   ·rfl
   ·intro e
    have:=congrArg nG e
    rw[JP]at this
    simp only[as2]at this
    omega
  rw[hr]
  exact DG [eZ s.1] F _ T oO hh (λx hx=>by rw[ar0.1 hx];exact du) (by show a8 T+((eZ s.1).size+1+0)<=_;omega)
theorem amI{f:Bool}{F:Nat}{x:MS}{T:List ByteArray}(h:lh F x)(hF:F<=800000)(hh:Has f x.z T)(du:jX (eZ x.S))(hw:a8 T+65<=1000000):
 (gI x.z x.H).1=17\/((gI x.z x.H).1=0/\oC f (fJ (gI x.z x.H).2.1 (gI x.z x.H).2.2) (bb (aN f) (T++gQ (fS x.S.B x.S.n.toNat)))):=by
 have hT:=og f
 obtain⟨r1,r2⟩:=zJ h.ok.pQ h.ok.cut
 obtain⟨k1,_⟩:=TZ h.ok.pQ h.ok.cut h.sm
 have ky:=h.ok.cut.n1
 have lM:x.z.1.n=x.S.n:=rfl
 rw[lM]at r2
 have de:(fo x.z).2.1.ro=0:=k1.ro.trans h.ro
 have KR:a8 (T++gQ (fS x.S.B x.S.n.toNat))<=1000000:=by
  rw[lg]
  unfold gQ
  split
  ·show a8 T+0<=_;omega
  ·have:a8 [(⟨(fS x.S.B x.S.n.toNat).toArray⟩:ByteArray)]=(eZ x.S).size+1+0:=rfl
   have:=du.small
   omega
 have oK:=amH h.ok.pQ h.ok.cut hh du hw
 have hz:fS x.z.1.B x.z.1.n.toNat=fS x.S.B x.S.n.toNat:=rfl
 rw[hz]at oK
 generalize T++gQ (fS x.S.B x.S.n.toNat)=T' at*
 rw[h.none]
 unfold gI
 rcases oK with he|⟨he,ht⟩
 ·rw[if_pos (by rw[he];simp)];exact .inl he
 rw[if_neg (λh=>h he)]
 have g:=zK (r2 he)
 have kv:Has f (kJ (fo x.z).2) T':=⟨ht.aC,ht.run,ht.runs⟩
 have zS:(kJ (fo x.z).2).1.ro=0:=de
 generalize kJ (fo x.z).2=t at*
 have yl:=kv.aC
 unfold rS
 by_cases h0:t.1.sn=0
 ·rw[if_pos h0]
  refine .inr ⟨rfl,?_⟩
  obtain⟨X,hX,hp⟩:=kv.runs
  have hR:t.2.2.1=[]:=ar5 (by rw[g.ok.runs,h0])
  have amJ:X=[]:=ar5 (by rw[<-hX.at_.len,hR];rfl)
  have JF:t.2.2.2.files=[]:=by
   cases hf:t.2.2.2.files with
   |nil=>rfl
   |cons p l=>
    have:=hX.all p (by rw[hf];exact arH)
    rw[hR]at this
    cases this
  rw[amJ]at hp
  have hs:bb (aN f) T'=bb (aN t.1.aC) t.2.1:=by rw[yl];exact(ze hT hp).symm
  refine .row rfl hR JF ?_ ?_ yl
  ·show t.1.rn=_;rw[hs,lG,g.ok.len]
  ·show List.drop t.1.ro _=_;rw[zS,hs];rfl
 rw[if_neg h0]
 unfold qG
 have cZ:(fq t).1=17\/((fq t).1=0/\Has f (fq t).2 T'/\(fq t).2.1.rn=0/\(fq t).2.2.1=[]):=by
  unfold fq
  by_cases h1:0<t.1.rn
  ·rw[if_pos h1]
   rcases kv.jp g.ok KR with e|⟨e,a⟩
   ·exact .inl e
   ·have hn:=(g.ok.jp).2 e
    have hl:=(g.ok.jp).1.len
    rw[hn]at hl
    exact .inr ⟨e,a,hl.symm,hn⟩
  ·rw[if_neg h1]
   have hl:=g.ok.len
   exact .inr ⟨rfl,kv,by show t.1.rn=0;omega,ar5 (by show t.2.1.length=0;omega)⟩
 rcases cZ with e|⟨e,Da,jd,hL⟩
 ·rw[if_pos (by rw[e];simp)];exact .inl e
 rw[if_neg (λh=>h e)]
 generalize(fq t).2=u at*
 obtain⟨S,L,R,d⟩:=u
 have amK:=Da.aC
 obtain⟨X,hX,hp⟩:=Da.runs
 dsimp only at*
 subst hL
 rw[asg]at hp
 have hv:jt (S,[],R,d) []=if(dj S.aC R.length R d).1≠0 then((dj S.aC R.length R d).1,({S with sn:=(dj S.aC R.length R d).2.1.length},[],(dj S.aC R.length R d).2),[])
  else match dj S.aC R.length R d with
   |(_,R,d)=>match dB R [] d with
    |(e,l,dd)=>if e=0 then(0,({S with sn:=R.length,hn:=l.length},[],R,dd),l)else(e,({S with sn:=R.length,hn:=0},[],R,dd),[]):=rfl
 rw[hv]
 clear hv
 subst amK
 rcases Uk (f:=S.aC) R.length R X d hX with e|⟨e,Y,hY,amL⟩
 ·rw[if_pos (by rw[e];simp)];exact .inl e
 rw[if_neg (λh=>h e)]
 generalize dj S.aC R.length R d=o at*
 obtain⟨e2,R2,d2⟩:=o
 dsimp only at*
 obtain⟨o1,o2,o3,H',o4,o5,o6⟩:=KC R2 Y [] d2 hY.sc hY.at_
 obtain⟨q1,_,_,_⟩:=vc R2 [] d2 hY.ok
 generalize dB R2 [] d2=o at*
 obtain⟨e3,H,d3⟩:=o
 dsimp only at*
 subst o1
 rw[if_pos rfl]
 rw[asK]at o4
 subst o4
 refine .inr ⟨rfl,.runs (X0:=Y) (X:=Y) jd (hY.same o3 o2 q1) (o5.imp λ_ _ _ _ g=>g.same (by show fileOf d3.files _=_;rw[o3])) hY.bb ?_ rfl⟩
 exact ze hT (hp.symm.trans amL.symm)
theorem amM{f:Bool}{F:Nat}{x:MS}{T:List ByteArray}(h:lh F x)(hF:F<=800000)(hh:Has f x.z T)(du:jX (eZ x.S))(hw:a8 T+65<=1000000):
 (e9 x).1=17\/((e9 x).1=0/\((bb (aN f) (T++gQ (fS x.S.B x.S.n.toNat)))=[]->(e9 x).2.S.bi=true/\(e9 x).2.d.files=[])/\((bb (aN f) (T++gQ (fS x.S.B x.S.n.toNat)))≠[]->(e9 x).2.S.bi=false/\(e9 x).2.S.more=true/\oC f (e9 x).2 (bb (aN f) (T++gQ (fS x.S.B x.S.n.toNat))))):=by
 obtain⟨_,k1⟩:=Dr h hF
 have ho:=k1.bi.trans h.bi
 have hl:=amI h hF hh du hw
 generalize bb (aN f) (T++gQ (fS x.S.B x.S.n.toNat))=W at*
 unfold e9
 generalize gI x.z x.H=o at*
 obtain⟨e,t,G⟩:=o
 dsimp only[fJ]at*
 rcases hl with he|⟨he,hl⟩
 ·subst he
  rw[if_pos (by omega)]
  exact .inl rfl
 subst he
 rw[if_neg (λh=>h rfl)]
 obtain⟨a,b,c⟩:=hl.rest
 dsimp only at a b c
 generalize cy t.1 t.2.2.1 G t.2.2.2=o at*
 obtain⟨e,U,d3⟩:=o
 dsimp only at*
 subst a
 rw[if_neg (λh=>h rfl)]
 refine .inr ⟨rfl,λhn=>b hn,λhn=>?_⟩
 obtain⟨c1,c2⟩:=c hn
 refine⟨?_,?_,c2⟩
 ·dsimp only;rw[c1];exact ho
 ·dsimp only;rw[c1]
theorem amN(f:Bool):Has f (gj f []).z []:=⟨rfl,(λy hy=>by cases hy),[],⟨rfl,KL (asb _),.nil,avW,(λ_ h=>by cases h),(λ_ h=>by cases h),(λ_ h=>by cases h),asb _⟩,.refl _⟩
structure UC(f:Bool)(s:aX)(g:DS):Prop where
 er:g.er=17\/g.er=20\/g.er=0
 ok:g.er=0->g.x.d.files=[]/\∃M r,dH s.bytes.data.toList []=(M,some r)/\g.o=fw (bb (aN f) (M++gQ r))
def arA(x:List ByteArray×Option (List UInt8))(b:List UInt8):List ByteArray×Option (List UInt8):=match x.2 with
 |none=>(x.1,none)
 |some r=>(x.1++(dH b r).1,(dH b r).2)
theorem are:∀(a b dy:List UInt8),dH (a++b) dy=arA (dH a dy) b
 | [],b,dy=>rfl
 |x::a,b,dy=>by
  rw[as5,zX x (a++b),zX x a]
  by_cases hx:x=10
  ·rw[if_pos hx,if_pos hx,are a b []]
   unfold arA
   dsimp only
   cases(dH a []).2<;>rfl
  ·rw[if_neg hx,if_neg hx]
   by_cases h6:dy.length=64
   ·rw[if_pos h6,if_pos h6]
    rfl
   ·rw[if_neg h6,if_neg h6]
    exact are a b _
structure ff(f:Bool)(s:aX)(g:DS):Prop where
 has:∃M r,dH (s.bytes.data.toList.take g.t) []=(M,some r)/\Has f g.x.z M/\fS g.x.S.B g.x.S.n.toNat=r
 o:g.o=KI
theorem arh(b:ByteArray){i j:Nat}(h1:i<=j)(h2:j<=b.size):b.data.toList.take j=b.data.toList.take i++(b.extract i j).data.toList:=by
 rw[ByteArray.data_extract,Array.toList_extract,List.extract_eq_take_drop]
 conv=>lhs;rw[show j=i+(j-i)by omega]
 exact List.take_add
theorem ari{f:Bool}{s:aX}{k:Nat}{g:DS}(C:List Int)(hs:s.bytes.size<=4500)(hD:jP s k g)(he:g.er=0)(h1:g.nd≠-1)(h2:g.nd≠-2)(ht:g.t<s.bytes.size)(hF:ff f s g):
 (ju s C k g).er=17\/(ju s C k g).er=20\/((ju s C k g).er=0/\ff f s (ju s C k g)):=by
 obtain⟨F,f1,f2,f3⟩:=hD.feed he h1 h2
 obtain⟨u1,u2,u3⟩:=Kx s C k g.t ht
 obtain⟨⟨M,r,c1,c2,c3⟩,ho⟩:=hF
 have qe:=arh s.bytes (Nat.le_of_lt u1) u2
 have Aq:=are (s.bytes.data.toList.take g.t) (s.bytes.extract g.t (gA s C k g.t)).data.toList []
 rw[<-qe,c1]at Aq
 unfold arA at Aq
 dsimp only at Aq
 have cc:=extract_size s.bytes g.t (gA s C k g.t) u2
 show(bX g.x (s.bytes.extract g.t (gA s C k g.t))).1=17\/(bX g.x (s.bytes.extract g.t (gA s C k g.t))).1=20\/((bX g.x (s.bytes.extract g.t (gA s C k g.t))).1=0/\ff f s (ju s C k g))
 have rh:=DH (s.bytes.data.toList.take (gA s C k g.t)) []
 have du:=DF (s.bytes.data.toList.take (gA s C k g.t)) [] (by simp) (by simp)
 have rW:(s.bytes.data.toList.take (gA s C k g.t)).length<=4500:=by rw[asj];show min _ s.bytes.size<=_;omega
 rw[Aq]at rh du
 simp only[as2,lg]at rh du
 have cN:∀a:MS,(bX g.x (s.bytes.extract g.t (gA s C k g.t))).2=a->(ju s C k g).x=a:=λa h=>h
 have fQ:(ju s C k g).t=gA s C k g.t:=rfl
 have arj:(ju s C k g).o=KI:=ho
 generalize s.bytes.extract g.t (gA s C k g.t)=b at*
 obtain⟨q1,q2,q3⟩:=KQ b.data.toList g.x.S [] r c3 f1.ok.cut
 obtain⟨s1,s2,s3,s4,s5,s6,s7,s8,s9,Tq,Ts,Kc,Kd⟩:=xo b.data.toList g.x.S []
 rw[asK]at q1
 unfold bX at cN⊢
 generalize bW b.data.toList g.x.S []=o at*
 obtain⟨e,S1,M1⟩:=o
 dsimp only at q1 q2 q3 s1 s2 s3 s4 s5 s6 s7 s8 s9 Tq Ts Kc Kd cN⊢
 subst q1
 have hg:=f1.ok.pQ
 have oO:Good F (S1,g.x.L,g.x.R,g.x.d):=⟨⟨by show g.x.L.length=S1.rn;rw[s6];exact hg.ok.len,by show g.x.R.length=S1.sn;rw[s8];exact hg.ok.runs,hg.ok.cL,hg.ok.made,by show S1.bJ=_;rw[s7];exact hg.ok.bJ,hg.ok.bR⟩,hg.old,hg.bR⟩
 have L7:Has f (S1,g.x.L,g.x.R,g.x.d) M:=⟨s4.trans c2.aC,c2.run,c2.runs⟩
 have mU:=DG (dH b.data.toList r).1 F (S1,g.x.L,g.x.R,g.x.d) M oO L7 (λx hx=>du.1 x (asc _ hx)) (by omega)
 have Y2:=zO (dH b.data.toList r).1 (S1,g.x.L,g.x.R,g.x.d)
 generalize cx (dH b.data.toList r).1 (S1,g.x.L,g.x.R,g.x.d)=v at*
 obtain⟨e2,u⟩:=v
 dsimp only at mU Y2 cN⊢
 rcases mU with a|⟨a,hu⟩
 ·subst a
  rw[if_pos (by omega)]
  exact .inl rfl
 subst a
 rw[if_neg (λh=>h rfl)]at cN⊢
 cases hc:(dH b.data.toList r).2 with
 |none=>
  have gB:=q2 hc
  rw[if_pos (by rw[gB];omega)]
  exact .inr (.inl gB)
 |some r'=>
  obtain⟨o1,o2⟩:=q3 r' hc
  rw[if_neg (λh=>h o1)]at cN⊢
  have hx:=cN _ rfl
  refine .inr (.inr ⟨rfl,⟨M++(dH b.data.toList r).1,r',by rw[fQ,Aq,hc],by rw[hx];exact hu,?_⟩,arj⟩)
  rw[hx]
  show fS u.1.B u.1.n.toNat=r'
  rw[Y2.B,Y2.n]
  exact o2
theorem arf{f:Bool}{s:aX}(C:List Int)(hs:s.bytes.size<=4500)(jA:s.ended=true)(m k:Nat)(g:DS)(hD:jP s k g)(he:g.er=0)(h1:g.nd≠-1)(h2:g.nd≠-2)(hF:ff f s g)(oB:g.t=s.bytes.size)(hm:5000<=m):UC f s (dR s C m k g):=by
 obtain⟨F,fi,f2,f3⟩:=hD.feed he h1 h2
 obtain⟨⟨M,r,c1,c2,c3⟩,ho⟩:=hF
 rw[oB,show s.bytes.data.toList.take s.bytes.size=s.bytes.data.toList from asN (arO _)]at c1
 obtain⟨p1,p2⟩:=DF s.bytes.data.toList [] (by simp) (by simp)
 have rh:=DH s.bytes.data.toList []
 have hlen:s.bytes.data.toList.length=s.bytes.size:=rfl
 rw[c1]at p1 p2 rh
 simp only[as2]at p1 p2 rh
 have du:jX (eZ g.x.S):=by unfold eZ;rw[c3];exact p2 r rfl
 have hE:=amM fi (by omega) c2 du (by omega)
 rw[c3]at hE
 obtain⟨m,rfl⟩:∃m',m=m'+1:=⟨m-1,by omega⟩
 have cN:fF s C k g=some (jO g):=by unfold fF;rw[if_neg h2,if_neg (by omega),if_pos ⟨jA,f3⟩]
 rw[tF ⟨he,h1⟩ cN]
 have e1:(jO g).er=(e9 g.x).1:=rfl
 have e2:(jO g).o=KI:=ho
 have e3:(jO g).nd=fT (e9 g.x).2.S:=rfl
 have e4:(jO g).x=(e9 g.x).2:=rfl
 have e5:(jO g).t=s.bytes.size:=oB
 rcases hE with he|⟨he,hb,hd⟩
 ·have:(jO g).er=17:=e1.trans he
  rw[rU (λh=>by rw[this]at h;omega)]
  exact⟨.inl this,λh=>by omega⟩
 ·have e0:(jO g).er=0:=e1.trans he
  by_cases hW:bb (aN f) (M++gQ r)=[]
  ·obtain⟨b1,b2⟩:=hb hW
   have e6:(jO g).nd= -1:=by rw[e3,tG b1]
   rw[rU (λh=>h.2 e6)]
   refine⟨.inr (.inr e0),λ_=>⟨by rw[e4];exact b2,M,r,c1,?_⟩⟩
   rw[e2,hW]
   rfl
  ·obtain⟨d1,d2,d3⟩:=hd hW
   have e6:(jO g).nd= -2:=by rw[e3,vw d1 d2]
   have amR:(bb (aN f) (M++gQ r)).length<=m:=by
    rw[lG,KO]
    have h1:=rO M
    have h2:(gQ r).length<=1:=by unfold gQ;split<;>simp
    omega
   obtain⟨i1,i2,i3,i4⟩:=UB (f:=f) (s:=s) C _ m (k+1) (jO g) e5 e0 e6 (by rw[e4];exact d1) hW (by rw[e4];exact d3) amR
   refine⟨.inr (.inr i1),λ_=>⟨i4,M,r,c1,?_⟩⟩
   rw[i3,e2,ByteArray.empty_append]
theorem ark{f:Bool}{s:aX}(C:List Int)(hs:s.bytes.size<=4500)(jA:s.ended=true)(n:Nat):∀(m k:Nat) (g:DS),jP s k g->g.er=0->g.nd≠-1->g.nd≠-2->ff f s g->s.bytes.size-g.t<=n->n+5000<=m->UC f s (dR s C m k g):=by
 induction n with
 |zero=>
  intro m k g hD he h1 h2 hF hn hm
  have rW:=hD.t
  exact arf C hs jA m k g hD he h1 h2 hF (by omega) (by omega)
 |succ n ih=>
  intro m k g hD he h1 h2 hF hn hm
  have rW:=hD.t
  by_cases ht:g.t<s.bytes.size
  ·obtain⟨u1,u2,u3⟩:=Kx s C k g.t ht
   obtain⟨m,rfl⟩:∃m',m=m'+1:=⟨m-1,by omega⟩
   have cN:fF s C k g=some (ju s C k g):=by unfold fF;rw[if_neg h2,if_pos ht]
   rw[tF ⟨he,h1⟩ cN]
   have fQ:(ju s C k g).t=gA s C k g.t:=rfl
   rcases ari C hs hD he h1 h2 ht hF with e|e|⟨e,arl⟩
   ·rw[rU (λh=>by rw[e]at h;omega)]
    exact⟨.inl e,λh=>by omega⟩
   ·rw[rU (λh=>by rw[e]at h;omega)]
    exact⟨.inr (.inl e),λh=>by omega⟩
   ·have arm:=hD.ju (C:=C) he h1 h2 ht
    have e0:(bX g.x (s.bytes.extract g.t (gA s C k g.t))).1=0:=e
    obtain⟨F,f1,_,_⟩:=hD.feed he h1 h2
    obtain⟨F',f2,_⟩:=(zP f1 (s.bytes.extract g.t (gA s C k g.t))).2 e0
    have cB:(ju s C k g).nd=0:=by show fT (bX g.x (s.bytes.extract g.t (gA s C k g.t))).2.S=0;rw[rV f2.bi f2.more];exact f2.ok.jb
    exact ih m (k+1) _ arm e (by rw[cB];omega) (by rw[cB];omega) arl (by rw[fQ];omega) (by omega)
  ·exact arf C hs jA m k g hD he h1 h2 hF (by omega) (by omega)
theorem amS(f:Bool)(s:aX)(C:List Int)(hs:s.bytes.size<=4500)(jA:s.ended=true):UC f s (dR s C mY 0 (li (gj f []))):=by
 have hx:=DB f (sc:=[]) (asb _)
 have JA:=T6
 have ca:=hx.ok.jb
 exact ark C hs jA 4500 mY 0 _ ⟨by show(0:Int)=fT (gj f []).S;rw[rV hx.bi hx.more,ca],asb _,arO _,hx.inv,λ_=>.inr (.inr ⟨0,hx,rfl,rfl⟩),by show(0:Int)<=0/\(0:Int)<=320;omega⟩ rfl (by show(0:Int)≠-1;omega) (by show(0:Int)≠-2;omega) ⟨⟨[],[],rfl,amN f,rfl⟩,rfl⟩ (by show s.bytes.size-0<=4500;omega) (by omega)
noncomputable section
def DI:List ar3:=a7 (dI fK 14)
def DJ:List ar3:=a7 (dI fK 16)
open Tree renaming aQ->mN,dE->mF,fj->mL,fY->mQ,dN->mR,gH->mE
abbrev KT:List ar3:=(a7 (inner (a7 (inner (DI.drop 4)))))
abbrev KU:List ar3:=(a7 (inner (a7 (inner (DJ.drop 3)))))
abbrev amT(b:ByteArray)(rb en:Bool)(cd st id:Int):ai:=⟨[(1,ap 1),(2,ap 2),(3,ap 3),(4,aa 0),(5,aa 0)],[.cells (af b) 5 rb,ab ([aq 0 b.size,.bool en,aa cd,aa st,aa id]) 30,ab ([ci,.bool false,aa 0,aa 0,aa 0]) 47,ab ([ci,.bool false,aa 0,aa 0,aa 0]) 47]⟩
abbrev amU(b:ByteArray)(rb en:Bool)(cd st id:Int):ai:=⟨[(0,.agg #[aq 0 b.size,.bool en,aa cd,aa st,aa id])],[.cells (af b) 5 rb]⟩
theorem amV(b)(rb en:Bool)(cd st id:Int){Q:aU}(l1:ao fK 63 1 (DI.drop 4) (amT b rb en cd st id) Q):ao fK 63 1 DI (amU b rb en cd st id) Q:=
 aV bp 4 (.leaf [1,2,3,4,5] [0,1,2,3] [0]) (λu=>by kernel_rfl) (mN (aE b) (mQ l1))
abbrev KV:=λ(b:ByteArray) (rb en:Bool) (cd st id:Int) M=>([.cells (af b) 5 rb,ab ([aq 0 b.size,.bool en,aa cd,aa st,aa id]) 30,ab [ci,.bool false,aa 0,aa 0,aa 0] 47,ab ([aq 4 (nG M),.bool false,aa 0,aa 0,aa 0]) 47,ab (ah M) 9]:List ak)
abbrev amW:=λb (rb en:Bool) (cd st id:Int) M (a i:Int)=>(⟨[(1,ap 1),(2,ap 2),(3,ap 3),(4,aa a),(5,aa i)],KV b rb en cd st id M⟩:ai)
abbrev amX:=λb (rb en:Bool) (cd st id:Int) M (a i:Int)=>(⟨[(1,ap 1),(2,ap 2),(3,ap 3),(4,aa a)],KV b rb en cd st id M⟩:ai)
abbrev UE:=λ(b:ByteArray) (rb en:Bool) (cd st id:Int) M=>([.cells (af b) 5 rb,ab [aq 0 b.size,.bool en,aa cd,aa st,aa id] 30,ab [ci,.bool false,aa 0,aa 0,aa 0] 47,ab [aq 4 (nG M),.bool false,aa 0,aa 0,aa 0] 47,ab (ah M) 9]:List ak)
abbrev UF:=λb (rb en:Bool) (cd st id:Int) M (a i:Int)=>(⟨[(1,ap 1),(2,ap 2),(3,ap 3),(4,aa a),(5,aa i)],UE b rb en cd st id M⟩:ai)
theorem amY(b:ByteArray)(rb en:Bool)(cd st id:Int)(M)(a i:Int){Q:aU}(l2:(decide (i<(b.size:Int)))->ao fK 63 1 (KT.drop 2) (amW b rb en cd st id M a i) Q)(l3:(decide (i<(b.size:Int)))=false->Q (.exit 0) (amX b rb en cd st id M a i)):ao fK 63 1 KT (UF b rb en cd st id M a i) Q:=
 aV bp 2 (.fork 2 (.leaf [1,2,3,4,5] [0,1,2,3,4] [0,4]) (.leaf [1,2,3,4] [0,1,2,3,4] [0,4])) (λu=>by kernel_rfl) (mF (c:=decide (i<(b.size:Int))) (λh0=>(mN (aE b) (mN (aW M) (mQ (l2 h0))))) (λh0=>(mN (aE b) (mN (aW M) (mE 0 (l3 h0))))))
abbrev UG:=λ(b:ByteArray) (rb en:Bool) (cd st id:Int) M (a i:Int)=>(⟨[(1,ap 1),(2,ap 2),(3,ap 3),(4,.int .i64 (m6 .i64 (i+1))),(5,.int .i64 (m6 .i64 (i+1)))],[.cells (af b) 5 rb,ab ([aq 0 b.size,.bool en,aa cd,aa st,aa id]) 30,ab [ci,.bool false,aa 0,aa 0,aa 0] 47,ab ([aq 4 (nG M+1),.bool false,aa 0,aa 0,aa 0]) 47,ab (ah M++[arS (ar2 (ar6 (asp (ash (cut (af b) (0+m5 a*1) (m5 i-m5 a)) bytesOf) [])))]) 9]⟩:ai)
abbrev UH:=λb (rb en:Bool) (cd st id:Int) M (a i:Int)=>(⟨[(2,ap 1)],[.cells (af b) 5 rb,ab ([aq 2 (nG M),.bool false,aa 20,aa (-1),aa 0]) 47,ab (ah M) 9]⟩:ai)
theorem amZ(b)(rb en:Bool)(cd st id:Int)(M)(a i:Int){Q:bu}(hq:Q (.ret (.agg (ar6 [aq 1 (nG M),.bool false,aa 20,aa (-1),aa 0]))) [.cells (af b) 5 rb,ab (ah M) 9]):aG fK 14 63 1 Q .ret (UH b rb en cd st id M a i):=aG.ret (vs:=[.agg (ar6 [aq 2 (nG M),.bool false,aa 20,aa (-1),aa 0])]) (l:=[1]) (bs:=[0,2]) (pl:=[0,2]) (q:=[af b,ah M]) (λu=>by kernel_rfl) (by kernel_rfl) (aD (aE b) (aD (aW M) be)) hq
abbrev UI:=λb (rb en:Bool) (cd st id:Int) M (a i:Int)=>(⟨[(1,ap 1),(2,ap 2),(3,ap 3),(4,aa a),(5,.int .i64 (m6 .i64 (i+1)))],KV b rb en cd st id M⟩:ai)
theorem am0(b:ByteArray)(rb en:Bool)(cd st id:Int)(M)(a i:Int)(h0:0<=a)(h1:a<=i)(h2:i<b.size)(h3:b.size<=1000000)(h4:m6 .i64 (i+1)=i+1)(h5:m6 .i64 (i-a)=i-a){Q:aU}(n0:(cP IntKind.u8 (af b) (0+m5 i*1)))(n1:(av (af b) (0+m5 i*1)==10)->(at3 (ash (cut (af b) (0+m5 a*1) (m5 i-m5 a)) bytesOf)))(n2:(av (af b) (0+m5 i*1)==10)->(arM (nG M+1) 1000000))(aY:DC (af b) ag)(l4:(av (af b) (0+m5 i*1)==10)->Q .normal (UG b rb en cd st id M a i))(bh:DC (ah M) ag)(l6:(av (af b) (0+m5 i*1)==10)=false->(m6 .i64 (i-a)==64)->Q .ret (UH b rb en cd st id M a i))(l7:(av (af b) (0+m5 i*1)==10)=false->(m6 .i64 (i-a)==64)=false->Q .normal (UI b rb en cd st id M a i)):ao fK 63 1 (KT.drop 2) (UF b rb en cd st id M a i) Q:=
 aV bp 1000 (aB [2,1,1,0,1] (.fork 0 (aB [4,1,1,1,1,0,1,0,3,5,1] (.leaf [1,2,3,4,5] [0,1,2,3,6] [0,6])) (.fork 0 (.leaf [2] [0,2,4] [0,4]) (.leaf [1,2,3,4,5] [0,1,2,3,4] [0,4])))) (λu=>by kernel_rfl) (mN (decide_eq_true (by omega):(decide (0<=i))=true) (mN (show(arF (m5 i) b.size)=true by simp at h0 h1 h2 h3 h4 h5⊢ <;>omega) (mN n0 (mF (c:=av (af b) (0+m5 i*1)==10) (λh0=>(mN (decide_eq_true (by omega):(decide (0<=a))=true) (mN (decide_eq_true (by omega):(decide (0<=i))=true) (mN (show(arM (m5 a) (m5 i))=true by simp at h0 h1 h2 h3 h4 h5 h0⊢ <;>omega) (mN (show(arM (m5 i) b.size)=true by simp at h0 h1 h2 h3 h4 h5 h0⊢ <;>omega) (mN (n1 h0) (mN (n2 h0) (mN (kY _:(full (nG M) (nG M))=true) (mN (show(arE (0+nG M*1) (nG (ah M)))=true by simp) (mN (aE b) (mN (show(DC (ah M++[arS (ar2 (ar6 (asp (ash (cut (af b) (0+m5 a*1) (m5 i-m5 a)) bytesOf) [])))]) ag)=true by first|(simp;done)|assumption|exact fO (kA _) rfl|exact fO rfl (nq (by assumption) _)|exact iH (iH (iH (by assumption) rfl _) rfl _) rfl _|exact fO (by assumption) rfl) (mQ (ao.done (by kernel_rfl) (l4 h0)))))))))))))) (λh0=>(mF (c:=m6 .i64 (i-a)==64) (λh1=>(mN (aE b) (mN (aW M) (mR (l6 h0 h1))))) (λh1=>(mN (aE b) (mN (aW M) (mQ (ao.done (by kernel_rfl) (l7 h0 h1))))))))))))
abbrev UJ:=λ(b:ByteArray) (rb en:Bool) (cd st id:Int) M (a:Int)=>(⟨[(2,ap 1)],[.cells (af b) 5 rb,ab ([aq 2 (nG M+1),.bool true,aa 0,aa 0,aa 0]) 47,ab (ah M++[arS (ar2 (ar6 (asp (ash (cut (af b) (0+m5 a*1) (b.size-m5 a)) bytesOf) [])))]) 9]⟩:ai)
theorem am1(b:ByteArray)(rb en:Bool)(cd st id:Int)(M)(a:Int){Q:bu}(aY:DC (af b) ag)(hq:Q (.ret (.agg (ar6 [aq 1 (nG M+1),.bool true,aa 0,aa 0,aa 0]))) [.cells (af b) 5 rb,ab (ah M++[arS (ar2 (ar6 (asp (ash (cut (af b) (0+m5 a*1) (b.size-m5 a)) bytesOf) [])))]) 9]):aG fK 14 63 1 Q .ret (UJ b rb en cd st id M a):=aG.ret (vs:=[.agg (ar6 [aq 2 (nG M+1),.bool true,aa 0,aa 0,aa 0])]) (l:=[1]) (bs:=[0,2]) (pl:=[0,2]) (q:=[af b,ah M++[arS (ar2 (ar6 (asp (ash (cut (af b) (0+m5 a*1) (b.size-m5 a)) bytesOf) [])))]]) (λu=>by kernel_rfl) (by kernel_rfl) (aD aY (aD (by first|(simp;done)|assumption|exact fO (kA _) rfl|exact fO rfl (nq (by assumption) _)|exact iH (iH (iH (by assumption) rfl _) rfl _) rfl _|exact fO (by assumption) rfl) be)) hq
abbrev UK:=λb (rb en:Bool) (cd st id:Int) M (a:Int)=>(⟨[(2,ap 1)],[.cells (af b) 5 rb,ab ([aq 2 (nG M),.bool true,aa 0,aa 0,aa 0]) 47,ab (ah M) 9]⟩:ai)
theorem am2(b)(rb en:Bool)(cd st id:Int)(M)(a:Int){Q:bu}(hq:Q (.ret (.agg (ar6 [aq 1 (nG M),.bool true,aa 0,aa 0,aa 0]))) [.cells (af b) 5 rb,ab (ah M) 9]):aG fK 14 63 1 Q .ret (UK b rb en cd st id M a):=aG.ret (vs:=[.agg (ar6 [aq 2 (nG M),.bool true,aa 0,aa 0,aa 0])]) (l:=[1]) (bs:=[0,2]) (pl:=[0,2]) (q:=[af b,ah M]) (λu=>by kernel_rfl) (by kernel_rfl) (aD (aE b) (aD (aW M) be)) hq
abbrev UL:=λb (rb en:Bool) (cd st id:Int) M (a:Int)=>(⟨[(2,ap 1)],[.cells (af b) 5 rb,ab ([aq 2 (nG M),.bool false,aa cd,aa st,aa id]) 47,ab (ah M) 9]⟩:ai)
theorem am3(b)(rb en:Bool)(cd st id:Int)(M)(a:Int){Q:bu}(hq:Q (.ret (.agg (ar6 [aq 1 (nG M),.bool false,aa cd,aa st,aa id]))) [.cells (af b) 5 rb,ab (ah M) 9]):aG fK 14 63 1 Q .ret (UL b rb en cd st id M a):=aG.ret (vs:=[.agg (ar6 [aq 2 (nG M),.bool false,aa cd,aa st,aa id])]) (l:=[1]) (bs:=[0,2]) (pl:=[0,2]) (q:=[af b,ah M]) (λu=>by kernel_rfl) (by kernel_rfl) (aD (aE b) (aD (aW M) be)) hq
abbrev am4:=λb (rb en:Bool) (cd st id:Int) M (a:Int)=>(⟨[(1,ap 1),(2,ap 2),(3,ap 3),(4,aa a)],UE b rb en cd st id M⟩:ai)
theorem am5(b:ByteArray)(rb en:Bool)(cd st id:Int)(M)(a:Int)(h0:0<=a)(h1:a<=b.size)(h2:b.size<=1000000){Q:aU}(n0:en->(decide (a<(b.size:Int)))->(at3 (ash (cut (af b) (0+m5 a*1) (b.size-m5 a)) bytesOf))=true)(n1:en->(decide (a<(b.size:Int)))->(arM (nG M+1) 1000000)=true)(aY:DC (af b) ag)(l3:en->(decide (a<(b.size:Int)))->Q .ret (UJ b rb en cd st id M a))(bh:DC (ah M) ag)(l5:en->(decide (a<(b.size:Int)))=false->Q .ret (UK b rb en cd st id M a))(l6:en=false->Q .ret (UL b rb en cd st id M a)):ao fK 63 1 (DI.drop 5) (am4 b rb en cd st id M a) Q:=
 aV bp 1000 (.fork 1 (.fork 2 (aB [4,1,1,1,0,1,0,3,5,1] (.leaf [2] [0,2,6] [0,6])) (.leaf [2] [0,2,4] [0,4])) (.leaf [2] [0,2,4] [0,4])) (λu=>by kernel_rfl) (mF (c:=en) (λh0=>(mF (c:=decide (a<(b.size:Int))) (λh1=>(mN (decide_eq_true (by omega):(decide (0<=a))=true) (mN (show(arM (m5 a) b.size)=true by simp at h0 h1 h2 h0 h1⊢ <;>omega) (mN (show(arM b.size b.size)=true by simp) (mN (n0 h0 h1) (mN (n1 h0 h1) (mN (kY _:(full (nG M) (nG M))=true) (mN (show(arE (0+nG M*1) (nG (ah M)))=true by simp) (mN (aE b) (mN (show(DC (ah M++[arS (ar2 (ar6 (asp (ash (cut (af b) (0+m5 a*1) (b.size-m5 a)) bytesOf) [])))]) ag)=true by first|(simp;done)|assumption|exact fO (kA _) rfl|exact fO rfl (nq (by assumption) _)|exact iH (iH (iH (by assumption) rfl _) rfl _) rfl _|exact fO (by assumption) rfl) (mR (l3 h0 h1)))))))))))) (λh1=>(mN (aE b) (mN (aW M) (mR (l5 h0 h1))))))) (λh0=>(mN (aE b) (mN (aW M) (mR (l6 h0))))))
abbrev qJ:=λl (rb:Bool)=>([.cells (ah l) 9 rb]:List ak)
abbrev am6:=λl x (rb:Bool)=>(⟨[(0,aq 0 (nG l)),(1,.string x),(5,aa 0),(6,aa 0)],qJ l rb⟩:ai)
abbrev am7:=λl x (rb:Bool)=>(⟨[(0,aq 0 (nG l)),(1,.string x)],qJ l rb⟩:ai)
theorem am8(l x)(rb:Bool){Q:aU}(l1:ao fK 22 1 (DJ.drop 3) (am6 l x rb) Q):ao fK 22 1 DJ (am7 l x rb) Q:=
 aV bp 3 (.leaf [0,1,5,6] [0] [0]) (λu=>by kernel_rfl) (mN (aW l) (mQ l1))
abbrev am9:=λl x (rb:Bool) (n i:Int)=>(⟨[(0,aq 0 (nG l)),(1,.string x),(5,aa n),(6,aa i)],qJ l rb⟩:ai)
abbrev ana:=λl (x:ByteArray) (rb:Bool) (n i:Int)=>(⟨[(5,aa n)],qJ l rb⟩:ai)
abbrev UM:=λl x (rb:Bool) (n i:Int)=>(⟨[(0,aq 0 (nG l)),(1,.string x),(5,aa n),(6,aa i)],qJ l rb⟩:ai)
theorem anb(l x)(rb:Bool)(n i:Int){Q:aU}(l1:(decide (i<(↑(nG l):Int)))->ao fK 22 1 (KU.drop 2) (am9 l x rb n i) Q)(l2:(decide (i<(↑(nG l):Int)))=false->Q (.exit 0) (ana l x rb n i)):ao fK 22 1 KU (UM l x rb n i) Q:=
 aV bp 2 (.fork 1 (.leaf [0,1,5,6] [0] [0]) (.leaf [5] [0] [0])) (λu=>by kernel_rfl) (mF (c:=decide (i<(↑(nG l):Int))) (λh0=>(mN (aW l) (mQ (l1 h0)))) (λh0=>(mN (aW l) (mE 0 (l2 h0)))))
abbrev UN:=λl x (rb:Bool) (n i:Int)=>(⟨[(0,aq 0 (nG l)),(1,.string x),(5,.int .i64 (m6 .i64 (n+1))),(6,.int .i64 (m6 .i64 (i+1)))],qJ l rb⟩:ai)
abbrev UO:=λl x (rb:Bool) (n i:Int)=>(⟨[(0,aq 0 (nG l)),(1,.string x),(5,aa n),(6,.int .i64 (m6 .i64 (i+1)))],qJ l rb⟩:ai)
theorem anc(l x)(rb:Bool)(n i:Int)(h0:0<=i)(h1:i<(nG l))(h2:(nG l)<=1000000)(h3:m6 .i64 (i+1)=i+1)(h4:m6 .i64 (n+1)=n+1){Q:aU}(n0:(dY (ah l) (0+m5 i*1)))(l2:(asA (aR (ah l) (0+m5 i*1))==asA x)->Q .normal (UN l x rb n i))(l3:(asA (aR (ah l) (0+m5 i*1))==asA x)=false->Q .normal (UO l x rb n i)):ao fK 22 1 (KU.drop 2) (UM l x rb n i) Q:=
 aV bp 1000 (aB [0,1,1,0,1] (.fork 0 (.leaf [0,1,5,6] [0] [0]) (.leaf [0,1,5,6] [0] [0]))) (λu=>by kernel_rfl) (mN (decide_eq_true (by omega):(decide (0<=i))=true) (mN (show(arF (m5 i) (nG l))=true by simp at h0 h1 h2 h3 h4⊢ <;>omega) (mN n0 (mF (c:=asA (aR (ah l) (0+m5 i*1))==asA x) (λh0=>(mN (aW l) (mQ (ao.done (by kernel_rfl) (l2 h0))))) (λh0=>(mN (aW l) (mQ (ao.done (by kernel_rfl) (l3 h0)))))))))
abbrev UP:=λl (x:ByteArray) (rb:Bool) (n:Int)=>(⟨[(4,aa n)],qJ l rb⟩:ai)
theorem ane(l x)(rb:Bool)(n:Int){Q:bu}(hq:Q (.ret (aa n)) (qJ l rb)):aG fK 16 22 1 Q .ret (UP l x rb n):=aG.ret (vs:=[aa n]) (l:=[]) (bs:=[0]) (pl:=[0]) (q:=[ah l]) (λu=>by kernel_rfl) (by kernel_rfl) (aD (aW l) be) hq
abbrev anf:=λl (x:ByteArray) (rb:Bool) (n:Int)=>(⟨[(5,aa n)],qJ l rb⟩:ai)
theorem ang(l x)(rb:Bool)(n:Int){Q:aU}(aY:DC (ah l) ag)(l1:Q .ret (UP l x rb n)):ao fK 22 1 (DJ.drop 4) (anf l x rb n) Q:=
 aV bp 1000 (.leaf [4] [0] [0]) (λu=>by kernel_rfl) (mN (aW l) (mR l1))
end
theorem UQ{b:ByteArray}{a n:Nat}(h:a+n<=b.size):(cut (af b) a n).bind bytesOf=some ((b.data.toList.drop a).take n):=by
 unfold cut
 rw[show arM (a+n) (af b).length=true from arZ (by rw[mC];exact h)]
 show bytesOf (((af b).drop a).take n)=_
 unfold af
 rw[<-List.map_drop,<-List.map_take]
 exact BI _
def ji(b:ByteArray)(en:Bool):List ByteArray:=(dH b.data.toList []).1++match(dH b.data.toList []).2 with
 |some r=>if en=true then gQ r else[]
 |none=>[]
def pT(b:ByteArray)(en:Bool)(cd st id:Int):List Dy:=match(dH b.data.toList []).2 with
 |none=>[.bool false,.int .i64 20,.int .i64 (-1),.int .i64 0]
 |some _=>if en=true then[.bool true,.int .i64 0,.int .i64 0,.int .i64 0]else[.bool false,.int .i64 cd,.int .i64 st,.int .i64 id]
def KW(b:ByteArray)(rb en:Bool)(cd st id:Int)(s:Nat×Nat×List ByteArray):ai:=
 ⟨[(1,.pointer (some ⟨1,0,none⟩)),(2,.pointer (some ⟨2,0,none⟩)),(3,.pointer (some ⟨3,0,none⟩)),(4,iZ s.1),(5,iZ s.2.1)],[.cells (af b) 5 rb,.cells [.slice (some ⟨0,0,none⟩) b.size b.size,.bool en,.int .i64 cd,.int .i64 st,.int .i64 id] 30 false,.cells [.slice none 0 0,.bool false,.int .i64 0,.int .i64 0,.int .i64 0] 47 false,.cells [.slice (some ⟨4,0,none⟩) s.2.2.length s.2.2.length,.bool false,.int .i64 0,.int .i64 0,.int .i64 0] 47 false,.cells (ah s.2.2) 9 false]⟩
def sub(b:ByteArray)(a i:Nat):List UInt8:=(b.data.toList.drop a).take (i-a)
structure anh(b:ByteArray)(s:Nat×Nat×List ByteArray):Prop where
 a:s.1<=s.2.1
 i:s.2.1<=b.size
 m:s.2.2.length<=s.2.1
 e:(s.2.2++(dH (b.data.toList.drop s.2.1) (sub b s.1 s.2.1)).1,(dH (b.data.toList.drop s.2.1) (sub b s.1 s.2.1)).2)=dH b.data.toList []
theorem UR{b:ByteArray}{a i:Nat}(h1:a<=i)(h2:i<=b.size):(sub b a i).length=i-a:=by
 unfold sub
 rw[asj,ass]
 have:b.data.toList.length=b.size:=rfl
 omega
theorem sub_succ{b:ByteArray}{a i:Nat}(h1:a<=i)(h2:i<b.size):sub b a (i+1)=sub b a i++[b[i]]:=by
 unfold sub
 have hl:b.data.toList.length=b.size:=rfl
 rw[show i+1-a=(i-a)+1 by omega,aur (by rw[ass];omega)]
 congr 1
 rw[List.getElem_drop]
 congr 1
 have:a+(i-a)=i:=by omega
 simp only[this]
 rfl
theorem ani{b:ByteArray}{i:Nat}(h:i<b.size):b.data.toList.drop i=b[i]::b.data.toList.drop (i+1):=by
 rw[List.drop_eq_getElem_cons (show i<b.data.toList.length from h)]
 rfl
theorem anj(b:ByteArray)(rb en:Bool)(cd st id:Int)(hb:b.size<=900000):
 aF fK 14 [.agg #[.slice (some ⟨0,0,none⟩) b.size b.size,.bool en,.int .i64 cd,.int .i64 st,.int .i64 id]] [.cells (af b) 5 rb]
  λr q=>r=.ret (.agg (.slice (some ⟨1,0,none⟩) (ji b en).length (ji b en).length::pT b en cd st id).toArray)/\q=[.cells (af b) 5 rb,.cells (ah (ji b en)) 9 false]:=by
 refine aF.dv (n:=cp fK 14) (by kernel_rfl) ?_
 apply amV b rb en cd st id
 ·
  refine ao.nr 3 0 9 (s:=1) (by kernel_rfl) rfl rfl (by rfl) rfl ?_
  refine ao.eX 4 0 (by kernel_rfl) ?_
  refine ao.gu (KW b rb en cd st id) (λs=>b.size-s.2.1) (anh b) (0,0,[]) (by kernel_rfl) ⟨arO _,asb _,arO _,by rw[asK];rfl⟩ ?_
  rintro⟨a,i,M⟩ ⟨h1,h2,h3,h4⟩
  dsimp only at h1 h2 h3 h4
  apply amY b rb en cd st id M a i
  case l3=>
   intro g
   have g:=of_decide_eq_false g
   have hi:i=b.size:=by omega
   subst hi
   have hd:b.data.toList.drop b.size=[]:=List.drop_eq_nil_of_le (Nat.le_of_eq rfl)
   rw[hd]at h4
   have hs:=UR h1 (arO b.size)
   have e1:(dH b.data.toList []).1=M:=by rw[<-h4];exact asg M
   have e2:(dH b.data.toList []).2=some (sub b a b.size):=by rw[<-h4];rfl
   with_reducible (repeat first|refine QL.ret ?_|refine QL.exit ?_|refine QB.ret ?_|refine QB.cw ?_|refine QB.normal ?_|refine QB.cJ (by rfl) ?_)
   have hc:(cut (af b) (0+m5 (a:Int)*1) (b.size-m5 (a:Int))).bind bytesOf=some (sub b a b.size):=by
    rw[show 0+m5 (a:Int)*1=a by omega,show b.size-m5 (a:Int)=b.size-a by omega,UQ (by omega)]
    rfl
   apply am5 b rb en cd st id M a (by omega) (by omega) (by omega)
   case n0=>intro _ _;rw[hc];rfl
   case n1=>intro _ _;exact arZ (by omega)
   case aY=>simp
   case bh=>simp
   case l3=>
    intro he ha
    have ha:=of_decide_eq_true ha
    refine am1 b rb en cd st id M a (by simp) ?_
    rw[hc]
    have hM:ji b en=M++[⟨(sub b a b.size).toArray⟩]:=by
     unfold ji
     rw[e1,e2]
     dsimp only
     rw[if_pos he]
     unfold gQ
     rw[if_neg (λh=>by rw[h]at hs;simp only[as2]at hs;omega)]
    have hR:pT b en cd st id=[.bool true,.int .i64 0,.int .i64 0,.int .i64 0]:=by unfold pT;rw[e2];dsimp only;rw[if_pos he]
    rw[hM,hR,KO]
    refine⟨rfl,?_⟩
    unfold ah
    rw[asm]
    rfl
   case l5=>
    intro he ha
    have ha:=of_decide_eq_false ha
    refine am2 b rb en cd st id M a ?_
    have hM:ji b en=M:=by
     unfold ji
     rw[e1,e2]
     dsimp only
     rw[if_pos he]
     unfold gQ
     rw[if_pos (ar5 (by omega)),asg]
    have hR:pT b en cd st id=[.bool true,.int .i64 0,.int .i64 0,.int .i64 0]:=by unfold pT;rw[e2];dsimp only;rw[if_pos he]
    rw[hM,hR]
    exact⟨rfl,rfl⟩
   case l6=>
    intro he
    refine am3 b rb en cd st id M a ?_
    have hM:ji b en=M:=by
     unfold ji
     rw[e1,e2]
     dsimp only
     rw[if_neg (by rw[he];simp),asg]
    have hR:pT b en cd st id=[.bool false,.int .i64 cd,.int .i64 st,.int .i64 id]:=by unfold pT;rw[e2];dsimp only;rw[if_neg (by rw[he];simp)]
    rw[hM,hR]
    exact⟨rfl,rfl⟩
  case l2=>
   intro g
   have g:=of_decide_eq_true g
   have hi:i<b.size:=by omega
   have hw:=bK (z:=(i:Int)+1) (by omega) (by omega)
   have dg:=bK (z:=(i:Int)-a) (by omega) (by omega)
   have hs:=UR h1 h2
   rw[ani hi]at h4
   have hx:av (af b) (0+m5 (i:Int)*1)=(b[i].toNat:Int):=by rw[show 0+m5 (i:Int)*1=i by omega];exact GZ hi
   have hc:(cut (af b) (0+m5 (a:Int)*1) (m5 (i:Int)-m5 (a:Int))).bind bytesOf=some (sub b a i):=by
    rw[show 0+m5 (a:Int)*1=a by omega,show m5 (i:Int)-m5 (a:Int)=i-a by omega,UQ (by omega)]
    rfl
   apply am0 b rb en cd st id M a i (by omega) (by omega) (by omega) (by omega) hw dg
   case n0=>rw[show 0+m5 (i:Int)*1=i by omega];exact G0 hi
   case n1=>intro _;rw[hc];rfl
   case n2=>intro _;exact arZ (by omega)
   case aY=>simp
   case bh=>simp
   case l4=>
    intro bx
    rw[hx]at bx
    have bx:b[i]=10:=by
     have bx:(b[i].toNat:Int)=10:=by simpa using bx
     exact UInt8.toNat_inj.1 (by show b[i].toNat=10;omega)
    refine QL.to (i+1,i+1,M++[⟨(sub b a i).toArray⟩]) ⟨arO _,hi,by dsimp only;rw[KO];simp only[avA];omega,?_⟩ (by dsimp only;omega) ?_
    ·dsimp only
     rw[<-h4]
     rw[zX,if_pos bx]
     have:sub b (i+1) (i+1)=[]:=by unfold sub;rw[Nat.sub_self,List.take_zero]
     rw[this,arI]
     rfl
    ·unfold UG KW
     rw[hw,hc]
     dsimp only
     rw[KO]
     unfold ah
     rw[asm]
     rfl
   case l6=>
    intro bx mX
    rw[hx]at bx
    rw[dg]at mX
    have bx:¬b[i]=10:=by
     intro e
     rw[e]at bx
     exact absurd bx (by decide)
    have mX:i-a=64:=by have:(i:Int)-a=64:=by simpa using mX
                       omega
    have e0:dH (b[i]::b.data.toList.drop (i+1)) (sub b a i)=([],none):=by
     rw[zX,if_neg bx,if_pos (by rw[hs];exact mX)]
    rw[e0]at h4
    have e1:(dH b.data.toList []).1=M:=by rw[<-h4];exact asg M
    have e2:(dH b.data.toList []).2=none:=by rw[<-h4]
    with_reducible (repeat first|refine QL.ret ?_|refine QL.exit ?_|refine QB.ret ?_|refine QB.cw ?_|refine QB.normal ?_|refine QB.cJ (by rfl) ?_)
    refine amZ b rb en cd st id M a i ?_
    have hM:ji b en=M:=by
     unfold ji
     rw[e1,e2]
     exact asg M
    have hR:pT b en cd st id=[.bool false,.int .i64 20,.int .i64 (-1),.int .i64 0]:=by unfold pT;rw[e2]
    rw[hM,hR]
    exact⟨rfl,rfl⟩
   case l7=>
    intro bx mX
    rw[hx]at bx
    rw[dg]at mX
    have bx:¬b[i]=10:=by
     intro e
     rw[e]at bx
     exact absurd bx (by decide)
    have mX:¬i-a=64:=by
     intro e
     have:(i:Int)-a=64:=by omega
     rw[this]at mX
     exact absurd mX (by decide)
    refine QL.to (a,i+1,M) ⟨by dsimp only;omega,hi,by dsimp only;omega,?_⟩ (by dsimp only;omega) ?_
    ·dsimp only
     rw[<-h4]
     rw[zX,if_neg bx,if_neg (by rw[hs];exact mX),sub_succ h1 hi]
    ·unfold UI KW
     rw[hw]
     rfl
theorem bytes_beq(a:ByteArray):(a==a)=true:=by show awb a a=true;unfold awb;simp
theorem ank{a b:ByteArray}(h:(a==b)=true):a=b:=by
 have h:awb a b=true:=h
 unfold awb at h
 exact ByteArray.ext (by simpa using h)
theorem US(l:List ByteArray)(x:ByteArray)(rb:Bool)(hl:l.length<=900000):
 aF fK 16 [.slice (some ⟨0,0,none⟩) l.length l.length,.string x] [.cells (ah l) 9 rb] λr q=>r=.ret (.int .i64 ((l.count x:Nat):Int))/\q=[.cells (ah l) 9 rb]:=by
 refine aF.dv (n:=cp fK 16) (by kernel_rfl) ?_
 apply am8 l x rb
 ·
  refine ao.eX 3 0 (by kernel_rfl) ?_
  refine ao.gu (λs:Nat×Nat=>⟨[(0,.slice (some ⟨0,0,none⟩) l.length l.length),(1,.string x),(5,iZ s.1),(6,iZ s.2)],[.cells (ah l) 9 rb]⟩) (λs=>l.length-s.2) (λs=>s.2<=l.length/\s.1=(l.take s.2).count x) (0,0) (by kernel_rfl) ⟨asb _,rfl⟩ ?_
  rintro⟨n,i⟩ ⟨h1,h2⟩
  dsimp only at h1 h2
  have hn:n<=i:=by
   have:=List.count_le_length (a:=x) (l:=l.take i)
   rw[asj]at this
   omega
  apply anb l x rb n i
  case l2=>
   intro g
   have g:=of_decide_eq_false g
   rw[asN (by omega)]at h2
   with_reducible (repeat first|refine QL.ret ?_|refine QL.exit ?_|refine QB.ret ?_|refine QB.cw ?_|refine QB.normal ?_|refine QB.cJ (by rfl) ?_)
   exact ang l x rb n (by simp) (ane l x rb n ⟨by rw[h2],rfl⟩)
  case l1=>
   intro g
   have g:=of_decide_eq_true g
   have hi:i<l.length:=by omega
   have hw:=bK (z:=(i:Int)+1) (by omega) (by omega)
   have dg:=bK (z:=(n:Int)+1) (by omega) (by omega)
   have hx:aR (ah l) (0+m5 (i:Int)*1)=l[i]:=by rw[show 0+m5 (i:Int)*1=i by omega];exact yT hi
   have ht:(l.take (i+1)).count x=(l.take i).count x+if l[i]==x then 1 else 0:=by
    rw[aur hi,List.count_append,List.count_singleton]
   apply anc l x rb n i (by omega) (by omega) (by omega) hw dg
   case n0=>rw[show 0+m5 (i:Int)*1=i by omega];exact uG hi
   case l2=>
    intro he
    rw[hx,JB]at he
    have he:=of_decide_eq_true he
    refine QL.to (n+1,i+1) ⟨hi,?_⟩ (by dsimp only;omega) ?_
    ·dsimp only
     rw[ht,if_pos (by rw[he];exact bytes_beq x),h2]
    ·unfold UN
     rw[hw,dg]
     rfl
   case l3=>
    intro he
    rw[hx,JB]at he
    have he:=of_decide_eq_false he
    refine QL.to (n,i+1) ⟨hi,?_⟩ (by dsimp only;omega) ?_
    ·dsimp only
     rw[ht,if_neg (λh=>he (ank h)),h2]
     rfl
    ·unfold UO
     rw[hw]
     rfl
noncomputable def tH(P:arC)(f:arY)(a:List Dy)(o:List ak)(r:bD)(q:List ak):Bool:=@decide (aF P f a o λr' q'=>r'=r/\q'=q) (arT _)
theorem DK{P:arC}{f:arY}{a:List Dy}{o:List ak}{r:bD}{q:List ak}(h:aF P f a o λr' q'=>r'=r/\q'=q):tH P f a o r q=true:=Zb h
noncomputable def Sum.fn(P:arC)(f:arY)(names:List Dy->(Nat->Option ak)->Option (List Nat))(F:List Dy->List ak->Option (bD×List ak)):Sum:=⟨names,λa o=>match F a o with
 |some (r,q)=>.sP (tH P f a o r q) (.done (r,q))
 |none=>.fail⟩
theorem bB.fn{P:arC}{f:arY}{names:List Dy->(Nat->Option ak)->Option (List Nat)}{F:List Dy->List ak->Option (bD×List ak)}:bB P f (Sum.fn P f names F):=λa o r q h=>by
 unfold Sum.fn at h
 dsimp only at h
 split at h
 ·obtain⟨h1,h2⟩:=QT.uB h
  cases h2
  exact @of_decide_eq_true _ (arT _) h1
 ·cases h
end Go.Proofs.YtnlkkgpcikkpoaaGreat
namespace Go.Proofs
open Go.Shelf
def Tryz.UT:axa:=⟨λ|7=>37|10=>62|n=>n,λ|23=>78|26=>3|3=>99|28=>97|0=>0|27=>96|33=>124|4=>4|n=>n,λ|n=>n⟩
theorem Tryz.UU:ayl fK Tryz.UT:={
 mixed:=by kernel_rfl
 f7:=⟨Tryz.f37.name,by decide,Tryz.func37.trans (congrArg some (by kernel_rfl))⟩
 f10:=⟨Tryz.f62.name,by decide,ayg.trans (congrArg some (by kernel_rfl))⟩
 t0:=awp
 a0:=axo
 z0:=axb
 v0:=awC
 t4:=awq
 a4:=ayh
 z4:=ax4
 v4:=axC
 t23:=Tryz.underlying78
 a23:=Tryz.isAgg78
 z23:=Tryz.sizeOf78
 v23:=Tryz.zeroValue78
 t26:=atC
 a26:=awH
 z26:=awr
 v26:=avK
 t27:=Tryz.underlying96
 a27:=Tryz.isAgg96
 z27:=Tryz.sizeOf96
 v27:=Tryz.zeroValue96
 t28:=axj
 a28:=ax5
 z28:=axR
 v28:=axq
 t33:=Tryz.underlying124
 a33:=Tryz.isAgg124
 z33:=Tryz.sizeOf124
 v33:=Tryz.zeroValue124}
def Tryz.UW:axa:=⟨λ|6=>36|8=>60|9=>61|11=>87|13=>89|12=>88|23=>116|24=>117|14=>107|15=>108|16=>109|17=>110|18=>111|19=>112|20=>113|21=>114|22=>115|25=>128|26=>129|27=>130|28=>131|29=>132|30=>133|31=>138|n=>n,λ|26=>3|28=>97|24=>25|0=>0|3=>3|37=>153|48=>187|50=>189|4=>4|40=>179|39=>178|45=>184|5=>5|9=>9|51=>194|55=>198|57=>201|58=>202|33=>124|n=>n,λ|n=>n⟩
theorem Tryz.anl:aym fK Tryz.UW:={
 mixed:=by kernel_rfl
 f6:=⟨Tryz.f36.name,by decide,Tryz.func36.trans (congrArg some (by kernel_rfl))⟩
 f8:=⟨Tryz.f60.name,by decide,Tryz.func60.trans (congrArg some (by kernel_rfl))⟩
 f11:=⟨Tryz.f87.name,by decide,Tryz.func87.trans (congrArg some (by kernel_rfl))⟩
 t0:=awp
 a0:=axo
 z0:=axb
 v0:=awC
 t24:=auD
 a24:=axc
 z24:=awZ
 v24:=aws
 t26:=atC
 a26:=awH
 z26:=awr
 v26:=avK
 t28:=axj
 a28:=ax5
 z28:=axR
 v28:=axq
 i26:=by kernel_rfl}
def Tryz.anm:axa:=⟨λ|5=>61|8=>89|7=>88|19=>116|20=>117|10=>107|11=>108|12=>109|13=>110|14=>111|15=>112|16=>113|17=>114|18=>115|30=>128|31=>129|32=>130|33=>131|34=>132|35=>133|40=>138|n=>n,λ|23=>25|25=>3|3=>3|32=>153|22=>25|0=>0|44=>187|46=>189|4=>4|36=>179|35=>178|41=>184|5=>5|9=>9|53=>194|57=>198|63=>201|64=>202|n=>n,λ|n=>n⟩
theorem Tryz.UX:ayp fK Tryz.anm:={
 mixed:=by kernel_rfl
 f5:=⟨Tryz.f61.name,by decide,ayi.trans (congrArg some (by kernel_rfl))⟩
 f7:=⟨Tryz.f88.name,by decide,Tryz.func88.trans (congrArg some (by kernel_rfl))⟩
 f8:=Tryz.func89.trans (congrArg some (by kernel_rfl))
 f10:=⟨Tryz.f107.name,by decide,Tryz.func107.trans (congrArg some (by kernel_rfl))⟩
 f11:=⟨Tryz.f108.name,by decide,Tryz.func108.trans (congrArg some (by kernel_rfl))⟩
 f12:=⟨Tryz.f109.name,by decide,Tryz.func109.trans (congrArg some (by kernel_rfl))⟩
 f13:=⟨Tryz.f110.name,by decide,Tryz.func110.trans (congrArg some (by kernel_rfl))⟩
 f14:=⟨Tryz.f111.name,by decide,Tryz.func111.trans (congrArg some (by kernel_rfl))⟩
 f15:=⟨Tryz.f112.name,by decide,Tryz.func112.trans (congrArg some (by kernel_rfl))⟩
 f16:=⟨Tryz.f113.name,by decide,Tryz.func113.trans (congrArg some (by kernel_rfl))⟩
 f17:=⟨Tryz.f114.name,by decide,Tryz.func114.trans (congrArg some (by kernel_rfl))⟩
 f18:=⟨Tryz.f115.name,by decide,Tryz.func115.trans (congrArg some (by kernel_rfl))⟩
 f19:=Tryz.func116.trans (congrArg some (by kernel_rfl))
 f20:=Tryz.func117.trans (congrArg some (by kernel_rfl))
 f30:=⟨Tryz.f128.name,by decide,Tryz.func128.trans (congrArg some (by kernel_rfl))⟩
 f31:=Tryz.func129.trans (congrArg some (by kernel_rfl))
 f32:=Tryz.func130.trans (congrArg some (by kernel_rfl))
 f33:=⟨Tryz.f131.name,by decide,Tryz.func131.trans (congrArg some (by kernel_rfl))⟩
 f34:=⟨Tryz.f132.name,by decide,Tryz.func132.trans (congrArg some (by kernel_rfl))⟩
 f35:=⟨Tryz.f133.name,by decide,Tryz.func133.trans (congrArg some (by kernel_rfl))⟩
 f40:=⟨Tryz.f138.name,by decide,Tryz.func138.trans (congrArg some (by kernel_rfl))⟩
 t0:=awp
 a0:=axo
 z0:=axb
 v0:=awC
 t3:=atC
 a3:=awH
 z3:=awr
 v3:=avK
 t4:=awq
 a4:=ayh
 z4:=ax4
 v4:=axC
 t5:=Tryz.underlying5
 a5:=Tryz.isAgg5
 z5:=Tryz.sizeOf5
 v5:=Tryz.zeroValue5
 t9:=Tryz.underlying9
 a9:=Tryz.isAgg9
 z9:=Tryz.sizeOf9
 v9:=Tryz.zeroValue9
 t22:=auD
 a22:=axc
 z22:=awZ
 v22:=aws
 t23:=auD
 a23:=axc
 z23:=awZ
 v23:=aws
 t25:=atC
 a25:=awH
 z25:=awr
 v25:=avK
 t32:=Tryz.underlying153
 a32:=Tryz.isAgg153
 z32:=Tryz.sizeOf153
 v32:=Tryz.zeroValue153
 t35:=Tryz.underlying178
 a35:=Tryz.isAgg178
 z35:=Tryz.sizeOf178
 v35:=Tryz.zeroValue178
 t36:=Tryz.underlying179
 a36:=Tryz.isAgg179
 z36:=Tryz.sizeOf179
 v36:=Tryz.zeroValue179
 t41:=Tryz.underlying184
 a41:=Tryz.isAgg184
 z41:=Tryz.sizeOf184
 v41:=Tryz.zeroValue184
 t44:=Tryz.underlying187
 a44:=Tryz.isAgg187
 z44:=Tryz.sizeOf187
 v44:=Tryz.zeroValue187
 t46:=Tryz.underlying189
 a46:=Tryz.isAgg189
 z46:=Tryz.sizeOf189
 v46:=Tryz.zeroValue189
 t53:=Tryz.underlying194
 a53:=Tryz.isAgg194
 z53:=Tryz.sizeOf194
 v53:=Tryz.zeroValue194
 t57:=Tryz.underlying198
 a57:=Tryz.isAgg198
 z57:=Tryz.sizeOf198
 v57:=Tryz.zeroValue198
 t63:=Tryz.underlying201
 a63:=Tryz.isAgg201
 z63:=Tryz.sizeOf201
 v63:=Tryz.zeroValue201
 t64:=Tryz.underlying202
 a64:=Tryz.isAgg202
 z64:=Tryz.sizeOf202
 v64:=Tryz.zeroValue202}
end Go.Proofs
namespace Go.Proofs.YtnlkkgpcikkpoaaGreat
open Go.RowKit Go.Maps Go.Sort Go.Shelf
theorem ann(m:Nat):AnyZI.SortsIn fK Tryz.UW ats m:=
 ⟨λaH off cap ss W hH xz cc=>avE.2 (AnyM.slices_Sort_int Tryz.UX aH off cap ss W hH xz cc),
  λp cap W=>avE.2 (AnyM.slices_Sort_int_none Tryz.UX p cap W)⟩
set_option maxHeartbeats 1000000 in
theorem ano{H:Type}(pb sh b nn:Nat)(D0:avL H)(R:Dy->Option (avL H×List MemPlace))(w:World)(qc:w.cell? ⟨pb,sh+1,none⟩=some (.map (some b)))(DL:w.ownsMap fK 3 R b nn D0)(E4:axd D0<=maxLen)(DM:axd D0*8<=140737488355328):
 Calls fK 15 #[.pointer (some ⟨pb,sh,none⟩)] w λe w'=>∃(v:Dy) (ss:List Int),e=.returned v/\ss.Perm (intKeys D0)/\
  w'.ownsRow w.heap.size 3 1 v ss.length ((ss.mergeSort (λx y=>decide (x<=y))).map encZ)/\(v=.slice none 0 0↔ss=[])/\Below w.heap.size w w':=by
 refine(avE (n:=6)).1 ?_
 have mB:=DL.lt
 have anp:SeqGives ats 2 fK 62 #[.pointer (some ⟨w.heap.size,0,none⟩)] encZ (λss=>ss.Perm (intKeys D0)) (axd D0) (w.alloc (.cells #[.map (some b)] 78)):=
  AnyZI.keys_gives (ρ:=Tryz.UT) {Tryz.UU with} ats _ trivial rfl (by omega) w.heap.size b nn D0 _ (by simp) (by simp) (by
   obtain⟨es,clock,hb,Ft,hs,hD⟩:=DL
   exact⟨es,clock,(Below.heap_alloc _ _ b mB).trans hb,Ft,hs,hD⟩)
 have cK:∀mb W,CallsIn ats 5 fK 37 #[.map mb] W λe w'=>e=.returned (.func (.func 62) #[] #[.pointer (some ⟨W.heap.size,0,none⟩)])/\w'=W.alloc (.cells #[.map mb] 78):=λmb W=>AnyZI.keys_in Tryz.UU ats 5 trivial rfl mb W
 have cS:=AnyZI.sorted_in Tryz.anl ats 5 trivial trivial trivial trivial rfl (by omega) (ann _) (enters_of ayi (by kernel_rfl) rfl) 62 #[.pointer (some ⟨w.heap.size,0,none⟩)] trivial (enters_of ayg (by kernel_rfl) rfl) _ _ E4 DM _ anp
 change CallsIn _ _ fK 36 _ _ _ at cS
 have aqQ:ats.fn 37:=trivial
 have aqR:ats.fn 36:=trivial
 refine callsIn_of_wp Tryz.func15 rfl trivial ?_ rfl
 simp only[Tryz.ntmps15,List.size_toArray,ar4,as2,Nat.reduceAdd,Nat.reduceSub,Array.replicate_succ,Array.replicate_zero,List.push_toArray,List.append_toArray,asK,as5]
 gi_wp2_with (first
  |(gi_at_call 37;refine(cK _ _).mono ?_;rintro e w' ⟨rfl,rfl⟩)
  |(gi_at_call 36;refine cS.mono ?_;rintro e w' ⟨v,ss,rfl,hS,mI,pf,hb⟩))
 go_ret
 exact⟨v,ss,rfl,hS,ownsRow_base_a mI (by simp),pf,((Below.refl _ w).alloc (arO _) _).trans (hb.mono (by simp))⟩
end Go.Proofs.YtnlkkgpcikkpoaaGreat
namespace Go.Proofs.YtnlkkgpcikkpoaaGreat
open Go Vm Go.RowKit Go.Maps Go.ChangeMaps Go.MapKept
def xA(d:aA):List Int:=(d.files.map λp=>(p.1:Int)).mergeSort λx y=>decide (x<=y)
theorem anq(d:aA):(xA d).length=d.files.length:=by unfold xA;rw[List.length_mergeSort,aty]
def DN(d:aA):bD×List ak:=if d.files=[]then(.ret (.slice none 0 0),[.abs d])else(.ret (.slice (some ⟨1,0,none⟩) d.files.length d.files.length),[.abs d,.cells (ay (xA d)) 3 false])
def rX:Dy->Option (avL Unit×List MemPlace):=λ_=>some (.lit (.bool true),[])
theorem UY{l:List (Nat×ByteArray)}{es:List MapEntry}{L:List (Nat×CO)}(h:fL l es L):es.map (·.key)=l.map (λp=>KJ .i64 p.1)/\es.map (·.born)=l.map (λp=>p.1-1)/\∀p∈l,1<=p.1:=by
 induction h with
 |nil=>exact⟨rfl,rfl,λp hp=>by cases hp⟩
 |cons p k sh l es L L' hf ht hp ih=>
  refine⟨by simp[ih.1],by simp[ih.2.1],λq hq=>?_⟩
  rcases arD.1 hq with rfl|hq
  ·exact hp
  ·exact ih.2.2 q hq
theorem anr{l:List (Nat×ByteArray)}{es:List MapEntry}{L:List (Nat×CO)}{made:Nat}(h:fL l es L)(hk:∀p∈l,p.1<=made)(hn:(l.map (·.1)).Nodup):Stamped es.toArray made:=by
 obtain⟨h1,h2,h3⟩:=UY h
 refine⟨λx hx=>?_,?_,?_⟩
 ·have:x.born∈l.map (λp=>p.1-1):=by rw[<-h2];exact atb hx
  obtain⟨p,hp,e⟩:=as8.1 this
  have:=hk p hp
  have:=h3 p hp
  omega
 ·show(es.map (·.born)).Nodup
  rw[h2]
  refine ave.2 ?_
  have:=ave.1 hn
  exact this.imp_of_mem λ{p q} hp hq br e=>br (by have:=h3 p hp;have:=h3 q hq;omega)
 ·show(es.map (·.key)).Nodup
  rw[h1]
  refine ave.2 ((ave.1 hn).imp λ{p q} br e=>br ?_)
  injection e with _ e
  omega
theorem KX:∀(N:Nat) (l:List Nat),l.Nodup->(∀x∈l,x<=N)->l.length<=N+1
 |0,l,hn,h=>by
  match l,hn,h with
  | [],_,_=>exact asb _
  | [a],_,_=>exact arO _
  |a::b::r,hn,h=>
   have h1:=h a (by simp)
   have h2:=h b (by simp)
   have:a≠b:=λe=>(asG.1 hn).1 (by rw[e];simp)
   omega
 |N+1,l,hn,h=>by
  by_cases hm:N+1∈l
  ·have:=KX N (l.erase (N+1)) (hn.erase _) λx hx=>by
    have h1:=h x (List.mem_of_mem_erase hx)
    have h2:x≠N+1:=λe=>(ax6 hn) (e▸hx)
    omega
   rw[List.length_erase_of_mem hm]at this
   omega
  ·have:=KX N l hn λx hx=>by
    have h1:=h x hx
    have h2:x≠N+1:=λe=>hm (e▸hx)
    omega
   omega
theorem Vm.ans{O:List ak}{o:ak}(hl:O.length<262144):cX (cu O) O.length o=cu (O++[o]):=by
 have uH:small O.length=true:=ij.2 (by have:(2:Nat)^18=262144:=rfl;omega)
 funext x
 by_cases hx:x=O.length
 ·subst hx
  rw[fB,cH uH]
  simp
 ·rw[eB _ hx]
  cases hs:small x with
  |false=>rw[iE hs,iE hs]
  |true=>
   rw[cH hs,cH hs]
   by_cases hl:x<O.length
   ·rw[List.getElem?_append_left hl]
   ·rw[asC (by omega),asC (by simp;omega)]
theorem Vm.ant{O:List ak}(hl:O.length<262144):cu O O.length=none:=by
 rw[cH (ij.2 (by have:(2:Nat)^18=262144:=rfl;omega))];simp
theorem Vm.anu{ρ:Vm.Ren}(h:Full ρ){x:Nat}(hx:small x=true)(r:Vm.bV):Full (ρ.put x r):=λq=>by
 obtain⟨y,h1,h2⟩:=h q
 refine⟨y,h1,?_⟩
 rw[Ren.qS _ _ (by rintro rfl;rw[hx]at h1;cases h1)]
 exact h2
theorem Vm.WR.under{P:arC}{B:Nat->Prop}{w₀ w w':World}{ρ:Vm.Ren}{g:Nat->Option ak}(h:WR P B w₀ ρ g w)(hb:Below w.heap.size w w'):WR P B w₀ ρ g w' where
 env:=h.env
 below:=h.below.trans ⟨hb.os,hb.tape,hb.output,hb.size,λk hk=>hb.block k (h.size k hk)⟩
 size:=λk hk=>Nat.lt_of_lt_of_le (h.size k hk) hb.size
 live:=λx o r hx hr hl=>by
  obtain⟨o',h1,h2⟩:=h.live x o r hx hr hl
  exact⟨o',(hb.block _ (asq.1 h1).1).trans h1,h2⟩
 inj:=h.inj
 fresh:=h.fresh
 rows:=h.rows
 nil:=h.nil
 named:=h.named
 abs:=h.abs.next (λx d hx=>⟨hx,rfl⟩) (λk k1 a b=>⟨hb.block k k1,a,b⟩) hb.size
theorem Vm.WR.anv{B:Nat->Prop}{w₀ w w':World}{ρ:Vm.Ren}{O:List ak}(h:WR fK B w₀ ρ (cu O) w)(hl:O.length<262144)(hb:Below w.heap.size w w'){g n:Nat}{dy:Array Dy}{ss:List Int}(hg:w.heap.size<=g)(hc:w'.heap[g]?=some (.cells dy 3 (0,0)))(hn:dy.toList.take n=ay ss)(hs:ss.length=n)(cc:n<=dy.size):
 WR fK B w₀ (ρ.put O.length ⟨g,0,1,dy.size⟩) (cu (O++[.cells (ay ss) 3 false])) w':=by
 rw[<-ans hl]
 refine h.put (ant hl) (λy hy=>.inl (eB _ hy)) (fB _ _ _) ⟨hb.os,hb.tape,hb.output,hb.size,λk hk=>hb.block k (h.size k hk)⟩ hb.size (λy oy ry _ _ h1 h2 h3=>?_) (λ_=>⟨_,hc,?_,λ_ hB=>?_⟩) (λ_ y oy ry _ _ h1 h2 h3 _ e'=>?_) (λk hk _ _=>⟨hb.block k hk,λ_ e=>?_⟩) (λd e=>by cases e) (λm sz row e'=>by cases e') (λel ro e' k hk=>?_)
 ·obtain⟨o',q1,_,_⟩:=h.live y oy ry h1 h2 h3
  exact hb.block _ (asq.1 q1).1
 ·refine .cells _ 3 3 false _ _ rfl (by dsimp only;rw[BG];omega) (λ_=>rfl) (λn hn=>by rw[show bZ fK 3=some 1 by kernel_rfl]at hn;cases hn;rfl) (λ_=>.inl rfl) λi v hv=>?_
  refine⟨v,?_,?_⟩
  ·dsimp only
   rw[Nat.zero_add]
   rw[<-hn,List.getElem?_take]at hv
   split at hv
   ·simpa using hv
   ·cases hv
  ·refine .bN _ ?_
   exact List.all_eq_true.1 (aS ss) v (List.mem_of_getElem? hv)
 ·have:=h.size _ hB
  dsimp only at this
  omega
 ·obtain⟨o',q1,_,_⟩:=h.live y oy ry h1 h2 h3
  have:=(asq.1 q1).1
  rw[e']at this
  dsimp only at this
  omega
 ·dsimp only at e
  omega
 ·simp only[ak.cells.injEq]at e'
  rw[<-e'.2.1,show bZ fK 3=some 1 by kernel_rfl]at hk
  cases hk
  rfl
theorem anw(d:aA)(hd:ct d):aF fK 15 [.pointer (some ⟨0,0,none⟩)] [.abs d] λr o=>r=(DN d).1/\o=(DN d).2:=by
 intro B w₀ ρ w args' gM Bs iw hw
 obtain⟨v1,l1,e1,h1,t1⟩:=iw.gT
 have e2:=t1.kO
 obtain⟨q,hq,hv⟩:=VR.lp h1
 have ea:args'= #[v1]:=by rw[<-Array.toArray_toList (xs:=args'),e1,e2]
 subst ea hv
 obtain⟨F,a1,a2,a3⟩:=hw.abs
 obtain⟨r,S,hr,⟨L,jw,hL⟩,hS⟩:=a1 0 d rfl
 rw[hq]at hr
 cases hr
 obtain⟨eT,v,m,es,L1,L2,mI,kE,dw⟩:=jw
 have c0:e7 w q.aH (.cells [v,.map (some m),.int .i64 d.made,.int .i64 d.calls,.int .i64 d.raw] 80 q.sh q.dJ):=hL.at_ (q.aH,_) (by rw[dw];exact arH)
 have c1:e7 w m (.map es d.made):=hL.at_ (m,_) (by rw[dw];exact arG _ arH)
 obtain⟨c',fr,b1,b2,b3,b4,b5⟩:=c0
 have qc:w.cell? ⟨q.aH,q.sh+0+1,none⟩=some (.map (some m)):=by
  unfold World.cell?
  simp only[b1]
  exact b5 1 _ rfl
 obtain⟨f1,f2,f3⟩:=UY kE
 have UZ:es.length=d.files.length:=ace kE
 have iq:d.files.length<=65:=by
  have:=KX 64 (d.files.map (·.1)) hd.gR λx hx=>by
   obtain⟨p,hp,rfl⟩:=as8.1 hx
   exact atW (hd.keys p hp) hd.made
  rwa[aty]at this
 have sD:∀x∈es,∃p∈d.files,x.key=KJ .i64 p.1:=λx hx=>by
  have:x.key∈d.files.map (λp=>KJ .i64 p.1):=by rw[<-f1];exact atb hx
  obtain⟨p,hp,e⟩:=as8.1 this
  exact⟨p,hp,e.symm⟩
 have gL:∀x∈es,∃p∈d.files,x.key=KJ .i64 p.1/\ax7 fK 3 rX x=some (.int .i64 p.1,.lit (.bool true)):=λx hx=>by
  obtain⟨p,hp,e⟩:=sD x hx
  refine⟨p,hp,e,?_⟩
  have mX:=atW (hd.keys p hp) hd.made
  have tx:(Lit.int .i64 (p.1:Int)).wf=true:=by
   have a:Ul.min= -9223372036854775808:=by decide
   have b:Ul.max=9223372036854775807:=by decide
   show(decide (Ul.min<=(p.1:Int))&&decide ((p.1:Int)<=Ul.max))=true
   rw[a,b,Bool.and_eq_true]
   exact⟨decide_eq_true (by omega),decide_eq_true (by omega)⟩
  unfold ax7 keyOf mapKey
  rw[e,atC]
  simp[tx,rX]
 have DL:w.ownsMap fK 3 rX m es.toArray.size (.map ((es.toArray.toList.map (au2 fK 3 rX)).foldr awt [])):=by
  refine⟨es.toArray,d.made,c1,⟨?_,anr kE hd.keys hd.gR,?_⟩,arO _,rfl⟩
  ·have:es.toArray.size=d.files.length:=by simpa using UZ
   unfold maxLen
   omega
  ·intro x hx
   obtain⟨p,_,_,h⟩:=gL x (by simpa using hx)
   exact⟨_,h⟩
 have vx:axd (.map ((es.toArray.toList.map (au2 fK 3 rX)).foldr awt []):avL Unit)=d.files.length:=by
  show(List.foldr awt [] _).length=_
  rw[length_sorted,aty]
  simpa using UZ
 have anx:(intKeys (.map ((es.toArray.toList.map (au2 fK 3 rX)).foldr awt []):avL Unit)).Perm (d.files.map λp=>(p.1:Int)):=by
  refine((ayj _).map _).trans ?_
  rw[at1]
  have:es.toArray.toList.map ((λp=>Go.intOf p.1)∘au2 fK 3 rX)=d.files.map λp=>(p.1:Int):=by
   have e3:d.files.map (λp=>(p.1:Int))=(es.map (·.key)).map (λv=>match v with| .int _ x=>x|_=>0):=by
    rw[f1,at1];rfl
   rw[e3,at1]
   show es.map _=_
   refine List.map_congr_left λx hx=>?_
   obtain⟨p,_,k1,k2⟩:=gL x hx
   show Go.intOf (au2 fK 3 rX x).1=_
   unfold au2
   rw[k2]
   simp only[Function.comp,k1]
   rfl
  rw[this]
 refine(ano q.aH (q.sh+0) m _ _ rX w qc DL (by rw[vx];unfold maxLen;omega) (by rw[vx];omega)).mono ?_
 rintro e w' ⟨v2,ss,rfl,anz,anA,anB,hb⟩
 have U0:=anz.trans anx
 have hlen:=U0.length_eq
 rw[aty]at hlen
 have anC:ss.mergeSort (λx y=>decide (x<=y))=xA d:=mergeSort_of_perm_i U0
 unfold DN
 by_cases h0:d.files=[]
 ·have:ss=[]:=ar5 (by rw[hlen,h0];rfl)
  have anD:=anB.2 this
  subst anD
  rw[if_pos h0]
  exact⟨_,_,ρ,⟨rfl,rfl⟩,VR.bN _ rfl,gM,hw.under hb,by simp,λ_ _=>rfl⟩
 ·rw[if_neg h0]
  have br:ss≠[]:=λe=>h0 (ar5 (by rw[<-hlen,e];rfl))
  obtain⟨r1,⟨r2,r3⟩|⟨g,cap,dy,rfl,r3,r4,r5,r6,r7,r8⟩⟩:=anA
  ·exact absurd (ar5 r3) br
  rw[anC]at r8
  have dg:=hw.anv (ss:=xA d) (n:=ss.length) (by simp) hb r3 r4 (by rw[<-Nat.mul_one ss.length,r8];rfl) (by rw[anq,hlen]) (by omega)
  refine⟨_,_,_,⟨rfl,rfl⟩,?_,anu gM (by rfl) _,dg,by simp,λx hx=>?_⟩
  ·rw[hlen]
   have:=VR.sl (ρ:=ρ.put 1 ⟨g,0,1,dy.size⟩) 1 0 d.files.length d.files.length cap _ (Ren.lr _ _ _) (.inr ⟨by omega,by dsimp only;omega⟩)
   show VR _ _ _
   simpa using this
  ·have hx:x<1:=hx
   exact Ren.qS _ _ (by show x≠1;omega)
noncomputable def KY:Sum:=⟨nY fK,λa o=>match a,o with
 | [.pointer (some ⟨0,0,none⟩)],[.abs d]=>.sP (oS d) (.ask d.files.isEmpty λb=>match b with
  |true=>.done (.ret (.slice none 0 0),[.abs d])
  |false=>.done (.ret (.slice (some ⟨1,0,none⟩) d.files.length d.files.length),[.abs d,.cells (ay (xA d)) 3 false]))
 |_,_=>.fail⟩
theorem anE:bB fK 15 KY:=by
 intro a o r o' hg
 unfold KY at hg
 dsimp only at hg
 split at hg
 ·rename_i d
  obtain⟨h1,hg⟩:=QT.uB hg
  have hg:(match d.files.isEmpty with|true=>_|false=>_:QT (bD×List ak)).run=some (r,o'):=hg
  refine(anw d (qz.1 h1)).mono λr1 o1 h=>?_
  obtain⟨rfl,rfl⟩:=h
  unfold DN
  cases hk:d.files.isEmpty with
  |true=>
   rw[hk]at hg
   cases hg
   rw[if_pos (List.isEmpty_iff.1 hk)]
   exact⟨rfl,rfl⟩
  |false=>
   rw[hk]at hg
   cases hg
   rw[if_neg (λe=>by rw[e]at hk;cases hk)]
   exact⟨rfl,rfl⟩
 ·cases hg
end Go.Proofs.YtnlkkgpcikkpoaaGreat
namespace Go.Proofs.YtnlkkgpcikkpoaaGreat
open Go Vm Go.RowKit
noncomputable section
abbrev U1:ai:=⟨[(0,ap 0)],[ab ([aa 0,aa 0,aa 0,aa 0,aa 0,aa 0,aa 0,aa 0,aa 15,aa 0,aa 0,aa 1,aa 0,aa 0,aa 0,aa 15,aa 0,aa 1,aa 0,aa 0,aa 0,aa 0,aa 1000000000,aa 0,aa 1,aa 1,aa 64,aa 0,aa 0,aa 9223372036854775807,aa 0,aa 1,aa 1,aa 64,aa 64,aa 0,aa 1,aa 1,aa 1,aa 1,aa 64,aa 0,aa 0,aa 0,aa 2,aa 1,aa 1,aa 0,aa 0,aa 1,aa 65535,aa 3,aa 1,aa 1,aa 64,aa 0,aa 0,aa 1,aa 0,aa 1,aa 1,aa 128,aa 0,aa 0,aa 0,aa 0,aa 1,aa 1,aa 0,aa 0,aa 0,aa 1000000000,aa 0,aa 1,aa 1,aa 64,aa 0,aa 0,aa 1,aa 0,aa 1,aa 1,aa 320,aa 0,aa 1,aa 4,aa 0,aa (-1),aa 1,aa 0,aa 0,aa 1,aa 4,aa 3,aa (-1),aa 1,aa 0,aa 96,aa 1,aa 9223372036854775807,aa 3,aa 2,aa 1,aa 192,aa 128,aa 1,aa 4,aa 0,aa 1,aa (-1),aa 0,aa 0,aa 1,aa 4,aa 0,aa 1,aa (-1),aa 64,aa 0]) 175]⟩
theorem anF{Q:bu}(hq:Q (.ret (.agg (ar6 [aa 0,aa 0,aa 0,aa 0,aa 0,aa 0,aa 0,aa 0,aa 15,aa 0,aa 0,aa 1,aa 0,aa 0,aa 0,aa 15,aa 0,aa 1,aa 0,aa 0,aa 0,aa 0,aa 1000000000,aa 0,aa 1,aa 1,aa 64,aa 0,aa 0,aa 9223372036854775807,aa 0,aa 1,aa 1,aa 64,aa 64,aa 0,aa 1,aa 1,aa 1,aa 1,aa 64,aa 0,aa 0,aa 0,aa 2,aa 1,aa 1,aa 0,aa 0,aa 1,aa 65535,aa 3,aa 1,aa 1,aa 64,aa 0,aa 0,aa 1,aa 0,aa 1,aa 1,aa 128,aa 0,aa 0,aa 0,aa 0,aa 1,aa 1,aa 0,aa 0,aa 0,aa 1000000000,aa 0,aa 1,aa 1,aa 64,aa 0,aa 0,aa 1,aa 0,aa 1,aa 1,aa 320,aa 0,aa 1,aa 4,aa 0,aa (-1),aa 1,aa 0,aa 0,aa 1,aa 4,aa 3,aa (-1),aa 1,aa 0,aa 96,aa 1,aa 9223372036854775807,aa 3,aa 2,aa 1,aa 192,aa 128,aa 1,aa 4,aa 0,aa 1,aa (-1),aa 0,aa 0,aa 1,aa 4,aa 0,aa 1,aa (-1),aa 64,aa 0]))) []):aG arX 105 18 0 Q .ret (U1):=aG.ret (vs:=[.agg (ar6 [aa 0,aa 0,aa 0,aa 0,aa 0,aa 0,aa 0,aa 0,aa 15,aa 0,aa 0,aa 1,aa 0,aa 0,aa 0,aa 15,aa 0,aa 1,aa 0,aa 0,aa 0,aa 0,aa 1000000000,aa 0,aa 1,aa 1,aa 64,aa 0,aa 0,aa 9223372036854775807,aa 0,aa 1,aa 1,aa 64,aa 64,aa 0,aa 1,aa 1,aa 1,aa 1,aa 64,aa 0,aa 0,aa 0,aa 2,aa 1,aa 1,aa 0,aa 0,aa 1,aa 65535,aa 3,aa 1,aa 1,aa 64,aa 0,aa 0,aa 1,aa 0,aa 1,aa 1,aa 128,aa 0,aa 0,aa 0,aa 0,aa 1,aa 1,aa 0,aa 0,aa 0,aa 1000000000,aa 0,aa 1,aa 1,aa 64,aa 0,aa 0,aa 1,aa 0,aa 1,aa 1,aa 320,aa 0,aa 1,aa 4,aa 0,aa (-1),aa 1,aa 0,aa 0,aa 1,aa 4,aa 3,aa (-1),aa 1,aa 0,aa 96,aa 1,aa 9223372036854775807,aa 3,aa 2,aa 1,aa 192,aa 128,aa 1,aa 4,aa 0,aa 1,aa (-1),aa 0,aa 0,aa 1,aa 4,aa 0,aa 1,aa (-1),aa 64,aa 0])]) (l:=[0]) (bs:=[]) (pl:=[]) (q:=[]) (λu=>by kernel_rfl) (by kernel_rfl) be hq
theorem rv{Q:aU}(l0:Q .ret (U1)):ao arX 18 0 aa8 ⟨[],[]⟩ Q:=
 aV bp 1000 (.leaf [0] [0] []) (λu=>by kernel_rfl) (Tree.dN (l0))
end
end Go.Proofs.YtnlkkgpcikkpoaaGreat
namespace Go.Proofs.YtnlkkgpcikkpoaaGreat
open Go Vm Go.RowKit
set_option maxHeartbeats 8000000
noncomputable section
def RT(P:arC)(n k:Nat)(l:List ar3)(Q:bf->ai->Prop)(x:bf)(d:ai):Prop:=match x with
 | .normal=>ao P n k l d Q
 |x=>Q x d
theorem ao.anG{P:arC}(hP:iV P=true)(fM:P.follows .mixedOrders=true){cO:fX}(hc:dD P cO){lf n k m:Nat}{l:List ar3}{d:ai}{s:ST}{T:Tree}
 (h:∀u,(uA P cO lf (l.take m) (eV n u d.sl) (lQ d.objs)).sym (wC n k) s=some T){Q:Int->bf->ai->Prop}(hT:∃e,T.ok (RT P n k (l.drop m) (Q e))):∃e,ao P n k l d (Q e):=by
 obtain⟨e,he⟩:=hT
 exact⟨e,ao.tree hP fM hc h (Tree.BJ (λx d h=>by cases x<;>exact h) he)⟩
theorem ae{R:Int->bf->ai->Prop}{c v:Bool}{t:Tree}(h1:c=v)(h2:∃e,t.ok (R e)):∃e,(Tree.cY c v t).ok (R e):=by
 obtain⟨e,he⟩:=h2
 exact⟨e,h1,he⟩
theorem bq{R:Int->bf->ai->Prop}{c:Bool}{a b:Tree}(h1:c=true->∃e,a.ok (R e))(h2:c=false->∃e,b.ok (R e)):∃e,(Tree.fork c a b).ok (R e):=by
 cases c with
 |true=>obtain⟨e,he⟩:=h1 rfl;exact⟨e,λ_=>he,λh=>by cases h⟩
 |false=>obtain⟨e,he⟩:=h2 rfl;exact⟨e,(λh=>by cases h),λ_=>he⟩
theorem DP{R:Int->bf->ai->Prop}(A B:ByteArray)(e:Int){d:ai}(h:R e .ret d):∃e,(Tree.cY (DC (af A) ag) true (.cY (DC (af B) ag) true (.leaf .ret d))).ok (R e):=⟨e,aE A,aE B,h⟩
theorem xB{A:ByteArray}(h:((A.size:Int)==1)=true):cP .u8 (af A) 0=true:=by
 have h:(A.size:Int)=1:=by simpa using h
 exact wP (d:=A.data) (p:=0) (by show 0<A.size;omega)
theorem xC{A:ByteArray}(h:((A.size:Int)==1)=true):arF 0 A.size=true:=by
 have h:(A.size:Int)=1:=by simpa using h
 exact arZ (by omega)
theorem bd{K:Int}(a b:Int)(h:(K==a)=true)(j5:(a==b)=false:=by decide):(K==b)=false:=by
 have h:K=a:=by simpa using h
 rw[h];exact j5
theorem DQ{A:ByteArray}{P:Prop}(h:P):nt (af A) P=true:=Z5 (d:=A.data) h
def anH:List (arY×Sum):=[(83,Sum.of HL),(84,Sum.of HM)]
theorem U2:dD fK (dM fK (dP anH) 50 40):=dU dC mixed (ee (.cons aa6 (.cons aa7 .nil))) 50 40
theorem anI:aF fK 105 [] [] λr o=>r=.ret OZ/\o=[]:=by
 refine aF.dv (n:=cp fK 105) (by kernel_rfl) ?_
 apply rv
 refine anF ?_
 exact⟨rfl,rfl⟩
theorem anJ:bB fK 105 (Sum.of HN):=bB.of λa o r o' hg=>by
 unfold HN at hg
 split at hg
 ·simp only[DE,Prod.mk.injEq,true_and]at hg
  obtain⟨rfl,rfl⟩:=hg
  exact anI
 ·cases hg
def anK:List (arY×Sum):=[(105,Sum.of HN)]
theorem anL:dD fK (dM fK (dP anK) 50 40):=dU dC mixed (ee (.cons anJ .nil)) 50 40
def xD:List ar3:=a7 (dI fK 31)
def anM:List ar3:=a7 (dI fK 59)
abbrev tI:=λA B=>([.cells (af A) 5 true,.cells (af B) 5 true]:List ak)
abbrev U3:=λ(K N:Int) A B=>(⟨[(2,aa 10)],tI A B⟩:ai)
theorem anN(K N:Int)(A B){Q:bu}(hq:Q (.ret (aa 10)) (U3 K N A B).objs):aG arX 31 17 2 Q .ret (U3 K N A B):=aG.ret (vs:=[aa 10]) (l:=[]) (bs:=[0,1]) (pl:=[0,1]) (q:=[af A,af B]) (λu=>by kernel_rfl) (by kernel_rfl) (aD (aE A) (aD (aE B) be)) hq
abbrev U4:=λ(K N:Int) A B=>(⟨[(2,aa 11)],tI A B⟩:ai)
theorem anO(K N:Int)(A B){Q:bu}(hq:Q (.ret (aa 11)) (U4 K N A B).objs):aG arX 31 17 2 Q .ret (U4 K N A B):=aG.ret (vs:=[aa 11]) (l:=[]) (bs:=[0,1]) (pl:=[0,1]) (q:=[af A,af B]) (λu=>by kernel_rfl) (by kernel_rfl) (aD (aE A) (aD (aE B) be)) hq
abbrev U5:=λ(K N:Int) A B=>(⟨[(2,aa 0)],tI A B⟩:ai)
theorem anP(K N:Int)(A B){Q:bu}(hq:Q (.ret (aa 0)) (U5 K N A B).objs):aG arX 31 17 2 Q .ret (U5 K N A B):=aG.ret (vs:=[aa 0]) (l:=[]) (bs:=[0,1]) (pl:=[0,1]) (q:=[af A,af B]) (λu=>by kernel_rfl) (by kernel_rfl) (aD (aE A) (aD (aE B) be)) hq
abbrev U6:=λ(K N:Int) A B=>(⟨[(2,aa 12)],tI A B⟩:ai)
theorem anQ(K N:Int)(A B){Q:bu}(hq:Q (.ret (aa 12)) (U6 K N A B).objs):aG arX 31 17 2 Q .ret (U6 K N A B):=aG.ret (vs:=[aa 12]) (l:=[]) (bs:=[0,1]) (pl:=[0,1]) (q:=[af A,af B]) (λu=>by kernel_rfl) (by kernel_rfl) (aD (aE A) (aD (aE B) be)) hq
theorem anR(K N:Int)(A B:ByteArray)(hA:A.size<=1000)(hB:B.size<=1000)(hK:¬K=11):∃e,ao arX 17 2 xD ⟨[(0,.agg #[aa K,aa N,aq 0 A.size,aq 1 B.size])],[.cells (af A) 5 true,.cells (af B) 5 true]⟩ ((λe=>aG arX 31 17 2 (λr o=>r=.ret (aa e)/\o=[.cells (af A) 5 true,.cells (af B) 5 true])) e):=by
 have q0:=DP (R:=λe=>RT arX 17 2 (xD.drop 1000) ((λe=>aG arX 31 17 2 (λr o=>r=.ret (.int .i64 e)/\o=[.cells (af A) 5 true,.cells (af B) 5 true])) e)) A B 10 (anN K N A B ⟨rfl,rfl⟩)
 have q2:=DP (R:=λe=>RT arX 17 2 (xD.drop 1000) ((λe=>aG arX 31 17 2 (λr o=>r=.ret (.int .i64 e)/\o=[.cells (af A) 5 true,.cells (af B) 5 true])) e)) A B 11 (anO K N A B ⟨rfl,rfl⟩)
 have q3:=DP (R:=λe=>RT arX 17 2 (xD.drop 1000) ((λe=>aG arX 31 17 2 (λr o=>r=.ret (.int .i64 e)/\o=[.cells (af A) 5 true,.cells (af B) 5 true])) e)) A B 0 (anP K N A B ⟨rfl,rfl⟩)
 have tJ:=DP (R:=λe=>RT arX 17 2 (xD.drop 1000) ((λe=>aG arX 31 17 2 (λr o=>r=.ret (.int .i64 e)/\o=[.cells (af A) 5 true,.cells (af B) 5 true])) e)) A B 12 (anQ K N A B ⟨rfl,rfl⟩)
 exact ao.anG dC mixed U2 (lf:=50) (m:=1000) (s:=(.fork 1 (aB [1,1,1] (.leaf [2] [0,1] [0,1])) (aB [0,2,0] (.fork 0 (.leaf [2] [0,1] [0,1]) (.fork 4 (aB [1,3,3,1] (.fork 1 (aB [1] (.fork 0 (aB [1,3] (.fork 1 (aB [1,1,1,1] (.fork 0 (.leaf [2] [0,1] [0,1]) (aB [6,0,2,0,0,0,0,0,4,0,0,0,0,0,0,0,0,0] (.leaf [2] [0,1] [0,1])))) (aB [0,0,0,1] (.leaf [2] [0,1] [0,1])))) (aB [0,0,0] (.leaf [2] [0,1] [0,1])))) (.fork 0 (.fork 0 (aB [1,3] (.fork 1 (aB [1,1,1,1] (.fork 0 (.leaf [2] [0,1] [0,1]) (aB [6,0,2,0,0,0,0,0,4,0,0,0,0,0,0,0,0,0] (.leaf [2] [0,1] [0,1])))) (aB [0,0,0,1] (.leaf [2] [0,1] [0,1])))) (aB [0,0,0] (.leaf [2] [0,1] [0,1]))) (.fork 0 (aB [1] (.fork 0 (aB [1,3] (.fork 1 (aB [1,1,1,1] (.fork 0 (.leaf [2] [0,1] [0,1]) (aB [6,0,2,0,0,0,0,0,5,1] (.leaf [2] [0,1] [0,1])))) (aB [0,0,0,1] (.leaf [2] [0,1] [0,1])))) (aB [0,0,0] (.leaf [2] [0,1] [0,1])))) (.fork 0 (.fork 0 (aB [1,3] (.fork 1 (aB [1,1,1,1] (.fork 0 (.leaf [2] [0,1] [0,1]) (aB [6,0,2,0,0,0,0,0,4,0,0,1,1] (.leaf [2] [0,1] [0,1])))) (aB [0,0,0,1] (.leaf [2] [0,1] [0,1])))) (aB [0,0,0] (.leaf [2] [0,1] [0,1]))) (.fork 0 (.fork 0 (aB [1,3,1] (.fork 0 (.leaf [2] [0,1] [0,1]) (aB [7,1,1,1] (.fork 5 (.leaf [2] [0,1] [0,1]) (aB [2,0,0,0,0,1] (.fork 1 (.leaf [2] [0,1] [0,1]) (.leaf [2] [0,1] [0,1]))))))) (aB [0,0,0] (.leaf [2] [0,1] [0,1]))) (.fork 0 (.fork 2 (aB [1,3] (.fork 1 (aB [1,1,1,1] (.fork 0 (aB [1,3,3] (.fork 1 (aB [1,1,1,1] (.fork 0 (aB [1,3,3,1,1,1] (.fork 0 (.leaf [2] [0,1] [0,1]) (aB [6,0,2,0,0,0,0,0,4,1,1] (.leaf [2] [0,1] [0,1])))) (aB [0,0,0,0] (.leaf [2] [0,1] [0,1])))) (aB [0,0,0,1] (.leaf [2] [0,1] [0,1])))) (aB [0,0,0,0] (.leaf [2] [0,1] [0,1])))) (aB [0,0,0,1] (.leaf [2] [0,1] [0,1])))) (aB [0,0,0] (.leaf [2] [0,1] [0,1]))) (.fork 0 (.fork 1 (aB [1,3,3] (.fork 1 (aB [1,1,1,1] (.fork 0 (aB [1,3,3,1,1] (.fork 0 (aB [1,3,3,1,3,3,1] (.fork 0 (.leaf [2] [0,1] [0,1]) (aB [6,0,2,0,0,0,0,0,4,0,0,0,0,0,0,0,0,0] (.leaf [2] [0,1] [0,1])))) (aB [0,0,0,0,0,0,0] (.leaf [2] [0,1] [0,1])))) (aB [0,0,0] (.leaf [2] [0,1] [0,1])))) (aB [0,0,0,1] (.leaf [2] [0,1] [0,1])))) (aB [0,0,0,0] (.leaf [2] [0,1] [0,1]))) (.fork 0 (.fork 2 (aB [1,3] (.fork 2 (aB [1,0,3,1,0,1,1,1,1] (.fork 0 (aB [1,3] (.fork 1 (aB [1,1,1,1] (.fork 0 (.leaf [2] [0,1] [0,1]) (aB [6,0,2,0,0,0,0,0,4,0,1,1] (.leaf [2] [0,1] [0,1])))) (aB [0,0,0,1] (.leaf [2] [0,1] [0,1])))) (aB [0,0,0] (.leaf [2] [0,1] [0,1])))) (aB [0,0,0,0,1] (.leaf [2] [0,1] [0,1])))) (aB [0,0,0] (.leaf [2] [0,1] [0,1]))) (.fork 0 (aB [1] (.fork 0 (aB [1,3] (.fork 1 (aB [1,1,1,1] (.fork 0 (.leaf [2] [0,1] [0,1]) (aB [6,0,2,0,0,0,0,0,4,0,0,0,0,0,1] (.leaf [2] [0,1] [0,1])))) (aB [0,0,0,1] (.leaf [2] [0,1] [0,1])))) (aB [0,0,0] (.leaf [2] [0,1] [0,1])))) (aB [0] (.fork 0 (.fork 0 (aB [1,3,1] (.fork 0 (.leaf [2] [0,1] [0,1]) (aB [6,0,2,0,0,0,0,0,4,0,0,0,0,0,0,0,0,0] (.leaf [2] [0,1] [0,1])))) (aB [0,0,0] (.leaf [2] [0,1] [0,1]))) (.fork 0 (aB [1] (.fork 0 (aB [1,3] (.fork 1 (aB [1,1,1,1] (.fork 0 (.leaf [2] [0,1] [0,1]) (aB [6,0,2,0,0,0,0,0,4,0,0,0,0,0,0,0,0,0] (.leaf [2] [0,1] [0,1])))) (aB [0,0,0,1] (.leaf [2] [0,1] [0,1])))) (aB [0,0,0] (.leaf [2] [0,1] [0,1])))) (.fork 0 (aB [1] (.fork 0 (aB [1,3] (.fork 1 (aB [1,1,1,1] (.fork 0 (.leaf [2] [0,1] [0,1]) (aB [6,0,2,0,0,0,0,0,4,0,0,0,0,0,0,0,0,0] (.leaf [2] [0,1] [0,1])))) (aB [0,0,0,1] (.leaf [2] [0,1] [0,1])))) (aB [0,0,0] (.leaf [2] [0,1] [0,1])))) (.fork 0 (.fork 0 (aB [1,3] (.fork 1 (aB [1,1,1,1] (.fork 0 (.leaf [2] [0,1] [0,1]) (aB [6,0,2,0,0,0,0,0,4,0,0,0,1] (.leaf [2] [0,1] [0,1])))) (aB [0,0,0,1] (.leaf [2] [0,1] [0,1])))) (aB [0,0,0] (.leaf [2] [0,1] [0,1]))) (.fork 0 (.fork 2 (aB [1,3] (.fork 2 (aB [1,0,3,1,0,1,1,1,1] (.fork 0 (aB [1,3] (.fork 1 (aB [1,1,1,1] (.fork 0 (.leaf [2] [0,1] [0,1]) (aB [6,0,2,0,0,0,0,0,4,0,0,0,0,0,0,0,1] (.fork 1 (.leaf [2] [0,1] [0,1]) (.leaf [2] [0,1] [0,1]))))) (aB [0,0,0,1] (.leaf [2] [0,1] [0,1])))) (aB [0,0,0] (.leaf [2] [0,1] [0,1])))) (aB [0,0,0,0,1] (.leaf [2] [0,1] [0,1])))) (aB [0,0,0] (.leaf [2] [0,1] [0,1]))) (aB [1] (.fork 2 (aB [1,3] (.fork 2 (aB [1,0,3,1,0,1,1,1,1] (.fork 0 (aB [1,3,1] (.fork 0 (.leaf [2] [0,1] [0,1]) (aB [6,0,2,0,1,1,3,1] (.fork 0 (.leaf [2] [0,1] [0,1]) (aB [2,0,0,0,0,0,0,0,0,1] (.fork 1 (.leaf [2] [0,1] [0,1]) (.leaf [2] [0,1] [0,1]))))))) (aB [0,0,0] (.leaf [2] [0,1] [0,1])))) (aB [0,0,0,0,1] (.leaf [2] [0,1] [0,1])))) (aB [0,0,0] (.leaf [2] [0,1] [0,1])))))))))))))))))))) (aB [0,0,0,0] (.fork 1 (aB [1] (.leaf [2] [0,1] [0,1])) (.fork 0 (.leaf [2] [0,1] [0,1]) (.fork 0 (aB [1] (.leaf [2] [0,1] [0,1])) (.fork 0 (.leaf [2] [0,1] [0,1]) (.fork 0 (.leaf [2] [0,1] [0,1]) (.fork 0 (.fork 2 (aB [1,3] (.fork 1 (aB [1,1,1,1] (.fork 0 (aB [1,3,3] (.fork 1 (aB [1,1,1,1] (.fork 0 (aB [1,3,3,1,1,1] (.fork 0 (.leaf [2] [0,1] [0,1]) (aB [6,0,2,0,0,0,0,0,4,1,1] (.leaf [2] [0,1] [0,1])))) (aB [0,0,0,0] (.leaf [2] [0,1] [0,1])))) (aB [0,0,0,1] (.leaf [2] [0,1] [0,1])))) (aB [0,0,0,0] (.leaf [2] [0,1] [0,1])))) (aB [0,0,0,1] (.leaf [2] [0,1] [0,1])))) (aB [0,0,0] (.leaf [2] [0,1] [0,1]))) (.fork 0 (.fork 1 (aB [1,3,3] (.fork 1 (aB [1,1,1,1] (.fork 0 (aB [1,3,3,1,1] (.fork 0 (aB [1,3,3,1,3,3,1] (.fork 0 (.leaf [2] [0,1] [0,1]) (aB [6,0,2,0,0,0,0,0,4,0,0,0,0,0,0,0,0,0] (.leaf [2] [0,1] [0,1])))) (aB [0,0,0,0,0,0,0] (.leaf [2] [0,1] [0,1])))) (aB [0,0,0] (.leaf [2] [0,1] [0,1])))) (aB [0,0,0,1] (.leaf [2] [0,1] [0,1])))) (aB [0,0,0,0] (.leaf [2] [0,1] [0,1]))) (.fork 0 (.fork 2 (aB [1,3] (.fork 2 (aB [1,0,3,1,0,1,1,1,1] (.fork 0 (aB [1,3] (.fork 1 (aB [1,1,1,1] (.fork 0 (.leaf [2] [0,1] [0,1]) (aB [6,0,2,0,0,0,0,0,4,0,1,1] (.leaf [2] [0,1] [0,1])))) (aB [0,0,0,1] (.leaf [2] [0,1] [0,1])))) (aB [0,0,0] (.leaf [2] [0,1] [0,1])))) (aB [0,0,0,0,1] (.leaf [2] [0,1] [0,1])))) (aB [0,0,0] (.leaf [2] [0,1] [0,1]))) (.fork 0 (aB [1] (.leaf [2] [0,1] [0,1])) (aB [0] (.fork 0 (.leaf [2] [0,1] [0,1]) (.fork 0 (aB [1] (.leaf [2] [0,1] [0,1])) (.fork 0 (aB [1] (.leaf [2] [0,1] [0,1])) (.fork 0 (.leaf [2] [0,1] [0,1]) (.fork 0 (.fork 2 (aB [1,3] (.fork 2 (aB [1,0,3,1,0,1,1,1,1] (.fork 0 (aB [1,3] (.fork 1 (aB [1,1,1,1] (.fork 0 (.leaf [2] [0,1] [0,1]) (aB [6,0,2,0,0,0,0,0,4,0,0,0,0,0,0,0,1] (.fork 1 (.leaf [2] [0,1] [0,1]) (.leaf [2] [0,1] [0,1]))))) (aB [0,0,0,1] (.leaf [2] [0,1] [0,1])))) (aB [0,0,0] (.leaf [2] [0,1] [0,1])))) (aB [0,0,0,0,1] (.leaf [2] [0,1] [0,1])))) (aB [0,0,0] (.leaf [2] [0,1] [0,1]))) (aB [1] (.fork 2 (aB [1,3] (.fork 2 (aB [1,0,3,1,0,1,1,1,1] (.fork 0 (aB [1,3,1] (.fork 0 (.leaf [2] [0,1] [0,1]) (aB [6,0,2,0,1,1,3,1] (.fork 0 (.leaf [2] [0,1] [0,1]) (aB [2,0,0,0,0,0,0,0,0,1] (.fork 1 (.leaf [2] [0,1] [0,1]) (.leaf [2] [0,1] [0,1]))))))) (aB [0,0,0] (.leaf [2] [0,1] [0,1])))) (aB [0,0,0,0,1] (.leaf [2] [0,1] [0,1])))) (aB [0,0,0] (.leaf [2] [0,1] [0,1]))))))))))))))))))))))))) (λu=>by kernel_rfl) (bq (c:=decide (K<1)) (λh0=>(ae h0 (ae h0 (ae h0 q0)))) (λh0=>(ae h0 (ae h0 (ae h0 (bq (c:=decide (K>16)) (λh1=>q0) (λh1=>(bq (c:=(↑(DD A):Int)==0) (λh2=>(ae h2 (ae h2 (ae h2 (ae h2 (bq (c:=K==1) (λh3=>(ae h3 (bq (c:=(↑(DD B):Int)==0) (λh4=>(ae h4 (ae h4 (bq (c:=decide (N >= 0)) (λh5=>(ae h5 (ae h5 (ae h5 (ae h4 (bq (c:= !decide (N<=15)) (λh6=>q2) (λh6=>(ae (bd 1 4 h3) (ae (bd 1 4 h3) (ae (bd 1 4 h3) (ae (bd 1 4 h3) (ae (bd 1 14 h3) (ae (bd 1 14 h3) (ae (bd 1 14 h3) (ae (bd 1 14 h3) (ae (bd 1 3 h3) (ae (bd 1 5 h3) (ae (bd 1 7 h3) (ae (bd 1 10 h3) (ae (bd 1 16 h3) (ae (bd 1 4 h3) (ae (bd 1 8 h3) (ae (bd 1 11 h3) (ae (bd 1 13 h3) (ae (bd 1 14 h3) q3))))))))))))))))))))))))) (λh5=>(ae h5 (ae h5 (ae h5 (ae h4 q2))))))))) (λh4=>(ae h4 (ae h4 (ae h4 q2))))))) (λh3=>(bq (c:=K==2) (λh4=>(bq (c:=(↑(DD B):Int)==0) (λh5=>(ae h5 (ae h5 (bq (c:=decide (N >= 0)) (λh6=>(ae h6 (ae h6 (ae h6 (ae h5 (bq (c:= !decide (N<=15)) (λh7=>q2) (λh7=>(ae (bd 2 4 h4) (ae (bd 2 4 h4) (ae (bd 2 4 h4) (ae (bd 2 4 h4) (ae (bd 2 14 h4) (ae (bd 2 14 h4) (ae (bd 2 14 h4) (ae (bd 2 14 h4) (ae (bd 2 3 h4) (ae (bd 2 5 h4) (ae (bd 2 7 h4) (ae (bd 2 10 h4) (ae (bd 2 16 h4) (ae (bd 2 4 h4) (ae (bd 2 8 h4) (ae (bd 2 11 h4) (ae (bd 2 13 h4) (ae (bd 2 14 h4) q3))))))))))))))))))))))))) (λh6=>(ae h6 (ae h6 (ae h6 (ae h5 q2))))))))) (λh5=>(ae h5 (ae h5 (ae h5 q2)))))) (λh4=>(bq (c:=K==3) (λh5=>(ae h5 (bq (c:=(↑(DD B):Int)==0) (λh6=>(ae h6 (ae h6 (bq (c:=decide (N >= 0)) (λh7=>(ae h7 (ae h7 (ae h7 (ae h6 (bq (c:= !decide (N<=1000000000)) (λh8=>q2) (λh8=>(ae (bd 3 4 h5) (ae (bd 3 4 h5) (ae (bd 3 4 h5) (ae (bd 3 4 h5) (ae (bd 3 14 h5) (ae (bd 3 14 h5) (ae (bd 3 14 h5) (ae (bd 3 14 h5) (ae h5 (ae h5 q3))))))))))))))))) (λh7=>(ae h7 (ae h7 (ae h7 (ae h6 q2))))))))) (λh6=>(ae h6 (ae h6 (ae h6 q2))))))) (λh5=>(bq (c:=K==10) (λh6=>(bq (c:=(↑(DD B):Int)==0) (λh7=>(ae h7 (ae h7 (bq (c:=decide (N >= 0)) (λh8=>(ae h8 (ae h8 (ae h8 (ae h7 (bq (c:= !decide (N<=1000000000)) (λh9=>q2) (λh9=>(ae (bd 10 4 h6) (ae (bd 10 4 h6) (ae (bd 10 4 h6) (ae (bd 10 4 h6) (ae (bd 10 14 h6) (ae (bd 10 14 h6) (ae (bd 10 14 h6) (ae (bd 10 14 h6) (ae h5 (ae (bd 10 5 h6) (ae (bd 10 7 h6) (ae h6 (ae h6 q3)))))))))))))))))))) (λh8=>(ae h8 (ae h8 (ae h8 (ae h7 q2))))))))) (λh7=>(ae h7 (ae h7 (ae h7 q2)))))) (λh6=>(bq (c:=K==4) (λh7=>(bq (c:=(↑(DD B):Int)==0) (λh8=>(ae h8 (ae h8 (ae h8 (bq (c:= !decide (N >= 0)) (λh9=>q2) (λh9=>(ae h7 (ae h7 (ae h7 (ae h7 (bq (c:=decide (N>100)) (λbx=>tJ) (λbx=>(ae h5 (ae (bd 4 5 h7) (ae (bd 4 7 h7) (ae h6 (ae (bd 4 16 h7) (ae h7 (bq (c:=decide (m6 Ul (64+m6 Ul (64*N))>2048)) (λbQ=>tJ) (λbQ=>q3)))))))))))))))))))) (λh8=>(ae h8 (ae h8 (ae h8 q2)))))) (λh7=>(bq (c:=K==5) (λh8=>(bq (c:=(↑(DD B):Int)==0) (λh9=>(ae h9 (ae h9 (bq (c:=decide (N >= 0)) (λbx=>(ae bx (ae bx (ae bx (ae h9 (bq (c:=decide (N<=1)) (λbQ=>(ae bQ (ae bQ (ae bQ (bq (c:=decide ((↑(DD A):Int) >= 1)) (λbL=>(ae bL (ae bL (ae bL (ae bQ (bq (c:=decide ((↑(DD A):Int)<=16)) (λbg=>(ae bg (ae bg (ae (show(DC (af A) ag)=true by exact aE _) (ae (show(nt (af A) (DD A=DD A/\5=5/\nG (af A)=DD A/\DD A<=10000))=true by exact DQ ⟨rfl,rfl,mC _,by omega⟩) (ae bg (ae bg (bq (c:= !!tg (eG (af A)) 10) (λcT=>q2) (λcT=>(ae h7 (ae h7 (ae h7 (ae h7 (ae (bd 5 14 h8) (ae (bd 5 14 h8) (ae (bd 5 14 h8) (ae (bd 5 14 h8) (ae h5 (ae h8 (ae h8 q3)))))))))))))))))))) (λbg=>(ae bg (ae bg (ae bg (ae bg q2))))))))))) (λbL=>(ae bL (ae bL (ae bL (ae bQ q2)))))))))) (λbQ=>(ae bQ (ae bQ (ae bQ (ae bQ q2))))))))))) (λbx=>(ae bx (ae bx (ae bx (ae h9 q2))))))))) (λh9=>(ae h9 (ae h9 (ae h9 q2)))))) (λh8=>(bq (c:=K==6) (λh9=>(bq (c:=N==0) (λbx=>(ae bx (ae bx (ae bx (bq (c:=decide ((↑(DD A):Int) >= 1)) (λbQ=>(ae bQ (ae bQ (ae bQ (ae bx (bq (c:=decide ((↑(DD A):Int)<=64)) (λbL=>(ae bL (ae bL (ae (show(DC (af A) ag)=true by exact aE _) (ae (show(nt (af A) (DD A=DD A/\5=5/\nG (af A)=DD A/\DD A<=10000))=true by exact DQ ⟨rfl,rfl,mC _,by omega⟩) (ae bL (bq (c:=tf (eG (af A))) (λbg=>(ae bg (ae bg (ae bg (ae bg (ae bg (ae bg (ae bg (bq (c:= !decide ((↑(DD B):Int)<=(↑(DD A):Int))) (λcT=>q2) (λcT=>(ae h7 (ae h7 (ae h7 (ae h7 (ae (bd 6 14 h9) (ae (bd 6 14 h9) (ae (bd 6 14 h9) (ae (bd 6 14 h9) (ae h5 (ae h8 (ae (bd 6 7 h9) (ae h6 (ae (bd 6 16 h9) (ae h7 (ae (bd 6 8 h9) (ae (bd 6 11 h9) (ae (bd 6 13 h9) (ae (bd 6 14 h9) q3)))))))))))))))))))))))))))) (λbg=>(ae bg (ae bg (ae bg (ae bg (ae bg (ae bg (ae bg q2))))))))))))))) (λbL=>(ae bL (ae bL (ae bL q2)))))))))) (λbQ=>(ae bQ (ae bQ (ae bQ (ae bx q2)))))))))) (λbx=>(ae bx (ae bx (ae bx (ae bx q2))))))) (λh9=>(bq (c:=K==7) (λbx=>(bq (c:=(↑(DD B):Int)==0) (λbQ=>(ae bQ (ae bQ (bq (c:=(↑(DD A):Int)==1) (λbL=>(ae bL (ae (xC bL) (ae bL (ae (xB bL) (ae bL (ae bL (ae bQ (bq (c:=av (af A) 0 != 10) (λbg=>(ae bg (ae bg (bq (c:=decide (N >= 1)) (λcT=>(ae cT (ae cT (ae cT (ae bg (bq (c:= !decide (N<=65535)) (λeI=>q2) (λeI=>(ae h7 (ae h7 (ae h7 (ae h7 (ae (bd 7 14 bx) (ae (bd 7 14 bx) (ae (bd 7 14 bx) (ae (bd 7 14 bx) (ae h5 (ae h8 (ae bx (ae bx q3))))))))))))))))))) (λcT=>(ae cT (ae cT (ae cT (ae bg q2))))))))) (λbg=>(ae bg (ae bg (ae bg q2))))))))))))) (λbL=>(ae bL (ae bL (ae bL (ae bL (ae bQ q2)))))))))) (λbQ=>(ae bQ (ae bQ (ae bQ q2)))))) (λbx=>(bq (c:=K==8) (λbQ=>(ae bQ (bq (c:=(↑(DD B):Int)==0) (λbL=>(ae bL (ae bL (bq (c:=decide (N >= 0)) (λbg=>(ae bg (ae bg (ae bg (ae bL (bq (c:= !decide (N<=1)) (λcT=>q2) (λcT=>(ae h7 (ae h7 (ae h7 (ae h7 (ae (bd 8 14 bQ) (ae (bd 8 14 bQ) (ae (bd 8 14 bQ) (ae (bd 8 14 bQ) (ae h5 (ae h8 (ae bx (ae h6 (ae (bd 8 16 bQ) (ae h7 (ae bQ q3)))))))))))))))))))))) (λbg=>(ae bg (ae bg (ae bg (ae bL q2))))))))) (λbL=>(ae bL (ae bL (ae bL q2))))))) (λbQ=>(ae (show(K==11)=false by exact(decide_eq_false (by omega))) (bq (c:=K==9) (λbL=>(bq (c:=(↑(DD B):Int)==0) (λbg=>(ae bg (ae bg (ae bg (bq (c:= !N==0) (λcT=>q2) (λcT=>(ae h7 (ae h7 (ae h7 (ae h7 (ae (bd 9 14 bL) (ae (bd 9 14 bL) (ae (bd 9 14 bL) (ae (bd 9 14 bL) (ae h5 (ae h8 (ae bx (ae h6 (ae (bd 9 16 bL) (ae h7 (ae bQ (ae (bd 9 11 bL) (ae (bd 9 13 bL) (ae (bd 9 14 bL) q3)))))))))))))))))))))))) (λbg=>(ae bg (ae bg (ae bg q2)))))) (λbL=>(bq (c:=K==12) (λbg=>(ae bg (bq (c:=(↑(DD B):Int)==0) (λcT=>(ae cT (ae cT (bq (c:=decide (N >= 1)) (λeI=>(ae eI (ae eI (ae eI (ae cT (bq (c:= !decide (N<=4)) (λdV=>q2) (λdV=>(ae h7 (ae h7 (ae h7 (ae h7 (ae (bd 12 14 bg) (ae (bd 12 14 bg) (ae (bd 12 14 bg) (ae (bd 12 14 bg) (ae h5 (ae h8 (ae bx (ae h6 (ae (bd 12 16 bg) (ae h7 (ae bQ (ae (bd 12 11 bg) (ae (bd 12 13 bg) (ae (bd 12 14 bg) q3))))))))))))))))))))))))) (λeI=>(ae eI (ae eI (ae eI (ae cT q2))))))))) (λcT=>(ae cT (ae cT (ae cT q2))))))) (λbg=>(bq (c:=K==15) (λcT=>(ae cT (bq (c:=(↑(DD B):Int)==0) (λeI=>(ae eI (ae eI (bq (c:=decide (N >= 1)) (λdV=>(ae dV (ae dV (ae dV (ae eI (bq (c:= !decide (N<=4)) (λdk=>q2) (λdk=>(ae h7 (ae h7 (ae h7 (ae h7 (ae (bd 15 14 cT) (ae (bd 15 14 cT) (ae (bd 15 14 cT) (ae (bd 15 14 cT) (ae h5 (ae h8 (ae bx (ae h6 (ae (bd 15 16 cT) (ae h7 (ae bQ (ae (bd 15 11 cT) (ae (bd 15 13 cT) (ae (bd 15 14 cT) q3))))))))))))))))))))))))) (λdV=>(ae dV (ae dV (ae dV (ae eI q2))))))))) (λeI=>(ae eI (ae eI (ae eI q2))))))) (λcT=>(bq (c:=K==16) (λeI=>(bq (c:=(↑(DD B):Int)==0) (λdV=>(ae dV (ae dV (bq (c:=decide (N >= 1)) (λdk=>(ae dk (ae dk (ae dk (ae dV (bq (c:= !decide (N<=4)) (λdn=>q2) (λdn=>(ae h7 (ae h7 (ae h7 (ae h7 (ae (bd 16 14 eI) (ae (bd 16 14 eI) (ae (bd 16 14 eI) (ae (bd 16 14 eI) (ae h5 (ae h8 (ae bx (ae h6 (ae eI q3)))))))))))))))))))) (λdk=>(ae dk (ae dk (ae dk (ae dV q2))))))))) (λdV=>(ae dV (ae dV (ae dV q2)))))) (λeI=>(bq (c:=K==13) (λdV=>(bq (c:=(↑(DD B):Int)==0) (λdk=>(ae dk (ae dk (bq (c:=(↑(DD A):Int)==1) (λdn=>(ae dn (ae (xC dn) (ae dn (ae (xB dn) (ae dn (ae dn (ae dk (bq (c:=av (af A) 0 != 10) (λeS=>(ae eS (ae eS (bq (c:=decide (N >= 1)) (λgB=>(ae gB (ae gB (ae gB (ae eS (bq (c:= !decide (N<=4)) (λrY=>q2) (λrY=>(ae h7 (ae h7 (ae h7 (ae h7 (ae (bd 13 14 dV) (ae (bd 13 14 dV) (ae (bd 13 14 dV) (ae (bd 13 14 dV) (ae h5 (ae h8 (ae bx (ae h6 (ae eI (ae h7 (ae bQ (ae (bd 13 11 dV) (ae dV (bq (c:=decide (m6 Ul (96*N)>2048)) (λvy=>tJ) (λvy=>q3)))))))))))))))))))))))))) (λgB=>(ae gB (ae gB (ae gB (ae eS q2))))))))) (λeS=>(ae eS (ae eS (ae eS q2))))))))))))) (λdn=>(ae dn (ae dn (ae dn (ae dn (ae dk q2)))))))))) (λdk=>(ae dk (ae dk (ae dk q2)))))) (λdV=>(ae (show(K==14)=true by simp at hA hB hK h0 h1 h2 h3 h4 h5 h6 h7 h8 h9 bx bQ bL bg cT eI dV⊢ <;>omega) (bq (c:=(↑(DD B):Int)==0) (λdk=>(ae dk (ae dk (bq (c:=(↑(DD A):Int)==1) (λdn=>(ae dn (ae (xC dn) (ae dn (ae (xB dn) (ae dn (ae dn (ae dk (bq (c:=av (af A) 0 != 10) (λeS=>(ae eS (ae eS (ae eS (bq (c:= !decide (N >= 1)) (λgB=>q2) (λgB=>(ae h7 (ae h7 (ae h7 (ae h7 (ae (show(K==14)=true by simp at hA hB hK h0 h1 h2 h3 h4 h5 h6 h7 h8 h9 bx bQ bL bg cT eI dV dk dn eS gB⊢ <;>omega) (ae (show(K==14)=true by simp at hA hB hK h0 h1 h2 h3 h4 h5 h6 h7 h8 h9 bx bQ bL bg cT eI dV dk dn eS gB⊢ <;>omega) (ae (show(K==14)=true by simp at hA hB hK h0 h1 h2 h3 h4 h5 h6 h7 h8 h9 bx bQ bL bg cT eI dV dk dn eS gB⊢ <;>omega) (ae (show(K==14)=true by simp at hA hB hK h0 h1 h2 h3 h4 h5 h6 h7 h8 h9 bx bQ bL bg cT eI dV dk dn eS gB⊢ <;>omega) (bq (c:=decide (N>100)) (λrY=>tJ) (λrY=>(ae h5 (ae h8 (ae bx (ae h6 (ae eI (ae h7 (ae bQ (ae (show(K==11)=false by exact(decide_eq_false (by omega))) (ae dV (ae (show(K==14)=true by simp at hA hB hK h0 h1 h2 h3 h4 h5 h6 h7 h8 h9 bx bQ bL bg cT eI dV dk dn eS gB rY⊢ <;>omega) (bq (c:=decide (m6 Ul (2*m6 Ul (m6 Ul (64*N)+96))>2048)) (λvy=>tJ) (λvy=>q3)))))))))))))))))))))))))))) (λeS=>(ae eS (ae eS (ae eS q2))))))))))))) (λdn=>(ae dn (ae dn (ae dn (ae dn (ae dk q2)))))))))) (λdk=>(ae dk (ae dk (ae dk q2)))))))))))))))))))))))))))))))))))))))) (λh2=>(ae h2 (ae h2 (ae h2 (ae h2 (bq (c:=K==1) (λh3=>(ae h3 q2)) (λh3=>(bq (c:=K==2) (λh4=>q2) (λh4=>(bq (c:=K==3) (λh5=>(ae h5 q2)) (λh5=>(bq (c:=K==10) (λh6=>q2) (λh6=>(bq (c:=K==4) (λh7=>q2) (λh7=>(bq (c:=K==5) (λh8=>(bq (c:=(↑(DD B):Int)==0) (λh9=>(ae h9 (ae h9 (bq (c:=decide (N >= 0)) (λbx=>(ae bx (ae bx (ae bx (ae h9 (bq (c:=decide (N<=1)) (λbQ=>(ae bQ (ae bQ (ae bQ (bq (c:=decide ((↑(DD A):Int) >= 1)) (λbL=>(ae bL (ae bL (ae bL (ae bQ (bq (c:=decide ((↑(DD A):Int)<=16)) (λbg=>(ae bg (ae bg (ae (show(DC (af A) ag)=true by exact aE _) (ae (show(nt (af A) (DD A=DD A/\5=5/\nG (af A)=DD A/\DD A<=10000))=true by exact DQ ⟨rfl,rfl,mC _,by omega⟩) (ae bg (ae bg (bq (c:= !!tg (eG (af A)) 10) (λcT=>q2) (λcT=>(ae h7 (ae h7 (ae h7 (ae h7 (ae (bd 5 14 h8) (ae (bd 5 14 h8) (ae (bd 5 14 h8) (ae (bd 5 14 h8) (ae h5 (ae h8 (ae h8 q3)))))))))))))))))))) (λbg=>(ae bg (ae bg (ae bg (ae bg q2))))))))))) (λbL=>(ae bL (ae bL (ae bL (ae bQ q2)))))))))) (λbQ=>(ae bQ (ae bQ (ae bQ (ae bQ q2))))))))))) (λbx=>(ae bx (ae bx (ae bx (ae h9 q2))))))))) (λh9=>(ae h9 (ae h9 (ae h9 q2)))))) (λh8=>(bq (c:=K==6) (λh9=>(bq (c:=N==0) (λbx=>(ae bx (ae bx (ae bx (bq (c:=decide ((↑(DD A):Int) >= 1)) (λbQ=>(ae bQ (ae bQ (ae bQ (ae bx (bq (c:=decide ((↑(DD A):Int)<=64)) (λbL=>(ae bL (ae bL (ae (show(DC (af A) ag)=true by exact aE _) (ae (show(nt (af A) (DD A=DD A/\5=5/\nG (af A)=DD A/\DD A<=10000))=true by exact DQ ⟨rfl,rfl,mC _,by omega⟩) (ae bL (bq (c:=tf (eG (af A))) (λbg=>(ae bg (ae bg (ae bg (ae bg (ae bg (ae bg (ae bg (bq (c:= !decide ((↑(DD B):Int)<=(↑(DD A):Int))) (λcT=>q2) (λcT=>(ae h7 (ae h7 (ae h7 (ae h7 (ae (bd 6 14 h9) (ae (bd 6 14 h9) (ae (bd 6 14 h9) (ae (bd 6 14 h9) (ae h5 (ae h8 (ae (bd 6 7 h9) (ae h6 (ae (bd 6 16 h9) (ae h7 (ae (bd 6 8 h9) (ae (bd 6 11 h9) (ae (bd 6 13 h9) (ae (bd 6 14 h9) q3)))))))))))))))))))))))))))) (λbg=>(ae bg (ae bg (ae bg (ae bg (ae bg (ae bg (ae bg q2))))))))))))))) (λbL=>(ae bL (ae bL (ae bL q2)))))))))) (λbQ=>(ae bQ (ae bQ (ae bQ (ae bx q2)))))))))) (λbx=>(ae bx (ae bx (ae bx (ae bx q2))))))) (λh9=>(bq (c:=K==7) (λbx=>(bq (c:=(↑(DD B):Int)==0) (λbQ=>(ae bQ (ae bQ (bq (c:=(↑(DD A):Int)==1) (λbL=>(ae bL (ae (xC bL) (ae bL (ae (xB bL) (ae bL (ae bL (ae bQ (bq (c:=av (af A) 0 != 10) (λbg=>(ae bg (ae bg (bq (c:=decide (N >= 1)) (λcT=>(ae cT (ae cT (ae cT (ae bg (bq (c:= !decide (N<=65535)) (λeI=>q2) (λeI=>(ae h7 (ae h7 (ae h7 (ae h7 (ae (bd 7 14 bx) (ae (bd 7 14 bx) (ae (bd 7 14 bx) (ae (bd 7 14 bx) (ae h5 (ae h8 (ae bx (ae bx q3))))))))))))))))))) (λcT=>(ae cT (ae cT (ae cT (ae bg q2))))))))) (λbg=>(ae bg (ae bg (ae bg q2))))))))))))) (λbL=>(ae bL (ae bL (ae bL (ae bL (ae bQ q2)))))))))) (λbQ=>(ae bQ (ae bQ (ae bQ q2)))))) (λbx=>(bq (c:=K==8) (λbQ=>(ae bQ q2)) (λbQ=>(ae (show(K==11)=false by exact(decide_eq_false (by omega))) (bq (c:=K==9) (λbL=>q2) (λbL=>(bq (c:=K==12) (λbg=>(ae bg q2)) (λbg=>(bq (c:=K==15) (λcT=>(ae cT q2)) (λcT=>(bq (c:=K==16) (λeI=>q2) (λeI=>(bq (c:=K==13) (λdV=>(bq (c:=(↑(DD B):Int)==0) (λdk=>(ae dk (ae dk (bq (c:=(↑(DD A):Int)==1) (λdn=>(ae dn (ae (xC dn) (ae dn (ae (xB dn) (ae dn (ae dn (ae dk (bq (c:=av (af A) 0 != 10) (λeS=>(ae eS (ae eS (bq (c:=decide (N >= 1)) (λgB=>(ae gB (ae gB (ae gB (ae eS (bq (c:= !decide (N<=4)) (λrY=>q2) (λrY=>(ae h7 (ae h7 (ae h7 (ae h7 (ae (bd 13 14 dV) (ae (bd 13 14 dV) (ae (bd 13 14 dV) (ae (bd 13 14 dV) (ae h5 (ae h8 (ae bx (ae h6 (ae eI (ae h7 (ae bQ (ae (bd 13 11 dV) (ae dV (bq (c:=decide (m6 Ul (96*N)>2048)) (λvy=>tJ) (λvy=>q3)))))))))))))))))))))))))) (λgB=>(ae gB (ae gB (ae gB (ae eS q2))))))))) (λeS=>(ae eS (ae eS (ae eS q2))))))))))))) (λdn=>(ae dn (ae dn (ae dn (ae dn (ae dk q2)))))))))) (λdk=>(ae dk (ae dk (ae dk q2)))))) (λdV=>(ae (show(K==14)=true by simp at hA hB hK h0 h1 h2 h3 h4 h5 h6 h7 h8 h9 bx bQ bL bg cT eI dV⊢ <;>omega) (bq (c:=(↑(DD B):Int)==0) (λdk=>(ae dk (ae dk (bq (c:=(↑(DD A):Int)==1) (λdn=>(ae dn (ae (xC dn) (ae dn (ae (xB dn) (ae dn (ae dn (ae dk (bq (c:=av (af A) 0 != 10) (λeS=>(ae eS (ae eS (ae eS (bq (c:= !decide (N >= 1)) (λgB=>q2) (λgB=>(ae h7 (ae h7 (ae h7 (ae h7 (ae (show(K==14)=true by simp at hA hB hK h0 h1 h2 h3 h4 h5 h6 h7 h8 h9 bx bQ bL bg cT eI dV dk dn eS gB⊢ <;>omega) (ae (show(K==14)=true by simp at hA hB hK h0 h1 h2 h3 h4 h5 h6 h7 h8 h9 bx bQ bL bg cT eI dV dk dn eS gB⊢ <;>omega) (ae (show(K==14)=true by simp at hA hB hK h0 h1 h2 h3 h4 h5 h6 h7 h8 h9 bx bQ bL bg cT eI dV dk dn eS gB⊢ <;>omega) (ae (show(K==14)=true by simp at hA hB hK h0 h1 h2 h3 h4 h5 h6 h7 h8 h9 bx bQ bL bg cT eI dV dk dn eS gB⊢ <;>omega) (bq (c:=decide (N>100)) (λrY=>tJ) (λrY=>(ae h5 (ae h8 (ae bx (ae h6 (ae eI (ae h7 (ae bQ (ae (show(K==11)=false by exact(decide_eq_false (by omega))) (ae dV (ae (show(K==14)=true by simp at hA hB hK h0 h1 h2 h3 h4 h5 h6 h7 h8 h9 bx bQ bL bg cT eI dV dk dn eS gB rY⊢ <;>omega) (bq (c:=decide (m6 Ul (2*m6 Ul (m6 Ul (64*N)+96))>2048)) (λvy=>tJ) (λvy=>q3)))))))))))))))))))))))))))) (λeS=>(ae eS (ae eS (ae eS q2))))))))))))) (λdn=>(ae dn (ae dn (ae dn (ae dn (ae dk q2)))))))))) (λdk=>(ae dk (ae dk (ae dk q2))))))))))))))))))))))))))))))))))))))))))))))))
abbrev xE:=λ(N:Int) A B=>(⟨[(2,aa 11)],tI A B⟩:ai)
theorem anS(N:Int)(A B){Q:bu}(hq:Q (.ret (aa 11)) (xE N A B).objs):aG arX 31 17 2 Q .ret (xE N A B):=aG.ret (vs:=[aa 11]) (l:=[]) (bs:=[0,1]) (pl:=[0,1]) (q:=[af A,af B]) (λu=>by kernel_rfl) (by kernel_rfl) (aD (aE A) (aD (aE B) be)) hq
abbrev KZ:=λ(N:Int) A B=>(⟨[(2,aa 0)],tI A B⟩:ai)
theorem anT(N:Int)(A B){Q:bu}(hq:Q (.ret (aa 0)) (KZ N A B).objs):aG arX 31 17 2 Q .ret (KZ N A B):=aG.ret (vs:=[aa 0]) (l:=[]) (bs:=[0,1]) (pl:=[0,1]) (q:=[af A,af B]) (λu=>by kernel_rfl) (by kernel_rfl) (aD (aE A) (aD (aE B) be)) hq
theorem U7(N:Int)(A B:ByteArray)(hA:A.size<=1000)(hB:B.size<=1000){Q:aU}(l2:((↑(DD A):Int)==0)->((↑(DD B):Int)==0)->(decide (N >= 0))->(!decide (N<=1))->Q .ret (xE N A B))(l3:((↑(DD A):Int)==0)->((↑(DD B):Int)==0)->(decide (N >= 0))->(!decide (N<=1))=false->Q .ret (KZ N A B))(l4:((↑(DD A):Int)==0)->((↑(DD B):Int)==0)->(decide (N >= 0))=false->Q .ret (xE N A B))(l5:((↑(DD A):Int)==0)->((↑(DD B):Int)==0)=false->Q .ret (xE N A B))(l6:((↑(DD A):Int)==0)=false->Q .ret (xE N A B)):ao arX 17 2 xD ⟨[(0,.agg #[aa 11,aa N,aq 0 A.size,aq 1 B.size])],[.cells (af A) 5 true,.cells (af B) 5 true]⟩ Q:=
 aV U2 1000 (.fork 11 (aB [1,3,3,1] (.fork 11 (aB [1,3] (.fork 1 (aB [1,1,1,1] (.fork 0 (.leaf [2] [0,1] [0,1]) (.leaf [2] [0,1] [0,1]))) (aB [0,0,0,1] (.leaf [2] [0,1] [0,1])))) (aB [0,0,0] (.leaf [2] [0,1] [0,1])))) (aB [0,0,0,0] (.leaf [2] [0,1] [0,1]))) (λu=>by kernel_rfl) (Tree.dE (c:=(↑(DD A):Int)==0) (λh0=>(Tree.aQ h0 (Tree.aQ h0 (Tree.aQ h0 (Tree.aQ h0 (Tree.dE (c:=(↑(DD B):Int)==0) (λh1=>(Tree.aQ h1 (Tree.aQ h1 (Tree.dE (c:=decide (N >= 0)) (λh2=>(Tree.aQ h2 (Tree.aQ h2 (Tree.aQ h2 (Tree.aQ h1 (Tree.dE (c:= !decide (N<=1)) (λh3=>(Tree.aQ (aE A) (Tree.aQ (aE B) (Tree.dN (l2 h0 h1 h2 h3))))) (λh3=>(Tree.aQ (aE A) (Tree.aQ (aE B) (Tree.dN (l3 h0 h1 h2 h3))))))))))) (λh2=>(Tree.aQ h2 (Tree.aQ h2 (Tree.aQ h2 (Tree.aQ h1 (Tree.aQ (aE A) (Tree.aQ (aE B) (Tree.dN (l4 h0 h1 h2))))))))))))) (λh1=>(Tree.aQ h1 (Tree.aQ h1 (Tree.aQ h1 (Tree.aQ (aE A) (Tree.aQ (aE B) (Tree.dN (l5 h0 h1)))))))))))))) (λh0=>(Tree.aQ h0 (Tree.aQ h0 (Tree.aQ h0 (Tree.aQ h0 (Tree.aQ (aE A) (Tree.aQ (aE B) (Tree.dN (l6 h0))))))))))
abbrev DR:=λ(N:Int) A B=>(⟨[(2,aa 11)],tI A B⟩:ai)
abbrev K0:=λ(N:Int) A B=>(⟨[(2,aa 0)],tI A B⟩:ai)
theorem anU(N:Int)(A B){Q:bu}(hq:Q (.ret (aa 0)) (K0 N A B).objs):aG arX 59 11 2 Q .ret (K0 N A B):=aG.ret (vs:=[aa 0]) (l:=[]) (bs:=[0,1]) (pl:=[0,1]) (q:=[af A,af B]) (λu=>by kernel_rfl) (by kernel_rfl) (aD (aE A) (aD (aE B) be)) hq
theorem anV(N:Int)(A B:ByteArray)(hA:A.size<=1000)(hB:B.size<=1000){Q:aU}(l2:(decide (N<0))->Q .ret (DR N A B))(l3:(decide (N<0))=false->(decide (N>1))->Q .ret (DR N A B))(l4:(decide (N<0))=false->(decide (N>1))=false->((↑(DD A):Int)==0)->(!(↑(DD B):Int)==0)->Q .ret (DR N A B))(l5:(decide (N<0))=false->(decide (N>1))=false->((↑(DD A):Int)==0)->(!(↑(DD B):Int)==0)=false->Q .ret (K0 N A B))(l6:(decide (N<0))=false->(decide (N>1))=false->((↑(DD A):Int)==0)=false->Q .ret (DR N A B)):ao arX 11 2 anM ⟨[(0,.agg #[aa 11,aa N,aq 0 A.size,aq 1 B.size])],[.cells (af A) 5 true,.cells (af B) 5 true]⟩ Q:=
 aV anL 1000 (.fork 15 (aB [1,1,1,1,1] (.leaf [2] [0,1] [0,1])) (aB [0,2,0,2,0] (.fork 0 (aB [1,1,1,1] (.leaf [2] [0,1] [0,1])) (aB [2,2] (.fork 7 (aB [1,3,3,1,0,0] (.fork 0 (.leaf [2] [0,1] [0,1]) (.leaf [2] [0,1] [0,1]))) (aB [0,0,0,0,0,0] (.leaf [2] [0,1] [0,1]))))))) (λu=>by kernel_rfl) (Tree.dE (c:=decide (N<0)) (λh0=>(Tree.aQ h0 (Tree.aQ h0 (Tree.aQ h0 (Tree.aQ h0 (Tree.aQ h0 (Tree.aQ (aE A) (Tree.aQ (aE B) (Tree.dN (l2 h0)))))))))) (λh0=>(Tree.aQ h0 (Tree.aQ h0 (Tree.aQ h0 (Tree.aQ h0 (Tree.aQ h0 (Tree.dE (c:=decide (N>1)) (λh1=>(Tree.aQ h1 (Tree.aQ h1 (Tree.aQ h1 (Tree.aQ h1 (Tree.aQ (aE A) (Tree.aQ (aE B) (Tree.dN (l3 h0 h1))))))))) (λh1=>(Tree.aQ h1 (Tree.aQ h1 (Tree.dE (c:=(↑(DD A):Int)==0) (λh2=>(Tree.aQ h2 (Tree.aQ h2 (Tree.aQ h2 (Tree.aQ h2 (Tree.aQ h1 (Tree.aQ h1 (Tree.dE (c:= !(↑(DD B):Int)==0) (λh3=>(Tree.aQ (aE A) (Tree.aQ (aE B) (Tree.dN (l4 h0 h1 h2 h3))))) (λh3=>(Tree.aQ (aE A) (Tree.aQ (aE B) (Tree.dN (l5 h0 h1 h2 h3))))))))))))) (λh2=>(Tree.aQ h2 (Tree.aQ h2 (Tree.aQ h2 (Tree.aQ h2 (Tree.aQ h1 (Tree.aQ h1 (Tree.aQ (aE A) (Tree.aQ (aE B) (Tree.dN (l6 h0 h1 h2)))))))))))))))))))))))
end
end Go.Proofs.YtnlkkgpcikkpoaaGreat
namespace Go.Proofs.YtnlkkgpcikkpoaaGreat
open Go Vm Go.RowKit
abbrev DU(K N:Int)(A B:ByteArray):List Dy:=[.agg #[.int .i64 K,.int .i64 N,.slice (some ⟨0,0,none⟩) A.size A.size,.slice (some ⟨1,0,none⟩) B.size B.size]]
abbrev tK(A B:ByteArray):List ak:=[.cells (af A) 5 true,.cells (af B) 5 true]
theorem anW(N:Int)(A B:ByteArray)(hA:A.size<=1000)(hB:B.size<=1000):
 ∃e,aF fK 31 (DU 11 N A B) (tK A B) (λr o=>r=.ret (.int .i64 e)/\o=tK A B)/\(e=0->A.size=0/\B.size=0/\0<=N/\N<=1):=by
 by_cases h:A.size=0/\B.size=0/\0<=N/\N<=1
 ·refine⟨0,?_,λ_=>h⟩
  obtain⟨h1,h2,h3,h4⟩:=h
  refine aF.dv (n:=cp fK 31) (by kernel_rfl) ?_
  apply U7 N A B hA hB
  case l2=>intro _ _ _ g;have g:¬N<=1:=by simpa using g
           exact absurd h4 g
  case l3=>intros;exact anT N A B ⟨rfl,rfl⟩
  case l4=>intro _ _ g;have g:=of_decide_eq_false g;exact absurd h3 g
  case l5=>intro _ g;rw[h2]at g;cases g
  case l6=>intro g;rw[h1]at g;cases g
 ·refine⟨11,?_,λh=>by cases h⟩
  refine aF.dv (n:=cp fK 31) (by kernel_rfl) ?_
  apply U7 N A B hA hB
  case l3=>
   intro g1 g2 g3 g4
   have g1:(A.size:Int)=0:=by simpa using g1
   have g2:(B.size:Int)=0:=by simpa using g2
   have g3:=of_decide_eq_true g3
   have g4:N<=1:=by simpa using g4
   exact absurd ⟨by omega,by omega,by omega,g4⟩ h
  all_goals intros;exact anS N A B ⟨rfl,rfl⟩
theorem anX(K N:Int)(A B:ByteArray)(hA:A.size<=1000)(hB:B.size<=1000):
 ∃e,aF fK 31 (DU K N A B) (tK A B) (λr o=>r=.ret (.int .i64 e)/\o=tK A B)/\(e=0->K=11->A.size=0/\B.size=0/\0<=N/\N<=1):=by
 by_cases hK:K=11
 ·subst hK
  obtain⟨e,h1,h2⟩:=anW N A B hA hB
  exact⟨e,h1,λh _=>h2 h⟩
 ·obtain⟨e,he⟩:=anR K N A B hA hB hK
  exact⟨e,aF.dv (n:=cp fK 31) (by kernel_rfl) he,λ_ h=>absurd h hK⟩
theorem anY(N:Int)(A B:ByteArray)(hA:A.size<=1000)(hB:B.size<=1000)(h1:A.size=0)(h2:B.size=0)(h3:0<=N)(h4:N<=1):
 aF fK 59 (DU 11 N A B) (tK A B) (λr o=>r=.ret (.int .i64 0)/\o=tK A B):=by
 refine aF.dv (n:=cp fK 59) (by kernel_rfl) ?_
 apply anV N A B hA hB
 case l2=>intro g;have g:=of_decide_eq_true g;omega
 case l3=>intro _ g;have g:=of_decide_eq_true g;omega
 case l4=>intro _ _ _ g;rw[h2]at g;cases g
 case l5=>intros;exact anU N A B ⟨rfl,rfl⟩
 case l6=>intro _ _ g;rw[h1]at g;cases g
noncomputable section
def anZ:List ar3:=a7 (dI fK 10)
abbrev K1:ai:=⟨[(0,.bool true)],[]⟩
theorem an0{Q:bu}(hq:Q (.ret (.bool true)) (K1).objs):aG arX 10 45 0 Q .ret (K1):=aG.ret (vs:=[.bool true]) (l:=[]) (bs:=[]) (pl:=[]) (q:=[]) (λu=>by kernel_rfl) (by kernel_rfl) be hq
theorem aw{Q:aU}(l0:Q .ret (K1)):ao arX 45 0 anZ ⟨[],[]⟩ Q:=
 ao.tree dC mixed (Zx 1000) (lf:=1000) (m:=1000) (s:=(.leaf [0] [] [])) (λu=>by kernel_rfl) (Tree.dN (l0))
end
noncomputable section
def DV:List ar3:=a7 (dI fK 32)
open Tree renaming aQ->mN,dE->mF,fj->mL,fY->mQ,dN->mR,gH->mE
abbrev U8:List ar3:=(DV.drop 2)
abbrev U9(sc:List (Int×Int))(ro:Bool):ai:=⟨[(2,aq 1 (0+nG sc))],[.cells (aI sc) 77 ro,ab ([]++arP (nG sc*2) (aI sc)) 77]⟩
theorem an1(sc:List (Int×Int))(ro:Bool){Q:bu}(aY:DC (aI sc) ag)(hq:Q (.ret (aq 1 (0+nG sc))) [.cells (aI sc) 77 ro,ab ([]++arP (nG sc*2) (aI sc)) 77]):aG fK 32 8 1 Q .ret (U9 sc ro):=aG.ret (vs:=[aq 1 (0+nG sc)]) (l:=[]) (bs:=[0,1]) (pl:=[0,1]) (q:=[aI sc,[]++arP (nG sc*2) (aI sc)]) (λu=>by kernel_rfl) (by kernel_rfl) (aD aY (aD (by exact fO rfl (nq (by assumption) _)) be)) hq
theorem an2(sc:List (Int×Int))(ro:Bool)(h1:0<(nG sc))(h2:(nG sc)<=100000)(h3:(aI sc).length=(nG sc)*2){Q:aU}(n0:(DC (arP (nG sc*2) (aI sc)) Value.oneCell'))(aY:DC (aI sc) ag)(l2:Q .ret (U9 sc ro)):ao fK 8 1 DV ⟨[(0,aq 0 (nG sc))],[.cells (aI sc) 77 ro]⟩ Q:=
 aV bp 1000 (aB [0,1,2,1,1,1,1] (.leaf [2] [0,2] [0,2])) (λu=>by kernel_rfl) (mN (show(arF 0 (nG sc))=true by simp at h1 h2 h3⊢ <;>omega) (mN (show(arM (0+nG sc*2) (nG (aI sc)))=true by simp at h1 h2 h3⊢ <;>omega) (mN (show(arM (0+nG sc) 1000000)=true by simp at h1 h2 h3⊢ <;>omega) (mN n0 (mN (show(arE (nG (arP (nG sc*2) (aI sc))) (nG sc*2))=true by simp at h1 h2 h3⊢ <;>omega) (mN (bt sc) (mN (show(DC ([]++arP (nG sc*2) (aI sc)) ag)=true by exact fO rfl (nq (by assumption) _)) (mR l2))))))))
abbrev xF(ro:Bool):List ak:=[.cells [] 77 ro]
abbrev an3(x ro:Bool):ai:=⟨[(0,aq 0 0)],xF ro⟩
abbrev an4(x ro:Bool):ai:=⟨[(0,aq 0 0)],xF ro⟩
theorem an5(x ro:Bool){Q:aU}(l0:ao fK 8 1 (DV.drop 1) (an3 x ro) Q):ao fK 8 1 DV (an4 x ro) Q:=
 aV bp 1 (.leaf [0] [0] []) (λu=>by kernel_rfl) (mQ l0)
abbrev Va(ro:Bool):ai:=⟨[(2,ci)],xF ro⟩
theorem an6(ro:Bool){Q:bu}(hq:Q (.ret (ci)) (xF ro)):aG fK 32 8 1 Q .ret (Va ro):=aG.ret (vs:=[ci]) (l:=[]) (bs:=[0]) (pl:=[]) (q:=[]) (λu=>by kernel_rfl) (by kernel_rfl) be hq
abbrev an7(ro:Bool):ai:=⟨[(0,aq 0 0),(4,.bool true)],xF ro⟩
theorem an8(ro:Bool){Q:aU}(l0:Q .ret (Va ro)):ao fK 8 1 U8 (an7 ro) Q:=
 aV bp 1000 (.leaf [2] [0] []) (λu=>by kernel_rfl) (mR l0)
abbrev Vb(ro:Bool):ai:=⟨[(2,aq 1 0)],[.cells [] 77 ro,ab [] 77]⟩
theorem an9(ro:Bool){Q:bu}(hq:Q (.ret (aq 1 0)) [.cells [] 77 ro,ab [] 77]):aG fK 32 8 1 Q .ret (Vb ro):=aG.ret (vs:=[aq 1 0]) (l:=[]) (bs:=[0,1]) (pl:=[]) (q:=[]) (λu=>by kernel_rfl) (by kernel_rfl) be hq
abbrev aoa(ro:Bool):ai:=⟨[(0,aq 0 0),(4,.bool false)],xF ro⟩
theorem aob(ro:Bool){Q:aU}(l0:Q .ret (Vb ro)):ao fK 8 1 U8 (aoa ro) Q:=
 aV bp 1000 (.leaf [2] [0,2] []) (λu=>by kernel_rfl) (mR l0)
end
end Go.Proofs.YtnlkkgpcikkpoaaGreat
