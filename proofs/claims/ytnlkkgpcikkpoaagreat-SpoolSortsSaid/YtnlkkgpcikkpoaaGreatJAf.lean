/- Part of the proof: Dkb, Dkj, Srp, Soa, Srt, Sru, Sod, Srv, Sob, Srw, Soc, Srx, Soe, Sry, Sof, Srz, Sog, Sr1, Soh, Sr2, Sr3, Sop, Sr6, Sr4, Sou, Sos, Sr5, Sr7, Spr, Sps, Spc, Spt, Dkp, Dkg, Dkc, Dkd, Dke. -/
import Derived.Test.YtnlkkgpcikkpoaaGreatJAe
import Derived.Sort.Defs
import Derived.KernelRfl
import Derived.Sort.LotC
import Derived.Sort.LotA
import Derived.Sort.LotD5
import Derived.Sort.LotD4
import Derived.Sort.LotD3
import Derived.Sort.AssemblyPlain
import Derived.Sort.Walk13a
import Derived.WalkKit
open BitVec renaming ofInt->asz,toNat->atj
open Classical renaming propDecidable->arT
open Go renaming Code->ar3,FuncId->arY,MapEntry->arW,Value->Dy
open Go.Addr renaming mk->au9
open Go.Fn renaming func->avX
open Go.Instr renaming lookup->atK
open Go.IntKind renaming i64->Ul,u64->ar9,u8->Um,wrap->m6
open Go.MapEntry renaming mk->asQ
open Go.Proofs.Tryz renaming prog->arX,prog->fK
open Go.Result renaming andThen_ok->Dz
open Go.Sem renaming run_bind->DA,run_pure->asa
open Go.Sort renaming bitsLen->asR,heapBuild->axI,heapPop->axZ,insInner->axO,partEqLoop->axy,partLoop->axQ,pdq->ayx,siftDown->axP
open Go.Value renaming func->auL,int->KJ,map->atQ,oneCell'->asr,pointer->asy
open Int renaming fdiv->asJ,le_refl->awE,toNat->m5
open List renaming all->DC,all_eq_true->ar1,append_nil->asg,drop->as3,findIdx?_eq_none_iff->awd,findIdx?_eq_some_iff_getElem->avi,getElem?_eq_getElem->KH,length->nG,length_cons->ar4,map->arV,map_append->asm,map_cons->asn,mem_append->arL,mem_append_left->asi,mem_append_right->asc,mem_cons->arD,mem_cons_of_mem->arG,mem_cons_self->arH,mem_of_getElem?->ar7,nodup_append->aso,nodup_cons->asG,not_mem_nil->ase,take->arP
open Nat renaming ble->arM,blt->arF,lt_trans->ax0,mul_one->atV,zero_le->asb
open Option.some renaming injEq->DE
open Prod.mk renaming injEq->KN
set_option linter.unusedVariables false
set_option linter.unusedSimpArgs false
set_option maxRecDepth 100000
namespace Go.Proofs.YtnlkkgpcikkpoaaGreat
open Go Vm Go.RowKit
def cI(sc:List (Int×Int))(c:Int):Int:=match sc.findIdx? (λx=>x.1==c)with
 |some i=>i
 |none=> -1
theorem ZV{sc:List (Int×Int)}{c:Int}{j:Nat}(hj:j<sc.length)(h1:∀i,i<j->∀x,sc[i]?=some x->(x.1==c)=false)(h2:(sc[j].1==c)=true):cI sc c=j:=by
 unfold cI
 have:sc.findIdx? (λx=>x.1==c)=some j:=by
  rw[avi]
  exact⟨hj,h2,λi hi=>by rw[h1 i hi _ (KH (by omega))];simp⟩
 rw[this]
theorem Oq{sc:List (Int×Int)}{c:Int}(h1:∀i,i<sc.length->∀x,sc[i]?=some x->(x.1==c)=false):cI sc c= -1:=by
 unfold cI
 have:sc.findIdx? (λx=>x.1==c)=none:=by
  rw[awd]
  intro x hx
  obtain⟨i,hi,rfl⟩:=List.getElem_of_mem hx
  exact h1 i hi _ (KH hi)
 rw[this]
theorem Ot(sc:List (Int×Int)):(aI sc).length=2*sc.length:=by
 unfold aI
 induction sc with
 |nil=>rfl
 |cons x l ih=>rw[asn,List.flatten_cons,List.length_append,ih,ar4,ar4,ar4,List.length_nil];omega
theorem Ou(x:Int×Int)(l:List (Int×Int)):aI (x::l)=.int .i64 x.1:: .int .i64 x.2::aI l:=rfl
theorem Ov:∀(sc:List (Int×Int)) (i:Nat) (h:i<sc.length),(aI sc)[2*i]?=some (.int .i64 sc[i].1)/\(aI sc)[2*i+1]?=some (.int .i64 sc[i].2)
 | [],i,h=>by cases h
 |x::l,0,h=>⟨rfl,rfl⟩
 |x::l,i+1,h=>by
  obtain⟨a,b⟩:=Ov l i (by simpa using h)
  rw[Ou,show 2*(i+1)=2*i+1+1 by omega]
  exact⟨by simpa using a,by simpa using b⟩
theorem bt(sc:List (Int×Int)):(aI sc).all ag=true:=by
 induction sc with
 |nil=>rfl
 |cons x l ih=>rw[Ou];simpa[ag]using ih
theorem pC{sc:List (Int×Int)}{j:Int}(h0:0<=j)(h:j<sc.length):cP Ul (aI sc) (0+m5 j*2)=true/\cP Ul (aI sc) (0+m5 j*2+1)=true/\
 av (aI sc) (0+m5 j*2)=(sc[j.toNat]'(by omega)).1/\av (aI sc) (0+m5 j*2+1)=(sc[j.toNat]'(by omega)).2/\arM (0+m5 j*2+2) (nG (aI sc))=true:=by
 obtain⟨a,b⟩:=Ov sc j.toNat (by omega)
 rw[show 2*j.toNat=0+j.toNat*2 by omega]at a b
 refine⟨?_,?_,?_,?_,Nat.ble_eq_true_of_le (by rw[Ot];omega)⟩
 ·unfold cP;rw[a];rfl
 ·unfold cP;rw[b];rfl
 ·unfold av;rw[a]
 ·unfold av;rw[b]
structure uP(sc:List (Int×Int))(c j:Int):Prop where
 a:0<=j
 b:j<=sc.length
 c:∀i,i<j.toNat->∀x,sc[i]?=some x->(x.1==c)=false
theorem uP.next{sc:List (Int×Int)}{c j:Int}(h:uP sc c j)(hlt:j<sc.length)(hd:(av (aI sc) (0+m5 j*2)==c)=false):uP sc c (j+1):=
 ⟨by have:=h.a;omega,by omega,λi hi x hx=>by
  have ha:=h.a
  by_cases iX:i<j.toNat
  ·exact h.c i iX x hx
  ·have e:i=j.toNat:=by omega
   subst e
   rw[(pC ha hlt).2.2.1]at hd
   rw[KH (by omega)]at hx
   cases hx
   exact hd⟩
theorem uP.found{sc:List (Int×Int)}{c j:Int}(h:uP sc c j)(hlt:j<sc.length)(hd:(av (aI sc) (0+m5 j*2)==c)=true):cI sc c=j:=by
 have ha:=h.a
 rw[(pC ha hlt).2.2.1]at hd
 rw[ZV (j:=j.toNat) (by omega) h.c hd]
 omega
theorem Ow(sc:List (Int×Int))(c:Int):(cI sc c= -1/\sc.find? (λx=>x.1==c)=none)\/∃i,∃h:i<sc.length,cI sc c=(i:Int)/\sc.find? (λx=>x.1==c)=some sc[i]:=by
 unfold cI
 cases h:sc.findIdx? (λx=>x.1==c)with
 |none=>exact .inl ⟨rfl,by rw[List.find?_eq_none];rw[awd]at h;intro x hx;simpa using h x hx⟩
 |some i=>
  obtain⟨h1,h2,h3⟩:=avi.1 h
  refine .inr ⟨i,h1,rfl,?_⟩
  rw[List.find?_eq_some_iff_getElem]
  exact⟨h2,i,h1,rfl,λk hk=>by simpa using h3 k hk⟩
def BQ(e:arW):Bool:=ag e.key&&match e.val with
 | .pointer (some ⟨b,_,none⟩)=>arF b 6
 | .pointer (some ⟨_,_,some _⟩)=>true
 |_=>false
def cq(es:List arW):Bool:=es.all BQ
theorem cq.Ox{es:List arW}(h:cq es=true){τ:Nat->Option Nat}(hτ:∀y,y<6->τ y=some y):(es.map (eD τ)).all ag=true:=by
 rw[List.all_map,ar1]
 intro e he
 have h:=ar1.1 h e he
 unfold BQ at h
 rw[Bool.and_eq_true]at h
 have hk:rq τ e.key=true:=by
  have h1:=h.1
  unfold ag at h1
  split at h1<;>first|(rename_i ui;rw[ui];rfl)|cases h1
 have hv:rq τ e.val=true:=by
  have h2:=h.2
  split at h2
  ·rename_i b o hb
   rw[hb]
   unfold rq
   dsimp only
   rw[hτ b (ed.1 h2)]
   exact Nat.beq_refl b
  ·rename_i hb;rw[hb];rfl
  ·cases h2
 show ag (eD τ e)=true
 unfold eD
 rw[hk,hv]
 rfl
theorem ZW{k n:Nat}(hk:6<=k)(y:Nat)(hy:y<6)(l:List Nat):([0,1,2,3,4,5]++l)[y]?=some y:=by
 rw[List.getElem?_append_left (by simpa using hy)]
 have:y=0\/y=1\/y=2\/y=3\/y=4\/y=5:=by omega
 rcases this with rfl|rfl|rfl|rfl|rfl|rfl<;>rfl
theorem ZX(y:Nat)(hy:y<6)(l:List Nat):fh ([0,1,2,3,4,5]++l) y=some y:=by
 have:y=0\/y=1\/y=2\/y=3\/y=4\/y=5:=by omega
 rcases this with rfl|rfl|rfl|rfl|rfl|rfl<;>rfl
theorem cq.idx{es:List arW}(h:cq es=true)(l:List Nat):(bI ([0,1,2,3,4,5]++l) es).all ag=true:=cq.Ox h λy hy=>ZX y hy l
theorem cq.rI{es:List arW}(h:cq es=true)(l:List Nat):(es.map (eD λi=>([0,1,2,3,4,5]++l)[i]?)).all ag=true:=cq.Ox h λy hy=>ZW (k:=6) (n:=0) (Nat.le_refl _) y hy l
def eE:List Nat:=[0,1,2,3,4,5]
def kZ:List Nat:=[0,1,2,3,4,5,6]
def gv(sc:List (Int×Int))(x0:List Dy)(es:List arW)(ck nb:Nat)(f5:List Dy)(dm dc dr:Int):List ak:=[.cells [.slice (some ⟨2,0,none⟩) sc.length sc.length,.map (some 3),.int .i64 dm,.int .i64 (dc),.int .i64 (dr)] 80 false,.cells x0 5 false,.cells (aI sc) 77 false,.map es ck,.cells [.slice (some ⟨5,0,none⟩) nb nb] 173 false,.cells f5 5 false]
def ZY(sc:List (Int×Int))(x0:List Dy)(es:List arW)(ck nb:Nat)(f5:List Dy)(dm dc dr:Int)(j:Int):ai:=⟨[(0,.slice (some ⟨2,0,none⟩) sc.length sc.length),(1,.func (.func 96) #[] #[.pointer (some ⟨6,0,none⟩)]),(7,.int .i64 sc.length),(8,.int .i64 j)],gv sc x0 es ck nb f5 dm dc dr++[.cells [.pointer (some ⟨0,0,none⟩)] 35 false]⟩
theorem ZZ(sc:List (Int×Int))(x0:List Dy)(es:List arW)(ck nb:Nat)(f5:List Dy)(dm dc dr:Int)(hs:sc.length<=1000000)(h0:x0.all ag=true)(h3:(bI kZ es).all ag=true)(h5:f5.all ag=true):aF fK 95 [.slice (some ⟨2,0,none⟩) sc.length sc.length,.func (.func 96) #[] #[.pointer (some ⟨6,0,none⟩)]] (gv sc x0 es ck nb f5 dm dc dr++[.cells [.pointer (some ⟨0,0,none⟩)] 35 false])
 λr o=>r=.ret (.int .i64 (cI sc dc))/\o=gv sc x0 es ck nb f5 dm dc dr++[.cells [.pointer (some ⟨0,0,none⟩)] 35 false]:=by
 refine aF.dv (n:=cp fK 95) (by kernel_rfl) ?_
 have hp:=bt sc
 apply ZI sc x0 es ck nb f5 dm dc dr<;>try assumption
 intros
 refine ao.eX 2 0 (by kernel_rfl) ?_
 refine ao.gu (ZY sc x0 es ck nb f5 dm dc dr) (λj=>(sc.length-j).toNat) (uP sc dc) 0 (by kernel_rfl) ⟨awE 0,by omega,λi hi=>by simp at hi⟩ ?_
 intro j hj
 have ha:=hj.a
 apply ZL sc x0 es ck nb f5 dm dc dr j hj.a<;>try assumption
 case n0=>intro g;exact(pC ha (of_decide_eq_true g)).2.2.2.2
 case n1=>intro g;exact(pC ha (of_decide_eq_true g)).1
 case n2=>intro g;exact(pC ha (of_decide_eq_true g)).2.1
 case l7=>
  intro g g1
  have g:=of_decide_eq_true g
  with_reducible (repeat first|refine QL.ret ?_|refine QL.exit ?_|refine QB.ret ?_|refine QB.cw ?_|refine QB.normal ?_|refine QB.cJ (by rfl) ?_)
  exact ZJ sc x0 es ck nb f5 dm dc dr j h0 hp h3 h5 ⟨by rw[hj.found g g1],rfl⟩
 case l8=>
  intro g g1
  have g:=of_decide_eq_true g
  have hw:m6 Ul (j+1)=j+1:=nX (by omega) (by omega)
  exact QL.to (j+1) (hj.next g g1) (by omega) (by unfold Oj;rw[hw];rfl)
 case l9=>
  intro g
  have g:=of_decide_eq_false g
  with_reducible (repeat first|refine QL.ret ?_|refine QL.exit ?_|refine QB.ret ?_|refine QB.cw ?_|refine QB.normal ?_|refine QB.cJ (by rfl) ?_)
  refine ZN sc x0 es ck nb f5 dm dc dr ?_ ?_ ?_ ?_ ?_<;>try assumption
  intros
  exact ZM sc x0 es ck nb f5 dm dc dr h0 hp h3 h5 ⟨by rw[Oq λi hi=>hj.c i (by omega)],rfl⟩
def gd(sc:List (Int×Int))(x0:List Dy)(es:List arW)(ck nb:Nat)(f5:List Dy)(dm dc dr:Int):List ak:=[.cells [.slice (some ⟨2,0,none⟩) sc.length sc.length,.map (some 3),.int .i64 dm,.int .i64 (dc),.int .i64 (dr)] 80 false,.cells x0 5 false,.cells (aI sc) 77 false,.map es ck,.cells [] 173 false,.cells f5 5 false]
def Z0(sc:List (Int×Int))(x0:List Dy)(es:List arW)(ck nb:Nat)(f5:List Dy)(dm dc dr:Int)(j:Int):ai:=⟨[(0,.slice (some ⟨2,0,none⟩) sc.length sc.length),(1,.func (.func 96) #[] #[.pointer (some ⟨6,0,none⟩)]),(7,.int .i64 sc.length),(8,.int .i64 j)],gd sc x0 es ck nb f5 dm dc dr++[.cells [.pointer (some ⟨0,0,none⟩)] 35 false]⟩
theorem Z1(sc:List (Int×Int))(x0:List Dy)(es:List arW)(ck nb:Nat)(f5:List Dy)(dm dc dr:Int)(hs:sc.length<=1000000)(h0:x0.all ag=true)(h3:(bI kZ es).all ag=true)(h5:f5.all ag=true):aF fK 95 [.slice (some ⟨2,0,none⟩) sc.length sc.length,.func (.func 96) #[] #[.pointer (some ⟨6,0,none⟩)]] (gd sc x0 es ck nb f5 dm dc dr++[.cells [.pointer (some ⟨0,0,none⟩)] 35 false])
 λr o=>r=.ret (.int .i64 (cI sc dc))/\o=gd sc x0 es ck nb f5 dm dc dr++[.cells [.pointer (some ⟨0,0,none⟩)] 35 false]:=by
 refine aF.dv (n:=cp fK 95) (by kernel_rfl) ?_
 have hp:=bt sc
 apply ZP sc x0 es ck nb f5 dm dc dr<;>try assumption
 intros
 refine ao.eX 2 0 (by kernel_rfl) ?_
 refine ao.gu (Z0 sc x0 es ck nb f5 dm dc dr) (λj=>(sc.length-j).toNat) (uP sc dc) 0 (by kernel_rfl) ⟨awE 0,by omega,λi hi=>by simp at hi⟩ ?_
 intro j hj
 have ha:=hj.a
 apply ZS sc x0 es ck nb f5 dm dc dr j hj.a<;>try assumption
 case n0=>intro g;exact(pC ha (of_decide_eq_true g)).2.2.2.2
 case n1=>intro g;exact(pC ha (of_decide_eq_true g)).1
 case n2=>intro g;exact(pC ha (of_decide_eq_true g)).2.1
 case l7=>
  intro g g1
  have g:=of_decide_eq_true g
  with_reducible (repeat first|refine QL.ret ?_|refine QL.exit ?_|refine QB.ret ?_|refine QB.cw ?_|refine QB.normal ?_|refine QB.cJ (by rfl) ?_)
  exact ZQ sc x0 es ck nb f5 dm dc dr j h0 hp h3 h5 ⟨by rw[hj.found g g1],rfl⟩
 case l8=>
  intro g g1
  have g:=of_decide_eq_true g
  have hw:m6 Ul (j+1)=j+1:=nX (by omega) (by omega)
  exact QL.to (j+1) (hj.next g g1) (by omega) (by unfold On;rw[hw];rfl)
 case l9=>
  intro g
  have g:=of_decide_eq_false g
  with_reducible (repeat first|refine QL.ret ?_|refine QL.exit ?_|refine QB.ret ?_|refine QB.cw ?_|refine QB.normal ?_|refine QB.cJ (by rfl) ?_)
  refine ZU sc x0 es ck nb f5 dm dc dr ?_ ?_ ?_ ?_ ?_<;>try assumption
  intros
  exact ZT sc x0 es ck nb f5 dm dc dr h0 hp h3 h5 ⟨by rw[Oq λi hi=>hj.c i (by omega)],rfl⟩
end Go.Proofs.YtnlkkgpcikkpoaaGreat
namespace Go.Proofs.YtnlkkgpcikkpoaaGreat
open Go Vm Go.RowKit
set_option maxHeartbeats 1000000
structure Left(d:aA)(eR:List arW)(L2:List (Nat×CO))(o':List ak)(K:List Nat)(d':aA):Prop where
 it:∃A R C eA eM eC F eF LA LM LC,d.files=A++(R++C)/\eR=eA++(eM++eC)/\L2=LA++(LM++LC)/\fL A eA LA/\fL C eC LC/\d'.bG=d.bG/\d'.files=A++(F++C)/\
  o'[0]?=some (.cells [.slice (some ⟨2,0,none⟩) d.bG.length d.bG.length,.map (some 3),.int .i64 d'.made,.int .i64 d'.calls,.int .i64 d'.raw] 80 false)/\
  o'[3]?=some (.map (cf eA++(eF++cf eC)) d'.made)/\sZ o' K F eF
 row:o'[2]?=some (.cells (aI d.bG) 77 false)
 k2:K.contains 2=true
 k3:K.contains 3=true
 own:∀o∈o',o.ro=false
 bR:o'.length<=262144
theorem wO{c:List Dy}(h:c.all ag=true):c.all fl=true:=by
 rw[ar1]at h⊢
 intro v hv
 have:=h v hv
 unfold ag at this
 split at this<;>first|rfl|cases this
theorem BR{a b:Nat}{X Y:List Nat}(h:(a::b::(X++Y)).Nodup):a≠b/\a∉X/\a∉Y/\b∉X/\b∉Y/\∀x∈X,x∉Y:=by
 simp only[asG,arD,arL,not_or]at h
 obtain⟨⟨h1,h2,h3⟩,⟨h4,h5⟩,h6⟩:=h
 exact⟨h1,h2,h3,h4,h5,λx hx hy=>(aso.1 h6).2.2 x hx x hy rfl⟩
theorem pD(sc:List (Int×Int)):(aI sc).length=sc.length*2:=by rw[Ot,Nat.mul_comm]
theorem aF.BS{f:arY}{args:List Dy}{d:aA}{x0:List Dy}{Q:bD->List ak->Prop}(h:∀eR L2,fL d.files eR L2->aF fK f args (gd d.bG [] (cf eR) d.made 0 [] d.made d.calls d.raw) λv o'=>∃d' K,Left d eR L2 o' K d'/\Q v (closed d' K o')):aF fK f args (.abs d::[]) Q:=by
 refine aF.wG λw r S L hG jw hL=>?_
 obtain⟨eT,v,m,es,L1,L2,mI,kE,dw⟩:=jw
 have uQ:∀p∈L1,e7 w p.1 p.2:=λp hp=>hL.at_ p (by rw[dw];simp[hp])
 obtain⟨qs,pE,mJ,uR⟩:=wM mI uQ (pD _)
 have cB:=hL.gR
 rw[dw]at cB
 simp only[asn,asm]at cB
 obtain⟨n1,n2,n3,n4,n5,n6⟩:=BR cB
 refine⟨.cells [.slice (some ⟨2,0,none⟩) d.bG.length d.bG.length,.map (some 3),.int .i64 d.made,.int .i64 d.calls,.int .i64 d.raw] 80 false,[(⟨0,0,1,0⟩,.cells [] 5 false),(qs,.cells (aI d.bG) 77 false),(⟨m,0,0,0⟩,.map (cf es) d.made),(⟨0,0,1,0⟩,.cells [] 173 false),(⟨0,0,1,0⟩,.cells [] 5 false)],_,⟨?_,?_,?_,?_⟩,by simp,h es L2 kE,?_⟩
 ·intro p hp
  simp only[arD,ase,or_false]at hp
  rcases hp with rfl|rfl|rfl|rfl|rfl|rfl<;>exact⟨rfl,by intro d' e;cases e⟩
 ·intro p hp el ro he n hn
  simp only[arD,ase,or_false]at hp
  rcases hp with rfl|rfl|rfl|rfl|rfl|rfl
  ·cases he
  ·cases he;rw[rH]at hn;cases hn;rfl
  ·injection he with e1 e2 e3;subst e2;rw[qx]at hn;cases hn;exact pE
  ·cases he
  ·cases he;rw[BN]at hn;cases hn;rfl
  ·cases he;rw[rH]at hn;cases hn;rfl
 ·intro ρ uL hρ p hp hl
  have uS:ρ 2=some qs:=hρ 1 _ rfl
  have uT:ρ 3=some ⟨m,0,0,0⟩:=hρ 2 _ rfl
  simp only[arD,ase,or_false]at hp
  rcases hp with rfl|rfl|rfl|rfl|rfl|rfl
  ·have hc:e7 w r.aH (.cells [v,.map (some m),.int .i64 d.made,.int .i64 d.calls,.int .i64 d.raw] 80 r.sh r.dJ):=hL.at_ (r.aH,_) (by rw[dw];exact arH)
   refine⟨by rw[dw];simp,?_⟩
   exact hc.or (λn hn=>by rw[y6]at hn;cases hn;exact eT) (.cons (uR ρ 2 uS) (.cons (.map 3 _ uT) (.cons (.bN _ rfl) (.cons (.bN _ rfl) (.cons (.bN _ rfl) (LR.nil ρ))))))
  ·cases hl
  ·obtain⟨h1,h2⟩:=mJ hl
   exact⟨by rw[dw];simp only[asn,asm,arD,arL];exact .inr (.inr (.inl h1)),h2.or (λn hn=>by rw[qx]at hn;cases hn;exact pE) (LR.sw (wO (bt _)))⟩
  ·have hc:e7 w m _:=hL.at_ (m,_) (by rw[dw];exact arG _ arH)
   exact⟨by rw[dw];simp,e7.BM (q:=⟨m,0,0,0⟩) hc (bS.wL kE)⟩
  ·cases hl
  ·cases hl
 ·have s1:Live (.cells (aI d.bG) 77 false) qs=true->qs.aH∈L1.map (·.1):=λhl=>(mJ hl).1
  refine .cons (λq hq=>?_) ?_
  ·simp only[arD,ase,or_false]at hq
   rcases hq with rfl|rfl|rfl|rfl|rfl
   ·intro h1 h2;exact absurd h2 (by decide)
   ·exact λh1 h2 e=>n2 (by rw[show r.aH=qs.aH from e];exact s1 h2)
   ·exact λh1 h2 e=>n1 e
   ·intro h1 h2;exact absurd h2 (by decide)
   ·intro h1 h2;exact absurd h2 (by decide)
  refine .cons (λq hq=>?_) ?_
  ·simp only[arD,ase,or_false]at hq
   rcases hq with rfl|rfl|rfl|rfl
   ·intro h1 h2;exact absurd h1 (by decide)
   ·intro h1 h2;exact absurd h1 (by decide)
   ·intro h1 h2;exact absurd h2 (by decide)
   ·intro h1 h2;exact absurd h2 (by decide)
  refine .cons (λq hq=>?_) ?_
  ·simp only[arD,ase,or_false]at hq
   rcases hq with rfl|rfl|rfl
   ·exact λh1 h2 e=>n4 (by rw[<-show qs.aH=m from e];exact s1 h1)
   ·intro h1 h2;exact absurd h2 (by decide)
   ·intro h1 h2;exact absurd h2 (by decide)
  refine .cons (λq hq=>?_) ?_
  ·simp only[arD,ase,or_false]at hq
   rcases hq with rfl|rfl
   ·intro h1 h2;exact absurd h2 (by decide)
   ·intro h1 h2;exact absurd h2 (by decide)
  refine .cons (λq hq=>?_) ?_
  ·simp only[arD,ase,or_false]at hq
   rcases hq with rfl
   ·intro h1 h2;exact absurd h2 (by decide)
  refine .cons (λq hq=>?_) ?_
  ·simp only[arD,ase,or_false]at hq
  exact .nil
 ·rintro vr o' ⟨d',K,⟨⟨A,R,C,eA,eM,eC,F,eF,LA,LM,LC,c0,ce,cl,hA,hC,c1,c2,c3,c4,c5⟩,c6,c7,c8,c9,uU⟩,hQ⟩ B ρ w' hw h0 hρ hid
  rw[cl]at dw n3 n5 n6
  simp only[asm]at n3 n5 n6
  have kF:∀k,k∈LA.map (·.1)\/k∈LC.map (·.1)->k∈LA.map (·.1)++(LM.map (·.1)++LC.map (·.1)):=λk hk=>by
   rcases hk with hk|hk
   ·exact asi _ hk
   ·exact asc _ (asc _ hk)
  have pF:∀k,k∈LA.map (·.1)\/k∈LC.map (·.1)->∀q∈(r,.cells [.slice (some ⟨2,0,none⟩) d.bG.length d.bG.length,.map (some 3),.int .i64 d.made,.int .i64 d.calls,.int .i64 d.raw] 80 false)::([(⟨0,0,1,0⟩,.cells [] 5 false),(qs,.cells (aI d.bG) 77 false),(⟨m,0,0,0⟩,.map (cf es) d.made),(⟨0,0,1,0⟩,.cells [] 173 false),(⟨0,0,1,0⟩,.cells [] 5 false)]:List (bV×ak)),Live q.2 q.1=true->q.1.aH≠k:=by
   intro k hk q hq hl e
   have kF:=kF k hk
   simp only[arD,ase,or_false]at hq
   rcases hq with rfl|rfl|rfl|rfl|rfl|rfl
   ·exact n3 (by rw[show r.aH=k from e];exact kF)
   ·cases hl
   ·exact n6 _ (mJ hl).1 (by rw[show qs.aH=k from e];exact kF)
   ·exact n5 (by rw[show m=k from e];exact kF)
   ·cases hl
   ·cases hl
  have pI:∀k,k∈LA.map (·.1)\/k∈LC.map (·.1)->k∈L.map (·.1):=λk hk=>by rw[dw];simp only[asn,asm,arD,arL];exact hk.elim (λhk=>.inr (.inr (.inr (.inl hk)))) (λhk=>.inr (.inr (.inr (.inr (.inr hk)))))
  obtain⟨S',ca,hS⟩:=BP (C:=C) (made:=d'.made) (calls:=d'.calls) (raw:=d'.raw) hL eT dw hA hC hw uU h0 (λk hk=>hid k (pI k hk) (pF k hk)) c3 c6 (bt _) (pD _) c4 c5 c7 c8
  rw[<-c1,<-c2]at ca
  refine⟨d',S',K,ca,λk hk=>?_,λy o _ _ hy hr=>?_,hQ⟩
  ·rcases hS k hk with hk|⟨y,hy,o,q,a1,a2,a3,a4,a5⟩
   ·exact .inl ⟨pI k hk,pF k hk⟩
   ·exact .inr ⟨y,o,q,hy,a1,a2,a3,a4,a5⟩
  ·have:=c9 o (ar7 hy);rw[this]at hr;cases hr
theorem aF.Z2{f:arY}{args:List Dy}{d:aA}{x0:List Dy}{Q:bD->List ak->Prop}(h:∀eR L2,fL d.files eR L2->aF fK f args (gd d.bG x0 (cf eR) d.made 0 [] d.made d.calls d.raw) λv o'=>∃d' K,Left d eR L2 o' K d'/\Q v (closed d' K o')):aF fK f args (.abs d::[.cells x0 5 false]) Q:=by
 refine aF.wG λw r S L hG jw hL=>?_
 obtain⟨eT,v,m,es,L1,L2,mI,kE,dw⟩:=jw
 have uQ:∀p∈L1,e7 w p.1 p.2:=λp hp=>hL.at_ p (by rw[dw];simp[hp])
 obtain⟨qs,pE,mJ,uR⟩:=wM mI uQ (pD _)
 have cB:=hL.gR
 rw[dw]at cB
 simp only[asn,asm]at cB
 obtain⟨n1,n2,n3,n4,n5,n6⟩:=BR cB
 refine⟨.cells [.slice (some ⟨2,0,none⟩) d.bG.length d.bG.length,.map (some 3),.int .i64 d.made,.int .i64 d.calls,.int .i64 d.raw] 80 false,[(qs,.cells (aI d.bG) 77 false),(⟨m,0,0,0⟩,.map (cf es) d.made),(⟨0,0,1,0⟩,.cells [] 173 false),(⟨0,0,1,0⟩,.cells [] 5 false)],_,⟨?_,?_,?_,?_⟩,by simp,h es L2 kE,?_⟩
 ·intro p hp
  simp only[arD,ase,or_false]at hp
  rcases hp with rfl|rfl|rfl|rfl|rfl<;>exact⟨rfl,by intro d' e;cases e⟩
 ·intro p hp el ro he n hn
  simp only[arD,ase,or_false]at hp
  rcases hp with rfl|rfl|rfl|rfl|rfl
  ·cases he
  ·injection he with e1 e2 e3;subst e2;rw[qx]at hn;cases hn;exact pE
  ·cases he
  ·cases he;rw[BN]at hn;cases hn;rfl
  ·cases he;rw[rH]at hn;cases hn;rfl
 ·intro ρ uL hρ p hp hl
  have uS:ρ 2=some qs:=hρ 0 _ rfl
  have uT:ρ 3=some ⟨m,0,0,0⟩:=hρ 1 _ rfl
  simp only[arD,ase,or_false]at hp
  rcases hp with rfl|rfl|rfl|rfl|rfl
  ·have hc:e7 w r.aH (.cells [v,.map (some m),.int .i64 d.made,.int .i64 d.calls,.int .i64 d.raw] 80 r.sh r.dJ):=hL.at_ (r.aH,_) (by rw[dw];exact arH)
   refine⟨by rw[dw];simp,?_⟩
   exact hc.or (λn hn=>by rw[y6]at hn;cases hn;exact eT) (.cons (uR ρ 2 uS) (.cons (.map 3 _ uT) (.cons (.bN _ rfl) (.cons (.bN _ rfl) (.cons (.bN _ rfl) (LR.nil ρ))))))
  ·obtain⟨h1,h2⟩:=mJ hl
   exact⟨by rw[dw];simp only[asn,asm,arD,arL];exact .inr (.inr (.inl h1)),h2.or (λn hn=>by rw[qx]at hn;cases hn;exact pE) (LR.sw (wO (bt _)))⟩
  ·have hc:e7 w m _:=hL.at_ (m,_) (by rw[dw];exact arG _ arH)
   exact⟨by rw[dw];simp,e7.BM (q:=⟨m,0,0,0⟩) hc (bS.wL kE)⟩
  ·cases hl
  ·cases hl
 ·have s1:Live (.cells (aI d.bG) 77 false) qs=true->qs.aH∈L1.map (·.1):=λhl=>(mJ hl).1
  refine .cons (λq hq=>?_) ?_
  ·simp only[arD,ase,or_false]at hq
   rcases hq with rfl|rfl|rfl|rfl
   ·exact λh1 h2 e=>n2 (by rw[show r.aH=qs.aH from e];exact s1 h2)
   ·exact λh1 h2 e=>n1 e
   ·intro h1 h2;exact absurd h2 (by decide)
   ·intro h1 h2;exact absurd h2 (by decide)
  refine .cons (λq hq=>?_) ?_
  ·simp only[arD,ase,or_false]at hq
   rcases hq with rfl|rfl|rfl
   ·exact λh1 h2 e=>n4 (by rw[<-show qs.aH=m from e];exact s1 h1)
   ·intro h1 h2;exact absurd h2 (by decide)
   ·intro h1 h2;exact absurd h2 (by decide)
  refine .cons (λq hq=>?_) ?_
  ·simp only[arD,ase,or_false]at hq
   rcases hq with rfl|rfl
   ·intro h1 h2;exact absurd h2 (by decide)
   ·intro h1 h2;exact absurd h2 (by decide)
  refine .cons (λq hq=>?_) ?_
  ·simp only[arD,ase,or_false]at hq
   rcases hq with rfl
   ·intro h1 h2;exact absurd h2 (by decide)
  refine .cons (λq hq=>?_) ?_
  ·simp only[arD,ase,or_false]at hq
  exact .nil
 ·rintro vr o' ⟨d',K,⟨⟨A,R,C,eA,eM,eC,F,eF,LA,LM,LC,c0,ce,cl,hA,hC,c1,c2,c3,c4,c5⟩,c6,c7,c8,c9,uU⟩,hQ⟩ B ρ w' hw h0 hρ hid
  rw[cl]at dw n3 n5 n6
  simp only[asm]at n3 n5 n6
  have kF:∀k,k∈LA.map (·.1)\/k∈LC.map (·.1)->k∈LA.map (·.1)++(LM.map (·.1)++LC.map (·.1)):=λk hk=>by
   rcases hk with hk|hk
   ·exact asi _ hk
   ·exact asc _ (asc _ hk)
  have pF:∀k,k∈LA.map (·.1)\/k∈LC.map (·.1)->∀q∈(r,.cells [.slice (some ⟨2,0,none⟩) d.bG.length d.bG.length,.map (some 3),.int .i64 d.made,.int .i64 d.calls,.int .i64 d.raw] 80 false)::([(qs,.cells (aI d.bG) 77 false),(⟨m,0,0,0⟩,.map (cf es) d.made),(⟨0,0,1,0⟩,.cells [] 173 false),(⟨0,0,1,0⟩,.cells [] 5 false)]:List (bV×ak)),Live q.2 q.1=true->q.1.aH≠k:=by
   intro k hk q hq hl e
   have kF:=kF k hk
   simp only[arD,ase,or_false]at hq
   rcases hq with rfl|rfl|rfl|rfl|rfl
   ·exact n3 (by rw[show r.aH=k from e];exact kF)
   ·exact n6 _ (mJ hl).1 (by rw[show qs.aH=k from e];exact kF)
   ·exact n5 (by rw[show m=k from e];exact kF)
   ·cases hl
   ·cases hl
  have pI:∀k,k∈LA.map (·.1)\/k∈LC.map (·.1)->k∈L.map (·.1):=λk hk=>by rw[dw];simp only[asn,asm,arD,arL];exact hk.elim (λhk=>.inr (.inr (.inr (.inl hk)))) (λhk=>.inr (.inr (.inr (.inr (.inr hk)))))
  obtain⟨S',ca,hS⟩:=BP (C:=C) (made:=d'.made) (calls:=d'.calls) (raw:=d'.raw) hL eT dw hA hC hw uU h0 (λk hk=>hid k (pI k hk) (pF k hk)) c3 c6 (bt _) (pD _) c4 c5 c7 c8
  rw[<-c1,<-c2]at ca
  refine⟨d',S',K,ca,λk hk=>?_,λy o _ _ hy hr=>?_,hQ⟩
  ·rcases hS k hk with hk|⟨y,hy,o,q,a1,a2,a3,a4,a5⟩
   ·exact .inl ⟨pI k hk,pF k hk⟩
   ·exact .inr ⟨y,o,q,hy,a1,a2,a3,a4,a5⟩
  ·have:=c9 o (ar7 hy);rw[this]at hr;cases hr
theorem aF.Z3{f:arY}{args:List Dy}{d:aA}{x0:List Dy}{A C:List (Nat×ByteArray)}{p:Nat×ByteArray}(hd:d.files=A++([p]++C)){Q:bD->List ak->Prop}(h:∀eA eC kf sf LA LF LC,fL A eA LA->fL C eC LC->fileAt p kf sf LF->1<=p.1->aF fK f args (gv d.bG [] (cf eA++([asQ (KJ .i64 p.1) (asy (some ⟨4,0,none⟩)) (p.1-1)]++cf eC)) d.made p.2.size (af p.2) d.made d.calls d.raw) λv o'=>∃d' K F eF,d'.bG=d.bG/\d'.files=A++(F++C)/\o'[0]?=some (.cells [.slice (some ⟨2,0,none⟩) d.bG.length d.bG.length,.map (some 3),.int .i64 d'.made,.int .i64 d'.calls,.int .i64 d'.raw] 80 false)/\o'[3]?=some (.map (cf eA++(eF++cf eC)) d'.made)/\sZ o' K F eF/\o'[2]?=some (.cells (aI d.bG) 77 false)/\K.contains 2=true/\K.contains 3=true/\(∀o∈o',o.ro=false)/\o'.length<=262144/\Q v (closed d' K o')):aF fK f args (.abs d::[]) Q:=by
 refine aF.wG λw r S L hG jw hL=>?_
 obtain⟨eT,v,m,es,L1,L2,mI,kE,dw⟩:=jw
 rw[hd]at kE
 obtain⟨eA,e1,LA,L3,rfl,rfl,hA,kE⟩:=wK kE
 obtain⟨eM,eC,LM,LC,rfl,rfl,hM,hC⟩:=wK kE
 obtain⟨kf,sf,LF,rfl,jo,Ht,jG⟩:∃kf sf LF,eM=[{key:=.int .i64 p.1,val:=.pointer (some ⟨kf,sf,none⟩),born:=p.1-1}]/\LM=LF/\fileAt p kf sf LF/\1<=p.1:=by
  cases hM with
  |cons _ kf sf _ _ L L' h1 h2 hp=>cases h2;exact⟨kf,sf,L,rfl,by rw[asg],h1,hp⟩
 subst jo
 obtain⟨vf,oc,Lr,y7,jo⟩:=Ht
 have Hu:∀p∈Lr,e7 w p.1 p.2:=λp hp=>hL.at_ p (by rw[dw,jo];simp[hp])
 obtain⟨qr,py,uV,Hv⟩:=wM y7 Hu (by rw[BO,mC,atV])
 have jz:e7 w kf (.cells [vf] 173 sf oc):=hL.at_ (kf,_) (by rw[dw,jo];simp)
 have uQ:∀p∈L1,e7 w p.1 p.2:=λp hp=>hL.at_ p (by rw[dw];simp[hp])
 obtain⟨qs,pE,mJ,uR⟩:=wM mI uQ (pD _)
 have cB:=hL.gR
 rw[dw]at cB
 simp only[asn,asm]at cB
 obtain⟨n1,n2,n3,n4,n5,n6⟩:=BR cB
 have Hw:kf∉Lr.map (·.1):=by
  have:=(aso.1 ((asG.1 (asG.1 cB).2).2)).2.1
  have:=(aso.1 (aso.1 this).2.1).1
  rw[jo]at this
  exact(asG.1 this).1
 have od:∀k,k=kf\/k∈Lr.map (·.1)->k∈LA.map (·.1)++(LM.map (·.1)++LC.map (·.1)):=λk hk=>by
  rw[jo]
  rcases hk with rfl|hk
  ·simp
  ·simp only[asn,arL,arD];exact .inr (.inl (.inr hk))
 refine⟨.cells [.slice (some ⟨2,0,none⟩) d.bG.length d.bG.length,.map (some 3),.int .i64 d.made,.int .i64 d.calls,.int .i64 d.raw] 80 false,[(⟨0,0,1,0⟩,.cells [] 5 false),(qs,.cells (aI d.bG) 77 false),(⟨m,0,0,0⟩,.map (cf eA++([asQ (KJ .i64 p.1) (asy (some ⟨4,0,none⟩)) (p.1-1)]++cf eC)) d.made),(⟨kf,sf,1,oc⟩,.cells [.slice (some ⟨5,0,none⟩) p.2.size p.2.size] 173 false),(qr,.cells (af p.2) 5 false)],_,⟨?_,?_,?_,?_⟩,by simp,h eA eC kf sf LA LM LC hA hC ⟨vf,oc,Lr,y7,jo⟩ jG,?_⟩
 ·intro p hp
  simp only[arD,ase,or_false]at hp
  rcases hp with rfl|rfl|rfl|rfl|rfl|rfl<;>exact⟨rfl,by intro d' e;cases e⟩
 ·intro p hp el ro he n hn
  simp only[arD,ase,or_false]at hp
  rcases hp with rfl|rfl|rfl|rfl|rfl|rfl
  ·cases he
  ·cases he;rw[rH]at hn;cases hn;rfl
  ·injection he with e1 e2 e3;subst e2;rw[qx]at hn;cases hn;exact pE
  ·cases he
  ·cases he
  ·injection he with e1 e2 e3;subst e2;rw[rH]at hn;cases hn;exact py
 ·intro ρ uL hρ p hp hl
  have uS:ρ 2=some qs:=hρ 1 _ rfl
  have uT:ρ 3=some ⟨m,0,0,0⟩:=hρ 2 _ rfl
  have Hx:ρ 4=some ⟨kf,sf,1,oc⟩:=hρ 3 _ rfl
  have Hy:ρ 5=some qr:=hρ 4 _ rfl
  simp only[arD,ase,or_false]at hp
  rcases hp with rfl|rfl|rfl|rfl|rfl|rfl
  ·have hc:e7 w r.aH (.cells [v,.map (some m),.int .i64 d.made,.int .i64 d.calls,.int .i64 d.raw] 80 r.sh r.dJ):=hL.at_ (r.aH,_) (by rw[dw];exact arH)
   refine⟨by rw[dw];simp,?_⟩
   exact hc.or (λn hn=>by rw[y6]at hn;cases hn;exact eT) (.cons (uR ρ 2 uS) (.cons (.map 3 _ uT) (.cons (.bN _ rfl) (.cons (.bN _ rfl) (.cons (.bN _ rfl) (LR.nil ρ))))))
  ·cases hl
  ·obtain⟨h1,h2⟩:=mJ hl
   exact⟨by rw[dw];simp only[asn,asm,arD,arL];exact .inr (.inr (.inl h1)),h2.or (λn hn=>by rw[qx]at hn;cases hn;exact pE) (LR.sw (wO (bt _)))⟩
  ·have hc:e7 w m _:=hL.at_ (m,_) (by rw[dw];exact arG _ arH)
   exact⟨by rw[dw];simp,e7.BM (q:=⟨m,0,0,0⟩) hc (bS.kp (bS.wL hA) (bS.kp (.cons ⟨.bN _ rfl,.ptr 4 0 _ Hx,rfl⟩ .nil) (bS.wL hC)))⟩
  ·exact⟨by rw[dw,jo];simp,e7.or (q:=⟨kf,sf,1,oc⟩) jz (λn hn=>by rw[BN]at hn;cases hn;rfl) (.cons (Hv ρ 5 Hy) (LR.nil ρ))⟩
  ·obtain⟨h1,h2⟩:=uV hl
   rw[BO]at h2
   exact⟨by rw[dw,jo];simp only[asn,asm,arD,arL];exact .inr (.inr (.inr (.inr (.inl (.inr h1))))),h2.or (λn hn=>by rw[rH]at hn;cases hn;exact py) (LR.sw (wO (aE _)))⟩
 ·have s1:Live (.cells (aI d.bG) 77 false) qs=true->qs.aH∈L1.map (·.1):=λhl=>(mJ hl).1
  have s2:Live (.cells (af p.2) 5 false) qr=true->qr.aH∈Lr.map (·.1):=λhl=>(uV hl).1
  refine .cons (λq hq=>?_) ?_
  ·simp only[arD,ase,or_false]at hq
   rcases hq with rfl|rfl|rfl|rfl|rfl
   ·intro h1 h2;exact absurd h2 (by decide)
   ·exact λh1 h2 e=>n2 (by rw[show r.aH=qs.aH from e];exact s1 h2)
   ·exact λh1 h2 e=>n1 e
   ·exact λh1 h2 e=>n3 (by rw[show r.aH=kf from e];exact od _ (.inl rfl))
   ·exact λh1 h2 e=>n3 (by rw[show r.aH=qr.aH from e];exact od _ (.inr (s2 h2)))
  refine .cons (λq hq=>?_) ?_
  ·simp only[arD,ase,or_false]at hq
   rcases hq with rfl|rfl|rfl|rfl
   ·intro h1 h2;exact absurd h1 (by decide)
   ·intro h1 h2;exact absurd h1 (by decide)
   ·intro h1 h2;exact absurd h1 (by decide)
   ·intro h1 h2;exact absurd h1 (by decide)
  refine .cons (λq hq=>?_) ?_
  ·simp only[arD,ase,or_false]at hq
   rcases hq with rfl|rfl|rfl
   ·exact λh1 h2 e=>n4 (by rw[<-show qs.aH=m from e];exact s1 h1)
   ·exact λh1 h2 e=>n6 _ (s1 h1) (by rw[show qs.aH=kf from e];exact od _ (.inl rfl))
   ·exact λh1 h2 e=>n6 _ (s1 h1) (by rw[show qs.aH=qr.aH from e];exact od _ (.inr (s2 h2)))
  refine .cons (λq hq=>?_) ?_
  ·simp only[arD,ase,or_false]at hq
   rcases hq with rfl|rfl
   ·exact λh1 h2 e=>n5 (by rw[show m=kf from e];exact od _ (.inl rfl))
   ·exact λh1 h2 e=>n5 (by rw[show m=qr.aH from e];exact od _ (.inr (s2 h2)))
  refine .cons (λq hq=>?_) ?_
  ·simp only[arD,ase,or_false]at hq
   rcases hq with rfl
   ·exact λh1 h2 e=>Hw (by rw[show kf=qr.aH from e];exact s2 h2)
  refine .cons (λq hq=>?_) ?_
  ·simp only[arD,ase,or_false]at hq
  exact .nil
 ·rintro vr o' ⟨d',K,F,eF,c1,c2,c3,c4,c5,c6,c7,c8,c9,uU,hQ⟩ B ρ w' hw h0 hρ hid
  have pF:∀k,k∈LA.map (·.1)\/k∈LC.map (·.1)->∀q∈(r,.cells [.slice (some ⟨2,0,none⟩) d.bG.length d.bG.length,.map (some 3),.int .i64 d.made,.int .i64 d.calls,.int .i64 d.raw] 80 false)::([(⟨0,0,1,0⟩,.cells [] 5 false),(qs,.cells (aI d.bG) 77 false),(⟨m,0,0,0⟩,.map (cf eA++([asQ (KJ .i64 p.1) (asy (some ⟨4,0,none⟩)) (p.1-1)]++cf eC)) d.made),(⟨kf,sf,1,oc⟩,.cells [.slice (some ⟨5,0,none⟩) p.2.size p.2.size] 173 false),(qr,.cells (af p.2) 5 false)]:List (bV×ak)),Live q.2 q.1=true->q.1.aH≠k:=by
   intro k hk q hq hl e
   have y8:=(aso.1 ((asG.1 (asG.1 cB).2).2)).2.1
   have nF:∀x,x∈LM.map (·.1)->x≠k:=λx hx ex=>by
    subst ex
    rcases hk with hk|hk
    ·exact(aso.1 y8).2.2 _ hk _ (asi _ hx) rfl
    ·exact(aso.1 (aso.1 y8).2.1).2.2 _ hx _ hk rfl
   have kF:k∈LA.map (·.1)++(LM.map (·.1)++LC.map (·.1)):=by
    rcases hk with hk|hk
    ·exact asi _ hk
    ·exact asc _ (asc _ hk)
   simp only[arD,ase,or_false]at hq
   rcases hq with rfl|rfl|rfl|rfl|rfl|rfl
   ·exact n3 (by rw[show r.aH=k from e];exact kF)
   ·cases hl
   ·exact n6 _ (mJ hl).1 (by rw[show qs.aH=k from e];exact kF)
   ·exact n5 (by rw[show m=k from e];exact kF)
   ·exact nF kf (by rw[jo];simp) e
   ·exact nF _ (by rw[jo];exact arG _ (uV hl).1) e
  have pI:∀k,k∈LA.map (·.1)\/k∈LC.map (·.1)->k∈L.map (·.1):=λk hk=>by rw[dw];simp only[asn,asm,arD,arL];exact hk.elim (λhk=>.inr (.inr (.inr (.inl hk)))) (λhk=>.inr (.inr (.inr (.inr (.inr hk)))))
  obtain⟨S',ca,hS⟩:=BP (C:=C) (made:=d'.made) (calls:=d'.calls) (raw:=d'.raw) hL eT dw hA hC hw uU h0 (λk hk=>hid k (pI k hk) (pF k hk)) c3 c6 (bt _) (pD _) c4 c5 c7 c8
  rw[<-c1,<-c2]at ca
  refine⟨d',S',K,ca,λk hk=>?_,λy o _ _ hy hr=>?_,hQ⟩
  ·rcases hS k hk with hk|⟨y,hy,o,q,a1,a2,a3,a4,a5⟩
   ·exact .inl ⟨pI k hk,pF k hk⟩
   ·exact .inr ⟨y,o,q,hy,a1,a2,a3,a4,a5⟩
  ·have:=c9 o (ar7 hy);rw[this]at hr;cases hr
theorem aF.Z4{f:arY}{args:List Dy}{d:aA}{x0:List Dy}{A C:List (Nat×ByteArray)}{p:Nat×ByteArray}(hd:d.files=A++([p]++C)){Q:bD->List ak->Prop}(h:∀eA eC kf sf LA LF LC,fL A eA LA->fL C eC LC->fileAt p kf sf LF->1<=p.1->aF fK f args (gv d.bG x0 (cf eA++([asQ (KJ .i64 p.1) (asy (some ⟨4,0,none⟩)) (p.1-1)]++cf eC)) d.made p.2.size (af p.2) d.made d.calls d.raw) λv o'=>∃d' K F eF,d'.bG=d.bG/\d'.files=A++(F++C)/\o'[0]?=some (.cells [.slice (some ⟨2,0,none⟩) d.bG.length d.bG.length,.map (some 3),.int .i64 d'.made,.int .i64 d'.calls,.int .i64 d'.raw] 80 false)/\o'[3]?=some (.map (cf eA++(eF++cf eC)) d'.made)/\sZ o' K F eF/\o'[2]?=some (.cells (aI d.bG) 77 false)/\K.contains 2=true/\K.contains 3=true/\(∀o∈o',o.ro=false)/\o'.length<=262144/\Q v (closed d' K o')):aF fK f args (.abs d::[.cells x0 5 false]) Q:=by
 refine aF.wG λw r S L hG jw hL=>?_
 obtain⟨eT,v,m,es,L1,L2,mI,kE,dw⟩:=jw
 rw[hd]at kE
 obtain⟨eA,e1,LA,L3,rfl,rfl,hA,kE⟩:=wK kE
 obtain⟨eM,eC,LM,LC,rfl,rfl,hM,hC⟩:=wK kE
 obtain⟨kf,sf,LF,rfl,jo,Ht,jG⟩:∃kf sf LF,eM=[{key:=.int .i64 p.1,val:=.pointer (some ⟨kf,sf,none⟩),born:=p.1-1}]/\LM=LF/\fileAt p kf sf LF/\1<=p.1:=by
  cases hM with
  |cons _ kf sf _ _ L L' h1 h2 hp=>cases h2;exact⟨kf,sf,L,rfl,by rw[asg],h1,hp⟩
 subst jo
 obtain⟨vf,oc,Lr,y7,jo⟩:=Ht
 have Hu:∀p∈Lr,e7 w p.1 p.2:=λp hp=>hL.at_ p (by rw[dw,jo];simp[hp])
 obtain⟨qr,py,uV,Hv⟩:=wM y7 Hu (by rw[BO,mC,atV])
 have jz:e7 w kf (.cells [vf] 173 sf oc):=hL.at_ (kf,_) (by rw[dw,jo];simp)
 have uQ:∀p∈L1,e7 w p.1 p.2:=λp hp=>hL.at_ p (by rw[dw];simp[hp])
 obtain⟨qs,pE,mJ,uR⟩:=wM mI uQ (pD _)
 have cB:=hL.gR
 rw[dw]at cB
 simp only[asn,asm]at cB
 obtain⟨n1,n2,n3,n4,n5,n6⟩:=BR cB
 have Hw:kf∉Lr.map (·.1):=by
  have:=(aso.1 ((asG.1 (asG.1 cB).2).2)).2.1
  have:=(aso.1 (aso.1 this).2.1).1
  rw[jo]at this
  exact(asG.1 this).1
 have od:∀k,k=kf\/k∈Lr.map (·.1)->k∈LA.map (·.1)++(LM.map (·.1)++LC.map (·.1)):=λk hk=>by
  rw[jo]
  rcases hk with rfl|hk
  ·simp
  ·simp only[asn,arL,arD];exact .inr (.inl (.inr hk))
 refine⟨.cells [.slice (some ⟨2,0,none⟩) d.bG.length d.bG.length,.map (some 3),.int .i64 d.made,.int .i64 d.calls,.int .i64 d.raw] 80 false,[(qs,.cells (aI d.bG) 77 false),(⟨m,0,0,0⟩,.map (cf eA++([asQ (KJ .i64 p.1) (asy (some ⟨4,0,none⟩)) (p.1-1)]++cf eC)) d.made),(⟨kf,sf,1,oc⟩,.cells [.slice (some ⟨5,0,none⟩) p.2.size p.2.size] 173 false),(qr,.cells (af p.2) 5 false)],_,⟨?_,?_,?_,?_⟩,by simp,h eA eC kf sf LA LM LC hA hC ⟨vf,oc,Lr,y7,jo⟩ jG,?_⟩
 ·intro p hp
  simp only[arD,ase,or_false]at hp
  rcases hp with rfl|rfl|rfl|rfl|rfl<;>exact⟨rfl,by intro d' e;cases e⟩
 ·intro p hp el ro he n hn
  simp only[arD,ase,or_false]at hp
  rcases hp with rfl|rfl|rfl|rfl|rfl
  ·cases he
  ·injection he with e1 e2 e3;subst e2;rw[qx]at hn;cases hn;exact pE
  ·cases he
  ·cases he
  ·injection he with e1 e2 e3;subst e2;rw[rH]at hn;cases hn;exact py
 ·intro ρ uL hρ p hp hl
  have uS:ρ 2=some qs:=hρ 0 _ rfl
  have uT:ρ 3=some ⟨m,0,0,0⟩:=hρ 1 _ rfl
  have Hx:ρ 4=some ⟨kf,sf,1,oc⟩:=hρ 2 _ rfl
  have Hy:ρ 5=some qr:=hρ 3 _ rfl
  simp only[arD,ase,or_false]at hp
  rcases hp with rfl|rfl|rfl|rfl|rfl
  ·have hc:e7 w r.aH (.cells [v,.map (some m),.int .i64 d.made,.int .i64 d.calls,.int .i64 d.raw] 80 r.sh r.dJ):=hL.at_ (r.aH,_) (by rw[dw];exact arH)
   refine⟨by rw[dw];simp,?_⟩
   exact hc.or (λn hn=>by rw[y6]at hn;cases hn;exact eT) (.cons (uR ρ 2 uS) (.cons (.map 3 _ uT) (.cons (.bN _ rfl) (.cons (.bN _ rfl) (.cons (.bN _ rfl) (LR.nil ρ))))))
  ·obtain⟨h1,h2⟩:=mJ hl
   exact⟨by rw[dw];simp only[asn,asm,arD,arL];exact .inr (.inr (.inl h1)),h2.or (λn hn=>by rw[qx]at hn;cases hn;exact pE) (LR.sw (wO (bt _)))⟩
  ·have hc:e7 w m _:=hL.at_ (m,_) (by rw[dw];exact arG _ arH)
   exact⟨by rw[dw];simp,e7.BM (q:=⟨m,0,0,0⟩) hc (bS.kp (bS.wL hA) (bS.kp (.cons ⟨.bN _ rfl,.ptr 4 0 _ Hx,rfl⟩ .nil) (bS.wL hC)))⟩
  ·exact⟨by rw[dw,jo];simp,e7.or (q:=⟨kf,sf,1,oc⟩) jz (λn hn=>by rw[BN]at hn;cases hn;rfl) (.cons (Hv ρ 5 Hy) (LR.nil ρ))⟩
  ·obtain⟨h1,h2⟩:=uV hl
   rw[BO]at h2
   exact⟨by rw[dw,jo];simp only[asn,asm,arD,arL];exact .inr (.inr (.inr (.inr (.inl (.inr h1))))),h2.or (λn hn=>by rw[rH]at hn;cases hn;exact py) (LR.sw (wO (aE _)))⟩
 ·have s1:Live (.cells (aI d.bG) 77 false) qs=true->qs.aH∈L1.map (·.1):=λhl=>(mJ hl).1
  have s2:Live (.cells (af p.2) 5 false) qr=true->qr.aH∈Lr.map (·.1):=λhl=>(uV hl).1
  refine .cons (λq hq=>?_) ?_
  ·simp only[arD,ase,or_false]at hq
   rcases hq with rfl|rfl|rfl|rfl
   ·exact λh1 h2 e=>n2 (by rw[show r.aH=qs.aH from e];exact s1 h2)
   ·exact λh1 h2 e=>n1 e
   ·exact λh1 h2 e=>n3 (by rw[show r.aH=kf from e];exact od _ (.inl rfl))
   ·exact λh1 h2 e=>n3 (by rw[show r.aH=qr.aH from e];exact od _ (.inr (s2 h2)))
  refine .cons (λq hq=>?_) ?_
  ·simp only[arD,ase,or_false]at hq
   rcases hq with rfl|rfl|rfl
   ·exact λh1 h2 e=>n4 (by rw[<-show qs.aH=m from e];exact s1 h1)
   ·exact λh1 h2 e=>n6 _ (s1 h1) (by rw[show qs.aH=kf from e];exact od _ (.inl rfl))
   ·exact λh1 h2 e=>n6 _ (s1 h1) (by rw[show qs.aH=qr.aH from e];exact od _ (.inr (s2 h2)))
  refine .cons (λq hq=>?_) ?_
  ·simp only[arD,ase,or_false]at hq
   rcases hq with rfl|rfl
   ·exact λh1 h2 e=>n5 (by rw[show m=kf from e];exact od _ (.inl rfl))
   ·exact λh1 h2 e=>n5 (by rw[show m=qr.aH from e];exact od _ (.inr (s2 h2)))
  refine .cons (λq hq=>?_) ?_
  ·simp only[arD,ase,or_false]at hq
   rcases hq with rfl
   ·exact λh1 h2 e=>Hw (by rw[show kf=qr.aH from e];exact s2 h2)
  refine .cons (λq hq=>?_) ?_
  ·simp only[arD,ase,or_false]at hq
  exact .nil
 ·rintro vr o' ⟨d',K,F,eF,c1,c2,c3,c4,c5,c6,c7,c8,c9,uU,hQ⟩ B ρ w' hw h0 hρ hid
  have pF:∀k,k∈LA.map (·.1)\/k∈LC.map (·.1)->∀q∈(r,.cells [.slice (some ⟨2,0,none⟩) d.bG.length d.bG.length,.map (some 3),.int .i64 d.made,.int .i64 d.calls,.int .i64 d.raw] 80 false)::([(qs,.cells (aI d.bG) 77 false),(⟨m,0,0,0⟩,.map (cf eA++([asQ (KJ .i64 p.1) (asy (some ⟨4,0,none⟩)) (p.1-1)]++cf eC)) d.made),(⟨kf,sf,1,oc⟩,.cells [.slice (some ⟨5,0,none⟩) p.2.size p.2.size] 173 false),(qr,.cells (af p.2) 5 false)]:List (bV×ak)),Live q.2 q.1=true->q.1.aH≠k:=by
   intro k hk q hq hl e
   have y8:=(aso.1 ((asG.1 (asG.1 cB).2).2)).2.1
   have nF:∀x,x∈LM.map (·.1)->x≠k:=λx hx ex=>by
    subst ex
    rcases hk with hk|hk
    ·exact(aso.1 y8).2.2 _ hk _ (asi _ hx) rfl
    ·exact(aso.1 (aso.1 y8).2.1).2.2 _ hx _ hk rfl
   have kF:k∈LA.map (·.1)++(LM.map (·.1)++LC.map (·.1)):=by
    rcases hk with hk|hk
    ·exact asi _ hk
    ·exact asc _ (asc _ hk)
   simp only[arD,ase,or_false]at hq
   rcases hq with rfl|rfl|rfl|rfl|rfl
   ·exact n3 (by rw[show r.aH=k from e];exact kF)
   ·exact n6 _ (mJ hl).1 (by rw[show qs.aH=k from e];exact kF)
   ·exact n5 (by rw[show m=k from e];exact kF)
   ·exact nF kf (by rw[jo];simp) e
   ·exact nF _ (by rw[jo];exact arG _ (uV hl).1) e
  have pI:∀k,k∈LA.map (·.1)\/k∈LC.map (·.1)->k∈L.map (·.1):=λk hk=>by rw[dw];simp only[asn,asm,arD,arL];exact hk.elim (λhk=>.inr (.inr (.inr (.inl hk)))) (λhk=>.inr (.inr (.inr (.inr (.inr hk)))))
  obtain⟨S',ca,hS⟩:=BP (C:=C) (made:=d'.made) (calls:=d'.calls) (raw:=d'.raw) hL eT dw hA hC hw uU h0 (λk hk=>hid k (pI k hk) (pF k hk)) c3 c6 (bt _) (pD _) c4 c5 c7 c8
  rw[<-c1,<-c2]at ca
  refine⟨d',S',K,ca,λk hk=>?_,λy o _ _ hy hr=>?_,hQ⟩
  ·rcases hS k hk with hk|⟨y,hy,o,q,a1,a2,a3,a4,a5⟩
   ·exact .inl ⟨pI k hk,pF k hk⟩
   ·exact .inr ⟨y,o,q,hy,a1,a2,a3,a4,a5⟩
  ·have:=c9 o (ar7 hy);rw[this]at hr;cases hr
end Go.Proofs.YtnlkkgpcikkpoaaGreat
namespace Go.Proofs.YtnlkkgpcikkpoaaGreat
open Go Vm Go.RowKit
def cW(x y:UInt8):Bool:=decide (x<y)
abbrev gy(d:Array UInt8):ByteArray:=⟨d⟩
theorem Hz(d:Array UInt8):(gy d).size=d.size:=rfl
theorem te{d:Array UInt8}{i:Nat}(h:i<d.size):av (af (gy d)) i=(d[i]!.toNat:Int):=by
 rw[GZ (b:=gy d) h,getElem!_pos d i h];rfl
theorem wP{d:Array UInt8}{p:Nat}(h:p<d.size):cP Um (af (gy d)) p=true:=G0 h
abbrev wQ(n:Nat):Dy:=.slice (some ⟨0,0,none⟩) n n
abbrev iA(n:Nat):Dy:=.int .i64 (n:Int)
theorem OA{x:Int}(h0: -1000000<=x)(h1:x<=1000000):m6 Ul x=x:=nX (by omega) (by omega)
open Tree renaming aQ->mN,dE->mF,fj->mL
theorem mK{x:Nat}:0+m5 (x:Int)*1=x:=by simp
theorem BT{x:Nat}(h:x<=100000):KJ .i64 (m6 Ul ((x:Int)+1))=iA (x+1):=by rw[OA (by omega) (by omega)];rfl
structure aqd(d:Array UInt8)(n a z:Nat)(s:Array UInt8×Nat):Prop where
 h1:s.1.size=n
 h2:a+1<=s.2
 h3:s.2<=100000
 h4:Sort.insOuter cW a z s.2 s.1=Sort.insertionSort cW d a z
structure aqe(d:Array UInt8)(n a i:Nat)(s:Array UInt8×Nat):Prop where
 h1:s.1.size=n
 h2:s.2<=i
 h3:axO cW a s.2 s.1=axO cW a i d
structure aqf(d:Array UInt8)(n a z:Nat)(s:Array UInt8×Nat×Int):Prop where
 h1:s.1.size=n
 h2: -1<=s.2.2
 h3:s.2.2<n
 h5:s.2.1<=n
 h4:Sort.reverseLoop s.2.1 s.2.2.toNat s.1=Sort.reverseRange d a z
structure aqg(d:Array UInt8)(n hi fs lo:Nat)(s:Array UInt8×Nat):Prop where
 h1:s.1.size=n
 h2:s.2<=n
 h3:axP cW hi fs s.2 s.1=axP cW hi fs lo d
def eG(l:List Dy):Array UInt8:=(l.map λv=>match v with| .int _ x=>UInt8.ofNat x.toNat|_=>0).toArray
@[simp] theorem HA(d:Array UInt8):eG (af (gy d))=d:=by
 unfold eG af gy
 simp[Function.comp_def]
noncomputable def nt(l:List Dy)(P:Prop):Bool:=@decide ((∃d:Array UInt8,l=af (gy d))/\P) (arT _)
theorem BU{l:List Dy}{P:Prop}:nt l P=true↔(∃d:Array UInt8,l=af (gy d))/\P:=by unfold nt;exact @decide_eq_true_iff _ (arT _)
theorem Z5{d:Array UInt8}{P:Prop}(h:P):nt (af (gy d)) P=true:=BU.2 ⟨⟨d,rfl⟩,h⟩
open Tree renaming aQ->mN,dE->mF,fj->mL
structure aqh(d:Array UInt8)(n a hi:Nat)(s:Array UInt8×Int):Prop where
 h1:s.1.size=n
 h2: -1<=s.2
 h3:s.2<=n
 h4:axI cW hi a (s.2+1).toNat s.1=axI cW hi a ((hi-1)/2+1) d
structure aqi(d:Array UInt8)(n a hi:Nat)(s:Array UInt8×Int):Prop where
 h1:s.1.size=n
 h2: -1<=s.2
 h3:s.2<hi
 h4:axZ cW a (s.2+1).toNat s.1=axZ cW a hi d
open Tree renaming aQ->mN,dE->mF,fj->mL
structure aqj(d:Array UInt8)(n a i0 j0:Nat)(s:Array UInt8×Nat×Nat):Prop where
 h1:s.1.size=n
 h2:1<=s.2.1
 h3:s.2.1<=n
 h4:s.2.2<n
 h5:axQ cW a s.2.1 s.2.2 s.1=axQ cW a i0 j0 d
structure aqk(d:Array UInt8)(n a i0 j0:Nat)(s:Array UInt8×Nat×Nat):Prop where
 h1:s.1.size=n
 h2:1<=s.2.1
 h3:s.2.1<=n
 h4:s.2.2<n
 h5:axy cW a s.2.1 s.2.2 s.1=axy cW a i0 j0 d
open Tree renaming aQ->mN,dE->mF,fj->mL
end Go.Proofs.YtnlkkgpcikkpoaaGreat
namespace Go.Proofs.YtnlkkgpcikkpoaaGreat.Vm
open Go.RowKit
end Go.Proofs.YtnlkkgpcikkpoaaGreat.Vm
namespace Go.Proofs.YtnlkkgpcikkpoaaGreat
open Go Vm Go.RowKit
structure aql(d:Array UInt8)(n a z:Nat)(s:Array UInt8×Nat×Nat):Prop where
 h1:s.1.size=n
 h2:a+1<=s.2.1
 h3:s.2.1<=z
 h4:s.2.2<=5
 h5:Sort.partialIns cW a z (5-s.2.2) s.2.1 s.1=Sort.partialInsertionSort cW d a z
noncomputable section
def Z6:List ar3:=a7 (dI fK 153)
def Z7:List ar3:=a7 (dI fK 130)
open Tree renaming aQ->mN,dE->mF,fj->mL,fY->mQ,dN->mR,gH->mE
def OC:Nat->Bool->Bool->Tree->Tree
 |0,_,_,t=>t
 |n+1,d,b,t=>.cY d b (OC n d b t)
theorem Z8{R:bf->ai->Prop}{c v:Bool}{t:Tree}(n:Nat)(h1:c=v)(h2:t.ok R):(OC n c v t).ok R:=by
 induction n with
 |zero=>exact h2
 |succ n ih=>exact⟨h1,ih⟩
abbrev OD:=λb (n:Nat) (a z s:Int)=>(⟨[(8,aa z),(9,aa a)],[ab (af b) 5,ab [.int .i64 (m6 .i64 (s+1))] 3]⟩:ai)
abbrev OE:=λb (n:Nat) (a z s:Int)=>(⟨[(8,aa a),(9,aa z)],[ab (af b) 5,ab [aa s] 3]⟩:ai)
abbrev aab:=λb (n:Nat) (a z s:Int)=>(⟨[(0,aq 0 n),(1,aa a),(2,aa z),(3,ap 1)],[ab (af b) 5,ab [aa s] 3]⟩:ai)
theorem o2(b:ByteArray)(n:Nat)(a z s:Int)(hn:n<=b.size)(h0:0<=a)(h1:a<n)(h2:0<=z)(h3:z<n)(h4:m6 .i64 (s+1)=s+1){Q:aU}(n0:(cP Um (af b) (0+m5 z*1)))(n1:(cP Um (af b) (0+m5 a*1)))(aY:DC (af b) ag)(l3:(decide (av (af b) (0+m5 z*1)<av (af b) (0+m5 a*1)))->Q .ret (OD b n a z s))(l4:(decide (av (af b) (0+m5 z*1)<av (af b) (0+m5 a*1)))=false->Q .ret (OE b n a z s)):ao fK 28 2 Z6 (aab b n a z s) Q:=
 aV bp 1000 (aB [0,1,1,0,1,0,1,1,0,1,4,0,0,0] (.fork 4 (.leaf [8,9] [0,1] [0]) (.leaf [8,9] [0,1] [0]))) (λu=>by kernel_rfl) (mN (decide_eq_true (by omega):(decide (0<=z))=true) (mN (show(arF (m5 z) n)=true by simp at hn h0 h1 h2 h3 h4⊢ <;>omega) (mN n0 (mN (decide_eq_true (by omega):(decide (0<=a))=true) (mN (show(arF (m5 a) n)=true by simp at hn h0 h1 h2 h3 h4⊢ <;>omega) (mN n1 (Z8 4 (show(av (af b) (0+m5 z*1) != av (af b) (0+m5 z*1))=false by simp) (mF (c:=decide (av (af b) (0+m5 z*1)<av (af b) (0+m5 a*1))) (λh0=>(mN (aE b) (mR (l3 h0)))) (λh0=>(mN (aE b) (mR (l4 h0))))))))))))
abbrev HC(x:Int):ai:=⟨[(2,.int .u64 (m6 ar9 (↑(atj (asz 64 (m6 ar9 (↑(atj (asz 64 (m6 ar9 (↑(atj (asz 64 x^^^asz 64 (m6 ar9 (x*8192)))):Int))^^^asz 64 (asJ (m6 ar9 (↑(atj (asz 64 x^^^asz 64 (m6 ar9 (x*8192)))):Int)) 128))):Int))^^^asz 64 (m6 ar9 (m6 ar9 (↑(atj (asz 64 (m6 ar9 (↑(atj (asz 64 x^^^asz 64 (m6 ar9 (x*8192)))):Int))^^^asz 64 (asJ (m6 ar9 (↑(atj (asz 64 x^^^asz 64 (m6 ar9 (x*8192)))):Int)) 128))):Int)*131072)))):Int)))],[ab ([.int .u64 (m6 ar9 (↑(atj (asz 64 (m6 ar9 (↑(atj (asz 64 (m6 ar9 (↑(atj (asz 64 x^^^asz 64 (m6 ar9 (x*8192)))):Int))^^^asz 64 (asJ (m6 ar9 (↑(atj (asz 64 x^^^asz 64 (m6 ar9 (x*8192)))):Int)) 128))):Int))^^^asz 64 (m6 ar9 (m6 ar9 (↑(atj (asz 64 (m6 ar9 (↑(atj (asz 64 x^^^asz 64 (m6 ar9 (x*8192)))):Int))^^^asz 64 (asJ (m6 ar9 (↑(atj (asz 64 x^^^asz 64 (m6 ar9 (x*8192)))):Int)) 128))):Int)*131072)))):Int))]) 194]⟩
abbrev aac(x:Int):ai:=⟨[(0,ap 0)],[ab [.int .u64 x] 194]⟩
theorem xs(x:Int){Q:aU}(l0:Q .ret (HC x)):ao fK 33 1 Z7 (aac x) Q:=
 aV bp 1000 (.leaf [2] [0] []) (λu=>by kernel_rfl) (mR l0)
end
open Tree renaming aQ->mN,dE->mF,fj->mL
open Tree renaming aQ->mN,dE->mF,fj->mL
def HI(a l m:Nat):Nat->Nat->UInt64×Array UInt8->UInt64×Array UInt8
 |0,_,st=>st
 |k+1,i,st=>HI a l m k (i+1) (Sort.breakStep a l m st i)
structure aqn(d:Array UInt8)(n a l i0:Nat)(s:(UInt64×Array UInt8)×Nat):Prop where
 h1:s.1.2.size=n
 h2:i0<=s.2
 h3:s.2<=i0+3
 h4:HI a l (2^asR l) (i0+3-s.2) s.2 s.1=HI a l (2^asR l) 3 i0 (UInt64.ofNat l,d)
open Tree renaming aQ->mN,dE->mF,fj->mL
open Tree renaming aQ->mN,dE->mF,fj->mL
noncomputable def tf(d:Array UInt8):Bool:=@decide (d.toList.Nodup) (arT _)
theorem OM{d:Array UInt8}:tf d=true↔d.toList.Nodup:=by unfold tf;exact @decide_eq_true_iff _ (arT _)
theorem OO{d:Array UInt8}:d.toList.Nodup↔∀i j,i<j->j<d.size->d[i]! ≠d[j]! :=by
 unfold List.Nodup
 rw[List.pairwise_iff_getElem]
 constructor
 ·intro h i j iX hj
  have:=h i j (by simpa using ax0 iX hj) (by simpa using hj) iX
  rw[getElem!_pos d i (ax0 iX hj),getElem!_pos d j hj]
  simpa using this
 ·intro h i j hi hj iX
  have fH:i<d.size:=by simpa using hi
  have ls:j<d.size:=by simpa using hj
  have:=h i j iX ls
  rw[getElem!_pos d i fH,getElem!_pos d j ls]at this
  simpa using this
structure aaz where
 d:Array UInt8
 a:Nat
 z:Nat
 q:Nat
 x:Bool
 y:Bool
structure aqo(d:Array UInt8)(n a z q N:Nat)(s:aaz):Prop where
 h1:s.d.size=n
 h2:s.z<=n
 h3:s.a<=s.z
 h4:s.q<=100
 h5:s.z-s.a<=N
 h6:Go.Sort.Below cW s.a s.z s.d
 h7:ayx cW s.d s.a s.z s.q s.x s.y=ayx cW d a z q true true
noncomputable section
theorem aaA{l:List Dy}(h:l.all ag=true):∀n,(fA l n).all ag=true
 |0=>rfl
 |n+1=>fO h (aaA h n)
def BZ:List ar3:=a7 (dI fK 83)
def B0:List ar3:=a7 (dI fK 84)
open Tree renaming aQ->mN,dE->mF,fj->mL,fY->mQ,dN->mR,gH->mE
abbrev B2:List ar3:=(a7 (inner (a7 (inner (B0.drop 2)))))
abbrev HJ:List ar3:=(a7 (inner (B2.drop 2)))
abbrev aaB:List ar3:=(a7 (inner (a7 (inner (BZ.drop 2)))))
abbrev aaC:List ar3:=(a7 (inner (a7 (inner (HJ.drop 1)))))
abbrev jc:=λb (ro:Bool)=>([.cells (af b) 5 ro]:List ak)
abbrev aaD:=λb (n:Nat) (v:Int) (ro:Bool)=>(⟨[(0,aq 0 n),(1,.int .u8 v)],jc b ro⟩:ai)
abbrev OP(b:ByteArray)(n:Nat)(ro:Bool):ai:=⟨[],jc b ro⟩
abbrev aaE:=λb (n:Nat) (v:Int) (ro:Bool)=>(⟨[(0,aq 0 n),(1,.int .u8 v),(5,aa 0)],jc b ro⟩:ai)
theorem aaF(b:ByteArray)(n:Nat)(v:Int)(ro:Bool)(hn:n<=b.size){Q:aU}(l1:ao fK 18 1 (BZ.drop 2) (aaE b n v ro) Q):ao fK 18 1 BZ (aaD b n v ro) Q:=
 aV bp 2 (.leaf [0,1,5] [0] [0]) (λu=>by kernel_rfl) (mN (aE b) (mQ l1))
abbrev OQ(b:ByteArray)(n:Nat)(j:Int)(v:Int)(ro:Bool):ai:=⟨[(4,.bool true)],jc b ro⟩
theorem aaG(b)(n:Nat)(j v:Int)(ro:Bool){Q:bu}(hq:Q (.ret (.bool true)) (jc b ro)):aG fK 83 18 1 Q .ret (OQ b n j v ro):=aG.ret (vs:=[.bool true]) (l:=[]) (bs:=[0]) (pl:=[0]) (q:=[af b]) (λu=>by kernel_rfl) (by kernel_rfl) (aD (aE b) be) hq
abbrev OS:=λb (n:Nat) (j v:Int) (ro:Bool)=>(⟨[(0,aq 0 n),(1,.int .u8 v),(5,.int .i64 (m6 .i64 (j+1)))],jc b ro⟩:ai)
abbrev aaH(b:ByteArray)(n:Nat)(j:Int)(v:Int)(ro:Bool):ai:=⟨[],jc b ro⟩
abbrev aaI:=λb (n:Nat) (j v:Int) (ro:Bool)=>(⟨[(0,aq 0 n),(1,.int .u8 v),(5,aa j)],jc b ro⟩:ai)
theorem aaJ(b:ByteArray)(n:Nat)(j v:Int)(ro:Bool)(hn:n<=b.size)(h0:0<=j){Q:aU}(n0:(decide (j<(↑n:Int)))->(cP Um (af b) (0+m5 j*1))=true)(l2:(decide (j<(↑n:Int)))->(av (af b) (0+m5 j*1)==v)->Q .ret (OQ b n j v ro))(l3:(decide (j<(↑n:Int)))->(av (af b) (0+m5 j*1)==v)=false->Q .normal (OS b n j v ro))(l4:(decide (j<(↑n:Int)))=false->Q (.exit 0) (aaH b n j v ro)):ao fK 18 1 aaB (aaI b n j v ro) Q:=
 aV bp 1000 (.fork 1 (aB [0,1,1,0,1] (.fork 0 (.leaf [4] [0] [0]) (.leaf [0,1,5] [0] [0]))) (.leaf [] [0] [0])) (λu=>by kernel_rfl) (mF (c:=decide (j<(↑n:Int))) (λh0=>(mN (decide_eq_true (by omega):(decide (0<=j))=true) (mN (show(arF (m5 j) n)=true by simp at hn h0 h0⊢ <;>omega) (mN (n0 h0) (mF (c:=av (af b) (0+m5 j*1)==v) (λh1=>(mN (aE b) (mR (l2 h0 h1)))) (λh1=>(mN (aE b) (mQ (ao.done (by kernel_rfl) (l3 h0 h1)))))))))) (λh0=>(mN (aE b) (mE 0 (l4 h0)))))
abbrev OT(b:ByteArray)(n:Nat)(ro:Bool):ai:=⟨[(4,.bool false)],jc b ro⟩
theorem aaK(b)(n:Nat)(ro:Bool){Q:bu}(hq:Q (.ret (.bool false)) (jc b ro)):aG fK 83 18 1 Q .ret (OT b n ro):=aG.ret (vs:=[.bool false]) (l:=[]) (bs:=[0]) (pl:=[0]) (q:=[af b]) (λu=>by kernel_rfl) (by kernel_rfl) (aD (aE b) be) hq
theorem aaL(b:ByteArray)(n:Nat)(ro:Bool)(hn:n<=b.size){Q:aU}(l1:Q .ret (OT b n ro)):ao fK 18 1 (BZ.drop 3) (OP b n ro) Q:=
 aV bp 1000 (.leaf [4] [0] [0]) (λu=>by kernel_rfl) (mN (aE b) (mR l1))
abbrev aaM:=λb (n:Nat) (ro:Bool)=>(⟨[(0,aq 0 n),(3,aa 0)],jc b ro⟩:ai)
abbrev aaN:=λb (n:Nat) (ro:Bool)=>(⟨[(0,aq 0 n)],jc b ro⟩:ai)
theorem aaO(b:ByteArray)(n:Nat)(ro:Bool)(hn:n<=b.size){Q:aU}(l1:ao fK 25 1 (B0.drop 2) (aaM b n ro) Q):ao fK 25 1 B0 (aaN b n ro) Q:=
 aV bp 2 (.leaf [0,3] [0] [0]) (λu=>by kernel_rfl) (mN (aE b) (mQ l1))
abbrev aaP:=λb (n:Nat) (i:Int) (ro:Bool)=>(⟨[(0,aq 0 n),(3,aa i)],jc b ro⟩:ai)
abbrev aaQ(b:ByteArray)(n:Nat)(i:Int)(ro:Bool):ai:=⟨[],jc b ro⟩
abbrev HK:=λb (n:Nat) (i:Int) (ro:Bool)=>(⟨[(0,aq 0 n),(3,aa i)],jc b ro⟩:ai)
theorem aaR(b:ByteArray)(n:Nat)(i:Int)(ro:Bool)(hn:n<=b.size){Q:aU}(l1:(decide (i<(↑n:Int)))->ao fK 25 1 (B2.drop 2) (aaP b n i ro) Q)(l2:(decide (i<(↑n:Int)))=false->Q (.exit 0) (aaQ b n i ro)):ao fK 25 1 B2 (HK b n i ro) Q:=
 aV bp 2 (.fork 1 (.leaf [0,3] [0] [0]) (.leaf [] [0] [0])) (λu=>by kernel_rfl) (mF (c:=decide (i<(↑n:Int))) (λh0=>(mN (aE b) (mQ (l1 h0)))) (λh0=>(mN (aE b) (mE 0 (l2 h0)))))
abbrev aaS:=λb (n:Nat) (i:Int) (ro:Bool)=>(⟨[(0,aq 0 n),(3,aa i),(4,aa 0)],jc b ro⟩:ai)
theorem aaT(b:ByteArray)(n:Nat)(i:Int)(ro:Bool)(hn:n<=b.size){Q:aU}(l1:ao fK 25 1 (HJ.drop 1) (aaS b n i ro) Q):ao fK 25 1 HJ (HK b n i ro) Q:=
 aV bp 1 (.leaf [0,3,4] [0] [0]) (λu=>by kernel_rfl) (mN (aE b) (mQ l1))
abbrev OU(b:ByteArray)(n:Nat)(i k:Int)(ro:Bool):ai:=⟨[(2,.bool false)],jc b ro⟩
theorem aaU(b)(n:Nat)(i k:Int)(ro:Bool){Q:bu}(hq:Q (.ret (.bool false)) (jc b ro)):aG fK 84 25 1 Q .ret (OU b n i k ro):=aG.ret (vs:=[.bool false]) (l:=[]) (bs:=[0]) (pl:=[0]) (q:=[af b]) (λu=>by kernel_rfl) (by kernel_rfl) (aD (aE b) be) hq
abbrev OV:=λb (n:Nat) (i k:Int) (ro:Bool)=>(⟨[(0,aq 0 n),(3,aa i),(4,.int .i64 (m6 .i64 (k+1)))],jc b ro⟩:ai)
abbrev aaV:=λb (n:Nat) (i k:Int) (ro:Bool)=>(⟨[(0,aq 0 n),(3,aa i)],jc b ro⟩:ai)
abbrev aaW:=λb (n:Nat) (i k:Int) (ro:Bool)=>(⟨[(0,aq 0 n),(3,aa i),(4,aa k)],jc b ro⟩:ai)
theorem aaX(b:ByteArray)(n:Nat)(i k:Int)(ro:Bool)(hn:n<=b.size)(h0:0<=k)(h1:0<=i)(h2:i<n){Q:aU}(n0:(decide (k<i))->(cP Um (af b) (0+m5 k*1)))(n1:(decide (k<i))->(cP Um (af b) (0+m5 i*1)))(l3:(decide (k<i))->(av (af b) (0+m5 k*1)==av (af b) (0+m5 i*1))->Q .ret (OU b n i k ro))(l4:(decide (k<i))->(av (af b) (0+m5 k*1)==av (af b) (0+m5 i*1))=false->Q .normal (OV b n i k ro))(l5:(decide (k<i))=false->Q (.exit 2) (aaV b n i k ro)):ao fK 25 1 aaC (aaW b n i k ro) Q:=
 aV bp 1000 (.fork 0 (aB [0,1,1,0,1,0,1,1,0,1] (.fork 0 (.leaf [2] [0] [0]) (.leaf [0,3,4] [0] [0]))) (.leaf [0,3] [0] [0])) (λu=>by kernel_rfl) (mF (c:=decide (k<i)) (λh0=>(mN (decide_eq_true (by omega):(decide (0<=k))=true) (mN (show(arF (m5 k) n)=true by simp at hn h0 h1 h2 h0⊢ <;>omega) (mN (n0 h0) (mN (decide_eq_true (by omega):(decide (0<=i))=true) (mN (show(arF (m5 i) n)=true by simp at hn h0 h1 h2 h0⊢ <;>omega) (mN (n1 h0) (mF (c:=av (af b) (0+m5 k*1)==av (af b) (0+m5 i*1)) (λh1=>(mN (aE b) (mR (l3 h0 h1)))) (λh1=>(mN (aE b) (mQ (ao.done (by kernel_rfl) (l4 h0 h1))))))))))))) (λh0=>(mN (aE b) (mE 2 (l5 h0)))))
abbrev OW:=λb (n:Nat) (i:Int) (ro:Bool)=>(⟨[(0,aq 0 n),(3,.int .i64 (m6 .i64 (i+1)))],jc b ro⟩:ai)
theorem aaY(b:ByteArray)(n:Nat)(i:Int)(ro:Bool)(hn:n<=b.size){Q:aU}(l1:Q .normal (OW b n i ro)):ao fK 25 1 (B2.drop 3) (HK b n i ro) Q:=
 aV bp 1000 (.leaf [0,3] [0] [0]) (λu=>by kernel_rfl) (mN (aE b) (mQ (ao.done (by kernel_rfl) l1)))
abbrev OX(b:ByteArray)(n:Nat)(ro:Bool):ai:=⟨[(2,.bool true)],jc b ro⟩
theorem aaZ(b)(n:Nat)(ro:Bool){Q:bu}(hq:Q (.ret (.bool true)) (jc b ro)):aG fK 84 25 1 Q .ret (OX b n ro):=aG.ret (vs:=[.bool true]) (l:=[]) (bs:=[0]) (pl:=[0]) (q:=[af b]) (λu=>by kernel_rfl) (by kernel_rfl) (aD (aE b) be) hq
theorem aa0(b:ByteArray)(n:Nat)(ro:Bool)(hn:n<=b.size){Q:aU}(l1:Q .ret (OX b n ro)):ao fK 25 1 (B0.drop 3) (OP b n ro) Q:=
 aV bp 1000 (.leaf [2] [0] [0]) (λu=>by kernel_rfl) (mN (aE b) (mR l1))
end
noncomputable def tg(d:Array UInt8)(v:Int):Bool:=@decide (∃j,j<d.size/\(d[j]!.toNat:Int)=v) (arT _)
theorem OY{d:Array UInt8}{v:Int}:tg d v=true↔∃j,j<d.size/\(d[j]!.toNat:Int)=v:=by unfold tg;exact @decide_eq_true_iff _ (arT _)
theorem aa1{d:Array UInt8}{v:Int}(h:∀j,j<d.size->(d[j]!.toNat:Int)≠v):tg d v=false:=by
 cases g:tg d v with
 |false=>rfl
 |true=>obtain⟨j,h1,h2⟩:=OY.1 g;exact absurd h2 (h j h1)
def B3(k0:Nat)(d:Array UInt8)(x k:Nat):Nat×Array UInt8:=
 if k0+x<d.size then(if d[k0+x]! ≠d[k0+x-1]!then B3 k0 (d.setIfInBounds k d[k0+x]!) (x+1) (k+1)else B3 k0 d (x+1) k)else(k,d)
termination_by d.size-(k0+x)
decreasing_by all_goals first|(simp only[Array.size_setIfInBounds];omega)|omega
abbrev uW(d:Array UInt8)(ro:Bool):ak:=.cells (af (gy d)) 5 ro
theorem aa2(d:Array UInt8)(n:Nat)(v:Int)(hd:d.size=n)(hn:n<=10000)(ro:Bool):
 aF fK 83 [wQ n,.int .u8 v] [uW d ro] λr o=>r=.ret (.bool (tg d v))/\o=[uW d ro]:=by
 have cc:n<=(gy d).size:=by rw[Hz];omega
 refine aF.dv (n:=cp fK 83) (by kernel_rfl) ?_
 apply aaF (gy d) n v ro cc
 ·
  refine ao.eX 2 0 (by kernel_rfl) ?_
  refine ao.gu (λj:Nat=>⟨[(0,wQ n),(1,.int .u8 v),(5,iA j)],[uW d ro]⟩) (λj=>n-j) (λj=>j<=n/\∀i,i<j->(d[i]!.toNat:Int)≠v) 0 (by kernel_rfl) ⟨asb _,λi h=>by omega⟩ ?_
  rintro j ⟨h1,h2⟩
  apply aaJ (gy d) n (j:Nat) v ro cc (by omega)
  case n0=>intro g;have g:=of_decide_eq_true g;rw[mK];exact wP (by omega)
  case l2=>
   intro g g2
   have g:=of_decide_eq_true g
   rw[mK,te (by omega)]at g2
   with_reducible (repeat first|refine QL.ret ?_|refine QL.exit ?_|refine QB.ret ?_|refine QB.cw ?_|refine QB.normal ?_|refine QB.cJ (by rfl) ?_)
   refine aaG (gy d) n (j:Nat) v ro ?_
   rw[OY.2 ⟨j,by omega,by simpa using g2⟩]
   exact⟨rfl,rfl⟩
  case l3=>
   intro g g2
   have g:=of_decide_eq_true g
   rw[mK,te (by omega)]at g2
   with_reducible (repeat first|refine QL.ret ?_|refine QL.exit ?_|refine QB.ret ?_|refine QB.cw ?_|refine QB.normal ?_|refine QB.cJ (by rfl) ?_)
   refine QL.to (j+1) ⟨by omega,λi hi=>?_⟩ (by omega) (by unfold OS;rw[BT (by omega)])
   by_cases e:i=j
   ·subst e;simpa using g2
   ·exact h2 i (by omega)
  case l4=>
   intro g
   have g:=of_decide_eq_false g
   with_reducible (repeat first|refine QL.ret ?_|refine QL.exit ?_|refine QB.ret ?_|refine QB.cw ?_|refine QB.normal ?_|refine QB.cJ (by rfl) ?_)
   apply aaL (gy d) n ro cc
   ·
    with_reducible (repeat first|refine QL.ret ?_|refine QL.exit ?_|refine QB.ret ?_|refine QB.cw ?_|refine QB.normal ?_|refine QB.cJ (by rfl) ?_)
    refine aaK (gy d) n ro ?_
    rw[aa1 λi hi=>h2 i (by omega)]
    exact⟨rfl,rfl⟩
theorem aa3{d:Array UInt8}{i j:Nat}(h:i<j)(hj:j<d.size)(e:d[i]! =d[j]!):tf d=false:=by
 cases g:tf d with
 |false=>rfl
 |true=>exact absurd e (OO.1 (OM.1 g) i j h hj)
theorem aa4(d:Array UInt8)(n:Nat)(hd:d.size=n)(hn:n<=10000)(ro:Bool):
 aF fK 84 [wQ n] [uW d ro] λr o=>r=.ret (.bool (tf d))/\o=[uW d ro]:=by
 have cc:n<=(gy d).size:=by rw[Hz];omega
 refine aF.dv (n:=cp fK 84) (by kernel_rfl) ?_
 apply aaO (gy d) n ro cc
 ·
  refine ao.eX 2 0 (by kernel_rfl) ?_
  refine ao.gu (λj:Nat=>⟨[(0,wQ n),(3,iA j)],[uW d ro]⟩) (λj=>n-j) (λj=>j<=n/\∀p q,p<q->q<j->d[p]! ≠d[q]!) 0 (by kernel_rfl) ⟨asb _,λp q h h2=>by omega⟩ ?_
  rintro i ⟨h1,h2⟩
  apply aaR (gy d) n (i:Nat) ro cc
  case l2=>
   intro g
   have g:=of_decide_eq_false g
   with_reducible (repeat first|refine QL.ret ?_|refine QL.exit ?_|refine QB.ret ?_|refine QB.cw ?_|refine QB.normal ?_|refine QB.cJ (by rfl) ?_)
   apply aa0 (gy d) n ro cc
   ·
    with_reducible (repeat first|refine QL.ret ?_|refine QL.exit ?_|refine QB.ret ?_|refine QB.cw ?_|refine QB.normal ?_|refine QB.cJ (by rfl) ?_)
    refine aaZ (gy d) n ro ?_
    rw[OM.2 (OO.2 λp q aa5 hq=>h2 p q aa5 (by omega))]
    exact⟨rfl,rfl⟩
  case l1=>
   intro g
   have g:=of_decide_eq_true g
   refine ao.eX 2 1 (by kernel_rfl) ?_
   apply aaT (gy d) n (i:Nat) ro cc
   ·
    refine ao.eX 1 2 (by kernel_rfl) ?_
    refine ao.gu (λk:Nat=>⟨[(0,wQ n),(3,iA i),(4,iA k)],[uW d ro]⟩) (λk=>i-k) (λk=>k<=i/\∀p,p<k->d[p]! ≠d[i]!) 0 (by kernel_rfl) ⟨asb _,λp h=>by omega⟩ ?_
    rintro k ⟨h3,h4⟩
    apply aaX (gy d) n (i:Nat) (k:Nat) ro cc (by omega) (by omega) (by omega)
    case n0=>intro g;have g:=of_decide_eq_true g;rw[mK];exact wP (by omega)
    case n1=>intro g;have g:=of_decide_eq_true g;rw[mK];exact wP (by omega)
    case l3=>
     intro g g2
     have g:=of_decide_eq_true g
     rw[mK,mK,te (by omega),te (by omega)]at g2
     have g3:=beq_iff_eq.1 g2
     have g2:d[k]! =d[i]! :=UInt8.toNat_inj.1 (by omega)
     with_reducible (repeat first|refine QL.ret ?_|refine QL.exit ?_|refine QB.ret ?_|refine QB.cw ?_|refine QB.normal ?_|refine QB.cJ (by rfl) ?_)
     refine aaU (gy d) n (i:Nat) (k:Nat) ro ?_
     rw[aa3 (show k<i by omega) (by omega) g2]
     exact⟨rfl,rfl⟩
    case l4=>
     intro g g2
     have g:=of_decide_eq_true g
     rw[mK,mK,te (by omega),te (by omega)]at g2
     with_reducible (repeat first|refine QL.ret ?_|refine QL.exit ?_|refine QB.ret ?_|refine QB.cw ?_|refine QB.normal ?_|refine QB.cJ (by rfl) ?_)
     refine QL.to (k+1) ⟨by omega,λp hp=>?_⟩ (by omega) (by unfold OV;rw[BT (by omega)])
     by_cases e:p=k
     ·subst e;intro e;rw[e]at g2;simp at g2
     ·exact h4 p (by omega)
    case l5=>
     intro g
     have g:=of_decide_eq_false g
     with_reducible (repeat first|refine QL.ret ?_|refine QL.exit ?_|refine QB.ret ?_|refine QB.cw ?_|refine QB.normal ?_|refine QB.cJ (by rfl) ?_)
     refine ao.done (by kernel_rfl) ?_
     with_reducible (repeat first|refine QL.ret ?_|refine QL.exit ?_|refine QB.ret ?_|refine QB.cw ?_|refine QB.normal ?_|refine QB.cJ (by rfl) ?_)
     apply aaY (gy d) n (i:Nat) ro cc
     ·
      refine QL.to (i+1) ⟨by omega,λp q hp hq=>?_⟩ (by omega) (by unfold OW;rw[BT (by omega)])
      by_cases e:q=i
      ·subst e;exact h4 p (by omega)
      ·exact h2 p q hp (by omega)
structure aqp(n k0:Nat)(d:Array UInt8)(s:Array UInt8×Nat×Nat):Prop where
 h1:s.1.size=n
 h2:1<=s.2.1
 h3:s.2.1<=n-k0
 h4:s.2.2+1<=k0+s.2.1
 h5:B3 k0 s.1 s.2.1 s.2.2=B3 k0 d 1 k0
noncomputable def HL(a:List Dy)(o:List ak):Option (Bool×bD×List ak):=match a,o with
 | [.slice (some ⟨0,0,none⟩) n m,.int .u8 v],[.cells l el ro]=>some (nt l (m=n/\el=5/\l.length=n/\n<=10000),.ret (.bool (tg (eG l) v)),[.cells l el ro])
 |_,_=>none
theorem aa6:bB fK 83 (Sum.of HL):=bB.of λa o r o' hg=>by
 unfold HL at hg
 split at hg
 ·rename_i n m v l el ro
  simp only[DE,KN,BU]at hg
  obtain⟨⟨⟨d,rfl⟩,rfl,rfl,hl,hn⟩,rfl,rfl⟩:=hg
  have hd:d.size=m:=by rw[<-hl,mC];rfl
  rw[HA]
  exact aa2 d m v hd hn ro
 ·cases hg
noncomputable def HM(a:List Dy)(o:List ak):Option (Bool×bD×List ak):=match a,o with
 | [.slice (some ⟨0,0,none⟩) n m],[.cells l el ro]=>some (nt l (m=n/\el=5/\l.length=n/\n<=10000),.ret (.bool (tf (eG l))),[.cells l el ro])
 |_,_=>none
theorem aa7:bB fK 84 (Sum.of HM):=bB.of λa o r o' hg=>by
 unfold HM at hg
 split at hg
 ·rename_i n m l el ro
  simp only[DE,KN,BU]at hg
  obtain⟨⟨⟨d,rfl⟩,rfl,rfl,hl,hn⟩,rfl,rfl⟩:=hg
  have hd:d.size=m:=by rw[<-hl,mC];rfl
  rw[HA]
  exact aa4 d m hd hn ro
 ·cases hg
noncomputable section
def aa8:List ar3:=a7 (dI fK 105)
end
def OZ:Dy:=.agg #[.int .i64 (0),.int .i64 (0),.int .i64 (0),.int .i64 (0),.int .i64 (0),.int .i64 (0),.int .i64 (0),.int .i64 (0),.int .i64 (15),.int .i64 (0),.int .i64 (0),.int .i64 (1),.int .i64 (0),.int .i64 (0),.int .i64 (0),.int .i64 (15),.int .i64 (0),.int .i64 (1),.int .i64 (0),.int .i64 (0),.int .i64 (0),.int .i64 (0),.int .i64 (1000000000),.int .i64 (0),.int .i64 (1),.int .i64 (1),.int .i64 (64),.int .i64 (0),.int .i64 (0),.int .i64 (9223372036854775807),.int .i64 (0),.int .i64 (1),.int .i64 (1),.int .i64 (64),.int .i64 (64),.int .i64 (0),.int .i64 (1),.int .i64 (1),.int .i64 (1),.int .i64 (1),.int .i64 (64),.int .i64 (0),.int .i64 (0),.int .i64 (0),.int .i64 (2),.int .i64 (1),.int .i64 (1),.int .i64 (0),.int .i64 (0),.int .i64 (1),.int .i64 (65535),.int .i64 (3),.int .i64 (1),.int .i64 (1),.int .i64 (64),.int .i64 (0),.int .i64 (0),.int .i64 (1),.int .i64 (0),.int .i64 (1),.int .i64 (1),.int .i64 (128),.int .i64 (0),.int .i64 (0),.int .i64 (0),.int .i64 (0),.int .i64 (1),.int .i64 (1),.int .i64 (0),.int .i64 (0),.int .i64 (0),.int .i64 (1000000000),.int .i64 (0),.int .i64 (1),.int .i64 (1),.int .i64 (64),.int .i64 (0),.int .i64 (0),.int .i64 (1),.int .i64 (0),.int .i64 (1),.int .i64 (1),.int .i64 (320),.int .i64 (0),.int .i64 (1),.int .i64 (4),.int .i64 (0),.int .i64 (-1),.int .i64 (1),.int .i64 (0),.int .i64 (0),.int .i64 (1),.int .i64 (4),.int .i64 (3),.int .i64 (-1),.int .i64 (1),.int .i64 (0),.int .i64 (96),.int .i64 (1),.int .i64 (9223372036854775807),.int .i64 (3),.int .i64 (2),.int .i64 (1),.int .i64 (192),.int .i64 (128),.int .i64 (1),.int .i64 (4),.int .i64 (0),.int .i64 (1),.int .i64 (-1),.int .i64 (0),.int .i64 (0),.int .i64 (1),.int .i64 (4),.int .i64 (0),.int .i64 (1),.int .i64 (-1),.int .i64 (64),.int .i64 (0)]
def HN(a:List Dy)(o:List ak):Option (Bool×bD×List ak):=match a,o with
 | [],[]=>some (true,.ret OZ,[])
 |_,_=>none
noncomputable section
def B4:List ar3:=a7 (dI fK 103)
open Tree renaming aQ->mN,dE->mF,fj->mL
end
theorem aF.O0{P:Program}{f:arY}{args:List Dy}{objs:List ak}{Q Q':bD->List ak->Prop}(el:TypeId){s:Nat}(hz:bZ P el=some s)(hk:objs.length<262144)(h:aF P f args objs Q)
 (hq:∀r o,Q r o->objs.length<=o.length/\o.length<262144/\(Q' r o\/(r=.ret (.slice none 0 0)/\Q' (.ret (.slice (some ⟨o.length,0,none⟩) 0 0)) (o++[.cells [] el false])))):aF P f args objs Q':=by
 intro B w₀ ρ w args' h1 h2 h3 h4
 refine(h B w₀ ρ w args' h1 h2 h3 h4).mono ?_
 rintro e w' ⟨r,o,ρ',a,b,c,d,e1,e2⟩
 obtain⟨hl,jx,hq⟩:=hq r o a
 rcases hq with hq|⟨rfl,hq⟩
 ·exact⟨r,o,ρ',hq,b,c,d,e1,e2⟩
 ·obtain⟨ρ1,f1,f2,f3,r',f4⟩:=d.Ha hz jx
  refine⟨_,_,ρ1,hq,?_,λr=>?_,f2,by simp;omega,λx hx=>by rw[f3 x (by omega),e2 x hx]⟩
  ·cases e with
   |returned v=>have hv:VR ρ' (.slice none 0 0) v:=b;cases hv with
    |bN _ _=>exact VR.eJ _ _
   |panicked ch=>cases b
   |outgrown=>cases b
  ·obtain⟨y,g1,g2⟩:=c r
   exact⟨y,g1,f1 _ _ g2⟩
noncomputable section
open Tree renaming aQ->mN,dE->mF,fj->mL,fY->mQ,dN->mR,gH->mE
abbrev O1:List ar3:=(B4.drop 2)
abbrev O2:=λc (o n m:Nat)=>(⟨[(2,aq 1 (0+n))],[ab (af c) 5,ab ([]++arP (n*1) (as3 o (af c))) 5]⟩:ai)
theorem aa9(c)(o n m:Nat){Q:bu}(aY:DC (af c) ag)(hq:Q (.ret (aq 1 (0+n))) [ab (af c) 5,ab ([]++arP (n*1) (as3 o (af c))) 5]):aG fK 103 8 1 Q .ret (O2 c o n m):=aG.ret (vs:=[aq 1 (0+n)]) (l:=[]) (bs:=[0,1]) (pl:=[0,1]) (q:=[af c,[]++arP (n*1) (as3 o (af c))]) (λu=>by kernel_rfl) (by kernel_rfl) (aD aY (aD (by simp) be)) hq
abbrev uX:=λc=>([ab (af c) 5]:List ak)
abbrev aba:=λc (o n m:Nat)=>(⟨[(0,cA 0 o n m)],uX c⟩:ai)
theorem abb(c:ByteArray)(o n m:Nat)(h1:0<m)(h2:n<=m)(h3:o+m=c.size)(h4:c.size<=1000000){Q:aU}(n0:(DC (arP (n*1) (as3 o (af c))) asr))(aY:DC (af c) ag)(l2:Q .ret (O2 c o n m)):ao fK 8 1 B4 (aba c o n m) Q:=
 aV bp 1000 (aB [0,1,2,1,1,1,1] (.leaf [2] [0,2] [0,2])) (λu=>by kernel_rfl) (mN (show(arF 0 m)=true by simp at h1 h2 h3 h4⊢ <;>omega) (mN (show(arM (o+n*1) (nG (af c)))=true by simp at h1 h2 h3 h4⊢ <;>omega) (mN (show(arM (0+n) 1000000)=true by simp at h1 h2 h3 h4⊢ <;>omega) (mN n0 (mN (show(Nat.beq (nG (arP (n*1) (as3 o (af c)))) (n*1))=true by simp at h1 h2 h3 h4⊢ <;>omega) (mN (aE c) (mN (show(DC ([]++arP (n*1) (as3 o (af c))) ag)=true by simp) (mR l2))))))))
abbrev abc:=λc (o:Nat)=>(⟨[(0,cA 0 o 0 0)],uX c⟩:ai)
abbrev abd:=λc (o:Nat)=>(⟨[(0,cA 0 o 0 0)],uX c⟩:ai)
theorem abe(c)(o:Nat){Q:aU}(l1:ao fK 8 1 (B4.drop 1) (abc c o) Q):ao fK 8 1 B4 (abd c o) Q:=
 aV bp 1 (.leaf [0] [0] [0]) (λu=>by kernel_rfl) (mN (aE c) (mQ l1))
abbrev O3:=λc (o:Nat)=>(⟨[(2,ci)],uX c⟩:ai)
theorem abf(c)(o:Nat){Q:bu}(hq:Q (.ret (ci)) (uX c)):aG fK 103 8 1 Q .ret (O3 c o):=aG.ret (vs:=[ci]) (l:=[]) (bs:=[0]) (pl:=[0]) (q:=[af c]) (λu=>by kernel_rfl) (by kernel_rfl) (aD (aE c) be) hq
abbrev abg:=λc (o:Nat)=>(⟨[(0,cA 0 o 0 0),(4,.bool true)],uX c⟩:ai)
theorem abh(c)(o:Nat){Q:aU}(aY:DC (af c) ag)(l1:Q .ret (O3 c o)):ao fK 8 1 O1 (abg c o) Q:=
 aV bp 1000 (.leaf [2] [0] [0]) (λu=>by kernel_rfl) (mN (aE c) (mR l1))
abbrev O4:=λc (o n:Nat)=>(⟨[(2,aq 1 (0+n))],[ab (af c) 5,ab ([]++arP (n*1) (as3 o (af c))) 5]⟩:ai)
theorem abi(c)(o n:Nat){Q:bu}(aY:DC (af c) ag)(hq:Q (.ret (aq 1 (0+n))) [ab (af c) 5,ab ([]++arP (n*1) (as3 o (af c))) 5]):aG fK 103 8 1 Q .ret (O4 c o n):=aG.ret (vs:=[aq 1 (0+n)]) (l:=[]) (bs:=[0,1]) (pl:=[0,1]) (q:=[af c,[]++arP (n*1) (as3 o (af c))]) (λu=>by kernel_rfl) (by kernel_rfl) (aD aY (aD (by simp) be)) hq
abbrev abj:=λc (o n:Nat)=>(⟨[(0,cA 0 o n n),(4,.bool false)],uX c⟩:ai)
theorem abk(c:ByteArray)(o n:Nat)(h1:o+n<=c.size)(h2:c.size<=1000000){Q:aU}(n0:(DC (arP (n*1) (as3 o (af c))) asr))(aY:DC (af c) ag)(l2:Q .ret (O4 c o n)):ao fK 8 1 O1 (abj c o n) Q:=
 aV bp 1000 (aB [2,1,1,1,1] (.leaf [2] [0,2] [0,2])) (λu=>by kernel_rfl) (mN (show(arM (o+n*1) (nG (af c)))=true by simp at h1 h2⊢ <;>omega) (mN (show(arM (0+n) 1000000)=true by simp at h1 h2⊢ <;>omega) (mN n0 (mN (show(Nat.beq (nG (arP (n*1) (as3 o (af c)))) (n*1))=true by simp at h1 h2⊢ <;>omega) (mN (aE c) (mN (show(DC ([]++arP (n*1) (as3 o (af c))) ag)=true by simp) (mR l2)))))))
end
theorem abl(c:ByteArray)(o:Nat)(ho:o<=c.size)(hc:c.size<=1000000):aF fK 103 [.slice (some ⟨0,o,none⟩) 0 0] [.cells (af c) 5 false] λr o'=>r=.ret (.slice (some ⟨1,0,none⟩) 0 0)/\o'=[.cells (af c) 5 false,.cells [] 5 false]:=by
 refine aF.O0 (Q:=λr o=>(r=.ret (.slice (some ⟨1,0,none⟩) 0 0)/\o=[.cells (af c) 5 false,.cells [] 5 false])\/(r=.ret (.slice none 0 0)/\o=[.cells (af c) 5 false])) 5 (s:=1) (by kernel_rfl) (by simp) ?_ ?_
 ·refine aF.dv (n:=cp fK 103) (by kernel_rfl) ?_
  apply abe c o
  refine ao.NW ⟨0,3,4,22⟩ 5 ⟨0,o,none⟩ (by kernel_rfl) (by kernel_rfl) (by rfl) (by rfl) ?_
  intro b
  cases b with
  |true=>exact abh c o (by simp) (abf c o (.inr ⟨rfl,rfl⟩))
  |false=>exact abk c o 0 ho hc (by rfl) (by simp) (abi c o 0 (by simp) (.inl ⟨rfl,by simp⟩))
 ·rintro r o (⟨rfl,rfl⟩|⟨rfl,rfl⟩)
  ·exact⟨by simp,by simp,.inl ⟨rfl,rfl⟩⟩
  ·exact⟨by simp,by simp,.inr ⟨rfl,rfl,rfl⟩⟩
theorem abm(c:ByteArray)(o n m:Nat)(h1:n<=m)(h2:o+m=c.size)(hc:c.size<=1000000):aF fK 103 [.slice (some ⟨0,o,none⟩) n m] [.cells (af c) 5 false] λr o'=>r=.ret (.slice (some ⟨1,0,none⟩) n n)/\o'=[.cells (af c) 5 false,.cells (((af c).drop o).take n) 5 false]:=by
 by_cases h0:m=0
 ·subst h0
  have:n=0:=by omega
  subst this
  refine(abl c o (by omega) hc).mono ?_
  rintro r o' ⟨rfl,rfl⟩
  exact⟨rfl,by rw[List.take_zero]⟩
 ·refine aF.dv (n:=cp fK 103) (by kernel_rfl) ?_
  apply abb c o n m (by omega) h1 h2 hc
  case n0=>exact uF (nq (BH (aE _) _) _)
  case aY=>simp
  case l2=>exact aa9 c o n m (by simp) ⟨by rw[Nat.zero_add],by rw[List.nil_append,atV]⟩
noncomputable def B5(l:List Dy)(o n m:Nat)(el:TypeId)(ro:Bool):Bool:=@decide (∃c:ByteArray,l=af c/\n<=m/\o+m=c.size/\c.size<=1000000/\el=5/\ro=false) (arT _)
noncomputable def HO(a:List Dy)(o:List ak):Option (Bool×bD×List ak):=match a,o with
 | [.slice (some ⟨0,p,none⟩) n m],[.cells l el ro]=>some (B5 l p n m el ro,.ret (.slice (some ⟨1,0,none⟩) n n),[.cells l el ro,.cells ((l.drop p).take n) el false])
 |_,_=>none
theorem abn:bB fK 103 (Sum.of HO):=bB.of λa o r o' hg=>by
 unfold HO at hg
 split at hg
 ·rename_i p n m l el ro
  simp only[DE,KN]at hg
  obtain⟨h1,rfl,rfl⟩:=hg
  obtain⟨c,rfl,h2,h3,h4,rfl,rfl⟩:=@of_decide_eq_true _ (arT _) h1
  exact abm c p n m h2 h3 h4
 ·cases hg
theorem abo{c:ByteArray}{o n m:Nat}(h1:n<=m)(h2:o+m=c.size)(h3:c.size<=1000000):B5 (af c) o n m 5 false=true:=by
 unfold B5
 exact(@decide_eq_true_iff _ (arT _)).2 ⟨c,rfl,h1,h2,h3,rfl,rfl⟩
theorem abp(c:ByteArray)(a b:Nat):af (c.extract a b)=((af c).drop a).take (b-a):=by
 unfold af
 rw[ByteArray.data_extract,Array.toList_extract,List.extract_eq_take_drop,List.map_take,List.map_drop]
theorem O5(a b:ByteArray):af (a++b)=af a++af b:=by
 unfold af
 rw[ByteArray.data_append,Array.toList_append,asm]
noncomputable section
def abq(sc:List (Int×Int))(x0:List Dy)(es:List arW)(ck nb:Nat)(f5:List Dy)(dm dc dr:Int):List (arY×Sum):=[(95,Sum.one (λ_ _=>some kZ) [aq 2 sc.length,.func (.func 96) #[] #[ap 6]] (gv sc x0 es ck nb f5 dm dc dr++[ab [ap 0] 35]) (.ret (aa (cI sc dc))) (gv sc x0 es ck nb f5 dm dc dr++[ab [ap 0] 35]))]
theorem abr(sc:List (Int×Int))(x0:List Dy)(es:List arW)(ck nb:Nat)(f5:List Dy)(dm dc dr:Int)(hs:(nG sc)<=1000000)(h0:x0.all ag=true)(h3:(bI kZ es).all ag=true)(h5:f5.all ag=true):dD fK (dM fK (dP (abq sc x0 es ck nb f5 dm dc dr)) 50 40):=
 dU dC mixed (ee (.cons (bB.one (ZZ sc x0 es ck nb f5 dm dc dr hs h0 h3 h5)) .nil)) 50 40
def abt(sc:List (Int×Int))(x0:List Dy)(es:List arW)(ck nb:Nat)(f5:List Dy)(dm dc dr:Int):List (arY×Sum):=[(95,Sum.one (λ_ _=>some kZ) [aq 2 sc.length,.func (.func 96) #[] #[ap 6]] (gd sc x0 es ck nb f5 dm dc dr++[ab [ap 0] 35]) (.ret (aa (cI sc dc))) (gd sc x0 es ck nb f5 dm dc dr++[ab [ap 0] 35]))]
theorem abu(sc:List (Int×Int))(x0:List Dy)(es:List arW)(ck nb:Nat)(f5:List Dy)(dm dc dr:Int)(hs:(nG sc)<=1000000)(h0:x0.all ag=true)(h3:(bI kZ es).all ag=true)(h5:f5.all ag=true):dD fK (dM fK (dP (abt sc x0 es ck nb f5 dm dc dr)) 50 40):=
 dU dC mixed (ee (.cons (bB.one (Z1 sc x0 es ck nb f5 dm dc dr hs h0 h3 h5)) .nil)) 50 40
def O6:List ar3:=a7 (dI fK 69)
abbrev O7:=λ(sc:List (Int×Int)) x0 es (ck nb:Nat) f5 (dm dc dr:Int)=>(⟨[(2,aa 0)],[ab ([aq 2 (nG sc),.map (some 3),aa dm,.int .i64 (m6 Ul (dc+1)),aa dr]) 80,ab x0 5,ab (aI sc) 77,.map es ck,ab [aq 5 nb] 173,ab f5 5]⟩:ai)
theorem abv(sc:List (Int×Int))(x0 es)(ck nb:Nat)(f5)(dm dc dr:Int){Q:bu}(aY:DC x0 ag)(cC:DC (bI [0,1,2,3,4,5] es) ag=true)(bO:DC f5 ag)(hq:Q (.ret (aa 0)) [ab ([aq 2 (nG sc),.map (some 3),aa dm,.int .i64 (m6 Ul (dc+1)),aa dr]) 80,ab x0 5,ab (aI sc) 77,.map es ck,ab [aq 5 nb] 173,ab f5 5]):aG arX 69 30 6 Q .ret (O7 sc x0 es ck nb f5 dm dc dr):=aG.ret (vs:=[aa 0]) (l:=[]) (bs:=[0,1,2,3,4,5]) (pl:=[1,2,3,5]) (q:=[x0,aI sc,bI [0,1,2,3,4,5] es,f5]) (λu=>by kernel_rfl) (by kernel_rfl) (aD aY (aD (bt sc) (aD cC (aD bO be)))) hq
abbrev O8:=λ(sc:List (Int×Int)) x0 es (ck nb:Nat) f5 (dm dc dr:Int)=>(⟨[(2,aa 25)],[ab ([aq 2 (nG sc),.map (some 3),aa dm,.int .i64 (m6 Ul (dc+1)),aa (av (aI sc) (0+m5 (cI sc dc)*2+1))]) 80,ab x0 5,ab (aI sc) 77,.map es ck,ab [aq 5 nb] 173,ab f5 5]⟩:ai)
theorem abw(sc:List (Int×Int))(x0 es)(ck nb:Nat)(f5)(dm dc dr:Int){Q:bu}(aY:DC x0 ag)(cC:DC (bI [0,1,2,3,4,5] es) ag=true)(bO:DC f5 ag)(hq:Q (.ret (aa 25)) [ab ([aq 2 (nG sc),.map (some 3),aa dm,.int .i64 (m6 Ul (dc+1)),aa (av (aI sc) (0+m5 (cI sc dc)*2+1))]) 80,ab x0 5,ab (aI sc) 77,.map es ck,ab [aq 5 nb] 173,ab f5 5]):aG arX 69 30 6 Q .ret (O8 sc x0 es ck nb f5 dm dc dr):=aG.ret (vs:=[aa 25]) (l:=[]) (bs:=[0,1,2,3,4,5]) (pl:=[1,2,3,5]) (q:=[x0,aI sc,bI [0,1,2,3,4,5] es,f5]) (λu=>by kernel_rfl) (by kernel_rfl) (aD aY (aD (bt sc) (aD cC (aD bO be)))) hq
theorem abx(sc:List (Int×Int))(x0:List Dy)(es:List arW)(ck nb:Nat)(f5:List Dy)(dm dc dr:Int)(hs:(nG sc)<=1000000)(h0:x0.all ag=true)(h3:(bI kZ es).all ag=true)(h4:(es.map (eD λi=>(kZ++fD 7 0)[i]?)).all ag=true)(hp:(aI sc).all ag=true)(h6:(bI eE es).all ag=true)(h5:f5.all ag=true){Q:aU}(n0:(fZ [aq 2 (nG sc),auL (avX 96) #[] #[asy (some (au9 (0+1+1+1+1+1+1) 0 none))]] [aq 2 (nG sc),auL (avX 96) #[] #[ap 6]] [ab [aq 2 (nG sc),atQ (some (0+1+1+1)),aa dm,aa dc,aa dr] 80,ab x0 5,ab (aI sc) 77,ak.map es ck,ab [aq 5 nb] 173,ab f5 5,ab [ap 0] 35] (gv sc x0 es ck nb f5 dm dc dr++[ab [ap 0] 35])))(aY:DC x0 ag)(bh:DC (aI sc) ag)(bT:DC (bI [0,1,2,3,4,5] es) ag)(bO:DC f5 ag)(l5:(decide (cI sc dc<0))->Q .ret (O7 sc x0 es ck nb f5 dm dc dr))(n6:(decide (cI sc dc<0))=false->(arF (m5 (cI sc dc)) (nG sc)))(n7:(decide (cI sc dc<0))=false->(cP Ul (aI sc) (0+m5 (cI sc dc)*2+1)))(l8:(decide (cI sc dc<0))=false->Q .ret (O8 sc x0 es ck nb f5 dm dc dr)):ao arX 30 6 O6 ⟨[(0,ap 0)],[ab [aq 2 (nG sc),.map (some 3),aa dm,aa dc,aa dr] 80,ab x0 5,ab (aI sc) 77,.map es ck,ab [aq 5 nb] 173,ab f5 5]⟩ Q:=
 aV (abr sc x0 es ck nb f5 dm dc dr hs h0 h3 h5) 1000 (aB [7,1,1,1,1,1,1,1,1] (.fork 3 (.leaf [2] [0,1,2,3,4,5] [1,2,3,5]) (aB [6,1,1,0,1] (.leaf [2] [0,1,2,3,4,5] [1,2,3,5])))) (λu=>by kernel_rfl) (Tree.aQ (show(DC x0 ag)=true by assumption) (Tree.aQ (bt sc) (Tree.aQ (show(DC (arV (eD (fh kZ)) es) ag)=true by assumption) (Tree.aQ (show(DC f5 ag)=true by assumption) (Tree.aQ (n0:(fZ [aq 2 (nG sc),auL (avX 96) #[] #[asy (some (au9 (0+1+1+1+1+1+1) 0 none))]] [aq 2 (nG sc),auL (avX 96) #[] #[ap 6]] [ab [aq 2 (nG sc),atQ (some (0+1+1+1)),aa dm,aa dc,aa dr] 80,ab x0 5,ab (aI sc) 77,ak.map es ck,ab [aq 5 nb] 173,ab f5 5,ab [ap 0] 35] (gv sc x0 es ck nb f5 dm dc dr++[ab [ap 0] 35]))=true) (Tree.aQ (show(DC x0 ag)=true by assumption) (Tree.aQ (bt sc) (Tree.aQ (show(DC (arV (eD λi=>(kZ++fD 7 (nG (gv sc x0 es ck nb f5 dm dc dr++[ab [ap 0] 35])-7))[i]?) es) ag)=true by assumption) (Tree.aQ (show(DC f5 ag)=true by assumption) (Tree.dE (c:=decide (cI sc dc<0)) (λh0=>(Tree.aQ aY (Tree.aQ (bt sc) (Tree.aQ bT (Tree.aQ bO (Tree.dN (l5 h0))))))) (λh0=>(Tree.aQ (show(decide (0<=cI sc dc))=true by simp at hs h0 h3 h4 hp h6 h5 h0⊢ <;>omega) (Tree.aQ (n6 h0) (Tree.aQ (n7 h0) (Tree.aQ aY (Tree.aQ (bt sc) (Tree.aQ bT (Tree.aQ bO (Tree.dN (l8 h0))))))))))))))))))))
abbrev O9:=λ(sc:List (Int×Int)) x0 es (ck nb:Nat) f5 (dm dc dr:Int)=>(⟨[(2,aa 0)],[ab ([aq 2 (nG sc),.map (some 3),aa dm,.int .i64 (m6 Ul (dc+1)),aa dr]) 80,ab x0 5,ab (aI sc) 77,.map es ck,ab [] 173,ab f5 5]⟩:ai)
theorem aby(sc:List (Int×Int))(x0 es)(ck nb:Nat)(f5)(dm dc dr:Int){Q:bu}(aY:DC x0 ag)(cC:DC (bI [0,1,2,3,4,5] es) ag=true)(bO:DC f5 ag)(hq:Q (.ret (aa 0)) [ab ([aq 2 (nG sc),.map (some 3),aa dm,.int .i64 (m6 Ul (dc+1)),aa dr]) 80,ab x0 5,ab (aI sc) 77,.map es ck,ab [] 173,ab f5 5]):aG arX 69 30 6 Q .ret (O9 sc x0 es ck nb f5 dm dc dr):=aG.ret (vs:=[aa 0]) (l:=[]) (bs:=[0,1,2,3,4,5]) (pl:=[1,2,3,5]) (q:=[x0,aI sc,bI [0,1,2,3,4,5] es,f5]) (λu=>by kernel_rfl) (by kernel_rfl) (aD aY (aD (bt sc) (aD cC (aD bO be)))) hq
abbrev Pa:=λ(sc:List (Int×Int)) x0 es (ck nb:Nat) f5 (dm dc dr:Int)=>(⟨[(2,aa 25)],[ab ([aq 2 (nG sc),.map (some 3),aa dm,.int .i64 (m6 Ul (dc+1)),aa (av (aI sc) (0+m5 (cI sc dc)*2+1))]) 80,ab x0 5,ab (aI sc) 77,.map es ck,ab [] 173,ab f5 5]⟩:ai)
theorem abz(sc:List (Int×Int))(x0 es)(ck nb:Nat)(f5)(dm dc dr:Int){Q:bu}(aY:DC x0 ag)(cC:DC (bI [0,1,2,3,4,5] es) ag=true)(bO:DC f5 ag)(hq:Q (.ret (aa 25)) [ab ([aq 2 (nG sc),.map (some 3),aa dm,.int .i64 (m6 Ul (dc+1)),aa (av (aI sc) (0+m5 (cI sc dc)*2+1))]) 80,ab x0 5,ab (aI sc) 77,.map es ck,ab [] 173,ab f5 5]):aG arX 69 30 6 Q .ret (Pa sc x0 es ck nb f5 dm dc dr):=aG.ret (vs:=[aa 25]) (l:=[]) (bs:=[0,1,2,3,4,5]) (pl:=[1,2,3,5]) (q:=[x0,aI sc,bI [0,1,2,3,4,5] es,f5]) (λu=>by kernel_rfl) (by kernel_rfl) (aD aY (aD (bt sc) (aD cC (aD bO be)))) hq
theorem abA(sc:List (Int×Int))(x0:List Dy)(es:List arW)(ck nb:Nat)(f5:List Dy)(dm dc dr:Int)(hs:(nG sc)<=1000000)(h0:x0.all ag=true)(h3:(bI kZ es).all ag=true)(h4:(es.map (eD λi=>(kZ++fD 7 0)[i]?)).all ag=true)(hp:(aI sc).all ag=true)(h6:(bI eE es).all ag=true)(h5:f5.all ag=true){Q:aU}(n0:(fZ [aq 2 (nG sc),auL (avX 96) #[] #[asy (some (au9 (0+1+1+1+1+1+1) 0 none))]] [aq 2 (nG sc),auL (avX 96) #[] #[ap 6]] [ab [aq 2 (nG sc),atQ (some (0+1+1+1)),aa dm,aa dc,aa dr] 80,ab x0 5,ab (aI sc) 77,ak.map es ck,ab [] 173,ab f5 5,ab [ap 0] 35] (gd sc x0 es ck nb f5 dm dc dr++[ab [ap 0] 35])))(aY:DC x0 ag)(bh:DC (aI sc) ag)(bT:DC (bI [0,1,2,3,4,5] es) ag)(bO:DC f5 ag)(l5:(decide (cI sc dc<0))->Q .ret (O9 sc x0 es ck nb f5 dm dc dr))(n6:(decide (cI sc dc<0))=false->(arF (m5 (cI sc dc)) (nG sc)))(n7:(decide (cI sc dc<0))=false->(cP Ul (aI sc) (0+m5 (cI sc dc)*2+1)))(l8:(decide (cI sc dc<0))=false->Q .ret (Pa sc x0 es ck nb f5 dm dc dr)):ao arX 30 6 O6 ⟨[(0,ap 0)],[ab [aq 2 (nG sc),.map (some 3),aa dm,aa dc,aa dr] 80,ab x0 5,ab (aI sc) 77,.map es ck,ab [] 173,ab f5 5]⟩ Q:=
 aV (abu sc x0 es ck nb f5 dm dc dr hs h0 h3 h5) 1000 (aB [7,1,1,1,1,1,1,1,1] (.fork 3 (.leaf [2] [0,1,2,3,4,5] [1,2,3,5]) (aB [6,1,1,0,1] (.leaf [2] [0,1,2,3,4,5] [1,2,3,5])))) (λu=>by kernel_rfl) (Tree.aQ (show(DC x0 ag)=true by assumption) (Tree.aQ (bt sc) (Tree.aQ (show(DC (arV (eD (fh kZ)) es) ag)=true by assumption) (Tree.aQ (show(DC f5 ag)=true by assumption) (Tree.aQ (n0:(fZ [aq 2 (nG sc),auL (avX 96) #[] #[asy (some (au9 (0+1+1+1+1+1+1) 0 none))]] [aq 2 (nG sc),auL (avX 96) #[] #[ap 6]] [ab [aq 2 (nG sc),atQ (some (0+1+1+1)),aa dm,aa dc,aa dr] 80,ab x0 5,ab (aI sc) 77,ak.map es ck,ab [] 173,ab f5 5,ab [ap 0] 35] (gd sc x0 es ck nb f5 dm dc dr++[ab [ap 0] 35]))=true) (Tree.aQ (show(DC x0 ag)=true by assumption) (Tree.aQ (bt sc) (Tree.aQ (show(DC (arV (eD λi=>(kZ++fD 7 (nG (gd sc x0 es ck nb f5 dm dc dr++[ab [ap 0] 35])-7))[i]?) es) ag)=true by assumption) (Tree.aQ (show(DC f5 ag)=true by assumption) (Tree.dE (c:=decide (cI sc dc<0)) (λh0=>(Tree.aQ aY (Tree.aQ (bt sc) (Tree.aQ bT (Tree.aQ bO (Tree.dN (l5 h0))))))) (λh0=>(Tree.aQ (show(decide (0<=cI sc dc))=true by simp at hs h0 h3 h4 hp h6 h5 h0⊢ <;>omega) (Tree.aQ (n6 h0) (Tree.aQ (n7 h0) (Tree.aQ aY (Tree.aQ (bt sc) (Tree.aQ bT (Tree.aQ bO (Tree.dN (l8 h0))))))))))))))))))))
end
def cE(sc:List (Int×Int))(c:Int):Int:=match sc.find? λx=>x.1==c with
 |none=>0
 |some _=>25
def cR(sc:List (Int×Int))(c r:Int):Int:=match sc.find? λx=>x.1==c with
 |none=>r
 |some p=>p.2
theorem Pb{sc:List (Int×Int)}{c:Int}(h:cI sc c<0)(r:Int):cE sc c=0/\cR sc c r=r:=by
 rcases Ow sc c with⟨_,h2⟩|⟨i,hi,h1,_⟩
 ·unfold cE cR;rw[h2];exact⟨rfl,rfl⟩
 ·omega
theorem wR{sc:List (Int×Int)}{c:Int}(h:¬cI sc c<0)(r:Int):cE sc c=25/\0<=cI sc c/\cI sc c<sc.length/\cR sc c r=av (aI sc) (0+m5 (cI sc c)*2+1):=by
 rcases Ow sc c with⟨h1,_⟩|⟨i,hi,h1,h2⟩
 ·omega
 ·rw[h1]at h⊢
  have:=(pC (sc:=sc) (j:=i) (by omega) (by omega)).2.2.2.1
  refine⟨by unfold cE;rw[h2],by omega,by omega,?_⟩
  rw[this]
  unfold cR
  rw[h2]
  rfl
theorem Pc(sc:List (Int×Int))(x0:List Dy)(es:List arW)(ck nb:Nat)(f5:List Dy)(dm dc dr:Int)(hs:sc.length<=1000000)(h0:x0.all ag=true)(he:cq es=true)(h5:f5.all ag=true):
 aF fK 69 [.pointer (some ⟨0,0,none⟩)] (gv sc x0 es ck nb f5 dm dc dr) λr o=>r=.ret (.int .i64 (cE sc dc))/\o=gv sc x0 es ck nb f5 dm (m6 .i64 (dc+1)) (cR sc dc dr):=by
 have h3:(bI kZ es).all ag=true:=cq.idx he [6]
 have h6:(bI eE es).all ag=true:=cq.idx he []
 have h4:(es.map (eD λi=>(kZ++fD 7 0)[i]?)).all ag=true:=cq.rI he [6]
 have hp:=bt sc
 refine aF.dv (n:=cp fK 69) (by kernel_rfl) ?_
 apply abx sc x0 es ck nb f5 dm dc dr hs h0 h3 h4 hp h6 h5<;>try assumption
 case n0=>exact iI rfl rfl
 case l5=>
  intro g
  obtain⟨e1,e2⟩:=Pb (of_decide_eq_true g) dr
  exact abv sc x0 es ck nb f5 dm dc dr h0 h6 h5 ⟨by rw[e1],by rw[e2];rfl⟩
 case n6=>intro g;obtain⟨e1,e2,e3,e4⟩:=wR (of_decide_eq_false g) dr;exact ed.2 (by omega)
 case n7=>intro g;obtain⟨e1,e2,e3,e4⟩:=wR (of_decide_eq_false g) dr;exact(pC e2 e3).2.1
 case l8=>
  intro g
  obtain⟨e1,e2,e3,e4⟩:=wR (of_decide_eq_false g) dr
  exact abw sc x0 es ck nb f5 dm dc dr h0 h6 h5 ⟨by rw[e1],by rw[e4];rfl⟩
theorem Pd(sc:List (Int×Int))(x0:List Dy)(es:List arW)(ck nb:Nat)(f5:List Dy)(dm dc dr:Int)(hs:sc.length<=1000000)(h0:x0.all ag=true)(he:cq es=true)(h5:f5.all ag=true):
 aF fK 69 [.pointer (some ⟨0,0,none⟩)] (gd sc x0 es ck nb f5 dm dc dr) λr o=>r=.ret (.int .i64 (cE sc dc))/\o=gd sc x0 es ck nb f5 dm (m6 .i64 (dc+1)) (cR sc dc dr):=by
 have h3:(bI kZ es).all ag=true:=cq.idx he [6]
 have h6:(bI eE es).all ag=true:=cq.idx he []
 have h4:(es.map (eD λi=>(kZ++fD 7 0)[i]?)).all ag=true:=cq.rI he [6]
 have hp:=bt sc
 refine aF.dv (n:=cp fK 69) (by kernel_rfl) ?_
 apply abA sc x0 es ck nb f5 dm dc dr hs h0 h3 h4 hp h6 h5<;>try assumption
 case n0=>exact iI rfl rfl
 case l5=>
  intro g
  obtain⟨e1,e2⟩:=Pb (of_decide_eq_true g) dr
  exact aby sc x0 es ck nb f5 dm dc dr h0 h6 h5 ⟨by rw[e1],by rw[e2];rfl⟩
 case n6=>intro g;obtain⟨e1,e2,e3,e4⟩:=wR (of_decide_eq_false g) dr;exact ed.2 (by omega)
 case n7=>intro g;obtain⟨e1,e2,e3,e4⟩:=wR (of_decide_eq_false g) dr;exact(pC e2 e3).2.1
 case l8=>
  intro g
  obtain⟨e1,e2,e3,e4⟩:=wR (of_decide_eq_false g) dr
  exact abz sc x0 es ck nb f5 dm dc dr h0 h6 h5 ⟨by rw[e1],by rw[e4];rfl⟩
set_option maxHeartbeats 1000000 in
theorem abB(b so bm:Nat)(x:Int)(v:Dy)(w:World)(c1:w.cell? ⟨b,so+1,none⟩=some (.map (some bm)))(hl:(atK 78 (.map (some bm)) (.int .i64 x) false).run fK w=.ok v w):
 Calls fK 68 #[.pointer (some ⟨b,so,none⟩),.int .i64 x] w λe w'=>e=.returned v/\w'=w:=by
 go_enter Tryz.func68,Tryz.ntmps68
 go_wp2
 go_ret
 exact⟨rfl,rfl⟩
theorem Pe:zeroOf fK 99=some (.pointer none):=by kernel_rfl
theorem HP(x:Int):pW fK 3 (.int .i64 x)=true:=by
 have h:fK.underlying 3=some (.int .i64):=Tryz.underlying3
 unfold pW
 rw[h]
def wS(f:Option (Nat×Dy)):Dy:=match f with
 |some (_,v)=>v
 |none=>.pointer none
theorem HQ{objs:List ak}{sl:Dy}{r1:List Dy}{es:List arW}{ck:Nat}{x:Int}{f:Option (Nat×Dy)}(h0:objs[0]?=some (.cells (sl:: .map (some 3)::r1) 80 false))(h3:objs[3]?=some (.map es ck))(hlen:objs.length<=262144)
 (hf:fG (.int .i64 x) es 0=some f):aF fK 68 [.pointer (some ⟨0,0,none⟩),.int .i64 x] objs λr o=>r=.ret (wS f)/\o=objs:=by
 intro B w₀ ρ w args' gM hn ha hw
 obtain⟨p,l,el,hp,hl⟩:=ha.gT
 obtain⟨xi,l2,el2,hx,jx⟩:=hl.gT
 have:=hx.kl
 subst this
 have:=jx.kO
 subst this
 obtain⟨q,hq,rfl⟩:=hp.lp
 have m0:cu objs 0=some (.cells (sl:: .map (some 3)::r1) 80 false):=by rw[cH rfl];exact h0
 have m3:cu objs 3=some (.map es ck):=by rw[cH rfl];exact h3
 obtain⟨o',k1,k2,_⟩:=hw.live 0 _ q m0 hq rfl
 obtain⟨q3,tb⟩:=hw.named 3 _ m3 (by intro e;cases e)
 obtain⟨o3,k3,k4,_⟩:=hw.live 3 _ q3 m3 tb rfl
 cases k4 with
 |map _ db _ k5 k6=>
 cases k2 with
 |cells _ _ cj _ a fr g1 g2 g3 g4 g5 g6=>
 obtain⟨v',g7,g8⟩:=g6 1 (.map (some 3)) rfl
 obtain⟨qm,Pf,rfl⟩:=g8.qP
 rw[tb]at Pf
 cases Pf
 have hc:w.cell? ⟨q.aH,q.sh+0+1,none⟩=some (.map (some q3.aH)):=by
  simp[World.cell?,k1,g7]
 have hu:fK.underlying 78=some (.map 3 99):=Tryz.underlying78
 obtain⟨d,kT,hd⟩:=yj (HP x)
 obtain⟨r',k7,k8⟩:=vV kT hd k5 k6 hf
 have kR:∃v',(atK 78 (.map (some q3.aH)) (.int .i64 x) false).run fK w=.ok v' w/\VR ρ (wS f) v':=by
  rcases k8 with⟨rfl,rfl⟩|⟨j,v,v',e',rfl,rfl,hv,_,_,_⟩
  ·refine⟨.pointer none,?_,.bN _ rfl⟩
   unfold atK
   rw[DA,Vm.run_underlying hu,Dz]
   dsimp only
   rw[DA,Vm.run_getObj_map k3,Dz]
   dsimp only
   rw[DA,asa,Dz,DA,run_checkKey (HP x),Dz,DA,run_findKey kT k7,Dz]
   dsimp only
   first|rw[DA,DA,nO Pe]|rw[DA,nO Pe]
   rfl
  ·refine⟨v',?_,hv⟩
   unfold atK
   rw[DA,Vm.run_underlying hu,Dz]
   dsimp only
   rw[DA,Vm.run_getObj_map k3,Dz]
   dsimp only
   rw[DA,asa,Dz,DA,run_checkKey (HP x),Dz,DA,run_findKey kT k7,Dz]
   rfl
 obtain⟨v',h1,h2⟩:=kR
 have ea:args'= #[.pointer (some ⟨q.aH,q.sh+0,none⟩),.int .i64 x]:=by
  rw[<-Array.toArray_toList (xs:=args'),el,el2]
 rw[ea]
 refine(abB q.aH (q.sh+0) q3.aH x v' w hc h1).mono λe w' he=>?_
 obtain⟨rfl,rfl⟩:=he
 exact⟨.ret (wS f),objs,ρ,⟨rfl,rfl⟩,h2,gM,hw,hlen,λ_ _=>rfl⟩
end Go.Proofs.YtnlkkgpcikkpoaaGreat
