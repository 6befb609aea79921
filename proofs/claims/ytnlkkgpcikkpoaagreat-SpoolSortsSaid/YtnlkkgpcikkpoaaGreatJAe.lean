/- Part of the proof: Vd, Abs, Shut0, Call0, Dkh, Dki, Dka. -/
import Derived.Test.YtnlkkgpcikkpoaaGreatJAd
import Derived.LoopNIn
import Derived.RangeFuncNested
import Derived.RangeFuncCalls
import Derived.RangeFuncLeaves
import Derived.Test.YtnlkkgpcikkpoaaGreatChecked
import Derived.KernelRfl
import Derived.Test.YtnlkkgpcikkpoaaGreatJAc
open Array renaming getD_eq_getD_getElem?->ar8,getElem?_eq_some_iff->asq,getElem?_setIfInBounds_ne->asX,getElem?_setIfInBounds_self->as0,getElem?_toList->ata,size_setIfInBounds->at0
open Bool renaming and_eq_true->BV,not_eq_true'->atx
open Classical renaming propDecidable->arT
open Go renaming Code->ar3,Exit->atO,FuncId->arY,MapEntry->arW,Program->arC,TypeId->KS,Value->Dy,World->arB,wpIn_mono->av6
open Go.IntKind renaming i64->Ul,wrap->m6
open Go.Op renaming equal->aun,equalIn->at6,maxDepth->ayc
open Go.Proofs.Tryz renaming prog->arX,prog->fK
open Go.Region renaming wanted->asZ
open Go.Result renaming andThen_ok->Dz
open Go.Sem renaming run->at5,run_bind->DA
open Go.Value renaming bool->asu,oneCell'->asr
open Int renaming toNat->m5
open List renaming all->DC,all_eq_true->ar1,any_eq_false->auh,append_assoc->arI,append_nil->asg,eq_nil_of_length_eq_zero->ar5,foldl_cons->att,getElem?_append_left->asl,getElem?_append_right->asd,getElem?_cons_zero->asf,getElem?_drop->asH,getElem?_eq_getElem->KH,getElem?_eq_none->asC,getElem?_eq_none_iff->atg,getElem?_eq_some_iff->KP,getElem?_map->asT,getElem?_mapIdx->awS,getElem?_of_mem->asS,getElem?_set_ne->auj,getElem?_set_self->at7,getElem?_take->asL,getElem?_toArray->awL,isEmpty_iff->atN,length->nG,length_append->KO,length_cons->ar4,length_drop->ass,length_map->aty,length_mapIdx->aw7,length_set->asU,length_take->asj,map_append->asm,map_cons->asn,map_nil->awm,mem_append->arL,mem_append_left->asi,mem_append_right->asc,mem_cons->arD,mem_cons_of_mem->arG,mem_cons_self->arH,mem_map->as8,mem_map_of_mem->atb,mem_of_getElem?->ar7,mem_singleton->ar0,nodup_append->aso,nodup_cons->asG,pairwise_iff_getElem->atT,tail_drop->auF,take_append_drop->asD
open Nat renaming beq->arE,beq_refl->asx,ble->arM,ble_eq_true_of_le->arZ,blt->arF,eq_of_beq_eq_true->arJ,eq_zero_or_pos->av4,le_of_ble_eq_true->arU,le_refl->arO,lt_of_lt_of_le->atP,mul_pos->ayd
open Option renaming getD_some->ati
open Option.some renaming inj->atZ,injEq->DE
open Prod.mk renaming injEq->KN
set_option linter.unusedVariables false
set_option linter.unusedSimpArgs false
set_option maxRecDepth 100000
namespace Go.Proofs.YtnlkkgpcikkpoaaGreat.Vm
open Go.RowKit
inductive Tree where
 |leaf (x:bf) (d:ai)
 |fork (c:Bool) (a b:Tree)
 |cY (c:Bool) (v:Bool) (t:Tree)
def Tree.ok(R:bf->ai->Prop):Tree->Prop
 | .leaf x d=>R x d
 | .fork c a b=>(c=true->a.ok R)/\(c=false->b.ok R)
 | .cY c v t=>c=v/\t.ok R
theorem Tree.BJ{R R':bf->ai->Prop}(h:∀x d,R x d->R' x d):∀{T:Tree},T.ok R->T.ok R'
 | .leaf x d,ht=>h x d ht
 | .fork c a b,ht=>⟨λhc=>BJ h (ht.1 hc),λhc=>BJ h (ht.2 hc)⟩
 | .cY c v t,ht=>⟨ht.1,BJ h ht.2⟩
inductive ST where
 |leaf (sl bs pl:List Nat)
 |fork (n:Nat) (a b:ST)
 |cY (n:Nat) (v:Bool) (a:ST)
def DT.sym{α:Type}(fin:List Nat->List Nat->List Nat->α->Option Tree):DT α->ST->Option Tree
 | .done a,.leaf sl bs pl=>fin sl bs pl a
 | .ask d k,.fork 0 s1 s2=>match(k true).sym fin s1 with
  |some x=>match(k false).sym fin s2 with
   |some y=>some (.fork d x y)
   |none=>none
  |none=>none
 | .ask d k,.cY 0 v s=>match v with
  |true=>match(k true).sym fin s with
   |some x=>some (.cY d true x)
   |none=>none
  |false=>match(k false).sym fin s with
   |some x=>some (.cY d false x)
   |none=>none
 | .ask d k,.fork (n+1) s1 s2=>match d with
  |true=>(k true).sym fin (.fork n s1 s2)
  |false=>(k false).sym fin (.fork n s1 s2)
 | .ask d k,.cY (n+1) v s=>match d with
  |true=>(k true).sym fin (.cY n v s)
  |false=>(k false).sym fin (.cY n v s)
 | .ask d k,.leaf sl bs pl=>match d with
  |true=>(k true).sym fin (.leaf sl bs pl)
  |false=>(k false).sym fin (.leaf sl bs pl)
 | .fW p x y,.cY 0 v s=>match v with
  |true=>x.sym fin s
  |false=>y.sym fin s
 | .fW p x y,.cY (n+1) v s=>match p with
  |true=>x.sym fin (.cY n v s)
  |false=>y.sym fin (.cY n v s)
 | .fW p x y,.fork (n+1) s1 s2=>match p with
  |true=>x.sym fin (.fork n s1 s2)
  |false=>y.sym fin (.fork n s1 s2)
 | .fW p x y,.leaf sl bs pl=>match p with
  |true=>x.sym fin (.leaf sl bs pl)
  |false=>y.sym fin (.leaf sl bs pl)
 |_,_=>none
theorem DT.NS{α:Type}{fin:List Nat->List Nat->List Nat->α->Option Tree}{R:bf->ai->Prop}:∀{x:DT α} {s:ST} {T:Tree},x.sym fin s=some T->T.ok R->∃a sl bs pl T',x.Has a/\fin sl bs pl a=some T'/\T'.ok R:=by
 intro x
 induction x with
 |done a=>
  intro s T h ht
  cases s with
  |leaf sl bs pl=>exact⟨a,sl,bs,pl,T,.done a,h,ht⟩
  |fork n _ _=>cases n<;>cases h
  |cY n _ _=>cases n<;>cases h
 |fail=>
  intro s T h ht
  unfold DT.sym at h
  cases s with
  |leaf=>cases h
  |fork n _ _=>cases n<;>cases h
  |cY n _ _=>cases n<;>cases h
 |ask d k ih=>
  intro s T h ht
  cases s with
  |leaf sl bs pl=>
   unfold DT.sym at h
   cases d with
   |true=>obtain⟨a,sl,bs,pl,T',h1,h2⟩:=ih true h ht;exact⟨a,sl,bs,pl,T',.ask _ _ _ h1,h2⟩
   |false=>obtain⟨a,sl,bs,pl,T',h1,h2⟩:=ih false h ht;exact⟨a,sl,bs,pl,T',.ask _ _ _ h1,h2⟩
  |fork n s1 s2=>
   cases n with
   |zero=>
    unfold DT.sym at h
    split at h
    ·rename_i x hx
     split at h
     ·rename_i y hy
      cases h
      cases d with
      |true=>obtain⟨a,sl,bs,pl,T',h1,h2⟩:=ih true hx (ht.1 rfl);exact⟨a,sl,bs,pl,T',.ask _ _ _ h1,h2⟩
      |false=>obtain⟨a,sl,bs,pl,T',h1,h2⟩:=ih false hy (ht.2 rfl);exact⟨a,sl,bs,pl,T',.ask _ _ _ h1,h2⟩
     ·cases h
    ·cases h
   |succ n=>
    unfold DT.sym at h
    cases d with
    |true=>obtain⟨a,sl,bs,pl,T',h1,h2⟩:=ih true h ht;exact⟨a,sl,bs,pl,T',.ask _ _ _ h1,h2⟩
    |false=>obtain⟨a,sl,bs,pl,T',h1,h2⟩:=ih false h ht;exact⟨a,sl,bs,pl,T',.ask _ _ _ h1,h2⟩
  |cY n v s=>
   cases n with
   |zero=>
    unfold DT.sym at h
    cases v with
    |true=>
     dsimp only at h
     split at h
     ·rename_i x hx
      cases h
      obtain⟨e,ht⟩:=ht
      subst e
      obtain⟨a,sl,bs,pl,T',h1,h2⟩:=ih true hx ht
      exact⟨a,sl,bs,pl,T',.ask _ _ _ h1,h2⟩
     ·cases h
    |false=>
     dsimp only at h
     split at h
     ·rename_i x hx
      cases h
      obtain⟨e,ht⟩:=ht
      subst e
      obtain⟨a,sl,bs,pl,T',h1,h2⟩:=ih false hx ht
      exact⟨a,sl,bs,pl,T',.ask _ _ _ h1,h2⟩
     ·cases h
   |succ n=>
    unfold DT.sym at h
    cases d with
    |true=>obtain⟨a,sl,bs,pl,T',h1,h2⟩:=ih true h ht;exact⟨a,sl,bs,pl,T',.ask _ _ _ h1,h2⟩
    |false=>obtain⟨a,sl,bs,pl,T',h1,h2⟩:=ih false h ht;exact⟨a,sl,bs,pl,T',.ask _ _ _ h1,h2⟩
 |fW p x y rk rl=>
  intro s T h ht
  have L:∀{s},x.sym fin s=some T->∃a sl bs pl T',(DT.fW p x y).Has a/\fin sl bs pl a=some T'/\T'.ok R:=λh=>by
   obtain⟨a,sl,bs,pl,T',h1,h2⟩:=rk h ht;exact⟨a,sl,bs,pl,T',.left _ _ _ _ h1,h2⟩
  have M:∀{s},y.sym fin s=some T->∃a sl bs pl T',(DT.fW p x y).Has a/\fin sl bs pl a=some T'/\T'.ok R:=λh=>by
   obtain⟨a,sl,bs,pl,T',h1,h2⟩:=rl h ht;exact⟨a,sl,bs,pl,T',.right _ _ _ _ h1,h2⟩
  cases s with
  |leaf sl bs pl=>
   unfold DT.sym at h
   cases p with
   |true=>exact L h
   |false=>exact M h
  |fork n s1 s2=>
   cases n with
   |zero=>unfold DT.sym at h;cases h
   |succ n=>
    unfold DT.sym at h
    cases p with
    |true=>exact L h
    |false=>exact M h
  |cY n v s=>
   cases n with
   |zero=>
    unfold DT.sym at h
    cases v with
    |true=>exact L h
    |false=>exact M h
   |succ n=>
    unfold DT.sym at h
    cases p with
    |true=>exact L h
    |false=>exact M h
def qv(pl:List Nat)(τ:Nat->Option Nat):List (Nat×ak)->Option (List ak×List (List Dy))
 | []=>some ([],[])
 |(b,o)::l=>match qv pl τ l with
  |none=>none
  |some (r,q)=>match o with
   | .cells c el ro=>match pl.any (arE b)with
    |true=>some (.cells c el ro::r,c::q)
    |false=>match nj (iC τ 6) c with
     |some c'=>some (.cells c' el ro::r,q)
     |none=>none
   | .map es clock=>match pl.any (arE b)with
    |true=>some (.map es clock::r,es.map (eD τ)::q)
    |false=>match sN τ es with
     |some db=>some (.map db clock::r,q)
     |none=>none
   | .lK s p=>some (.lK s p::r,q)
   | .rows n s f=>some (.rows n s f::r,q)
   | .abs d=>some (.abs d::r,q)
   | .dead=>some (.dead::r,q)
def G1:List (List Dy)->Tree->Tree
 | [],t=>t
 |c::l,t=>.cY (c.all ag) true (G1 l t)
theorem G2{R:bf->ai->Prop}{t:Tree}:∀{l:List (List Dy)},(G1 l t).ok R->(∀c∈l,c.all ag=true)/\t.ok R
 | [],h=>⟨λc hc=>(by cases hc),h⟩
 |c::l,h=>by
  obtain⟨h1,h2⟩:=h
  obtain⟨h3,h4⟩:=G2 h2
  exact⟨λx hx=>by
   rcases arD.1 hx with rfl|hx
   ·exact h1
   ·exact h3 x hx,h4⟩
theorem oQ{pl:List Nat}{τ:Nat->Option Nat}:∀{l:List (Nat×ak)} {l':List ak} {q:List (List Dy)},qv pl τ l=some (l',q)->(∀c∈q,c.all ag=true)->bS (ON τ) (l.map (·.2)) l'
 | [],l',q,h,_=>by cases h;exact .nil
 |(b,o)::l,l',q,h,hq=>by
  unfold qv at h
  split at h
  ·cases h
  ·rename_i r q' hr
   split at h
   ·split at h
    ·cases h
     exact .cons (.plain _ _ _ (hq _ arH)) (oQ hr λc hc=>hq c (arG _ hc))
    ·split at h
     ·rename_i hc
      cases h
      exact .cons (.cells _ _ _ _ hc) (oQ hr hq)
     ·cases h
   ·split at h
    ·cases h
     exact .cons (.map _ _ _ (GA (hq _ arH))) (oQ hr λc hc=>hq c (arG _ hc))
    ·split at h
     ·rename_i he
      cases h
      exact .cons (.map _ _ _ he) (oQ hr hq)
     ·cases h
   ·cases h;exact .cons (.lK _ _) (oQ hr hq)
   ·cases h;exact .cons (.rows _ _ _) (oQ hr hq)
   ·cases h;exact .cons (.abs _) (oQ hr hq)
   ·cases h;exact .cons (.dead _) (oQ hr hq)
def wC(n k:Nat)(sl bs pl:List Nat):bf×Fr×VS->Option Tree
 |(x,t,S)=>match qn bs S with
  |none=>none
  |some bl=>match wm (fh bs) sl (sl.map t.at),qv pl (fh bs) bl with
   |some d,some (objs,q)=>match ux k bs 0&&ja bs&&sl.all (λi=>arF i n)&&arM bs.length 262144&&YW x&&arE t.n n&&(t.ds.isEmpty&&t.base.isEmpty)with
    |true=>some (G1 q (.leaf x ⟨d,objs⟩))
    |false=>none
   |_,_=>none
theorem G3:∀{bs:List Nat} {S:VS} {r:List (Nat×ak)},qn bs S=some r->r.map (·.1)=bs
 | [],S,r,h=>by simp only[qn,DE]at h;subst h;rfl
 |x::l,S,r,h=>by
  unfold qn at h
  split at h
  ·rename_i o r' h1 h2
   simp only[DE]at h
   subst h
   simp[G3 h2]
  ·cases h
theorem ao.tree{P:arC}(hP:iV P=true)(fM:P.follows .mixedOrders=true){cO:fX}(hc:dD P cO){lf n k m:Nat}{l:List ar3}{d:ai}{s:ST}{T:Tree}
 (h:∀u,(uA P cO lf (l.take m) (eV n u d.sl) (lQ d.objs)).sym (wC n k) s=some T){Q:bf->ai->Prop}
 (hT:T.ok (λx d'=>match x with
  | .normal=>ao P n k (l.drop m) d' Q
  |x=>Q x d')):ao P n k l d Q:=by
 intro X hn hk a w hd
 have qh:=hd
 obtain⟨ρ,u,M,hd⟩:=hd
 obtain⟨p,sl,bs,pl,T',h1,h2,h3⟩:=DT.NS (h u) hT
 obtain⟨x,t1,S1⟩:=p
 dsimp only[wC]at h2
 cases mB:qn bs S1 with
 |none=>rw[mB]at h2;cases h2
 |some bl=>
  rw[mB]at h2
  dsimp only at h2
  split at h2
  ·rename_i dl objs q hs hr
   split at h2
   ·rename_i du
    cases h2
    obtain⟨hq,rE⟩:=G2 h3
    have kX:=G3 mB
    have fx:=oQ hr hq
    simp only[BV]at du
    obtain⟨⟨⟨⟨⟨⟨c1,c2⟩,c3⟩,c4⟩,c5⟩,c6⟩,c7,c8⟩:=du
    have hlen:objs.length=bs.length:=by rw[<-fx.len,<-kX];simp
    subst hn hk
    obtain⟨cV,yU,G4⟩:=hc.ex
    have hv:=GH G4 lf h1
    have he:=yM yU lf hv
    have dX:=he.sm (λx hx=>by rcases hx with hx|hx<;>cases hx)
    have nP:gr (lQ d.objs) S1 (cu d.objs):=λx hx=>by rw[cH (dX x hx),yJ hd.bR]
    rw[<-asD m l]
    have py:=NE hd.quiet
    refine GG (ND hP fM yU lf (GI (M.map e8) hv) hd.fr (hd.mem.A8 py) nP λρ' e a' w' hle dL cF yV=>?_)
    have cU:=yV.A9 hd.mem.env hd.mem.below hd.mem.size py
    have hh:Holds P X ⟨dl,objs⟩ a' w':=Holds.NB (bl:=bl) (t:=t1.dS (M.map e8)) (M:=M) hd.full hle hd.kept cF (arJ c6) (atN.1 c7) rfl (λD hD=>(yV.Ba hD).trans (hd.quiet D hD)) hd.gR hd.outside cU rfl (λp hp=>by
     have hg:=GJ mB p hp
     unfold post
     by_cases hx:p.1∈S1.wr
     ·rw[if_pos hx,hg]
     ·rw[if_neg hx,cH (p9 hg),<-yJ hd.bR,<-he.frame p.1 hx,hg]) (by rw[kX];exact c1) (by rw[kX];exact c2) (by rw[kX];exact hs) (by rw[kX];exact fx) c3 (arZ (by rw[hlen];exact arU c4))
    cases x with
    |normal=>cases dL;exact rE X rfl rfl a' w' hh
    |exit id=>cases dL;exact⟨.exit id,_,rE,.exit id,hh⟩
    |ret=>cases dL;exact⟨.ret,_,rE,.ret,hh⟩
    |panic v=>
     cases dL with
     |panic _ v' hv=>
      have:=nK c5 hv
      subst this
      exact⟨.panic v',_,rE,.panic _ _ (oE c5),hh⟩
   ·cases h2
  ·cases h2
theorem Tree.dE{R:bf->ai->Prop}{c:Bool}{a b:Tree}(h1:c=true->a.ok R)(h2:c=false->b.ok R):(Tree.fork c a b).ok R:=⟨h1,h2⟩
theorem Tree.aQ{R:bf->ai->Prop}{c v:Bool}{t:Tree}(h1:c=v)(h2:t.ok R):(Tree.cY c v t).ok R:=⟨h1,h2⟩
theorem Tree.fY{R:bf->ai->Prop}{d:ai}(h:R .normal d):(Tree.leaf .normal d).ok R:=h
theorem Tree.dN{R:bf->ai->Prop}{d:ai}(h:R .ret d):(Tree.leaf .ret d).ok R:=h
theorem Tree.gH{R:bf->ai->Prop}(n:Nat){d:ai}(h:R (.exit n) d):(Tree.leaf (.exit n) d).ok R:=h
theorem Tree.fj{R:bf->ai->Prop}{x:bf}{d:ai}(h:R x d):(Tree.leaf x d).ok R:=h
theorem ao.eX{P:arC}{n k:Nat}{L:List ar3}{d:ai}{Q:bf->ai->Prop}(i id:Nat)(hl:GK (L.drop i)=some id)
 (h:ao P n k (a7 (inner (L.drop i))) d (QB id (λd'=>ao P n k (L.drop (i+1)) d' Q) Q)):ao P n k (L.drop i) d Q:=
 ao.block hl (by rw[auF];exact h)
theorem ao.wD{P:arC}{n k:Nat}{L:List ar3}{d:ai}{Q:bf->ai->Prop}(i:Nat){c:Nat}{b:Bool}(hl:Br (L.drop i)=some c)(hi:arF c n=true)(hv:j7 d.sl c=some (.bool b))
 (h:ao P n k (a7 (qo b (L.drop i))++L.drop (i+1)) d Q):ao P n k (L.drop i) d Q:=
 ao.cond hl hi hv (by rw[auF];exact h)
def QL{σ:Type}(I:σ->ai)(μ:σ->Nat)(ok:σ->Prop)(s:σ)(Q:bf->ai->Prop):bf->ai->Prop
 | .normal,d=>∃s',ok s'/\μ s'<μ s/\d=I s'
 |x,d=>Q x d
theorem ao.gu{P:arC}{n k:Nat}{l:List ar3}{Q:bf->ai->Prop}{σ:Type}(I:σ->ai)(μ:σ->Nat)(ok:σ->Prop)(s₀:σ)(hl:GL l=true)(h₀:ok s₀)
 (h:∀s,ok s->ao P n k (a7 (inner l)) (I s) (QL I μ ok s Q)):ao P n k l (I s₀) Q:=
 ao.loop I μ ok hl (λs hs=>(h s hs).mono λx d hx=>by cases x<;>exact hx) s₀ h₀
theorem QL.ret{σ:Type}{I:σ->ai}{μ:σ->Nat}{ok:σ->Prop}{s:σ}{Q:bf->ai->Prop}{d:ai}(h:Q .ret d):QL I μ ok s Q .ret d:=h
theorem QL.exit{σ:Type}{I:σ->ai}{μ:σ->Nat}{ok:σ->Prop}{s:σ}{Q:bf->ai->Prop}{d:ai}{j:Nat}(h:Q (.exit j) d):QL I μ ok s Q (.exit j) d:=h
theorem QL.to{σ:Type}{I:σ->ai}{μ:σ->Nat}{ok:σ->Prop}{s:σ}{Q:bf->ai->Prop}{d:ai}(s':σ)(h:ok s')(hm:μ s'<μ s)(e:d=I s'):QL I μ ok s Q .normal d:=⟨s',h,hm,e⟩
theorem QB.ret{id:Nat}{N:ai->Prop}{Q:bf->ai->Prop}{d:ai}(h:Q .ret d):QB id N Q .ret d:=h
theorem QB.normal{id:Nat}{N:ai->Prop}{Q:bf->ai->Prop}{d:ai}(h:N d):QB id N Q .normal d:=h
theorem QB.cw{id:Nat}{N:ai->Prop}{Q:bf->ai->Prop}{d:ai}(h:N d):QB id N Q (.exit id) d:=by
 unfold QB;dsimp only;rw[asx];exact h
theorem QB.cJ{id j:Nat}{N:ai->Prop}{Q:bf->ai->Prop}{d:ai}(hj:arE j id=false)(h:Q (.exit j) d):QB id N Q (.exit j) d:=by
 unfold QB;dsimp only;rw[hj];exact h
noncomputable def fZ(a args:List Dy)(o objs:List ak):Bool:=@decide (a=args/\o=objs) (arT _)
theorem iI{a args:List Dy}{o objs:List ak}(h1:a=args)(h2:o=objs):fZ a args o objs=true:=by
 subst h1 h2
 simp[fZ]
theorem kC(a:List Dy)(o:List ak):fZ a a o o=true:=iI rfl rfl
noncomputable def Sum.one(names:List Dy->(Nat->Option ak)->Option (List Nat))(args:List Dy)(objs:List ak)(r:bD)(out:List ak):Sum where
 names:=names
 spec a o:=.sP (fZ a args o objs) (.done (r,out))
theorem bB.one{P:arC}{f:arY}{names:List Dy->(Nat->Option ak)->Option (List Nat)}{args:List Dy}{objs:List ak}{r:bD}{out:List ak}(h:aF P f args objs λr' o'=>r'=r/\o'=out):
 bB P f (Sum.one names args objs r out):=by
 intro a o r' o' hr
 obtain⟨h1,h2⟩:=QT.uB hr
 obtain⟨rfl,rfl⟩:=@of_decide_eq_true _ (arT _) h1
 cases h2
 exact h
def sX:Nat->Dy->List Nat
 |_,.pointer (some ⟨b,_,none⟩)=>[b]
 |_,.slice (some ⟨b,_,none⟩) _ _=>[b]
 |_,.map (some b)=>[b]
 |d+1,.iface _ v=>sX d v
 |d+1,.agg c=>(c.toList.map (sX d)).flatten
 |d+1,.tuple c=>(c.toList.map (sX d)).flatten
 |d+1,.func _ f c=>(f.toList.map (sX d)).flatten++(c.toList.map (sX d)).flatten
 |_,_=>[]
def yW:List Nat->List Nat->List Nat
 | [],_=>[]
 |x::l,seen=>match seen.any (arE x)with
  |true=>yW l seen
  |false=>x::yW l (x::seen)
def yX(args:List Dy)(_:Nat->Option ak):Option (List Nat):=some (yW ((args.map (sX 6)).flatten) [])
theorem Zb{p:Prop}(h:p):@decide p (arT _)=true:=by simp[h]
theorem bB.closed{P:arC}{f:arY}{v:Dy}(h:aF P f [] [] λr' o'=>r'=.ret v/\o'=[]):bB P f ⟨yX,λa o=>match a,o with
 | [],[]=>.done (.ret v,[])
 |_,_=>.fail⟩:=by
 intro a o r' o' hr
 dsimp only at hr
 split at hr
 ·cases hr;exact h
 ·cases hr
theorem WR.Zc{P:arC}{B:Nat->Prop}{w₀ w:arB}{ρ:Ren}{m:Nat->Option ak}(gM:Full ρ)(hw:WR P B w₀ ρ m w){bl:List (Nat×ak)}(mB:∀p∈bl,m p.1=some p.2){objs:List ak}{k:Nat}(hk:∀x,x<k->∃r,ρ x=some r)
 (nk:ux k (bl.map (·.1)) 0=true)(cB:ja (bl.map (·.1))=true)(fx:bS (ON (fh (bl.map (·.1)))) (bl.map (·.2)) objs)(wo:objs.length<=262144):
 ∃ρ2:Ren,Full ρ2/\(∀x,x<k->ρ2 x=ρ x)/\(∀y i r,fh (bl.map (·.1)) y=some i->ρ y=some r->ρ2 i=some r)/\WR P B w₀ ρ2 (cu objs) w:=by
 let σ:List Nat:=bl.map (·.1)
 let ρ2:Ren:=λx=>match small x with
  |true=>(σ[x]?).bind ρ
  |false=>ρ x
 have dX:∀x,small x=true->ρ2 x=(σ[x]?).bind ρ:=λx h=>by show(match small x with|true=>_|false=>_)=_;rw[h]
 have lU:∀x,small x=false->ρ2 x=ρ x:=λx h=>by show(match small x with|true=>_|false=>_)=_;rw[h]
 have hlen:bl.length=objs.length:=by have:=fx.len;simpa using this
 have ql:Full ρ2:=λr=>by
  obtain⟨y,h1,h2⟩:=gM r
  exact⟨y,h1,by rw[lU y h1];exact h2⟩
 have uz:∀i y,σ[i]?=some y->small i=true:=λi y h=>ij.2 (by
  have:i<σ.length:=(KP.1 h).1
  have e:σ.length=bl.length:=by simp[σ]
  have:(2:Nat)^18=262144:=rfl
  omega)
 have hσ:∀i y r,σ[i]?=some y->ρ y=some r->ρ2 i=some r:=λi y r h1 h2=>by rw[dX i (uz i y h1),h1];exact h2
 have sO:∀y i r,fh σ y=some i->ρ y=some r->ρ2 i=some r:=λy i r h1 h2=>hσ i y r (Bp h1) h2
 refine⟨ρ2,ql,λx hx=>?_,sO,?_⟩
 ·have:=GD nk x hx
  rw[Nat.zero_add]at this
  obtain⟨r,hr⟩:=hk x hx
  rw[hσ x x r this hr,hr]
 ·have ue:∀(i:Nat) (o:ak),objs[i]?=some o->∃y ob,σ[i]?=some y/\m y=some ob/\ON (fh σ) ob o:=λi o hi=>by
   obtain⟨ob,h1,h2⟩:=fx.get hi
   rw[asT]at h1
   cases hb:bl[i]?with
   |none=>rw[hb]at h1;cases h1
   |some p=>
    rw[hb]at h1
    simp only[Option.map_some,DE]at h1
    subst h1
    exact⟨p.1,p.2,by simp[σ,hb],mB p (ar7 hb),h2⟩
  refine hw.GC (λx=>match small x with
   |true=>σ[x]?
   |false=>none) (λx o hx br=>?_) (λx y z hx hy=>?_) λx hx=>?_
  ·cases hs:small x with
   |false=>rw[iE hs]at hx;cases hx;exact absurd rfl br
   |true=>
    rw[cH hs]at hx
    obtain⟨y,ob,h1,h2,h3⟩:=ue x o hx
    refine⟨y,ob,h1,h2,h3.ne br,?_,λr hl=>⟨(h3.live hl).1,(h3.live hl).2,h3.or sO hl⟩,λn size row e=>?_,λel ro e=>?_,λd e=>?_⟩
    ·rw[dX x hs,h1];rfl
    ·subst e;cases h3;rfl
    ·subst e
     cases h3 with
     |plain=>rfl
     |cells c _ _ _ h=>
      cases c with
      |nil=>rfl
      |cons v c=>have:=uw h;simp at this
    ·subst e;cases h3;rfl
  ·have key:∀q,(match small q with|true=>σ[q]? |false=>none)=some z->σ[q]?=some z:=λq hq=>by
    cases hs:small q with
    |true=>rw[hs]at hq;exact hq
    |false=>rw[hs]at hq;cases hq
   exact uy cB (key x hx) (key y hy)
  ·cases hs:small x with
   |false=>rw[iE hs]at hx;cases hx
   |true=>
    rw[cH hs]at hx
    rw[dX x hs]
    have:σ[x]?=none:=by
     rw[atg]at hx⊢
     simp[σ]
     omega
    rw[this]
    rfl
def pz(k:Nat)(bs pl:List Nat)(r:bD)(o:List ak):Option (bD×List ak×List (List Dy)):=match getAll (λx=>o[x]?) bs with
 |none=>none
 |some ob=>match qv pl (fh bs) (bs.zip ob),rB (fh bs) r,ux k bs 0&&ja bs&&arM bs.length 262144 with
  |some (o',q),some r',true=>some (r',o',q)
  |_,_,_=>none
theorem aF.trim{P:arC}{f:arY}{args:List Dy}{objs:List ak}{Q Q':bD->List ak->Prop}(h:aF P f args objs Q)
 (ht:∀r o,Q r o->∃bs pl r' o' q,pz objs.length bs pl r o=some (r',o',q)/\(∀c∈q,c.all ag=true)/\Q' r' o'):aF P f args objs Q':=by
 intro B w₀ ρ w args' h1 h2 h3 h4
 refine(h B w₀ ρ w args' h1 h2 h3 h4).mono λe w' he=>?_
 obtain⟨r,o,ρ',hq,ir,gM,hw,iq,nk⟩:=he
 obtain⟨bs,pl,r',o',q,t1,t2,t3⟩:=ht r o hq
 unfold pz at t1
 split at t1
 ·cases t1
 ·rename_i ob fx
  split at t1
  ·rename_i o2 q2 r2 G5 eT hc
   simp only[DE,KN]at t1
   obtain⟨rfl,rfl,rfl⟩:=t1
   simp only[BV]at hc
   obtain⟨⟨c1,c2⟩,c3⟩:=hc
   obtain⟨g1,g2⟩:=Bz fx
   have e1:(bs.zip ob).map (·.1)=bs:=by rw[List.map_fst_zip (by omega)]
   have NT:=oQ G5 t2
   have hl:o2.length=bs.length:=by rw[<-NT.len];simp;omega
   have dX:∀x∈bs,small x=true:=λx hx=>by
    obtain⟨i,hi⟩:=asS hx
    obtain⟨oo,_,h⟩:=g2 i x hi
    have:x<o.length:=(KP.1 h).1
    exact ij.2 (by have:(2:Nat)^18=262144:=rfl;omega)
   obtain⟨ρ2,k1,k2,k3,k4⟩:=WR.Zc (bl:=bs.zip ob) (objs:=o2) (k:=objs.length) gM hw (λp hp=>by
    obtain⟨i,hi⟩:=asS hp
    rw[List.getElem?_zip_eq_some]at hi
    obtain⟨oo,h5,h6⟩:=g2 i p.1 hi.1
    rw[hi.2]at h5
    cases h5
    rw[cH (dX p.1 (ar7 hi.1))]
    exact h6) (λx hx=>by rw[nk x hx];exact h2 x hx) (by rw[e1];exact c1) (by rw[e1];exact c2) (by rw[e1];exact NT) (by rw[hl];exact arU c3)
   rw[e1]at k3
   refine⟨r2,o2,ρ2,t3,?_,k1,k4,by rw[hl];exact arU c3,λx hx=>(k2 x hx).trans (nk x hx)⟩
   unfold rB at eT
   split at eT
   ·rename_i v
    split at eT
    ·rename_i u hu
     cases eT
     cases e with
     |returned v'=>exact rp k3 6 v u v' hu ir
     |panicked chain=>cases ir
     |outgrown=>cases ir
    ·cases eT
   ·rename_i v
    split at eT
    ·rename_i gE
     cases eT
     cases e with
     |returned v'=>cases ir
     |panicked chain=>
      obtain⟨v',h1,h2⟩:=ir
      have:=nK gE h2
      subst this
      exact⟨v',h1,oE gE⟩
     |outgrown=>cases ir
    ·cases eT
  ·cases t1
def aG(P:arC)(f:arY)(n k:Nat)(Q:bD->List ak->Prop):bf->ai->Prop
 | .normal,d=>∃vs l,(∀u,(iv P (eV n u d.sl) (sW P f)).run (gt (lQ d.objs).mem)=some (vs,l))/\∃bs pl r' o' q,pz k bs pl (.ret (nH vs)) d.objs=some (r',o',q)/\(∀c∈q,c.all ag=true)/\Q r' o'
 | .ret,d=>∃vs l,(∀u,(iv P (eV n u d.sl) (sW P f)).run (gt (lQ d.objs).mem)=some (vs,l))/\∃bs pl r' o' q,pz k bs pl (.ret (nH vs)) d.objs=some (r',o',q)/\(∀c∈q,c.all ag=true)/\Q r' o'
 |_,_=>False
theorem aF.dv{P:arC}{f:arY}{n:Nat}{args:List Dy}{objs:List ak}{Q:bD->List ak->Prop}
 (hf:(((P.funcs[f]?).bind (·.body)).isSome&&arE (cp P f) n&&arM args.length n&&arM n 1024&&arM objs.length 262144)=true)
 (h:ao P n objs.length (a7 (dI P f)) ⟨wu args 0,objs⟩ (aG P f n objs.length Q)):aF P f args objs Q:=
 aF.trim (Q:=λr o=>∃bs pl r' o' q,pz objs.length bs pl r o=some (r',o',q)/\(∀c∈q,c.all ag=true)/\Q r' o')
  (aF.of hf (h.mono λx d hx=>by cases x<;>first|exact hx|exact hx.elim)) λr o h=>h
theorem aG.ret{P:arC}{f n k:Nat}{Q:bD->List ak->Prop}{d:ai}{vs:List Dy}{l bs pl:List Nat}{r':bD}{o':List ak}{q:List (List Dy)}(h:∀u,(iv P (eV n u d.sl) (sW P f)).run (gt (lQ d.objs).mem)=some (vs,l))
 (ht:pz k bs pl (.ret (nH vs)) d.objs=some (r',o',q))(hp:∀c∈q,c.all ag=true)(hq:Q r' o'):aG P f n k Q .ret d:=⟨vs,l,h,bs,pl,r',o',q,ht,hp,hq⟩
theorem aG.normal{P:arC}{f n k:Nat}{Q:bD->List ak->Prop}{d:ai}{vs:List Dy}{l bs pl:List Nat}{r':bD}{o':List ak}{q:List (List Dy)}(h:∀u,(iv P (eV n u d.sl) (sW P f)).run (gt (lQ d.objs).mem)=some (vs,l))
 (ht:pz k bs pl (.ret (nH vs)) d.objs=some (r',o',q))(hp:∀c∈q,c.all ag=true)(hq:Q r' o'):aG P f n k Q .normal d:=⟨vs,l,h,bs,pl,r',o',q,ht,hp,hq⟩
theorem be:∀c∈([]:List (List Dy)),c.all ag=true:=λc h=>by cases h
theorem aD{c:List Dy}{q:List (List Dy)}(h:c.all ag=true)(hq:∀c∈q,c.all ag=true):∀x∈c::q,x.all ag=true:=λx hx=>by
 rcases arD.1 hx with rfl|hx
 ·exact h
 ·exact hq x hx
attribute [simp] aE aW aS kA mC yS BG
@[simp] theorem apS{a b:List Dy}{n:Nat}(ha:a.all ag=true)(hb:b.all ag=true):(bc a n b).all ag=true:=iH ha hb n
@[simp] theorem apT{a:List Dy}{n:Nat}(ha:a.all ag=true):(a.take n).all ag=true:=nq ha n
@[simp] theorem apU{a:List Dy}{n:Nat}(ha:a.all ag=true):(a.drop n).all ag=true:=BH ha n
@[simp] theorem G6(b:ByteArray):(af b).all asr=true:=uF (aE b)
@[simp] theorem apV(b:List ByteArray):(ah b).all asr=true:=uF (aW b)
@[simp] theorem apW(b:List Int):(ay b).all asr=true:=uF (aS b)
@[simp] theorem apX(k:IntKind)(x:Int):ag (.int k x)=true:=rfl
@[simp] theorem apY(x:ByteArray):ag (.string x)=true:=rfl
@[simp] theorem apZ(x:Bool):ag (.bool x)=true:=rfl
@[simp] theorem ap0(k:IntKind)(x:Int):asr (.int k x)=true:=rfl
@[simp] theorem ap1(x:ByteArray):asr (.string x)=true:=rfl
@[simp] theorem ap2(x:Bool):asr (.bool x)=true:=rfl
@[simp] theorem ap3{a b:Nat}:arF a b=true↔a<b:=ed
@[simp] theorem ap4{a b:Nat}:arF a b=false↔b<=a:=by
 cases h:arF a b with
 |true=>have:=ed.1 h;simp;omega
 |false=>simp;exact Nat.le_of_not_lt λh'=>by rw[ed.2 h']at h;cases h
@[simp] theorem ap5{a b:Nat}:arM a b=true↔a<=b:=⟨arU,arZ⟩
@[simp] theorem ap6{a b:Nat}:arM a b=false↔b<a:=by
 cases h:arM a b with
 |true=>have:=arU h;simp;omega
 |false=>simp;exact Nat.lt_of_not_le λh'=>by rw[arZ h']at h;cases h
@[simp] theorem ap7{a b:Nat}:arE a b=true↔a=b:=⟨arJ,λh=>by subst h;exact asx a⟩
@[simp] theorem ap8{a b:Nat}:arE a b=false↔a≠b:=by
 cases h:arE a b with
 |true=>have:=arJ h;simp;omega
 |false=>simp;intro e;subst e;rw[asx]at h;cases h
@[simp] theorem Zd{n c:Nat}:full n c=true↔c<=n:=by
 unfold full
 cases c with
 |zero=>simp
 |succ c=>simp
@[simp] theorem ap9{n c:Nat}:full n c=false↔n<c:=by
 unfold full
 cases c with
 |zero=>simp
 |succ c=>simp
theorem kY(n:Nat):full n n=true:=Zd.2 (arO n)
def dP:List (arY×Sum)->arY->Option Sum
 | [],_=>none
 |p::l,f=>match arE f p.1 with
  |true=>some p.2
  |false=>dP l f
inductive yY(P:arC):List (arY×Sum)->Prop where
 |nil:yY P []
 |cons {f:arY} {s:Sum} {l:List (arY×Sum)} (h:bB P f s) (t:yY P l):yY P ((f,s)::l)
theorem ee{P:arC}{l:List (arY×Sum)}(h:yY P l):∀f s,dP l f=some s->bB P f s:=by
 induction h with
 |nil=>intro f s h;cases h
 |cons h _ ih=>
  intro f s hf
  unfold dP at hf
  split at hf
  ·rename_i hb
   cases hf
   rw[arJ hb]
   exact h
  ·exact ih f s hf
def Sum.of(g:List Dy->List ak->Option (Bool×bD×List ak)):Sum:=⟨yX,λa o=>match g a o with
 |some (c,r,o')=>.sP c (.done (r,o'))
 |none=>.fail⟩
theorem bB.of{P:arC}{f:arY}{g:List Dy->List ak->Option (Bool×bD×List ak)}(h:∀a o r o',g a o=some (true,r,o')->aF P f a o λr' G7=>r'=r/\G7=o'):bB P f (Sum.of g):=by
 intro a o r o' hr
 unfold Sum.of at hr
 dsimp only at hr
 split at hr
 ·rename_i c r1 o1 hg
  obtain⟨h1,h2⟩:=QT.uB hr
  subst h1
  cases h2
  exact h _ _ _ _ hg
 ·cases hr
theorem wE:∀{l:List (Nat×Dy)},ja (l.map (·.1))=true->∀p∈l,j7 l p.1=some p.2
 | [],_,p,hp=>by cases hp
 |q::l,h,p,hp=>by
  simp only[asn,ja,BV,atx,auh]at h
  obtain⟨h1,h2⟩:=h
  unfold j7
  rcases arD.1 hp with rfl|hp
  ·have hn:j7 l p.1=none:=by
    have key:∀l:List (Nat×Dy),(∀x∈l.map (·.1),¬arE p.1 x=true)->j7 l p.1=none:=by
     intro l
     induction l with
     |nil=>intro _;rfl
     |cons q l ih=>
      intro hx
      unfold j7
      rw[ih λx hm=>hx x (by simp at hm⊢;exact .inr hm)]
      have:=hx q.1 (by simp)
      cases hb:arE q.1 p.1 with
      |false=>rfl
      |true=>exact absurd (by rw[arJ hb,asx]) this
    exact key l h1
   rw[hn,asx]
  ·rw[wE h2 p hp]
def BK(i:Nat)(el:KS)(d:ai):ai:=
 ⟨d.sl.map λp=>bif arE p.1 i then(i,.slice (some ⟨d.objs.length,0,none⟩) 0 0)else p,d.objs++[.cells [] el false]⟩
theorem Holds.BL{P:arC}{X:wl}{d:ai}{a:Act}{w:arB}(i:Nat)(el:KS){s:Nat}(hz:bZ P el=some s)(hi:j7 d.sl i=some (.slice none 0 0))
 (hc:(ja (d.sl.map (·.1))&&d.sl.all (λp=>arF p.1 X.n)&&arF d.objs.length 262144&&arM X.k d.objs.length)=true)(h:Holds P X d a w):Holds P X (BK i el d) a w:=by
 obtain⟨ρ,u,M,hd⟩:=h
 simp only[BV]at hc
 obtain⟨⟨⟨c1,c2⟩,c3⟩,c4⟩:=hc
 have c3:=ed.1 c3
 have c4:=arU c4
 have uH:small d.objs.length=true:=ij.2 (by have:(2:Nat)^18=262144:=rfl;omega)
 have qj:cu d.objs d.objs.length=none:=by rw[cH uH];simp
 let r:bV:=⟨0,0,s,0⟩
 have hle:ρ.le (ρ.put d.objs.length r):=Ren.kQ (hd.mem.fresh _ qj) r
 have hw:=hd.mem.yd qj (o:=.cells [] el false) (r:=r) rfl (λm sz row e=>by cases e) (λcj ro e k hk=>by
  cases e
  rw[hz]at hk
  cases hk
  rfl)
 have hm:cX (cu d.objs) d.objs.length (.cells [] el false)=cu (d.objs++[.cells [] el false]):=by
  funext x
  by_cases hx:x=d.objs.length
  ·subst hx
   rw[fB,cH uH]
   simp
  ·rw[eB _ hx]
   cases hs:small x with
   |false=>rw[iE hs,iE hs]
   |true=>
    rw[cH hs,cH hs]
    by_cases hl:x<d.objs.length
    ·rw[asl hl]
    ·rw[asC (by omega),asC (by simp;omega)]
 rw[hm]at hw
 have wh:((eV X.n u d.sl).dS (M.map e8)).n=X.n:=by show(gY X.n u d.sl).length=_;unfold gY;rw[mA];simp
 have cc:a.tmps.size=X.n:=by rw[hd.fr.size,wh]
 have hn:X.n<=1024:=by have:=hd.fr.small;omega
 have ql:Full (ρ.put d.objs.length r):=λq=>by
  obtain⟨y,h1,h2⟩:=hd.full q
  exact⟨y,h1,hle _ _ h2⟩
 obtain⟨u',hu⟩:∃u':Nat->Dy,FR (ρ.put d.objs.length r) ((eV X.n u' (BK i el d).sl).dS (M.map e8)) a:=by
  refine FR.make (b:=M.map e8) cc hn (hd.fr.sF rfl) (λj=>⟨_,(hd.fr.at_ j).mono hle⟩) λp hp=>?_
  simp only[BK,as8]at hp
  obtain⟨p0,G8,rfl⟩:=hp
  have G9:p0.1<X.n:=ed.1 (ar1.1 c2 p0 G8)
  have ca:=hd.fr.at_ p0.1
  rw[Fr.yB,wq hn G9 (wE c1 p0 G8)]at ca
  cases hb:arE p0.1 i with
  |false=>exact⟨G9,ca.mono hle⟩
  |true=>
   have e:=arJ hb
   subst e
   refine⟨G9,?_⟩
   have h2:=wE c1 p0 G8
   rw[hi]at h2
   have h3:p0.2=.slice none 0 0:=(atZ h2).symm
   rw[h3]at ca
   show VR _ (.slice (some ⟨d.objs.length,0,none⟩) 0 0) (a.tmps.getD p0.1 undef)
   rw[VR.su rfl ca]
   exact .eJ _ _
 exact⟨_,u',M,ql,λx hx=>by
  rw[<-hd.kept x hx]
  show(if x=d.objs.length then some r else ρ x)=ρ x
  rw[if_neg (by omega)],hu,hw,by
  show Nat.le (d.objs++[ak.cells [] el false]).length 262144
  simp;omega,hd.quiet,hd.gR,hd.outside⟩
theorem ao.BL{P:arC}{n k:Nat}{l:List ar3}{d d':ai}{Q:bf->ai->Prop}(i:Nat)(el:KS){s:Nat}(hz:bZ P el=some s)(hi:j7 d.sl i=some (.slice none 0 0))
 (hc:(ja (d.sl.map (·.1))&&d.sl.all (λp=>arF p.1 n)&&arF d.objs.length 262144&&arM k d.objs.length)=true)(hd:BK i el d=d')(h:ao P n k l d' Q):ao P n k l d Q:=by
 intro X hn hk a w qh
 subst hd
 exact h X hn hk a w (qh.BL i el hz hi (by rw[hn,hk];exact hc))
theorem WR.Ha{P:arC}{B:Nat->Prop}{w₀ w:arB}{ρ:Ren}{objs:List ak}(h:WR P B w₀ ρ (cu objs) w){el:KS}{s:Nat}(hz:bZ P el=some s)(hl:objs.length<262144):
 ∃ρ1,ρ.le ρ1/\WR P B w₀ ρ1 (cu (objs++[.cells [] el false])) w/\(∀x,x≠objs.length->ρ1 x=ρ x)/\∃r,ρ1 objs.length=some r:=by
 have uH:small objs.length=true:=ij.2 (by have:(2:Nat)^18=262144:=rfl;omega)
 have qj:cu objs objs.length=none:=by rw[cH uH];simp
 have hw:=h.yd qj (o:=.cells [] el false) (r:=⟨0,0,s,0⟩) rfl (λm sz row e=>by cases e) (λcj ro e k hk=>by
  cases e
  rw[hz]at hk
  cases hk
  rfl)
 have hm:cX (cu objs) objs.length (.cells [] el false)=cu (objs++[.cells [] el false]):=by
  funext x
  by_cases hx:x=objs.length
  ·subst hx
   rw[fB,cH uH]
   simp
  ·rw[eB _ hx]
   cases hs:small x with
   |false=>rw[iE hs,iE hs]
   |true=>
    rw[cH hs,cH hs]
    by_cases hl:x<objs.length
    ·rw[asl hl]
    ·rw[asC (by omega),asC (by simp;omega)]
 rw[hm]at hw
 exact⟨_,Ren.kQ (h.fresh _ qj) _,hw,λx hx=>Ren.qS ρ _ hx,_,Ren.lr ρ _ _⟩
def nr(i k:Nat)(el:KS)(d:ai):ai:=
 ⟨d.sl,(match d.objs[i]?with
  |some (.cells c e ro)=>d.objs.set i (.cells (c.set k (.slice (some ⟨d.objs.length,0,none⟩) 0 0)) e ro)
  |_=>d.objs)++[.cells [] el false]⟩
theorem ao.nr{P:arC}{n k:Nat}{l:List ar3}{d d':ai}{Q:bf->ai->Prop}(i kk:Nat)(el:KS){s:Nat}{c:List Dy}{e:KS}(hz:bZ P el=some s)(hi:d.objs[i]?=some (.cells c e false))(hc:c[kk]?=some (.slice none 0 0))
 (hb:(arF d.objs.length 262144&&arM k d.objs.length)=true)(hd:Go.Proofs.YtnlkkgpcikkpoaaGreat.Vm.nr i kk el d=d')(h:ao P n k l d' Q):ao P n k l d Q:=by
 intro X hn hk a w qh
 subst hd
 refine h X hn hk a w ?_
 obtain⟨ρ,u,M,hd⟩:=qh
 simp only[BV]at hb
 have c3:=ed.1 hb.1
 have c4:=arU hb.2
 obtain⟨ρ1,g1,g2,g3,r0,g4⟩:=hd.mem.Ha hz c3
 have qZ:i<d.objs.length:=(KP.1 hi).1
 have yR:small i=true:=ij.2 (by have:(2:Nat)^18=262144:=rfl;omega)
 have dX:∀x,x<=d.objs.length->small x=true:=λx hx=>ij.2 (by have:(2:Nat)^18=262144:=rfl;omega)
 have gM:Full ρ1:=λq=>by
  obtain⟨y,a,b⟩:=hd.full q
  exact⟨y,a,g1 _ _ b⟩
 have Hb:(Go.Proofs.YtnlkkgpcikkpoaaGreat.Vm.nr i kk el d).objs=d.objs.set i (.cells (c.set kk (.slice (some ⟨d.objs.length,0,none⟩) 0 0)) e false)++[.cells [] el false]:=by
  unfold Go.Proofs.YtnlkkgpcikkpoaaGreat.Vm.nr
  rw[hi]
 have br:c≠[]:=by rintro rfl;simp at hc
 have ix:∀x o,cu (Go.Proofs.YtnlkkgpcikkpoaaGreat.Vm.nr i kk el d).objs x=some o->(x≠i/\cu (d.objs++[.cells [] el false]) x=some o)\/(x=i/\o=.cells (c.set kk (.slice (some ⟨d.objs.length,0,none⟩) 0 0)) e false):=λx o hx=>by
  rw[Hb]at hx
  cases hs:small x with
  |false=>
   refine .inl ⟨(λe=>by subst e;rw[yR]at hs;cases hs),?_⟩
   rw[iE hs]at hx⊢
   exact hx
  |true=>
   rw[cH hs]at hx
   by_cases e0:x=i
   ·subst e0
    rw[asl (by simpa using qZ),at7 qZ]at hx
    exact .inr ⟨rfl,(atZ hx).symm⟩
   ·refine .inl ⟨e0,?_⟩
    rw[cH hs]
    by_cases iT:x<d.objs.length
    ·rw[asl (by simpa using iT),auj (Ne.symm e0)]at hx
     rw[asl iT]
     exact hx
    ·rw[asd (by simp;omega)]at hx
     rw[asd (by omega)]
     simpa using hx
 have wa:cu (d.objs++[.cells [] el false]) i=some (.cells c e false):=by
  rw[cH yR,asl qZ];exact hi
 have He:∀r,Live (.cells c e false) r=true:=λr=>pc br
 have cU:WR P X.B X.w₀ ρ1 (cu (Go.Proofs.YtnlkkgpcikkpoaaGreat.Vm.nr i kk el d).objs) w:=
  {below:=g2.below,env:=g2.env,size:=g2.size
   live:=by
    intro x o r hx hr hl
    rcases ix x o hx with⟨_,h2⟩|⟨rfl,rfl⟩
    ·exact g2.live x o r h2 hr hl
    ·obtain⟨o',q1,q2,q3⟩:=g2.live x _ r wa hr (He r)
     refine⟨o',q1,?_,λ_=>q3 rfl⟩
     cases q2 with
     |cells _ _ cj _ c' fr hp hs he AJ hf jQ=>
      refine .cells _ e cj false c' fr hp (by rw[asU];exact hs) he AJ hf λj v hv=>?_
      by_cases ej:j=kk
      ·subst ej
       have Ze:j<c.length:=(KP.1 hc).1
       rw[at7 Ze]at hv
       cases hv
       obtain⟨v',q4,q5⟩:=jQ j _ hc
       have:=VR.su rfl q5
       subst this
       exact⟨_,q4,.eJ _ _⟩
      ·rw[auj (Ne.symm ej)]at hv
       exact jQ j v hv
   inj:=by
    intro x y ox oy rx ry hx hy lD cD lE dq uI he
    have key:∀x o r,cu (Go.Proofs.YtnlkkgpcikkpoaaGreat.Vm.nr i kk el d).objs x=some o->Live o r=true->∃ob,cu (d.objs++[.cells [] el false]) x=some ob/\Live ob r=true/\ob.ro=o.ro:=λx o r hx hl=>by
     rcases ix x o hx with⟨_,h2⟩|⟨rfl,rfl⟩
     ·exact⟨o,h2,hl,rfl⟩
     ·exact⟨_,wa,He r,rfl⟩
    obtain⟨a,a1,a2,a3⟩:=key x ox rx hx lE
    obtain⟨b,b1,b2,b3⟩:=key y oy ry hy dq
    exact g2.inj x y a b rx ry a1 b1 lD cD a2 b2 (uI.imp (λh=>a3▸h) (λh=>b3▸h)) he
   fresh:=by
    intro x hx
    refine g2.fresh x ?_
    rw[Hb]at hx
    cases hs:small x with
    |false=>rw[iE hs]at hx;cases hx
    |true=>
     rw[cH hs,atg]at hx
     rw[cH hs,atg]
     simp at hx⊢
     omega
   rows:=by
    intro x m size row hx
    rcases ix x _ hx with⟨_,h2⟩|⟨rfl,h2⟩
    ·exact g2.rows x m size row h2
    ·cases h2
   nil:=by
    intro x cj ro r hx hr
    rcases ix x _ hx with⟨_,h2⟩|⟨rfl,h2⟩
    ·exact g2.nil x cj ro r h2 hr
    ·exfalso
     simp only[ak.cells.injEq]at h2
     have:=congrArg nG h2.1
     rw[asU]at this
     exact br (ar5 this.symm)
   named:=by
    intro x o hx Zf
    rcases ix x o hx with⟨_,h2⟩|⟨rfl,_⟩
    ·exact g2.named x o h2 Zf
    ·exact g2.named x _ wa (by intro e;cases e)
   abs:=by
    refine g2.abs.next (λx d hx=>?_) (λk _ a b=>⟨rfl,a,λy o r hy hr hl=>?_⟩) (arO _)
    ·rcases ix x _ hx with⟨_,h2⟩|⟨rfl,h2⟩
     ·exact⟨h2,rfl⟩
     ·cases h2
    ·rcases ix y o hy with⟨_,h2⟩|⟨rfl,rfl⟩
     ·exact b y o r h2 hr hl
     ·exact b _ _ r wa hr (He r)}
 refine⟨ρ1,u,M,gM,λx hx=>?_,hd.fr.mono g1,cU,?_,hd.quiet,hd.gR,hd.outside⟩
 ·rw[<-hd.kept x hx,g3 x (by omega)]
 ·rw[Hb];simp;omega
def NU(P:arC)(g:Nat->Option ak):Nat->List Nat->List Nat
 |0,l=>l
 |d+1,l=>NU P g d (yW (l++(l.map λx=>match g x with
  |some (.cells c el _)=>match NI P el with
   |true=>[]
   |false=>(c.map (sX 6)).flatten
  |_=>[]).flatten) [])
def nY(P:arC)(args:List Dy)(g:Nat->Option ak):Option (List Nat):=some (NU P g 6 (yW ((args.map (sX 6)).flatten) []))
def Sum.dQ(P:arC)(g:List Dy->List ak->Option (Bool×bD×List ak)):Sum:=⟨nY P,(Sum.of g).spec⟩
theorem bB.dQ{P:arC}{f:arY}{g:List Dy->List ak->Option (Bool×bD×List ak)}(h:∀a o r o',g a o=some (true,r,o')->aF P f a o λr' G7=>r'=r/\G7=o'):bB P f (Sum.dQ P g):=
 λa o r o' hs=>bB.of h a o r o' hs
structure Hf where
 x:Nat
 d1:Nat
 d2:Nat
 ty:KS
def Hg:List ar3->Option Hf
 | .region _ ops false::_=>match ops.toList with
  | [o1,o2]=>match o1.op,o1.dst,o1.guard,o2.op,o2.dst,o2.guard with
   | .move (.tmp x),some d1,none,.binOp .eql ty (.tmp y) (.const (.slice none 0 0)) _,some d2,none=>match arE y d1&& !Nat.beq d1 d2 with
    |true=>some ⟨x,d1,d2,ty⟩
    |false=>none
   |_,_,_,_,_,_=>none
  |_=>none
 |_=>none
theorem Zg{l:List ar3}{N:Hf}(h:Hg l=some N):∃id o1 o2 rest yt,l=.region id #[o1,o2] false::rest/\o1.op=.move (.tmp N.x)/\o1.dst=some N.d1/\o1.guard=none/\
 o2.op=.binOp .eql N.ty (.tmp N.d1) (.const (.slice none 0 0)) yt/\o2.dst=some N.d2/\o2.guard=none/\N.d1≠N.d2:=by
 unfold Hg at h
 split at h
 ·rename_i id ops rest
  split at h
  ·rename_i o1 o2 nf
   split at h
   ·rename_i x d1 ty y yt d2 h1 h2 h3 h4 h5 h6
    split at h
    ·rename_i hb
     cases h
     simp only[BV,atx]at hb
     have hy:=arJ hb.1
     subst hy
     refine⟨id,o1,o2,rest,yt,?_,h1,h2,h3,h4,h5,h6,λe=>?_⟩
     ·rw[show ops= #[o1,o2]by rw[<-Array.toArray_toList (xs:=ops),nf]]
     ·dsimp only at e;rw[e,asx]at hb;cases hb.2
    ·cases h
   ·cases h
  ·cases h
 ·cases h
theorem VR.NV{ρ:Ren}{a:Addr}{v:Dy}(h:VR ρ (.slice (some a) 0 0) v):∃a' c',v=.slice a' 0 c':=by
 cases h with
 |bN _ h=>cases h
 |sl b off _ _ bH r h hc=>exact⟨_,_,rfl⟩
 |eJ _ a'=>exact⟨_,_,rfl⟩
 |nJ=>exact⟨_,_,rfl⟩
theorem Zh{P:arC}{ty el:KS}(ht:P.underlying ty=some (.slice el))(a':Option Addr)(c':Nat)(x y:Operand)(w:arB):
 ∃b,((do eqGuard .eql ty x y (.slice a' 0 c') (.slice none 0 0);binOp .eql ty (.slice a' 0 c') (.slice none 0 0)):Sem Dy).run P w=.ok (.bool b) w:=by
 cases a' with
 |none=>exact⟨true,by
  show(at5 P (do let r <-aun ty (.slice none 0 c') (.slice none 0 0);(pure (asu r):Sem Dy)) w)=_
  obtain⟨dd,uI⟩:∃dd,ayc=dd+1:=⟨_,rfl⟩
  unfold aun
  rw[uI]
  unfold at6
  simp only[DA,Vm.run_underlying ht,Dz]
  rfl⟩
 |some a=>exact⟨false,by
  show(at5 P (do let r <-aun ty (.slice (some a) 0 c') (.slice none 0 0);(pure (asu r):Sem Dy)) w)=_
  obtain⟨dd,uI⟩:∃dd,ayc=dd+1:=⟨_,rfl⟩
  unfold aun
  rw[uI]
  unfold at6
  simp only[DA,Vm.run_underlying ht,Dz]
  rfl⟩
theorem ao.NW{P:arC}{n k:Nat}{l:List ar3}{d:ai}{Q:bf->ai->Prop}(N:Hf)(el:KS)(a:Addr)(hl:Hg l=some N)(ht:P.underlying N.ty=some (.slice el))
 (hx:j7 d.sl N.x=some (.slice (some a) 0 0))(hc:(ja (d.sl.map (·.1))&&d.sl.all (λp=>arF p.1 n&&(!Nat.beq p.1 N.d1&& !Nat.beq p.1 N.d2))&&(arF N.d1 n&&arF N.d2 n))=true)
 (h:∀b,ao P n k l.tail ⟨d.sl++[(N.d2,.bool b)],d.objs⟩ Q):ao P n k l d Q:=by
 obtain⟨id,o1,o2,rest,yt,rfl,h1,h2,h3,h4,h5,h6,h7⟩:=Zg hl
 simp only[BV]at hc
 obtain⟨⟨c1,c2⟩,c3,c4⟩:=hc
 intro X hn hk ac w hd
 subst hn hk
 obtain⟨ρ,u,M,hd⟩:=hd
 have cc:ac.tmps.size=X.n:=by have:=hd.fr.size;rw[this];show(gY X.n u d.sl).length=_;unfold gY;simp[mA]
 have dX:X.n<=1024:=by have h0:(gY X.n u d.sl).length<=1024:=hd.fr.small;unfold gY at h0;simpa[mA]using h0
 have ca:∀p∈d.sl,VR ρ p.2 (ac.tmps.getD p.1 undef):=λp hp=>by
  have h8:=hd.fr.at_ p.1
  have:=ar1.1 c2 p hp
  simp only[BV]at this
  rwa[Fr.yB,wq dX (ed.1 this.1) (wE c1 p hp)]at h8
 have Zi:∃p∈d.sl,p.1=N.x/\p.2=.slice (some a) 0 0:=by
  have key:∀(l:List (Nat×Dy)) (v:Dy),j7 l N.x=some v->∃p∈l,p.1=N.x/\p.2=v:=by
   intro l
   induction l with
   |nil=>intro v h;cases h
   |cons p l ih=>
    intro v h
    unfold j7 at h
    split at h
    ·rename_i v' hv
     cases h
     obtain⟨q,h1,h2⟩:=ih _ hv
     exact⟨q,arG _ h1,h2⟩
    ·split at h
     ·rename_i hb;cases h;exact⟨p,arH,arJ hb,rfl⟩
     ·cases h
  exact key _ _ hx
 obtain⟨p,hp,jG,Zj⟩:=Zi
 have hv:=ca p hp
 rw[jG,Zj]at hv
 obtain⟨a',c',gJ⟩:=hv.NV
 rw[gJ]at hv
 refine wp_region ?_
 show wpOps P #[o1,o2] _ [0,1] ac w
 have w1:∀t,asZ o1 t=true:=λt=>by unfold asZ;rw[h3]
 have w2:∀t,asZ o2 t=true:=λt=>by unfold asZ;rw[h6]
 unfold wpOps
 simp only[awL,asf,w1,if_true]
 left
 unfold Oper.wp
 have e1:(execOp ac.eval o1).run P w=.ok (.value (.slice a' 0 c')) w:=by
  unfold execOp
  rw[h1]
  show at5 P (pure (Next.value (ac.eval (.tmp N.x))):Sem Next) w=_
  rw[show ac.eval (.tmp N.x)=.slice a' 0 c' from gJ]
  rfl
 rw[e1]
 show wpOps P #[o1,o2] _ [1] (ac.put o1.dst (.slice a' 0 c')) w
 unfold wpOps
 simp only[awL,List.getElem?_cons_succ,asf,w2,if_true]
 left
 unfold Oper.wp
 rw[h2]
 obtain⟨b,hb⟩:=Zh ht a' c' (.tmp N.d1) (.const (.slice none 0 0)) w
 have lY:N.d1<ac.tmps.size:=by rw[cc];exact ed.1 c3
 have e2:(execOp (ac.put (some N.d1) (.slice a' 0 c')).eval o2).run P w=.ok (.value (.bool b)) w:=by
  unfold execOp
  rw[h4]
  have Zk:(ac.put (some N.d1) (.slice a' 0 c')).eval (.tmp N.d1)=.slice a' 0 c':=by
   show(ac.tmps.setIfInBounds N.d1 (.slice a' 0 c')).getD N.d1 undef=_
   simp only[ar8,as0,lY,if_true,ati]
  have Zl:(ac.put (some N.d1) (.slice a' 0 c')).eval (.const (.slice none 0 0))=.slice none 0 0:=rfl
  simp only[Zk,Zl]
  rw[DA,hb]
  rfl
 rw[e2]
 have key:Holds P X ⟨d.sl++[(N.d2,.bool b)],d.objs⟩ ((ac.put (some N.d1) (.slice a' 0 c')).put o2.dst (.bool b)) w:=?_
 ·exact h b X rfl rfl _ w key
 rw[h5]
 have cF:∃u',FR ρ ((eV X.n u' (d.sl++[(N.d2,.bool b)])).dS (M.map e8)) ((ac.put (some N.d1) (.slice a' 0 c')).put (some N.d2) (.bool b)):=by
  have Zm:Vm.put ((eV X.n u d.sl).dS (M.map e8)) (some N.d1) (.slice (some a) 0 0)=some {((eV X.n u d.sl).dS (M.map e8))with t:=(eV X.n u d.sl).t.set 10 N.d1 (.slice (some a) 0 0)}:=by
   simp only[Vm.put,Fr.sd]
   have:arF N.d1 ((eV X.n u d.sl).dS (M.map e8)).n=true:=by
    have:((eV X.n u d.sl).dS (M.map e8)).n=X.n:=by show(gY X.n u d.sl).length=_;unfold gY;simp[mA]
    rw[this];exact c3
   rw[this]
   rfl
  have f1:=hd.fr.put hv Zm
  have Zn:Vm.put {((eV X.n u d.sl).dS (M.map e8))with t:=(eV X.n u d.sl).t.set 10 N.d1 (.slice (some a) 0 0)} (some N.d2) (.bool b)=some {((eV X.n u d.sl).dS (M.map e8))with t:=((eV X.n u d.sl).t.set 10 N.d1 (.slice (some a) 0 0)).set 10 N.d2 (.bool b)}:=by
   simp only[Vm.put,Fr.sd]
   have:arF N.d2 ((eV X.n u d.sl).dS (M.map e8)).n=true:=by
    have:((eV X.n u d.sl).dS (M.map e8)).n=X.n:=by show(gY X.n u d.sl).length=_;unfold gY;simp[mA]
    rw[this];exact c4
   simp only[this]
  have f2:=f1.put (VR.bN (.bool b) rfl) Zn
  refine FR.make (b:=M.map e8) (by rw[f2.size];show(gY X.n u d.sl).length=_;unfold gY;simp[mA]) dX (f2.sF rfl) (λi=>⟨_,f2.at_ i⟩) λq hq=>?_
  rcases arL.1 hq with hq|hq
  ·have jj:=ar1.1 c2 q hq
   simp only[BV,atx]at jj
   obtain⟨q1,q2,q3⟩:=jj
   refine⟨ed.1 q1,?_⟩
   have n1:q.1≠N.d1:=λe=>by rw[e,asx]at q2;cases q2
   have n2:q.1≠N.d2:=λe=>by rw[e,asx]at q3;cases q3
   have:((ac.put (some N.d1) (.slice a' 0 c')).put (some N.d2) (.bool b)).tmps.getD q.1 undef=ac.tmps.getD q.1 undef:=by
    show((ac.tmps.setIfInBounds N.d1 _).setIfInBounds N.d2 _).getD q.1 undef=_
    rw[ar8,asX (Ne.symm n2),asX (Ne.symm n1),<-ar8]
   rw[this]
   exact ca q hq
  ·simp only[ar0]at hq
   subst hq
   refine⟨ed.1 c4,?_⟩
   have:((ac.put (some N.d1) (.slice a' 0 c')).put (some N.d2) (.bool b)).tmps.getD N.d2 undef=.bool b:=by
    show((ac.tmps.setIfInBounds N.d1 _).setIfInBounds N.d2 _).getD N.d2 undef=_
    have mD:N.d2<(ac.tmps.setIfInBounds N.d1 (.slice a' 0 c')).size:=by rw[at0,cc];exact ed.1 c4
    simp only[ar8,as0,mD,if_true,ati]
   rw[this]
   exact .bN _ rfl
 obtain⟨u',sE⟩:=cF
 exact⟨ρ,u',M,hd.full,hd.kept,sE,hd.mem,hd.bR,hd.quiet,hd.gR,hd.outside⟩
structure aqa where
 args:List Dy
 objs:List ak
 r:bD
 out:List ak
def mG(P:arC)(r:Option Nat):List ar3->(atO->Act->arB->Prop)->Act->arB->Prop
 | [],Q,a,w=>Q .normal a w
 |c::l,Q,a,w=>c.wpIn (FF r) 0 P (Exit.then (mG P r l Q) Q) a w
theorem NX{P:arC}{r:Option Nat}:∀{l:List ar3} {Q Q':atO->Act->arB->Prop} {a:Act} {w:arB},mG P r l Q a w->(∀e a w,Q e a w->Q' e a w)->mG P r l Q' a w
 | [],Q,Q',a,w,h,hq=>hq _ _ _ h
 |c::l,Q,Q',a,w,h,hq=>av6 h λe a w he=>by
  cases e with
  |normal=>exact NX he hq
  |_=>exact hq _ _ _ he
theorem NY{P:arC}{r:Option Nat}:∀{l l':List ar3} {Q:atO->Act->arB->Prop} {a:Act} {w:arB},mG P r l (Exit.then (mG P r l' Q) Q) a w->mG P r (l++l') Q a w
 | [],l',Q,a,w,h=>h
 |c::l,l',Q,a,w,h=>av6 h λe a w he=>by
  cases e with
  |normal=>exact NY he
  |_=>exact he
theorem NZ{P:arC}{r:Option Nat}:∀{c:ar3} {Q:atO->Act->arB->Prop} {a:Act} {w:arB},mG P r (a7 c) Q a w->c.wpIn (FF r) 0 P Q a w:=by
 intro c
 induction c with
 |seq a b jm lO=>
  intro Q t w h
  have h:mG P r (a7 a++a7 b) Q t w:=h
  refine wpIn_seq (jm ?_)
  -- take apart what stands one behind the other
  have key:∀(l l':List ar3) (Q:atO->Act->arB->Prop) (t:Act) (w:arB),mG P r (l++l') Q t w->mG P r l (Exit.then (mG P r l' Q) Q) t w:=by
   intro l
   induction l with
   |nil=>intro l' Q t w h;exact h
   |cons c l ih=>
    intro l' Q t w h
    refine av6 (show c.wpIn (FF r) 0 P (Exit.then (mG P r (l++l') Q) Q) t w from h) λe t w he=>?_
    cases e with
    |normal=>exact ih l' Q t w he
    |_=>exact he
  refine NX (key _ _ _ _ _ h) λe t w he=>?_
  cases e with
  |normal=>exact lO he
  |_=>exact he
 |_=>
  intro Q t w h
  refine av6 (show Code.wpIn (FF r) 0 P _ (Exit.then (mG P r [] Q) Q) t w from h) λe t w he=>?_
  cases e<;>exact he
theorem N0{P:arC}{r:Option Nat}(hP:iV P=true)(fM:P.follows .mixedOrders=true){call:cQ}(hc:iy P call)(lf:Nat):∀{l:List ar3} {t t1:Fr} {S S1:VS} {x:bf},lV P call lf l t S=some (x,t1,S1)->
 ∀{B:Nat->Prop} {w₀:arB} {ρ:Ren} {m:Nat->Option ak} {w:arB} {a:Act},FR ρ t a->WR P B w₀ ρ m w->gr S S1 m->
 ∀{Q:atO->Act->arB->Prop},(∀(ρ':Ren) (e:atO) (a':Act) (w':arB),ρ.le ρ'->XR ρ' x e->FR ρ' t1 a'->WR P B w₀ ρ' (post m S1) w'->Q e a' w')->mG P r l Q a w
 | [],t,t1,S,S1,x,h,B,w₀,ρ,m,w,a,ht,hw,hm,Q,hQ=>by
  simp only[lV,DE,KN]at h
  obtain⟨rfl,rfl,rfl⟩:=h
  exact hQ ρ _ a w (Ren.le_refl ρ) .normal ht (by rw[pq hm];exact hw)
 |c::l,t,t1,S,S1,x,h,B,w₀,ρ,m,w,a,ht,hw,hm,Q,hQ=>by
  unfold lV at h
  split at h
  ·rename_i t2 S2 hx
   have e2:=yM hc lf h
   refine(ur hP fM hc lf (r:=r) (λh=>by cases h) c hx ht hw (hm.first e2) λρ' e a' w' hle dL cF cU=>?_)
   cases dL
   refine N0 hP fM hc lf h cF cU (hm.next (oL hc lf hx)) λρ2 rj a2 w2 kV kw mw iz=>?_
   rw[po e2]at iz
   exact hQ ρ2 rj a2 w2 (Ren.le_trans hle kV) kw mw iz
  ·rename_i br
   refine(ur hP fM hc lf (r:=r) (λh=>by cases h) c h ht hw hm λρ' e a' w' hle dL cF cU=>?_)
   cases dL with
   |normal=>exact absurd h (br _ _)
   |_=>exact hQ ρ' _ a' w' hle (by constructor<;>assumption) cF cU
def kD(P:arC)(n k:Nat)(l:List ar3)(d:ai)(Q:bf->ai->Prop):Prop:=
 ∀(X:wl),X.n=n->X.k=k->∀(r:Option Nat) (a:Act) (w:arB),Holds P X d a w->mG P r l (λe a' w'=>∃x d',Q x d'/\XR (λ_=>none) x e/\Holds P X d' a' w') a w
theorem kD.nil{P:arC}{n k:Nat}{d:ai}{Q:bf->ai->Prop}(h:Q .normal d):kD P n k [] d Q:=λX hn hk r a w hd=>⟨.normal,d,h,.normal,hd⟩
theorem kD.tree{P:arC}(hP:iV P=true)(fM:P.follows .mixedOrders=true){cO:fX}(hc:dD P cO){lf n k m:Nat}{l:List ar3}{d:ai}{s:ST}{T:Tree}
 (h:∀u,(uA P cO lf (l.take m) (eV n u d.sl) (lQ d.objs)).sym (wC n k) s=some T){Q:bf->ai->Prop}
 (hT:T.ok (λx d'=>match x with
  | .normal=>kD P n k (l.drop m) d' Q
  |x=>Q x d')):kD P n k l d Q:=by
 intro X hn hk r a w hd
 have qh:=hd
 obtain⟨ρ,u,M,hd⟩:=hd
 obtain⟨p,sl,bs,pl,T',h1,h2,h3⟩:=DT.NS (h u) hT
 obtain⟨x,t1,S1⟩:=p
 dsimp only[wC]at h2
 cases mB:qn bs S1 with
 |none=>rw[mB]at h2;cases h2
 |some bl=>
  rw[mB]at h2
  dsimp only at h2
  split at h2
  ·rename_i dl objs q hs hr
   split at h2
   ·rename_i du
    cases h2
    obtain⟨hq,rE⟩:=G2 h3
    have kX:=G3 mB
    have fx:=oQ hr hq
    simp only[BV]at du
    obtain⟨⟨⟨⟨⟨⟨c1,c2⟩,c3⟩,c4⟩,c5⟩,c6⟩,c7,c8⟩:=du
    have hlen:objs.length=bs.length:=by rw[<-fx.len,<-kX];simp
    subst hn hk
    obtain⟨cV,yU,G4⟩:=hc.ex
    have hv:=GH G4 lf h1
    have he:=yM yU lf hv
    have dX:=he.sm (λx hx=>by rcases hx with hx|hx<;>cases hx)
    have nP:gr (lQ d.objs) S1 (cu d.objs):=λx hx=>by rw[cH (dX x hx),yJ hd.bR]
    rw[<-asD m l]
    have py:=NE hd.quiet
    refine NY (N0 hP fM yU lf (GI (M.map e8) hv) hd.fr (hd.mem.A8 py) nP λρ' e a' w' hle dL cF yV=>?_)
    have cU:=yV.A9 hd.mem.env hd.mem.below hd.mem.size py
    have hh:Holds P X ⟨dl,objs⟩ a' w':=Holds.NB (bl:=bl) (t:=t1.dS (M.map e8)) (M:=M) hd.full hle hd.kept cF (arJ c6) (atN.1 c7) rfl (λD hD=>(yV.Ba hD).trans (hd.quiet D hD)) hd.gR hd.outside cU rfl (λp hp=>by
     have hg:=GJ mB p hp
     unfold post
     by_cases hx:p.1∈S1.wr
     ·rw[if_pos hx,hg]
     ·rw[if_neg hx,cH (p9 hg),<-yJ hd.bR,<-he.frame p.1 hx,hg]) (by rw[kX];exact c1) (by rw[kX];exact c2) (by rw[kX];exact hs) (by rw[kX];exact fx) c3 (arZ (by rw[hlen];exact arU c4))
    cases x with
    |normal=>cases dL;exact rE X rfl rfl r a' w' hh
    |exit id=>cases dL;exact⟨.exit id,_,rE,.exit id,hh⟩
    |ret=>cases dL;exact⟨.ret,_,rE,.ret,hh⟩
    |panic v=>
     cases dL with
     |panic _ v' hv=>
      have:=nK c5 hv
      subst this
      exact⟨.panic v',_,rE,.panic _ _ (oE c5),hh⟩
   ·cases h2
  ·cases h2
theorem kD.done{P:arC}{n k:Nat}{l:List ar3}{d:ai}{Q:bf->ai->Prop}(hl:l.isEmpty=true)(h:Q .normal d):kD P n k l d Q:=by
 cases l with
 |nil=>exact kD.nil h
 |cons c l=>cases hl
def St(P:arC)(B:Nat->Prop)(w₀:arB)(ρ:Ren)(K:Nat)(O:List ak)(W:arB):Prop:=∃ρ':Ren,Full ρ'/\(∀x,x<K->ρ' x=ρ x)/\WR P B w₀ ρ' (cu O) W
def N1:List ar3->Option (Nat×List Nat)
 | .rangeFunc (.tmp g) ps _ _::_=>some (g,ps.toList)
 |_=>none
def N2:List ar3->ar3
 | .rangeFunc _ _ a _::_=>a
 |_=>.skip
def Hh:List ar3->ar3
 | .rangeFunc _ _ _ b::_=>b
 |_=>.skip
def Hi(K:Nat)(x:Nat):Option Nat:=match arF x K with
 |true=>some x
 |false=>none
def Zo:ak->Bool
 | .dead=>false
 |_=>true
theorem N3:∀(l:List (Nat×Dy)) (t:Array Dy),(l.foldl (λt p=>t.setIfInBounds p.1 p.2) t).size=t.size
 | [],t=>rfl
 |p::l,t=>by rw[att,N3 l,at0]
theorem Hj{i:Nat}:∀(l:List (Nat×Dy)) (t:Array Dy),(∀p∈l,p.1≠i)->(l.foldl (λt p=>t.setIfInBounds p.1 p.2) t).getD i undef=t.getD i undef
 | [],t,_=>rfl
 |p::l,t,h=>by
  rw[att,Hj l _ λq hq=>h q (arG _ hq)]
  rw[ar8,asX (h p arH),<-ar8]
theorem N4{ρ:Ren}:∀(l:List (Nat×Dy)) (t:Array Dy),(∀p∈l,∃u,VR ρ u p.2)->(∀i,∃u,VR ρ u (t.getD i undef))->∀i,∃u,VR ρ u ((l.foldl (λt p=>t.setIfInBounds p.1 p.2) t).getD i undef)
 | [],t,_,h,i=>h i
 |p::l,t,hl,h,i=>by
  rw[att]
  refine N4 l _ (λq hq=>hl q (arG _ hq)) (λj=>?_) i
  rw[ar8]
  by_cases e:p.1=j
  ·subst e
   by_cases hj:p.1<t.size
   ·rw[as0,if_pos hj];exact hl p arH
   ·rw[Array.getElem?_eq_none (by rw[at0];omega)];exact⟨_,VR.undef ρ⟩
  ·rw[asX e,<-ar8];exact h j
theorem N5:∀(ps:List Nat) (xs:List Dy) (t:Array Dy),ja ps=true->ps.length=xs.length->∀(j i:Nat) (v:Dy),ps[j]?=some i->xs[j]?=some v->i<t.size->((ps.zip xs).foldl (λt p=>t.setIfInBounds p.1 p.2) t).getD i undef=v
 | [],_,t,_,_,j,i,v,h,_,_=>by simp at h
 |p::ps,[],t,_,hl,j,i,v,_,_,_=>by simp at hl
 |p::ps,x::xs,t,hn,hl,j,i,v,hi,hv,hs=>by
  rw[List.zip_cons_cons,att]
  simp only[ja,BV,atx,auh]at hn
  cases j with
  |zero=>
   simp only[asf,DE]at hi hv
   subst hi hv
   rw[Hj _ _ λq hq e=>?_]
   ·rw[ar8,as0,if_pos hs];rfl
   ·have:=hn.1 q.1 (List.of_mem_zip hq).1
    rw[e,asx]at this
    exact this rfl
  |succ j=>exact N5 ps xs _ hn.2 (by simpa using hl) j i v (by simpa using hi) (by simpa using hv) (by rw[at0];exact hs)
theorem N6{P:arC}{r:Option Nat}{n m:Nat}{c:ar3}{Q:atO->Act->arB->Prop}{a:Act}{w:arB}(h:c.wpIn (FF r) n P Q a w):c.wpIn (FF r) m P Q a w:=
 λb k cs h1 h2 _=>h b k cs h1 h2 λd hd=>by cases hd
theorem WR.Hk{P:arC}{B:Nat->Prop}{w₀ w w':arB}{ρ:Ren}{g:Nat->Option ak}(h:WR P B w₀ ρ g w)(hb:w.grownBy w' none):WR P B w₀ ρ g w' where
 env:=h.env
 below:=h.below.trans ⟨hb.os,hb.tape,hb.output,hb.size,λk hk=>hb.block k (h.size k hk) (by intro e;cases e)⟩
 size:=λk hk=>atP (h.size k hk) hb.size
 live:=λx o r hx hr hl=>by
  obtain⟨o',h1,h2⟩:=h.live x o r hx hr hl
  exact⟨o',(hb.block _ (asq.1 h1).1 (by intro e;cases e)).trans h1,h2⟩
 inj:=h.inj
 fresh:=h.fresh
 rows:=h.rows
 nil:=h.nil
 named:=h.named
 abs:=h.abs.next (λx d hx=>⟨hx,rfl⟩) (λk k1 a b=>⟨hb.block k k1 (by intro e;cases e),a,b⟩) hb.size
theorem wF{w w':arB}(h:w.grownBy w' none){D:Nat}{o:Obj}(hD:w.heap[D]?=some o):w'.heap[D]?=some o:=
 (h.block D (asq.1 hD).1 (by intro e;cases e)).trans hD
noncomputable abbrev ap(b:Nat):Dy:=.pointer (some ⟨b,0,none⟩)
noncomputable abbrev aa(x:Int):Dy:=.int .i64 x
noncomputable abbrev cA(b o n c:Nat):Dy:=.slice (some ⟨b,o,none⟩) n c
noncomputable abbrev aq(b n:Nat):Dy:=.slice (some ⟨b,0,none⟩) n n
noncomputable abbrev ci:Dy:=.slice none 0 0
noncomputable abbrev ab(c:List Dy)(t:KS):ak:=.cells c t false
abbrev aU:=bf->ai->Prop
noncomputable abbrev bu:=bD->List ak->Prop
def aB:List Nat->ST->ST
 | [],s=>s
 |k::l,s=>.cY (k/2) (arE (k%2) 1) (aB l s)
structure N7(P:arC)(w:arB)(ρ:Ren)(g:Nat->Option ak)(x:Nat)(r:bV)(L:List (Nat×CO))(Z:Nat->Option (bV×ak)):Prop where
 root:∃o,Z x=some (r,o)
 new:∀y p,y≠x->Z y=some p->g y=none
 own:∀y q o,Z y=some (q,o)->o.ro=false/\(∀d,o≠ .abs d)
 nil:∀y q el ro,Z y=some (q,.cells [] el ro)->∀n,bZ P el=some n->q.sz=n
 live:∀y q o,Z y=some (q,o)->Live o q=true->q.aH∈L.map (·.1)/\∃o',w.heap[q.aH]?=some o'/\OR P (λy=>match Z y with|some p=>some p.1|none=>ρ y) q o o'
 inj:∀y z q s o u,Z y=some (q,o)->Z z=some (s,u)->Live o q=true->Live u s=true->q.aH=s.aH->y=z
def dB(ρ:Ren)(Z:Nat->Option (bV×ak)):Ren:=λy=>match Z y with|some p=>some p.1|none=>ρ y
def sY(g:Nat->Option ak)(Z:Nat->Option (bV×ak)):Nat->Option ak:=λy=>match Z y with|some p=>some p.2|none=>g y
def yZ(B:Nat->Prop)(L:List (Nat×CO))(Z:Nat->Option (bV×ak)):Nat->Prop:=λk=>B k\/k∈L.map (·.1)/\∀y q o,Z y=some (q,o)->Live o q=true->q.aH≠k
theorem pA{ρ:Ren}{Z:Nat->Option (bV×ak)}{y:Nat}{p:bV×ak}(h:Z y=some p):dB ρ Z y=some p.1:=by unfold dB;rw[h]
theorem nZ{ρ:Ren}{Z:Nat->Option (bV×ak)}{y:Nat}(h:Z y=none):dB ρ Z y=ρ y:=by unfold dB;rw[h]
theorem qw{g:Nat->Option ak}{Z:Nat->Option (bV×ak)}{y:Nat}{p:bV×ak}(h:Z y=some p):sY g Z y=some p.2:=by unfold sY;rw[h]
theorem pB{g:Nat->Option ak}{Z:Nat->Option (bV×ak)}{y:Nat}(h:Z y=none):sY g Z y=g y:=by unfold sY;rw[h]
theorem WR.wG{P:arC}{B:Nat->Prop}{w₀ w:arB}{ρ:Ren}{g:Nat->Option ak}(h:WR P B w₀ ρ g w){x:Nat}{d:mm}(hx:g x=some (.abs d)):
 ∃r S L,ρ x=some r/\D8 d r.aH r.sh r.sz r.dJ L/\qL w r.aH S L/\(∀k,S k->k<w.heap.size/\¬B k/\∀y o q,g y=some o->ρ y=some q->Live o q=true->q.aH≠k)/\
  ∀Z,N7 P w ρ g x r L Z->WR P (yZ B L Z) w (dB ρ Z) (sY g Z) w:=by
 obtain⟨F,fa,fb,fc⟩:=h.abs
 obtain⟨r,S,hr,⟨L,jw,hL⟩,hf⟩:=fa x d hx
 refine⟨r,S,L,hr,jw,hL,λk hk=>(fb x k (hf k hk)).2,λZ hZ=>?_⟩
 have y0:∀k,k∈L.map (·.1)->F x k:=λk hk=>hf k ((hL.all k).2 hk)
 have Hl:∀y o q k,g y=some o->ρ y=some q->Live o q=true->k∈L.map (·.1)->q.aH≠k:=λy o q k a b c e=>(fb x k (y0 k e)).2.2.2 y o q a b c
 have hle:ρ.le (dB ρ Z):=λy q hy=>by
  cases hz:Z y with
  |none=>rw[nZ hz];exact hy
  |some p=>
   rw[pA hz]
   by_cases e:y=x
   ·subst e
    obtain⟨o,ho⟩:=hZ.root
    rw[ho]at hz;cases hz
    rw[hr]at hy;cases hy;rfl
   ·rw[h.fresh y (hZ.new y p e hz)]at hy;cases hy
 have GU:∀b,B b->yZ B L Z b/\w.heap[b]?=w₀.heap[b]? :=λb hb=>⟨.inl hb,h.below.block b hb⟩
 exact
 {below:=gU.refl _ _
  env:=h.env.next h.below λk hk=>.inl hk
  size:=λk hk=>by
   rcases hk with hk|hk
   ·exact h.size k hk
   ·exact(fb x k (y0 k hk.1)).2.1
  live:=by
   intro y o q hy hq hl
   cases hz:Z y with
   |some p=>
    rw[qw hz]at hy;rw[pA hz]at hq
    cases hy;cases hq
    obtain⟨a,o',b,c⟩:=hZ.live y p.1 p.2 hz hl
    exact⟨o',b,c,λ_ hk=>by
     rcases hk with hk|hk
     ·exact(fb x _ (y0 _ a)).2.2.1 hk
     ·exact hk.2 y p.1 p.2 hz hl rfl⟩
   |none=>
    rw[pB hz]at hy;rw[nZ hz]at hq
    obtain⟨o',a,b,c⟩:=h.live y o q hy hq hl
    exact⟨o',a,b.mono hle,λde hk=>by
     rcases hk with hk|hk
     ·exact c de hk
     ·exact Hl y o q _ hy hq hl hk.1 rfl⟩
  inj:=by
   intro y z oy oz ry rz hy hz cD iM dq kP hd e
   cases wH:Z y with
   |some p=>
    rw[qw wH]at hy;rw[pA wH]at cD
    cases hy;cases cD
    cases lF:Z z with
    |some q=>
     rw[qw lF]at hz;rw[pA lF]at iM
     cases hz;cases iM
     exact hZ.inj y z p.1 q.1 p.2 q.2 wH lF dq kP e
    |none=>
     rw[pB lF]at hz;rw[nZ lF]at iM
     exact absurd e.symm (Hl z oz rz _ hz iM kP (hZ.live y p.1 p.2 wH dq).1)
   |none=>
    rw[pB wH]at hy;rw[nZ wH]at cD
    cases lF:Z z with
    |some q=>
     rw[qw lF]at hz;rw[pA lF]at iM
     cases hz;cases iM
     exact absurd e (Hl y oy ry _ hy cD dq (hZ.live z q.1 q.2 lF kP).1)
    |none=>
     rw[pB lF]at hz;rw[nZ lF]at iM
     exact h.inj y z oy oz ry rz hy hz cD iM dq kP hd e
  fresh:=by
   intro y hy
   cases hz:Z y with
   |some p=>rw[qw hz]at hy;cases hy
   |none=>rw[pB hz]at hy;rw[nZ hz];exact h.fresh y hy
  rows:=by
   intro y n size row hy
   cases hz:Z y with
   |some p=>rw[qw hz]at hy;obtain⟨p1,p2⟩:=p;cases hy;cases(hZ.own y p1 _ hz).1
   |none=>
    rw[pB hz]at hy;rw[nZ hz]
    obtain⟨q,a,b⟩:=h.rows y n size row hy
    exact⟨q,a,λhn=>(b hn).mono GU⟩
  nil:=by
   intro y el ro q hy hq
   cases hz:Z y with
   |some p=>rw[qw hz]at hy;rw[pA hz]at hq;cases hq;obtain⟨p1,p2⟩:=p;cases hy;exact hZ.nil y p1 el ro hz
   |none=>rw[pB hz]at hy;rw[nZ hz]at hq;exact h.nil y el ro q hy hq
  named:=by
   intro y o hy br
   cases hz:Z y with
   |some p=>exact⟨_,pA hz⟩
   |none=>rw[pB hz]at hy;rw[nZ hz];exact h.named y o hy br
  abs:=by
   have old:∀y d',sY g Z y=some (.abs d')->y≠x/\Z y=none/\g y=some (.abs d'):=λy d' hy=>by
    cases hz:Z y with
    |some p=>rw[qw hz]at hy;obtain⟨p1,p2⟩:=p;cases hy;exact absurd rfl ((hZ.own y p1 _ hz).2 d')
    |none=>
     refine⟨λe=>?_,rfl,by rw[pB hz]at hy;exact hy⟩
     subst e
     obtain⟨o,ho⟩:=hZ.root
     rw[ho]at hz;cases hz
   refine⟨λy k=>F y k/\∃d',sY g Z y=some (.abs d'),λy d' hy=>?_,λy k hk=>?_,λy z k a b=>fc y z k a.1 b.1⟩
   ·obtain⟨_,hz,hg⟩:=old y d' hy
    obtain⟨q,S',a,b,c⟩:=fa y d' hg
    exact⟨q,S',by rw[nZ hz];exact a,b,λk hk=>⟨c k hk,d',hy⟩⟩
   ·obtain⟨hF,d',hy⟩:=hk
    obtain⟨br,hz,hg⟩:=old y d' hy
    obtain⟨_,b2,b3,b4⟩:=fb y k hF
    refine⟨⟨d',hy⟩,b2,λhk=>?_,λz o q qR hq hl=>?_⟩
    ·rcases hk with hk|hk
     ·exact b3 hk
     ·exact br (fc y x k hF (y0 k hk.1))
    ·cases lF:Z z with
     |some p=>
      rw[qw lF]at qR;rw[pA lF]at hq
      cases qR;cases hq
      intro e
      exact br (fc y x k hF (y0 k (e▸(hZ.live z p.1 p.2 lF hl).1)))
     |none=>
      rw[pB lF]at qR;rw[nZ lF]at hq
      exact b4 z o q qR hq hl}
theorem WR.N8{P:arC}{B B':Nat->Prop}{w₀ w w2:arB}{ρ ρ2:Ren}{g g2:Nat->Option ak}(h:WR P B w₀ ρ g w)(h2:WR P B' w ρ2 g2 w2)(qt:∀k,B k->B' k)
 (Zp:∀k,B' k->¬B k->∀y o q,g y=some o->ρ y=some q->Live o q=true->q.aH≠k)
 {x:Nat}{r:bV}(hr:ρ2 x=some r){d:mm}{S:Nat->Prop}(ca:pd w2 r d S)(C:Nat->Bool)(hx:C x=true)
 (hS:∀k,S k->(B' k/\¬B k)\/∃y o q,C y=true/\g2 y=some o/\ρ2 y=some q/\Live o q=true/\q.aH=k/\o.ro=false)
 (de:∀y o,C y=false->g2 y=some o->o.ro=true->g y=some o/\ρ2 y=ρ y):
 WR P B w₀ ρ2 (λy=>if y=x then some (.abs d)else match C y with|true=>(g2 y).map λ_=>.dead|false=>g2 y) w2:=by
 obtain⟨F,fa,fb,fc⟩:=h2.abs
 let g3:Nat->Option ak:=λy=>if y=x then some (.abs d)else match C y with|true=>(g2 y).map λ_=>.dead|false=>g2 y
 have old:∀y o,g3 y=some o->(∀d',o≠ .abs d')->o≠ .dead->C y=false/\g2 y=some o:=λy o hy hd br=>by
  have hy:(if y=x then some (.abs d)else match C y with|true=>(g2 y).map λ_=>ak.dead|false=>g2 y)=some o:=hy
  split at hy
  ·cases hy;exact absurd rfl (hd d)
  ·cases hc:C y with
   |true=>
    rw[hc]at hy
    cases hg:g2 y with
    |none=>rw[hg]at hy;cases hy
    |some o'=>rw[hg]at hy;cases hy;exact absurd rfl br
   |false=>rw[hc]at hy;exact⟨rfl,hy⟩
 have wI:∀y o q,g3 y=some o->Live o q=true->C y=false/\g2 y=some o:=λy o q hy hl=>old y o hy (λd' e=>by subst e;cases hl) (λe=>by subst e;cases hl)
 have N9:∀y d',y≠x->g3 y=some (.abs d')->C y=false/\g2 y=some (.abs d'):=λy d' br hy=>by
  have hy:(if y=x then some (.abs d)else match C y with|true=>(g2 y).map λ_=>ak.dead|false=>g2 y)=some (.abs d'):=hy
  rw[if_neg br]at hy
  cases hc:C y with
  |true=>
   rw[hc]at hy
   cases hg:g2 y with
   |none=>rw[hg]at hy;cases hy
   |some o'=>rw[hg]at hy;cases hy
  |false=>rw[hc]at hy;exact⟨rfl,hy⟩
 have wJ:∀k,S k->k<w2.heap.size/\¬B k/\(∀y o q,g3 y=some o->ρ2 y=some q->Live o q=true->q.aH≠k)/\∀y,F y k->False:=λk hk=>by
  rcases hS k hk with⟨a,b⟩|⟨y,o,q,a,b,c,e,rfl,f⟩
  ·refine⟨h2.size k a,b,λy o q hy hq hl=>?_,λy hF=>(fb y k hF).2.2.1 a⟩
   obtain⟨c1,c2⟩:=wI y o q hy hl
   cases Bx:o.ro with
   |false=>
    obtain⟨_,_,_,c3⟩:=h2.live y o q c2 hq hl
    intro e
    exact c3 Bx (e▸a)
   |true=>
    obtain⟨c3,c4⟩:=de y o c1 c2 Bx
    exact Zp k a b y o q c3 (c4▸hq) hl
  ·obtain⟨o',l1,l2,l3⟩:=h2.live y o q b c e
   refine⟨(asq.1 l1).1,λhk=>l3 f (qt _ hk),λz u s hz hs hl he=>?_,λz hF=>(fb z _ hF).2.2.2 y o q b c e rfl⟩
   obtain⟨c1,c2⟩:=wI z u s hz hl
   have:=h2.inj z y u o s q c2 b hs c hl e (.inr f) he
   subst this
   rw[a]at c1;cases c1
 exact
 {below:=h.below.trans ⟨h2.below.os,h2.below.tape,h2.below.output,h2.below.size,λk hk=>h2.below.block k (qt k hk)⟩
  env:=h.env
  size:=λk hk=>atP (h.size k hk) h2.below.size
  live:=by
   intro y o q hy hq hl
   obtain⟨_,c2⟩:=wI y o q hy hl
   obtain⟨o',l1,l2,l3⟩:=h2.live y o q c2 hq hl
   exact⟨o',l1,l2,λe hk=>l3 e (qt _ hk)⟩
  inj:=by
   intro y z oy oz ry rz hy hz cD iM dq kP
   exact h2.inj y z oy oz ry rz (wI y oy ry hy dq).2 (wI z oz rz hz kP).2 cD iM dq kP
  fresh:=by
   intro y hy
   have hy:(if y=x then some (.abs d)else match C y with|true=>(g2 y).map λ_=>ak.dead|false=>g2 y)=none:=hy
   split at hy
   ·cases hy
   ·refine h2.fresh y ?_
    cases hc:C y with
    |true=>rw[hc]at hy;simpa using hy
    |false=>rw[hc]at hy;exact hy
  rows:=by
   intro y n size row hy
   obtain⟨c1,c2⟩:=old y _ hy (λd' e=>by cases e) (λe=>by cases e)
   obtain⟨c3,c4⟩:=de y _ c1 c2 rfl
   obtain⟨q,a,b⟩:=h.rows y n size row c3
   exact⟨q,by rw[c4];exact a,b⟩
  nil:=by
   intro y el ro q hy hq
   exact h2.nil y el ro q (old y _ hy (λd' e=>by cases e) (λe=>by cases e)).2 hq
  named:=by
   intro y o hy br
   by_cases e:y=x
   ·subst e;exact⟨r,hr⟩
   ·cases hd:o with
    |abs d'=>subst hd;exact h2.named y _ (N9 y d' e hy).2 br
    |_=>subst hd;exact h2.named y _ (old y _ hy (λd' e=>by cases e) br).2 br
  abs:=by
   refine⟨λy k=>(y=x/\S k)\/(y≠x/\F y k/\∃d',g3 y=some (.abs d')),λy d' hy=>?_,λy k hk=>?_,λy z k a b=>?_⟩
   ·by_cases e:y=x
    ·subst e
     have:d'=d:=by
      have hy:(if y=y then some (.abs d)else match C y with|true=>(g2 y).map λ_=>ak.dead|false=>g2 y)=some (.abs d'):=hy
      rw[if_pos rfl]at hy;cases hy;rfl
     subst this
     exact⟨r,S,hr,ca,λk hk=>.inl ⟨rfl,hk⟩⟩
    ·obtain⟨q,T,a,b,c⟩:=fa y d' (N9 y d' e hy).2
     exact⟨q,T,a,b,λk hk=>.inr ⟨e,c k hk,d',hy⟩⟩
   ·rcases hk with⟨rfl,hk⟩|⟨e,hF,d',hy⟩
    ·obtain⟨a,b,c,_⟩:=wJ k hk
     exact⟨⟨d,if_pos rfl⟩,a,b,c⟩
    ·obtain⟨_,b2,b3,b4⟩:=fb y k hF
     exact⟨⟨d',hy⟩,b2,λhk=>b3 (qt k hk),λz o q hz hq hl=>b4 z o q (wI z o q hz hl).2 hq hl⟩
   ·rcases a with⟨rfl,a⟩|⟨e,a,_⟩<;>rcases b with⟨rfl,b⟩|⟨e',b,_⟩
    ·rfl
    ·exact((wJ k a).2.2.2 z b).elim
    ·exact((wJ k b).2.2.2 y a).elim
    ·exact fc y z k a b}
theorem WR.y3{P:arC}{B:Nat->Prop}{w₀ w:arB}{ρ:Ren}{g:Nat->Option ak}(h:WR P B w₀ ρ g w){x:Nat}{c:List Dy}{el:KS}(hx:g x=some (.cells c el false)){q:bV}(hq:ρ x=some q)(hl:Live (.cells c el false) q=true):
 ∃c',LR ρ c c'/\e7 w q.aH (.cells c' el q.sh q.dJ):=by
 obtain⟨o',h1,h2,_⟩:=h.live x _ q hx hq hl
 cases h2 with
 |cells _ _ cj _ a fr hp hs he hz hf hc=>
  have Oa:a.toList.length=q.dJ:=by rw[Array.length_toList];exact hp
  refine⟨(a.toList.drop q.sh).take c.length,⟨?_,λi v v' h3 h4=>?_⟩,a,fr,?_,hp,?_,hf rfl,λi v hi=>?_⟩
  ·rw[asj,ass,Oa];omega
  ·obtain⟨u,h5,h6⟩:=hc i v h3
   rw[asL,asH]at h4
   split at h4
   ·rw[ata,h5]at h4;cases h4;exact h6
   ·cases h4
  ·rw[h1,he rfl]
  ·rw[asj,ass,Oa];omega
  ·rw[asL,asH]at hi
   split at hi
   ·rw[ata]at hi;exact hi
   ·cases hi
theorem WR.Ob{P:arC}{B:Nat->Prop}{w₀ w:arB}{ρ:Ren}{g:Nat->Option ak}(h:WR P B w₀ ρ g w){x:Nat}{es:List arW}{clock:Nat}(hx:g x=some (.map es clock)){q:bV}(hq:ρ x=some q):
 ∃db,bS (nM ρ) es db/\e7 w q.aH (.map db clock):=by
 obtain⟨o',h1,h2,_⟩:=h.live x _ q hx hq rfl
 cases h2 with
 |map _ a _ h3 h4=>
  refine⟨a.toList,?_,h1⟩
  have key:∀(l:List arW) (l':List arW),l.length=l'.length->(∀(i:Nat) (e e':arW),l[i]?=some e->l'[i]?=some e'->nM ρ e e')->bS (nM ρ) l l':=by
   intro l
   induction l with
   |nil=>intro l' hl _;cases l' with|nil=>exact .nil|cons _ _=>simp at hl
   |cons e l ih=>
    intro l' hl hr
    cases l' with
    |nil=>simp at hl
    |cons e' l'=>exact .cons (hr 0 e e' rfl rfl) (ih l' (by simpa using hl) λi a b ha hb=>hr (i+1) a b (by simpa using ha) (by simpa using hb))
  exact key _ _ h3 h4
theorem e7.or{P:arC}{w:arB}{ρ:Ren}{q:bV}{c c':List Dy}{el:KS}(h:e7 w q.aH (.cells c' el q.sh q.dJ))(hz:∀n,bZ P el=some n->q.sz=n)(hl:LR ρ c c'):∃o',w.heap[q.aH]?=some o'/\OR P ρ q (.cells c el false) o':=by
 obtain⟨a,fr,h1,h2,h3,h4,h5⟩:=h
 refine⟨_,h1,.cells c el el false a fr h2 (by rw[hl.len];exact h3) (λ_=>rfl) hz (λ_=>h4) λi v hi=>?_⟩
 obtain⟨v',h6,h7⟩:=hl.get hi
 exact⟨v',h5 i v' h6,h7⟩
theorem e7.BM{P:arC}{w:arB}{ρ:Ren}{q:bV}{es db:List arW}{clock:Nat}(h:e7 w q.aH (.map db clock))(hl:bS (nM ρ) es db):∃o',w.heap[q.aH]?=some o'/\OR P ρ q (.map es clock) o':=by
 refine⟨_,h,.map es _ clock (by rw[hl.len]) λi e e' h1 h2=>?_⟩
 obtain⟨e2,h3,h4⟩:=hl.get (i:=i) (b:=e') (by simpa using h2)
 rw[h1]at h3;cases h3;exact h4
def zF(r:bV)(o0:ak)(n:Nat)(zs:List (bV×ak)):Nat->Option (bV×ak):=λy=>if y=0 then some (r,o0)else if y<n then none else zs[y-n]?
def closed(d:mm)(C:List Nat)(o:List ak):List ak:=o.mapIdx λi ob=>if i=0 then .abs d else if C.contains i then .dead else ob
structure Zq(P:arC)(w:arB)(L:List (Nat×CO))(r:bV)(o0:ak)(n:Nat)(zs:List (bV×ak)):Prop where
 own:∀p∈(r,o0)::zs,p.2.ro=false/\(∀d,p.2≠ .abs d)
 nil:∀p∈(r,o0)::zs,∀el ro,p.2=.cells [] el ro->∀n,bZ P el=some n->p.1.sz=n
 live:∀ρ:Ren,ρ 0=some r->(∀i p,zs[i]?=some p->ρ (n+i)=some p.1)->∀p∈(r,o0)::zs,Live p.2 p.1=true->p.1.aH∈L.map (·.1)/\∃o',w.heap[p.1.aH]?=some o'/\OR P ρ p.1 p.2 o'
 inj:((r,o0)::zs).Pairwise λp q=>Live p.2 p.1=true->Live q.2 q.1=true->p.1.aH≠q.1.aH
theorem Zr{α:Type}{R:α->α->Prop}{l:List α}(h:l.Pairwise R){i j:Nat}{a b:α}(ha:l[i]?=some a)(hb:l[j]?=some b)(h1:¬R a b)(h2:¬R b a):i=j:=by
 obtain⟨hi,rfl⟩:=KP.1 ha
 obtain⟨hj,rfl⟩:=KP.1 hb
 rcases Nat.lt_trichotomy i j with hlt|rfl|hlt
 ·exact absurd (atT.1 h i j hi hj hlt) h1
 ·rfl
 ·exact absurd (atT.1 h j i hj hi hlt) h2
theorem uJ{r:bV}{o0:ak}{n:Nat}{zs:List (bV×ak)}(hn:0<n){y:Nat}{p:bV×ak}(h:zF r o0 n zs y=some p):(y=0/\p=(r,o0))\/(y≠0/\n<=y/\zs[y-n]?=some p):=by
 unfold zF at h
 split at h
 ·rename_i e;cases h;exact .inl ⟨e,rfl⟩
 ·rename_i e
  split at h
  ·cases h
  ·exact .inr ⟨e,by omega,h⟩
theorem uK{r:bV}{o0:ak}{n:Nat}{zs:List (bV×ak)}(hn:0<n){y:Nat}{p:bV×ak}(h:zF r o0 n zs y=some p):((r,o0)::zs)[if y=0 then 0 else y-n+1]?=some p:=by
 rcases uJ hn h with⟨rfl,rfl⟩|⟨h1,h2,h3⟩
 ·rfl
 ·rw[if_neg h1];exact h3
theorem aF.wG{P:arC}{f:arY}{args:List Dy}{d:mm}{rest:List ak}{Q:bD->List ak->Prop}
 (h:∀(w:arB) (r:bV) (S:Nat->Prop) (L:List (Nat×CO)),Lm w->D8 d r.aH r.sh r.sz r.dJ L->qL w r.aH S L->∃(o0:ak) (zs:List (bV×ak)) (Q1:bD->List ak->Prop),
   Zq P w L r o0 (1+rest.length) zs/\1+rest.length+zs.length<=262144/\aF P f args (o0::rest++zs.map (·.2)) Q1/\
   ∀(v:bD) (o':List ak),Q1 v o'->∀(B:Nat->Prop) (ρ:Ren) (w':arB),WR P B w ρ (cu o') w'->ρ 0=some r->(∀i p,zs[i]?=some p->ρ (1+rest.length+i)=some p.1)->
    (∀k∈L.map (·.1),(∀p∈(r,o0)::zs,Live p.2 p.1=true->p.1.aH≠k)->B k/\w'.heap[k]?=w.heap[k]?)->
    ∃(d':mm) (S':Nat->Prop) (C:List Nat),pd w' r d' S'/\
     (∀k,S' k->(k∈L.map (·.1)/\∀p∈(r,o0)::zs,Live p.2 p.1=true->p.1.aH≠k)\/∃y o q,(y=0\/C.contains y=true)/\o'[y]?=some o/\ρ y=some q/\Live o q=true/\q.aH=k/\o.ro=false)/\
     (∀y o,y≠0->C.contains y=false->o'[y]?=some o->o.ro=true->1<=y/\rest[y-1]?=some o)/\Q v (closed d' C o')):
 aF P f args (.abs d::rest) Q:=by
 intro B w₀ ρ w args' gM Hm ha hw
 obtain⟨r,S,L,hr,jw,hL,wJ,y4⟩:=hw.wG (x:=0) (d:=d) rfl
 obtain⟨o0,zs,Q1,hZ,iq,hf,Zs⟩:=h w r S L (hw.env w hw.below) jw hL
 have hn:0<1+rest.length:=by omega
 let Z:=zF r o0 (1+rest.length) zs
 have aqb:∀y,small y=true->cu (.abs d::rest) y=(ak.abs d::rest)[y]? :=λy hy=>cH hy
 have dX:∀y,y<1+rest.length+zs.length->small y=true:=λy hy=>ij.2 (by have:(2:Nat)^18=262144:=rfl;omega)
 have Oc:∀y p,Z y=some p->y<1+rest.length+zs.length:=λy p hy=>by
  rcases uJ hn hy with⟨rfl,_⟩|⟨_,h2,h3⟩
  ·omega
  ·have:=(KP.1 h3).1;omega
 have uL:dB ρ Z 0=some r:=pA (p:=(r,o0)) (by show zF r o0 _ zs 0=_;unfold zF;rw[if_pos rfl])
 have Hn:∀i p,zs[i]?=some p->dB ρ Z (1+rest.length+i)=some p.1:=λi p hi=>pA (by
  show zF r o0 _ zs _=_
  unfold zF
  rw[if_neg (by omega),if_neg (by omega),show 1+rest.length+i-(1+rest.length)=i by omega];exact hi)
 have dh:N7 P w ρ (cu (.abs d::rest)) 0 r L Z:=
 {root:=⟨o0,by show zF r o0 _ zs 0=_;unfold zF;rw[if_pos rfl]⟩
  new:=λy p hy hz=>by
   rcases uJ hn hz with⟨e,_⟩|⟨_,h2,h3⟩
   ·exact absurd e hy
   ·rw[cH (dX y (Oc y p hz)),asC]
    rw[ar4];omega
  own:=λy q o hz=>hZ.own (q,o) (ar7 (uK hn hz))
  nil:=λy q el ro hz=>hZ.nil _ (ar7 (uK hn hz)) el ro rfl
  live:=λy q o hz hl=>hZ.live (dB ρ Z) uL Hn (q,o) (ar7 (uK hn hz)) hl
  inj:=λy z q s o u hy hz hl q9 e=>by
   have:=Zr hZ.inj (uK hn hy) (uK hn hz) (λh=>h hl q9 e) (λh=>h q9 hl e.symm)
   rcases uJ hn hy with⟨e1,_⟩|⟨e1,h2,h3⟩<;>rcases uJ hn hz with⟨e2,_⟩|⟨e2,vU,aqc⟩
   ·omega
   ·rw[if_pos e1,if_neg e2]at this;omega
   ·rw[if_neg e1,if_pos e2]at this;omega
   ·rw[if_neg e1,if_neg e2]at this;omega}
 have fV:=y4 Z dh
 have hle:ρ.le (dB ρ Z):=λy q hy=>by
  cases hz:Z y with
  |none=>rw[nZ hz];exact hy
  |some p=>
   rcases uJ hn hz with⟨rfl,rfl⟩|⟨e,_,_⟩
   ·rw[pA hz];rw[hr]at hy;cases hy;rfl
   ·rw[hw.fresh y (dh.new y p e hz)]at hy;cases hy
 have Zt:sY (cu (.abs d::rest)) Z=cu (o0::rest++zs.map (·.2)):=by
  funext y
  cases hz:Z y with
  |some p=>
   rw[qw hz,cH (dX y (Oc y p hz))]
   rcases uJ hn hz with⟨rfl,rfl⟩|⟨e,h2,h3⟩
   ·rfl
   ·rw[asd (by rw[ar4];omega),asT,ar4,show y-(rest.length+1)=y-(1+rest.length)by omega,h3];rfl
  |none=>
   rw[pB hz]
   have hz:zF r o0 (1+rest.length) zs y=none:=hz
   unfold zF at hz
   split at hz
   ·cases hz
   ·rename_i e
    cases hs:small y with
    |false=>rw[iE hs,iE hs]
    |true=>
     rw[cH hs,cH hs]
     by_cases hlt:y<1+rest.length
     ·rw[asl (by rw[ar4];omega)]
      obtain⟨k,rfl⟩:∃k,y=k+1:=⟨y-1,by omega⟩
      rfl
     ·rw[if_neg hlt,atg]at hz
      rw[asC (by rw[ar4];omega),asC (by rw[KO,ar4,aty];omega)]
 rw[Zt]at fV
 have hlen:(o0::rest++zs.map (·.2)).length=1+rest.length+zs.length:=by rw[KO,ar4,aty];omega
 refine(hf (yZ B L Z) w (dB ρ Z) w args' ?_ ?_ (ha.mono hle) fV).mono λe w' he=>?_
 ·intro q
  obtain⟨y,h1,h2⟩:=gM q
  exact⟨y,h1,hle _ _ h2⟩
 ·intro x hx
  rw[hlen]at hx
  by_cases h1:x<1+rest.length
  ·obtain⟨q,hq⟩:=Hm x (by rw[ar4];omega)
   exact⟨q,hle _ _ hq⟩
  ·have h2:x-(1+rest.length)<zs.length:=by omega
   have:=Hn (x-(1+rest.length)) _ (KH h2)
   rw[show 1+rest.length+(x-(1+rest.length))=x by omega]at this
   exact⟨_,this⟩
 obtain⟨v,o',ρ',hq,ir,Ho,im,wo,nk⟩:=he
 have iQ:ρ' 0=some r:=by rw[nk 0 (by rw[hlen];omega)];exact uL
 have Od:∀x,x<1+rest.length->ρ' x=ρ x:=λx hx=>by
  rw[nk x (by rw[hlen];omega)]
  by_cases e:x=0
  ·subst e;rw[uL,hr]
  ·refine nZ ?_
   show zF r o0 _ zs x=none
   unfold zF
   rw[if_neg e,if_pos hx]
 obtain⟨d',S',C,ca,Zu,de,hQ⟩:=Zs v o' hq (yZ B L Z) ρ' w' im iQ (λi p hi=>by rw[nk _ (by rw[hlen];have:=(KP.1 hi).1;omega)];exact Hn i p hi) (λk hk Ap=>have hB:yZ B L Z k:=.inr ⟨hk,λy q o hz hl=>Ap (q,o) (ar7 (uK hn hz)) hl⟩;⟨hB,im.below.block k hB⟩)
 have du:=hw.N8 im (λk hk=>.inl hk) (λk hk hB=>by
  rcases hk with hk|hk
  ·exact absurd hk hB
  ·exact(wJ k ((hL.all k).2 hk.1)).2.2) iQ ca (λy=>y==0||C.contains y) rfl (λk hk=>by
   rcases Zu k hk with⟨a,b⟩|⟨y,o,q,a,b,c,e,f,g⟩
   ·exact .inl ⟨.inr ⟨a,λy q o hz hl=>b (q,o) (ar7 (uK hn hz)) hl⟩,(wJ k ((hL.all k).2 a)).2.1⟩
   ·refine .inr ⟨y,o,q,?_,?_,c,e,f,g⟩
    ·rcases a with rfl|a
     ·rfl
     ·rw[a,Bool.or_true]
    ·rw[cH]
     ·exact b
     ·exact ij.2 (by have:=(KP.1 b).1;have:(2:Nat)^18=262144:=rfl;omega)) (λy o hC hy v8=>by
   rw[Bool.or_eq_false_iff]at hC
   have rF:y≠0:=by intro e;subst e;cases hC.1
   cases hs:small y with
   |false=>rw[iE hs]at hy;cases hy;cases v8
   |true=>
    rw[cH hs]at hy
    obtain⟨a,b⟩:=de y o rF hC.2 hy v8
    have hlt:=(KP.1 b).1
    refine⟨?_,Od y (by omega)⟩
    rw[cH hs]
    obtain⟨k,rfl⟩:∃k,y=k+1:=⟨y-1,by omega⟩
    exact b)
 refine⟨v,closed d' C o',ρ',hQ,ir,Ho,?_,by unfold closed;rw[aw7];exact wo,λx hx=>Od x (by rw[ar4]at hx;omega)⟩
 have:cu (closed d' C o')=(λy=>if y=0 then some (.abs d')else match(y==0||C.contains y)with|true=>(cu o' y).map λ_=>.dead|false=>cu o' y):=by
  funext y
  cases hs:small y with
  |false=>
   have rF:y≠0:=by intro e;subst e;cases hs
   rw[iE hs,if_neg rF,iE hs]
   cases(y==0||C.contains y)<;>rfl
  |true=>
   rw[cH hs,cH hs]
   unfold closed
   rw[awS]
   by_cases rF:y=0
   ·subst rF
    rw[if_pos rfl]
    cases o' with
    |nil=>
     exfalso
     have:=im.fresh 0 (by rw[cH hs];rfl)
     rw[iQ]at this;cases this
    |cons a l=>rfl
   ·rw[if_neg rF]
    have:(y==0)=false:=by simpa using rF
    rw[this,Bool.false_or]
    cases hc:C.contains y with
    |true=>cases o'[y]? <;>simp[rF,hc];
    |false=>cases o'[y]? <;>simp[rF,hc]
 rw[this]
 exact du
def y5(x:Nat)(d:mm)(C:List Nat)(o:List ak):List ak:=o.mapIdx λi ob=>if i=x then .abs d else if C.contains i then .dead else ob
theorem aF.Zv{P:arC}{f:arY}{args:List Dy}{objs:List ak}{Q1 Q:bD->List ak->Prop}(h:aF P f args objs Q1)
 (hc:∀v o',Q1 v o'->∀(B:Nat->Prop) (w₀:arB) (ρ:Ren) (w':arB),WR P B w₀ ρ (cu o') w'->∃(x:Nat) (r:bV) (d:mm) (S:Nat->Prop) (C:List Nat),x<o'.length/\ρ x=some r/\pd w' r d S/\C.contains x=true/\
   (∀k,S k->∃y o q,C.contains y=true/\o'[y]?=some o/\ρ y=some q/\Live o q=true/\q.aH=k/\o.ro=false)/\Q v (y5 x d C o')):aF P f args objs Q:=by
 intro B w₀ ρ w args' gM Hm ha hw
 refine(h B w₀ ρ w args' gM Hm ha hw).mono λe w' he=>?_
 obtain⟨v,o',ρ',hq,ir,Ho,im,wo,nk⟩:=he
 obtain⟨x,r,d,S,C,iT,hr,ca,Zw,hS,hQ⟩:=hc v o' hq B w₀ ρ' w' im
 have Fc:WR P B w' ρ' (cu o') w':=
 {below:=gU.refl _ _
  env:=im.env.next im.below λk hk=>hk
  size:=im.size
  live:=im.live
  inj:=im.inj
  fresh:=im.fresh
  rows:=λy n size row hy=>by
   obtain⟨q,a,b⟩:=im.rows y n size row hy
   exact⟨q,a,λhn=>(b hn).mono λk hk=>⟨hk,im.below.block k hk⟩⟩
  nil:=im.nil
  named:=im.named
  abs:=im.abs}
 have dX:∀{y o},o'[y]?=some o->small y=true:=λ{y o} hy=>ij.2 (by have:=(KP.1 hy).1;have:(2:Nat)^18=262144:=rfl;omega)
 have du:=im.N8 Fc (λk hk=>hk) (λk hk hB=>absurd hk hB) hr ca (λy=>C.contains y) Zw (λk hk=>by
  obtain⟨y,o,q,a,b,c⟩:=hS k hk
  exact .inr ⟨y,o,q,a,by rw[cH (dX b)];exact b,c⟩) (λy o _ hy _=>⟨hy,rfl⟩)
 refine⟨v,y5 x d C o',ρ',hQ,ir,Ho,?_,by unfold y5;rw[aw7];exact wo,nk⟩
 have:cu (y5 x d C o')=(λy=>if y=x then some (.abs d)else match C.contains y with|true=>(cu o' y).map λ_=>.dead|false=>cu o' y):=by
  funext y
  cases hs:small y with
  |false=>
   have rG:y≠x:=by rintro rfl;rw[dX (KH iT)]at hs;cases hs
   rw[iE hs,if_neg rG,iE hs]
   cases C.contains y<;>rfl
  |true=>
   rw[cH hs,cH hs]
   unfold y5
   rw[awS]
   by_cases rG:y=x
   ·subst rG
    rw[if_pos rfl,KH iT]
    simp
   ·rw[if_neg rG]
    cases hc:C.contains y with
    |true=>cases o'[y]? <;>simp[rG,hc]
    |false=>cases o'[y]? <;>simp[rG,hc]
 rw[this]
 exact du
end Go.Proofs.YtnlkkgpcikkpoaaGreat.Vm
namespace Go.Proofs.YtnlkkgpcikkpoaaGreat
theorem dC:Vm.iV fK=true:=by kernel_rfl
theorem mixed:fK.follows .mixedOrders=true:=by kernel_rfl
end Go.Proofs.YtnlkkgpcikkpoaaGreat
namespace Go.Proofs.YtnlkkgpcikkpoaaGreat
open Go Vm Go.RowKit
def Oe:arY->Option Sum:=λ_=>none
theorem bp:dD fK (dM fK Oe 50 40):=dU dC mixed (λf s h=>by cases h) 50 40
theorem Zx(lf:Nat):dD fK (dM fK Oe lf 40):=dU dC mixed (λf s h=>by cases h) lf 40
theorem aV{cO:fX}(hc:dD fK cO)(m:Nat)(s:ST){n k:Nat}{l:List ar3}{d:ai}{T:Tree}(h:∀u,(uA fK cO 50 (l.take m) (eV n u d.sl) (lQ d.objs)).sym (wC n k) s=some T){Q:bf->ai->Prop}(hT:T.ok (λx d'=>match x with
 | .normal=>ao fK n k (l.drop m) d' Q
 |x=>Q x d')):ao fK n k l d Q:=ao.tree dC mixed hc h hT
def Zy:Dy->Dy
 | .pointer (some ⟨b,o,none⟩)=>.pointer (some ⟨b,o,some 0⟩)
 |v=>v
def cf(es:List arW):List arW:=es.map λe=>{e with val:=Zy e.val}
theorem rH:bZ fK 5=some 1:=by kernel_rfl
theorem qx:bZ fK 77=some 2:=by kernel_rfl
theorem BN:bZ fK 173=some 1:=by kernel_rfl
theorem y6:bZ fK 80=some 5:=by kernel_rfl
theorem BO(b:ByteArray):Ln b=af b:=rfl
theorem LR.plain{ρ:Ren}:∀{c c':List Dy},c.all ag=true->LR ρ c c'->c'=c:=λhc h=>
 Ao h.len λi v v' h1 h2=>VR.su (ar1.1 hc v (ar7 h1)) (h.at_ i v v' h1 h2)
theorem wK:∀{A C:List (Nat×ByteArray)} {es:List arW} {L:List (Nat×CO)},fL (A++C) es L->∃eA eC LA LC,es=eA++eC/\L=LA++LC/\fL A eA LA/\fL C eC LC
 | [],C,es,L,h=>⟨[],es,[],L,rfl,rfl,.nil,h⟩
 |p::A,C,es,L,h=>by
  cases h with
  |cons _ k sh _ rA L1 L2 hf ht hp=>
   obtain⟨eA,eC,LA,LC,rfl,rfl,h1,h2⟩:=wK ht
   exact⟨_::eA,eC,L1++LA,LC,rfl,by rw[arI],.cons p k sh A eA L1 LA hf h1 hp,h2⟩
theorem Of{A C:List (Nat×ByteArray)}{eA eC:List arW}{LA LC:List (Nat×CO)}(h:fL A eA LA)(hC:fL C eC LC):fL (A++C) (eA++eC) (LA++LC):=by
 induction h with
 |nil=>exact hC
 |cons p k sh l es L L' hf ht hp ih=>rw[arI];exact .cons p k sh _ _ L _ hf ih hp
theorem Og{ρ:Ren}{A:List (Nat×ByteArray)}{eA:List arW}{LA:List (Nat×CO)}(h:fL A eA LA):∀{e':List arW},bS (nM ρ) (cf eA) e'->e'=eA:=by
 induction h with
 |nil=>intro e' h';cases h';rfl
 |cons p k sh l es L L' hf ht hp ih=>
  intro e' h'
  cases h' with
  |cons h1 h2=>
   rename_i b l'
   rw[ih h2]
   congr 1
   obtain⟨k1,k2,k3⟩:=h1
   have e1:=k1.kl
   cases b with
   |mk key val Oh=>
    dsimp only at e1 k2 k3⊢
    subst e1
    have:val=.pointer (some ⟨k,sh,none⟩):=by
     have k2:VR ρ (.pointer (some ⟨k,sh,some 0⟩)) val:=k2
     cases k2 with
     |bN _ h=>cases h
     |na=>rfl
    subst this
    cases k3
    rfl
theorem bS.wL{ρ:Ren}{A:List (Nat×ByteArray)}{eA:List arW}{LA:List (Nat×CO)}(h:fL A eA LA):bS (nM ρ) (cf eA) eA:=by
 induction h with
 |nil=>exact .nil
 |cons p k sh l es L L' hf ht hp ih=>exact .cons ⟨.bN _ rfl,.na _ _ _,rfl⟩ ih
theorem bS.kp{α β:Type}{R:α->β->Prop}:∀{a:List α} {b:List β} {a':List α} {b':List β},bS R a b->bS R a' b'->bS R (a++a') (b++b')
 |_,_,_,_,.nil,h=>h
 |_,_,_,_,.cons h t,h'=>.cons h (bS.kp t h')
theorem bS.Hp{α β:Type}{R:α->β->Prop}:∀{a a':List α} {l:List β},bS R (a++a') l->∃b b',l=b++b'/\bS R a b/\bS R a' b'
 | [],a',l,h=>⟨[],l,rfl,.nil,h⟩
 |x::a,a',l,h=>by
  cases h with
  |cons h1 h2=>
   obtain⟨b,b',rfl,h3,h4⟩:=bS.Hp h2
   exact⟨_::b,b',rfl,.cons h1 h3,h4⟩
theorem Hq{B:Nat->Prop}{w₀ w:arB}{ρ:Ren}{g:Nat->Option ak}(h:WR fK B w₀ ρ g w){z n size:Nat}{c:List Dy}{el:KS}(hz:g z=some (.cells c el false))(hc:c.all ag=true)(hl:c.length=n*size)(hs:bZ fK el=some size)(ug:0<size){v:Dy}(hv:VR ρ (.slice (some ⟨z,0,none⟩) n n) v):
 ∃L,Vm.rowAt n size c el v L/\(L=[]\/∃q,ρ z=some q/\Live (.cells c el false) q=true/\L=[(q.aH,.cells c el q.sh q.dJ)]/\e7 w q.aH (.cells c el q.sh q.dJ)):=by
 cases hv with
 |bN _ h=>cases h
 |eJ _ a'=>exact⟨[],.inl ⟨rfl,rfl,a',rfl⟩,.inl rfl⟩
 |sl _ _ _ _ bH q hq jv=>
  by_cases mq:Live (.cells c el false) q=true
  ·obtain⟨c',h1,h2⟩:=h.y3 hz hq mq
   have:=LR.plain hc h1
   subst this
   obtain⟨o',h3,h4,_⟩:=h.live z _ q hz hq mq
   have cc:q.sz=size:=h4.x6 _ hs
   refine⟨_,.inr ⟨q.aH,q.sh,bH,q.dJ,rfl,?_,?_,rfl⟩,.inr ⟨q,hq,mq,rfl,h2⟩⟩
   ·rcases jv with h|h
    ·omega
    ·exact h.1
   ·obtain⟨_,_,_,_,h5,_⟩:=h2
    rcases jv with h|h
    ·rw[h,<-hl];exact h5
    ·have:=h.2;rw[cc]at this;omega
  ·have mq:Live (.cells c el false) q=false:=by simpa using mq
   obtain⟨h1,h2⟩:=EE mq
   subst h1
   have cc:q.sz=size:=h.nil z el false q hz hq _ hs
   have hn:n=0:=by
    rcases av4 n with h|h
    ·exact h
    ·have:=ayd h ug;simp at hl;omega
   subst hn
   have Zz:bH=0:=by
    rcases jv with h|h
    ·exact h
    ·have h3:=h.2
     rw[cc,h2]at h3
     rcases av4 bH with h|h
     ·exact h
     ·have:=ayd h ug;omega
   subst Zz
   exact⟨[],.inl ⟨rfl,rfl,_,rfl⟩,.inl rfl⟩
def ii(ρ:Ren)(o':List ak)(k y:Nat):Prop:=∃o q,o'[y]?=some o/\ρ y=some q/\Live o q=true/\q.aH=k/\o.ro=false
theorem ii.row{ρ:Ren}{o':List ak}{y:Nat}{c:List Dy}{el:KS}{q:bV}(h:o'[y]?=some (.cells c el false))(hq:ρ y=some q)(hl:Live (.cells c el false) q=true):ii ρ o' q.aH y:=⟨_,q,h,hq,hl,rfl,rfl⟩
theorem ii.inj{P:arC}{B:Nat->Prop}{w₀ w:arB}{ρ:Ren}{o':List ak}(h:WR P B w₀ ρ (cu o') w)(hlen:o'.length<=262144){k y z:Nat}(h1:ii ρ o' k y)(h2:ii ρ o' k z):y=z:=by
 obtain⟨o,q,a,b,c,d,e⟩:=h1
 obtain⟨u,s,a',b',c',d',e'⟩:=h2
 have sm:∀{y o},o'[y]?=some o->cu o' y=some o:=λ{y o} hy=>by
  rw[cH];exact hy
  exact ij.2 (by have:=(KP.1 hy).1;have:(2:Nat)^18=262144:=rfl;omega)
 exact h.inj y z o u q s (sm a) (sm a') b b' c c' (.inl e) (d.trans d'.symm)
theorem ii.ZA{P:arC}{B:Nat->Prop}{w₀ w:arB}{ρ:Ren}{o':List ak}(h:WR P B w₀ ρ (cu o') w)(hlen:o'.length<=262144){k y:Nat}(h1:ii ρ o' k y):¬B k:=by
 obtain⟨o,q,a,b,c,rfl,e⟩:=h1
 have sm:cu o' y=some o:=by
  rw[cH];exact a
  exact ij.2 (by have:=(KP.1 a).1;have:(2:Nat)^18=262144:=rfl;omega)
 obtain⟨_,_,_,d⟩:=h.live y o q sm b c
 exact d e
inductive sZ(o':List ak)(K:List Nat):List (Nat×ByteArray)->List arW->Prop where
 |none:sZ o' K [] []
 |empty (p:Nat×ByteArray) (y:Nat) (hy:o'[y]?=some (.cells [.slice none 0 0] 173 false)) (h0:p.2.size=0) (hd:3<y/\K.contains y=true) (hp:1<=p.1):sZ o' K [p] [{key:=.int .i64 p.1,val:=.pointer (some ⟨y,0,none⟩),born:=p.1-1}]
 |full (p:Nat×ByteArray) (y z:Nat) (hy:o'[y]?=some (.cells [.slice (some ⟨z,0,none⟩) p.2.size p.2.size] 173 false)) (hz:o'[z]?=some (.cells (af p.2) 5 false)) (hd:3<y/\K.contains y=true) (mD:3<z/\K.contains z=true) (br:y≠z) (hp:1<=p.1):
  sZ o' K [p] [{key:=.int .i64 p.1,val:=.pointer (some ⟨y,0,none⟩),born:=p.1-1}]
theorem ZB{B:Nat->Prop}{w₀ w:arB}{ρ:Ren}{o':List ak}(h:WR fK B w₀ ρ (cu o') w)(hlen:o'.length<=262144){F:List (Nat×ByteArray)}{eF e':List arW}{K:List Nat}(hF:sZ o' K F eF)(he:bS (nM ρ) eF e'):
 ∃LF,fL F e' LF/\(∀p∈LF,e7 w p.1 p.2/\∃y,(3<y/\K.contains y=true)/\ii ρ o' p.1 y)/\(LF.map (·.1)).Nodup:=by
 have sm:∀{y o},o'[y]?=some o->cu o' y=some o:=λ{y o} hy=>by
  rw[cH];exact hy
  exact ij.2 (by have:=(KP.1 hy).1;have:(2:Nat)^18=262144:=rfl;omega)
 cases hF with
 |none=>cases he;exact⟨[],.nil,(λp hp=>by cases hp),.nil⟩
 |empty p y hy h0 hd hp=>
  cases he with
  |cons h1 h2=>
   cases h2
   rename_i b
   obtain⟨k1,k2,k3⟩:=h1
   obtain⟨q,hq,hv⟩:=VR.lp k2
   have e1:=k1.kl
   obtain⟨c',h3,h4⟩:=h.y3 (sm hy) hq rfl
   obtain⟨v,l',rfl,h5,h6⟩:=h3.gT
   have:=h6.kO;subst this
   have gJ:v=.slice none 0 0:=VR.su rfl h5
   subst gJ
   refine⟨[(q.aH,.cells [.slice none 0 0] 173 q.sh q.dJ)],?_,?_,by simp⟩
   ·cases b with
    |mk key val Oh=>
     dsimp only at e1 hv k3
     subst e1 hv k3
     exact .cons p q.aH (q.sh+0) [] [] [(q.aH,.cells [.slice none 0 0] 173 q.sh q.dJ)] [] ⟨_,q.dJ,[],.inl ⟨h0,rfl,none,rfl⟩,rfl⟩ .nil hp
   ·intro p hp
    rw[ar0]at hp;subst hp
    exact⟨h4,y,hd,ii.row hy hq rfl⟩
 |full p y z hy hz hd mD br hp=>
  cases he with
  |cons h1 h2=>
   cases h2
   rename_i b
   obtain⟨k1,k2,k3⟩:=h1
   obtain⟨q,hq,hv⟩:=VR.lp k2
   have e1:=k1.kl
   obtain⟨c',h3,h4⟩:=h.y3 (sm hy) hq rfl
   obtain⟨v,l',rfl,h5,h6⟩:=h3.gT
   have:=h6.kO;subst this
   obtain⟨L,r1,r2⟩:=Hq h (sm hz) (by simp) (by rw[mC,Nat.mul_one]) rH (by omega) h5
   refine⟨(q.aH,.cells [v] 173 q.sh q.dJ)::L,?_,?_,?_⟩
   ·cases b with
    |mk key val Oh=>
     dsimp only at e1 hv k3
     subst e1 hv k3
     have:=fL.cons p q.aH (q.sh+0) [] [] ((q.aH,.cells [v] 173 q.sh q.dJ)::L) [] ⟨v,q.dJ,L,r1,rfl⟩ .nil hp
     rw[asg]at this
     exact this
   ·intro p hp
    rcases arD.1 hp with rfl|hp
    ·exact⟨h4,y,hd,ii.row hy hq rfl⟩
    ·rcases r2 with rfl|⟨s,s1,s2,rfl,s4⟩
     ·cases hp
     ·rw[ar0]at hp;subst hp
      exact⟨s4,z,mD,ii.row hz s1 s2⟩
   ·rcases r2 with rfl|⟨s,s1,s2,rfl,s4⟩
    ·simp
    ·simp only[asn,awm,asG,ar0,List.not_mem_nil,not_false_eq_true,List.nodup_nil,and_true]
     intro e
     exact br ((ii.row hy hq rfl).inj h hlen (e▸ii.row hz s1 s2))
theorem wM{w:arB}{n size:Nat}{c:List Dy}{el:KS}{v:Dy}{L:List (Nat×CO)}(h:Vm.rowAt n size c el v L)(ca:∀p∈L,e7 w p.1 p.2)(hl:c.length=n*size):
 ∃q:bV,q.sz=size/\(Live (.cells c el false) q=true->q.aH∈L.map (·.1)/\e7 w q.aH (.cells c el q.sh q.dJ))/\∀(ρ:Ren) (z:Nat),ρ z=some q->VR ρ (.slice (some ⟨z,0,none⟩) n n) v:=by
 rcases h with⟨rfl,rfl,a,rfl⟩|⟨k,sh,cap,room,rfl,h1,h2,rfl⟩
 ·have:c=[]:=ar5 (by rw[hl,Nat.zero_mul])
  subst this
  exact⟨⟨0,0,size,0⟩,rfl,(λh=>by cases h),λρ z _=>.eJ _ _⟩
 ·refine⟨⟨k,sh,size,room⟩,rfl,λ_=>⟨by simp,ca _ (ar0.2 rfl)⟩,λρ z hz=>?_⟩
  exact .sl z 0 n n cap ⟨k,sh,size,room⟩ hz (.inr ⟨h1,by simpa using h2⟩)
theorem BP{B:Nat->Prop}{w w':arB}{ρ:Ren}{o':List ak}{r:bV}{S:Nat->Prop}{L:List (Nat×CO)}(hL:qL w r.aH S L)(eT:r.sz=5)
 {sc:List (Int×Int)}{A F C:List (Nat×ByteArray)}{eA eF eC:List arW}{LA LM LC L1:List (Nat×CO)}{x1 x2:Nat×CO}(dw:L=x1::x2::(L1++(LA++(LM++LC))))(hA:fL A eA LA)(hC:fL C eC LC)
 (h:WR fK B w ρ (cu o') w')(hlen:o'.length<=262144)(h0:ρ 0=some r)(hid:∀k,k∈LA.map (·.1)\/k∈LC.map (·.1)->B k/\w'.heap[k]?=w.heap[k]?){made:Nat}{calls raw:Int}
 (o0:o'[0]?=some (.cells [.slice (some ⟨2,0,none⟩) sc.length sc.length,.map (some 3),.int .i64 made,.int .i64 calls,.int .i64 raw] 80 false))
 (o2:o'[2]?=some (.cells (aI sc) 77 false))(qe:(aI sc).all ag=true)(ta:(aI sc).length=sc.length*2)
 (o3:o'[3]?=some (.map (cf eA++(eF++cf eC)) made)){K:List Nat}(hF:sZ o' K F eF)(ZC:K.contains 2=true)(ZD:K.contains 3=true):
 ∃S',pd w' r ⟨sc,A++(F++C),made,calls,raw⟩ S'/\∀k,S' k->(k∈LA.map (·.1)\/k∈LC.map (·.1))\/∃y,(y=0\/K.contains y=true)/\ii ρ o' k y:=by
 have m0:=(cH (objs:=o') (x:=0) rfl).trans o0
 have m2:=(cH (objs:=o') (x:=2) rfl).trans o2
 have m3:=(cH (objs:=o') (x:=3) rfl).trans o3
 obtain⟨c',h1,h2⟩:=h.y3 m0 h0 rfl
 obtain⟨v,l,rfl,hv,bL⟩:=h1.gT
 obtain⟨vm,l,rfl,Hr,bg⟩:=bL.gT
 obtain⟨q3,tb,rfl⟩:=Hr.qP
 have:=LR.plain (by rfl) bg
 subst this
 obtain⟨uM,r1,r2⟩:=Hq h m2 qe ta qx (by omega) hv
 obtain⟨es,h3,h4⟩:=h.Ob m3 tb
 obtain⟨bA,b',rfl,g1,g2⟩:=bS.Hp h3
 obtain⟨bF,bC,rfl,g3,g4⟩:=bS.Hp g2
 have:=Og hA g1
 subst this
 have:=Og hC g4
 subst this
 obtain⟨LF,f1,f2,f3⟩:=ZB h hlen hF g3
 let L':List (Nat×CO):=(r.aH,.cells [v,.map (some q3.aH),.int .i64 made,.int .i64 calls,.int .i64 raw] 80 r.sh r.dJ)::(q3.aH,.map (bA++(bF++bC)) made)::(uM++(LA++(LF++LC)))
 have jb:ii ρ o' r.aH 0:=ii.row o0 h0 rfl
 have qy:ii ρ o' q3.aH 3:=⟨_,q3,o3,tb,rfl,rfl,rfl⟩
 have mH:∀k∈uM.map (·.1),ii ρ o' k 2:=λk hk=>by
  rcases r2 with rfl|⟨q,a,b,rfl,c⟩
  ·cases hk
  ·simp only[asn,awm,ar0]at hk;subst hk;exact ii.row o2 a b
 have wN:∀k∈LF.map (·.1),∃y,(3<y/\K.contains y=true)/\ii ρ o' k y:=λk hk=>by
  obtain⟨p,hp,rfl⟩:=as8.1 hk
  exact(f2 p hp).2
 have tc:∀k,k∈LA.map (·.1)\/k∈LC.map (·.1)->∀y,ii ρ o' k y->False:=λk hk y hy=>hy.ZA h hlen (hid k hk).1
 have Hs:=hL.gR
 rw[dw]at Hs
 simp only[asn,asm,asG]at Hs
 have ky:=(aso.1 Hs.2.2).2.1
 obtain⟨nA,lM,dA⟩:=aso.1 ky
 obtain⟨_,nC,_⟩:=aso.1 lM
 have ZE:∀a∈LA.map (·.1),∀b∈LC.map (·.1),a≠b:=λa ha b hb=>dA a ha b (asc _ hb)
 have nd:(L'.map (·.1)).Nodup:=by
  simp only[L',asn,asm,asG,arD,arL,not_or]
  refine⟨⟨?_,?_,?_,?_,?_⟩,⟨?_,?_,?_,?_⟩,?_⟩
  ·intro e;have:=jb.inj h hlen (e▸qy);omega
  ·intro hk;have:=jb.inj h hlen (mH _ hk);omega
  ·intro hk;exact tc _ (.inl hk) 0 jb
  ·intro hk;obtain⟨y,⟨hy,_⟩,lq⟩:=wN _ hk;have:=jb.inj h hlen lq;omega
  ·intro hk;exact tc _ (.inr hk) 0 jb
  ·intro hk;have:=qy.inj h hlen (mH _ hk);omega
  ·intro hk;exact tc _ (.inl hk) 3 qy
  ·intro hk;obtain⟨y,⟨hy,_⟩,lq⟩:=wN _ hk;have:=qy.inj h hlen lq;omega
  ·intro hk;exact tc _ (.inr hk) 3 qy
  ·refine aso.2 ⟨?_,aso.2 ⟨nA,aso.2 ⟨f3,nC,?_⟩,?_⟩,?_⟩
   ·rcases r2 with rfl|⟨q,a,b,rfl,c⟩<;>simp
   ·intro a ha b hb e;subst e;obtain⟨y,_,hy⟩:=wN _ ha;exact tc _ (.inr hb) y hy
   ·intro a ha b hb e
    subst e
    rcases arL.1 hb with hb|hb
    ·obtain⟨y,_,hy⟩:=wN _ hb;exact tc _ (.inl ha) y hy
    ·exact ZE _ ha _ hb rfl
   ·intro a ha b hb e
    subst e
    rcases arL.1 hb with hb|hb
    ·exact tc _ (.inl hb) 2 (mH _ ha)
    ·rcases arL.1 hb with hb|hb
     ·obtain⟨y,⟨hy,_⟩,lq⟩:=wN _ hb;have:=(mH _ ha).inj h hlen lq;omega
     ·exact tc _ (.inr hb) 2 (mH _ ha)
 refine⟨λk=>k∈L'.map (·.1),⟨L',⟨eT,v,q3.aH,_,uM,LA++(LF++LC),r1,Of hA (Of f1 hC),rfl⟩,⟨?_,nd,arH,λk=>Iff.rfl⟩⟩,?_⟩
 ·intro p hp
  rcases arD.1 hp with rfl|hp
  ·exact h2
  rcases arD.1 hp with rfl|hp
  ·exact h4
  rcases arL.1 hp with hp|hp
  ·rcases r2 with rfl|⟨q,a,b,rfl,c⟩
   ·cases hp
   ·rw[ar0]at hp;subst hp;exact c
  have old:∀p∈LA++LC,e7 w' p.1 p.2:=λp hp=>by
   refine(hL.at_ p ?_).frame (hid p.1 ?_).2
   ·rw[dw]
    refine arG _ (arG _ (asc _ ?_))
    rcases arL.1 hp with hp|hp
    ·exact asi _ hp
    ·exact asc _ (asc _ hp)
   ·rcases arL.1 hp with hp|hp
    ·exact .inl (atb hp)
    ·exact .inr (atb hp)
  rcases arL.1 hp with hp|hp
  ·exact old p (asi _ hp)
  rcases arL.1 hp with hp|hp
  ·exact(f2 p hp).1
  ·exact old p (asc _ hp)
 ·intro k hk
  have hk:k∈L'.map (·.1):=hk
  simp only[L',asn,asm,arD,arL]at hk
  rcases hk with rfl|rfl|hk|hk|hk|hk
  ·exact .inr ⟨0,.inl rfl,jb⟩
  ·exact .inr ⟨3,.inr ZD,qy⟩
  ·exact .inr ⟨2,.inr ZC,mH k hk⟩
  ·exact .inl (.inl hk)
  ·obtain⟨y,hy,lq⟩:=wN k hk;exact .inr ⟨y,.inr hy.2,lq⟩
  ·exact .inl (.inr hk)
theorem ZF{B:Nat->Prop}{w₀ w':arB}{ρ:Ren}{o':List ak}{sc:List (Int×Int)}(h:WR fK B w₀ ρ (cu o') w')(hlen:o'.length<=262144)
 (o1:o'[1]?=some (.cells [.slice (some ⟨2,0,none⟩) sc.length sc.length,.map (some 3),.int .i64 0,.int .i64 0,.int .i64 0] 80 false))
 (o2:o'[2]?=some (.cells (aI sc) 77 false))(qe:(aI sc).all ag=true)(ta:(aI sc).length=sc.length*2)(o3:o'[3]?=some (.map [] 0)):
 ∃r S,ρ 1=some r/\pd w' r ⟨sc,[],0,0,0⟩ S/\∀k,S k->∃y,(y=1\/y=2\/y=3)/\ii ρ o' k y:=by
 have m1:=(cH (objs:=o') (x:=1) rfl).trans o1
 have m2:=(cH (objs:=o') (x:=2) rfl).trans o2
 have m3:=(cH (objs:=o') (x:=3) rfl).trans o3
 obtain⟨r,hr⟩:=h.named 1 _ m1 (by intro e;cases e)
 obtain⟨c',h1,h2⟩:=h.y3 m1 hr rfl
 obtain⟨oo,_,ZG,_⟩:=h.live 1 _ r m1 hr rfl
 have cc:r.sz=5:=ZG.x6 _ y6
 obtain⟨v,l,rfl,hv,bL⟩:=h1.gT
 obtain⟨vm,l,rfl,Hr,bg⟩:=bL.gT
 obtain⟨q3,tb,rfl⟩:=Hr.qP
 have:=LR.plain (by rfl) bg
 subst this
 obtain⟨uM,r1,r2⟩:=Hq h m2 qe ta qx (by omega) hv
 obtain⟨es,h3,h4⟩:=h.Ob m3 tb
 cases h3
 let L':List (Nat×CO):=(r.aH,.cells [v,.map (some q3.aH),.int .i64 0,.int .i64 0,.int .i64 0] 80 r.sh r.dJ)::(q3.aH,.map [] 0)::(uM++[])
 have jb:ii ρ o' r.aH 1:=ii.row o1 hr rfl
 have qy:ii ρ o' q3.aH 3:=⟨_,q3,o3,tb,rfl,rfl,rfl⟩
 have mH:∀k∈uM.map (·.1),ii ρ o' k 2:=λk hk=>by
  rcases r2 with rfl|⟨q,a,b,rfl,c⟩
  ·cases hk
  ·simp only[asn,awm,ar0]at hk;subst hk;exact ii.row o2 a b
 have nd:(L'.map (·.1)).Nodup:=by
  simp only[L',asg,asn,asG,arD,not_or]
  refine⟨⟨?_,?_⟩,?_,?_⟩
  ·intro e;have:=jb.inj h hlen (e▸qy);omega
  ·intro hk;have:=jb.inj h hlen (mH _ hk);omega
  ·intro hk;have:=qy.inj h hlen (mH _ hk);omega
  ·rcases r2 with rfl|⟨q,a,b,rfl,c⟩<;>simp
 refine⟨r,λk=>k∈L'.map (·.1),hr,⟨L',⟨cc,v,q3.aH,[],uM,[],r1,.nil,rfl⟩,⟨?_,nd,arH,λk=>Iff.rfl⟩⟩,?_⟩
 ·intro p hp
  rcases arD.1 hp with rfl|hp
  ·exact h2
  rcases arD.1 hp with rfl|hp
  ·exact h4
  rw[asg]at hp
  rcases r2 with rfl|⟨q,a,b,rfl,c⟩
  ·cases hp
  ·rw[ar0]at hp;subst hp;exact c
 ·intro k hk
  have hk:k∈L'.map (·.1):=hk
  simp only[L',asg,asn,arD]at hk
  rcases hk with rfl|rfl|hk
  ·exact⟨1,.inl rfl,jb⟩
  ·exact⟨3,.inr (.inr rfl),qy⟩
  ·exact⟨2,.inr (.inl rfl),mH k hk⟩
noncomputable section
def td:List ar3:=a7 (dI fK 95)
abbrev uN:=λ(sc:List (Int×Int)) x0 es (ck nb:Nat) f5 (dm dc dr:Int)=>([ab ([aq 2 (nG sc),.map (some 3),aa dm,aa dc,aa dr]) 80,ab x0 5,ab (aI sc) 77,.map es ck,ab [aq 5 nb] 173,ab f5 5,ab [ap 0] 35]:List ak)
abbrev ZH:=λ(sc:List (Int×Int)) x0 es (ck nb:Nat) f5 (dm dc dr:Int)=>(⟨[(0,aq 2 (nG sc)),(1,.func (.func 96) #[] #[ap 6]),(7,aa (nG sc)),(8,aa 0)],uN sc x0 es ck nb f5 dm dc dr⟩:ai)
theorem ZI(sc:List (Int×Int))(x0 es)(ck nb:Nat)(f5)(dm dc dr:Int){Q:aU}(aY:DC x0 ag)(bh:DC (aI sc) ag)(bT:DC (bI [0,1,2,3,4,5,6] es) ag)(bO:DC f5 ag)(l4:ao arX 19 7 (td.drop 2) (ZH sc x0 es ck nb f5 dm dc dr) Q):ao arX 19 7 td ⟨[(0,aq 2 (nG sc)),(1,.func (.func 96) #[] #[ap 6])],[ab [aq 2 (nG sc),.map (some 3),aa dm,aa dc,aa dr] 80,ab x0 5,ab (aI sc) 77,.map es ck,ab [aq 5 nb] 173,ab f5 5,ab [ap 0] 35]⟩ Q:=
 aV bp 2 (.leaf [0,1,7,8] [0,1,2,3,4,5,6] [1,2,3,5]) (λu=>by kernel_rfl) (Tree.aQ aY (Tree.aQ bh (Tree.aQ bT (Tree.aQ bO (Tree.fY (l4))))))
abbrev Oi:=λ(sc:List (Int×Int)) x0 es (ck nb:Nat) f5 (dm dc dr j:Int)=>(⟨[(4,aa j)],uN sc x0 es ck nb f5 dm dc dr⟩:ai)
theorem ZJ(sc:List (Int×Int))(x0 es)(ck nb:Nat)(f5)(dm dc dr j:Int){Q:bu}(aY:DC x0 ag)(bh:DC (aI sc) ag)(cC:DC (bI [0,1,2,3,4,5,6] es) ag=true)(bO:DC f5 ag)(hq:Q (.ret (aa j)) (uN sc x0 es ck nb f5 dm dc dr)):aG arX 95 19 7 Q .ret (Oi sc x0 es ck nb f5 dm dc dr j):=aG.ret (vs:=[aa j]) (l:=[]) (bs:=[0,1,2,3,4,5,6]) (pl:=[1,2,3,5]) (q:=[x0,aI sc,bI [0,1,2,3,4,5,6] es,f5]) (λu=>by kernel_rfl) (by kernel_rfl) (aD aY (aD bh (aD cC (aD bO be)))) hq
abbrev Oj:=λ(sc:List (Int×Int)) x0 es (ck nb:Nat) f5 (dm dc dr j:Int)=>(⟨[(0,aq 2 (nG sc)),(1,.func (.func 96) #[] #[ap 6]),(7,aa (nG sc)),(8,.int .i64 (m6 Ul (j+1)))],uN sc x0 es ck nb f5 dm dc dr⟩:ai)
abbrev ZK:=λ(sc:List (Int×Int)) x0 es (ck nb:Nat) f5 (dm dc dr j:Int)=>(⟨[],uN sc x0 es ck nb f5 dm dc dr⟩:ai)
theorem ZL(sc:List (Int×Int))(x0 es)(ck nb:Nat)(f5)(dm dc dr j:Int)(h0:0<=j){Q:aU}(n0:(decide (j<(↑(nG sc):Int)))->(arM (0+m5 j*2+2) (nG (aI sc)))=true)(n1:(decide (j<(↑(nG sc):Int)))->(cP Ul (aI sc) (0+m5 j*2))=true)(n2:(decide (j<(↑(nG sc):Int)))->(cP Ul (aI sc) (0+m5 j*2+1))=true)(aY:DC x0 ag)(bh:DC (aI sc) ag)(bT:DC (bI [0,1,2,3,4,5,6] es) ag)(bO:DC f5 ag)(l7:(decide (j<(↑(nG sc):Int)))->(av (aI sc) (0+m5 j*2)==dc)->Q .ret (Oi sc x0 es ck nb f5 dm dc dr j))(l8:(decide (j<(↑(nG sc):Int)))->(av (aI sc) (0+m5 j*2)==dc)=false->Q .normal (Oj sc x0 es ck nb f5 dm dc dr j))(l9:(decide (j<(↑(nG sc):Int)))=false->Q (.exit 0) (ZK sc x0 es ck nb f5 dm dc dr j)):ao arX 19 7 (a7 (inner (a7 (inner (td.drop 2))))) ⟨[(0,aq 2 (nG sc)),(1,.func (.func 96) #[] #[ap 6]),(7,aa (nG sc)),(8,aa j)],[ab [aq 2 (nG sc),.map (some 3),aa dm,aa dc,aa dr] 80,ab x0 5,ab (aI sc) 77,.map es ck,ab [aq 5 nb] 173,ab f5 5,ab [ap 0] 35]⟩ Q:=
 aV bp 1000 (.fork 0 (aB [0,1,1,0,1,1,1] (.fork 4 (.leaf [4] [0,1,2,3,4,5,6] [1,2,3,5]) (.leaf [0,1,7,8] [0,1,2,3,4,5,6] [1,2,3,5]))) (.leaf [] [0,1,2,3,4,5,6] [1,2,3,5])) (λu=>by kernel_rfl) (Tree.dE (c:=decide (j<(↑(nG sc):Int))) (λh0=>(Tree.aQ (decide_eq_true (by omega):(decide (0<=j))=true) (Tree.aQ (show(arF (m5 j) (nG sc))=true by simp at h0 h0⊢ <;>omega) (Tree.aQ (n0 h0) (Tree.aQ (n1 h0) (Tree.aQ (n2 h0) (Tree.dE (c:=av (aI sc) (0+m5 j*2)==dc) (λh1=>(Tree.aQ aY (Tree.aQ bh (Tree.aQ bT (Tree.aQ bO (Tree.dN (l7 h0 h1))))))) (λh1=>(Tree.aQ aY (Tree.aQ bh (Tree.aQ bT (Tree.aQ bO (Tree.fY (ao.done (by kernel_rfl) (l8 h0 h1))))))))))))))) (λh0=>(Tree.aQ aY (Tree.aQ bh (Tree.aQ bT (Tree.aQ bO (Tree.gH 0 (l9 h0))))))))
abbrev Ol:=λ(sc:List (Int×Int)) x0 es (ck nb:Nat) f5 (dm dc dr:Int)=>(⟨[(4,aa (-1))],uN sc x0 es ck nb f5 dm dc dr⟩:ai)
theorem ZM(sc:List (Int×Int))(x0 es)(ck nb:Nat)(f5)(dm dc dr:Int){Q:bu}(aY:DC x0 ag)(bh:DC (aI sc) ag)(cC:DC (bI [0,1,2,3,4,5,6] es) ag=true)(bO:DC f5 ag)(hq:Q (.ret (aa (-1))) (uN sc x0 es ck nb f5 dm dc dr)):aG arX 95 19 7 Q .ret (Ol sc x0 es ck nb f5 dm dc dr):=aG.ret (vs:=[aa (-1)]) (l:=[]) (bs:=[0,1,2,3,4,5,6]) (pl:=[1,2,3,5]) (q:=[x0,aI sc,bI [0,1,2,3,4,5,6] es,f5]) (λu=>by kernel_rfl) (by kernel_rfl) (aD aY (aD bh (aD cC (aD bO be)))) hq
theorem ZN(sc:List (Int×Int))(x0 es)(ck nb:Nat)(f5)(dm dc dr:Int){Q:aU}(aY:DC x0 ag)(bh:DC (aI sc) ag)(bT:DC (bI [0,1,2,3,4,5,6] es) ag)(bO:DC f5 ag)(l4:Q .ret (Ol sc x0 es ck nb f5 dm dc dr)):ao arX 19 7 (td.drop 3) ⟨[],[ab [aq 2 (nG sc),.map (some 3),aa dm,aa dc,aa dr] 80,ab x0 5,ab (aI sc) 77,.map es ck,ab [aq 5 nb] 173,ab f5 5,ab [ap 0] 35]⟩ Q:=
 aV bp 1000 (.leaf [4] [0,1,2,3,4,5,6] [1,2,3,5]) (λu=>by kernel_rfl) (Tree.aQ aY (Tree.aQ bh (Tree.aQ bT (Tree.aQ bO (Tree.dN (l4))))))
abbrev uO:=λ(sc:List (Int×Int)) x0 es (ck:Nat) f5 (dm dc dr:Int)=>([ab ([aq 2 (nG sc),.map (some 3),aa dm,aa dc,aa dr]) 80,ab x0 5,ab (aI sc) 77,.map es ck,ab [] 173,ab f5 5,ab [ap 0] 35]:List ak)
abbrev ZO:=λ(sc:List (Int×Int)) x0 es (ck nb:Nat) f5 (dm dc dr:Int)=>(⟨[(0,aq 2 (nG sc)),(1,.func (.func 96) #[] #[ap 6]),(7,aa (nG sc)),(8,aa 0)],uO sc x0 es ck f5 dm dc dr⟩:ai)
theorem ZP(sc:List (Int×Int))(x0 es)(ck nb:Nat)(f5)(dm dc dr:Int){Q:aU}(aY:DC x0 ag)(bh:DC (aI sc) ag)(bT:DC (bI [0,1,2,3,4,5,6] es) ag)(bO:DC f5 ag)(l4:ao arX 19 7 (td.drop 2) (ZO sc x0 es ck nb f5 dm dc dr) Q):ao arX 19 7 td ⟨[(0,aq 2 (nG sc)),(1,.func (.func 96) #[] #[ap 6])],[ab [aq 2 (nG sc),.map (some 3),aa dm,aa dc,aa dr] 80,ab x0 5,ab (aI sc) 77,.map es ck,ab [] 173,ab f5 5,ab [ap 0] 35]⟩ Q:=
 aV bp 2 (.leaf [0,1,7,8] [0,1,2,3,4,5,6] [1,2,3,5]) (λu=>by kernel_rfl) (Tree.aQ aY (Tree.aQ bh (Tree.aQ bT (Tree.aQ bO (Tree.fY (l4))))))
abbrev Om:=λ(sc:List (Int×Int)) x0 es (ck nb:Nat) f5 (dm dc dr j:Int)=>(⟨[(4,aa j)],uO sc x0 es ck f5 dm dc dr⟩:ai)
theorem ZQ(sc:List (Int×Int))(x0 es)(ck nb:Nat)(f5)(dm dc dr j:Int){Q:bu}(aY:DC x0 ag)(bh:DC (aI sc) ag)(cC:DC (bI [0,1,2,3,4,5,6] es) ag=true)(bO:DC f5 ag)(hq:Q (.ret (aa j)) (uO sc x0 es ck f5 dm dc dr)):aG arX 95 19 7 Q .ret (Om sc x0 es ck nb f5 dm dc dr j):=aG.ret (vs:=[aa j]) (l:=[]) (bs:=[0,1,2,3,4,5,6]) (pl:=[1,2,3,5]) (q:=[x0,aI sc,bI [0,1,2,3,4,5,6] es,f5]) (λu=>by kernel_rfl) (by kernel_rfl) (aD aY (aD bh (aD cC (aD bO be)))) hq
abbrev On:=λ(sc:List (Int×Int)) x0 es (ck nb:Nat) f5 (dm dc dr j:Int)=>(⟨[(0,aq 2 (nG sc)),(1,.func (.func 96) #[] #[ap 6]),(7,aa (nG sc)),(8,.int .i64 (m6 Ul (j+1)))],uO sc x0 es ck f5 dm dc dr⟩:ai)
abbrev ZR:=λ(sc:List (Int×Int)) x0 es (ck nb:Nat) f5 (dm dc dr j:Int)=>(⟨[],uO sc x0 es ck f5 dm dc dr⟩:ai)
theorem ZS(sc:List (Int×Int))(x0 es)(ck nb:Nat)(f5)(dm dc dr j:Int)(h0:0<=j){Q:aU}(n0:(decide (j<(↑(nG sc):Int)))->(arM (0+m5 j*2+2) (nG (aI sc)))=true)(n1:(decide (j<(↑(nG sc):Int)))->(cP Ul (aI sc) (0+m5 j*2))=true)(n2:(decide (j<(↑(nG sc):Int)))->(cP Ul (aI sc) (0+m5 j*2+1))=true)(aY:DC x0 ag)(bh:DC (aI sc) ag)(bT:DC (bI [0,1,2,3,4,5,6] es) ag)(bO:DC f5 ag)(l7:(decide (j<(↑(nG sc):Int)))->(av (aI sc) (0+m5 j*2)==dc)->Q .ret (Om sc x0 es ck nb f5 dm dc dr j))(l8:(decide (j<(↑(nG sc):Int)))->(av (aI sc) (0+m5 j*2)==dc)=false->Q .normal (On sc x0 es ck nb f5 dm dc dr j))(l9:(decide (j<(↑(nG sc):Int)))=false->Q (.exit 0) (ZR sc x0 es ck nb f5 dm dc dr j)):ao arX 19 7 (a7 (inner (a7 (inner (td.drop 2))))) ⟨[(0,aq 2 (nG sc)),(1,.func (.func 96) #[] #[ap 6]),(7,aa (nG sc)),(8,aa j)],[ab [aq 2 (nG sc),.map (some 3),aa dm,aa dc,aa dr] 80,ab x0 5,ab (aI sc) 77,.map es ck,ab [] 173,ab f5 5,ab [ap 0] 35]⟩ Q:=
 aV bp 1000 (.fork 0 (aB [0,1,1,0,1,1,1] (.fork 4 (.leaf [4] [0,1,2,3,4,5,6] [1,2,3,5]) (.leaf [0,1,7,8] [0,1,2,3,4,5,6] [1,2,3,5]))) (.leaf [] [0,1,2,3,4,5,6] [1,2,3,5])) (λu=>by kernel_rfl) (Tree.dE (c:=decide (j<(↑(nG sc):Int))) (λh0=>(Tree.aQ (decide_eq_true (by omega):(decide (0<=j))=true) (Tree.aQ (show(arF (m5 j) (nG sc))=true by simp at h0 h0⊢ <;>omega) (Tree.aQ (n0 h0) (Tree.aQ (n1 h0) (Tree.aQ (n2 h0) (Tree.dE (c:=av (aI sc) (0+m5 j*2)==dc) (λh1=>(Tree.aQ aY (Tree.aQ bh (Tree.aQ bT (Tree.aQ bO (Tree.dN (l7 h0 h1))))))) (λh1=>(Tree.aQ aY (Tree.aQ bh (Tree.aQ bT (Tree.aQ bO (Tree.fY (ao.done (by kernel_rfl) (l8 h0 h1))))))))))))))) (λh0=>(Tree.aQ aY (Tree.aQ bh (Tree.aQ bT (Tree.aQ bO (Tree.gH 0 (l9 h0))))))))
abbrev Oo:=λ(sc:List (Int×Int)) x0 es (ck nb:Nat) f5 (dm dc dr:Int)=>(⟨[(4,aa (-1))],uO sc x0 es ck f5 dm dc dr⟩:ai)
theorem ZT(sc:List (Int×Int))(x0 es)(ck nb:Nat)(f5)(dm dc dr:Int){Q:bu}(aY:DC x0 ag)(bh:DC (aI sc) ag)(cC:DC (bI [0,1,2,3,4,5,6] es) ag=true)(bO:DC f5 ag)(hq:Q (.ret (aa (-1))) (uO sc x0 es ck f5 dm dc dr)):aG arX 95 19 7 Q .ret (Oo sc x0 es ck nb f5 dm dc dr):=aG.ret (vs:=[aa (-1)]) (l:=[]) (bs:=[0,1,2,3,4,5,6]) (pl:=[1,2,3,5]) (q:=[x0,aI sc,bI [0,1,2,3,4,5,6] es,f5]) (λu=>by kernel_rfl) (by kernel_rfl) (aD aY (aD bh (aD cC (aD bO be)))) hq
theorem ZU(sc:List (Int×Int))(x0 es)(ck nb:Nat)(f5)(dm dc dr:Int){Q:aU}(aY:DC x0 ag)(bh:DC (aI sc) ag)(bT:DC (bI [0,1,2,3,4,5,6] es) ag)(bO:DC f5 ag)(l4:Q .ret (Oo sc x0 es ck nb f5 dm dc dr)):ao arX 19 7 (td.drop 3) ⟨[],[ab [aq 2 (nG sc),.map (some 3),aa dm,aa dc,aa dr] 80,ab x0 5,ab (aI sc) 77,.map es ck,ab [] 173,ab f5 5,ab [ap 0] 35]⟩ Q:=
 aV bp 1000 (.leaf [4] [0,1,2,3,4,5,6] [1,2,3,5]) (λu=>by kernel_rfl) (Tree.aQ aY (Tree.aQ bh (Tree.aQ bT (Tree.aQ bO (Tree.dN (l4))))))
end
end Go.Proofs.YtnlkkgpcikkpoaaGreat
