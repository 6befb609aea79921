/- Part of the proof: Vd, Abs, Shut0, Call0, Dkh, Dki, Dka. -/
import Derived.Test.YtnlkkgpcikkpoaaGreatJAd
import Derived.LoopNIn
import Derived.RangeFuncNested
import Derived.RangeFuncCalls
import Derived.RangeFuncLeaves
import Derived.Test.YtnlkkgpcikkpoaaGreatChecked
import Derived.KernelRfl
import Derived.Test.YtnlkkgpcikkpoaaGreatJAc
open Array renaming getD_eq_getD_getElem?→apW,getElem?_eq_some_iff→aqe,getElem?_setIfInBounds_ne→aqN,getElem?_setIfInBounds_self→aqQ,getElem?_toList→aqW,size_setIfInBounds→arH
open Bool renaming and_eq_true→apt,not_eq_true'→arm
open Classical renaming propDecidable→apF
open Go renaming Code→apV,Exit→arB,FuncId→apQ,MapEntry→apM,Program→apu,TypeId→apq,Value→ape,World→aps,wpIn_mono→atK
open Go.IntKind renaming i64→apr,wrap→apc
open Go.Op renaming equal→ar8,equalIn→arM,maxDepth→avM
open Go.Proofs.Tryz renaming prog→apP,prog→av9
open Go.Region renaming wanted→aqP
open Go.Result renaming andThen_ok→apf
open Go.Sem renaming run→arL,run_bind→apg
open Go.Value renaming bool→aqj,oneCell'→aqg
open Int renaming toNat→apd
open List renaming all→aph,all_eq_true→apR,any_eq_false→ar0,append_assoc→apK,append_nil→aqF,eq_nil_of_length_eq_zero→aqf,foldl_cons→ari,getElem?_append_left→ap5,getElem?_append_right→apZ,getElem?_cons_zero→ap3,getElem?_drop→aqz,getElem?_eq_getElem→apl,getElem?_eq_none→aqr,getElem?_eq_none_iff→aq3,getElem?_eq_some_iff→app,getElem?_map→aqJ,getElem?_mapIdx→aur,getElem?_of_mem→aqG,getElem?_set_ne→ar3,getElem?_set_self→arP,getElem?_take→aqx,getElem?_toArray→aul,isEmpty_iff→arA,length→apb,length_append→apv,length_cons→ap1,length_drop→aqp,length_map→arj,length_mapIdx→auH,length_set→aqK,length_take→ap8,map_append→aqa,map_cons→aqb,map_nil→atZ,mem_append→apN,mem_append_left→aqH,mem_append_right→aql,mem_cons→apx,mem_cons_of_mem→apB,mem_cons_self→apC,mem_map→aq0,mem_map_of_mem→arn,mem_of_getElem?→apX,mem_singleton→aqd,nodup_append→aqk,nodup_cons→aqB,pairwise_iff_getElem→ar4,tail_drop→atx,take_append_drop→aqv
open Nat renaming beq→apw,beq_refl→aqn,ble→apG,ble_eq_true_of_le→apU,blt→apy,eq_of_beq_eq_true→apz,eq_zero_or_pos→atI,le_of_ble_eq_true→apL,le_refl→apI,lt_of_lt_of_le→arC,mul_pos→avN
open Option renaming getD_some→aq4
open Option.some renaming inj→asC,injEq→api
open Prod.mk renaming injEq→apn
set_option linter.unusedVariables false
set_option linter.unusedSimpArgs false
set_option maxRecDepth 100000
namespace Go.Proofs.YtnlkkgpcikkpoaaGreat.Vm
open Go.RowKit
inductive Tree where
 |leaf (x:bd) (d:aj)
 |fork (c:Bool) (a b:Tree)
 |cD (c:Bool) (v:Bool) (t:Tree)
def Tree.ok(R:bd→aj→Prop):Tree→Prop
 | .leaf x d=>R x d
 | .fork c a b=>(c=true→a.ok R)∧(c=false→b.ok R)
 | .cD c v t=>c=v∧t.ok R
theorem Tree.A7{R R':bd→aj→Prop}(h:∀x d,R x d→R' x d):∀{T:Tree},T.ok R→T.ok R'
 | .leaf x d,ht=>h x d ht
 | .fork c a b,ht=>⟨fun hc=>A7 h (ht.1 hc),fun hc=>A7 h (ht.2 hc)⟩
 | .cD c v t,ht=>⟨ht.1,A7 h ht.2⟩
inductive ST where
 |leaf (sl bs pl:List Nat)
 |fork (n:Nat) (a b:ST)
 |cD (n:Nat) (v:Bool) (a:ST)
def DT.sym{α:Type}(fin:List Nat→List Nat→List Nat→α→Option Tree):DT α→ST→Option Tree
 | .done a,.leaf sl bs pl=>fin sl bs pl a
 | .ask d k,.fork 0 s1 s2=>match(k true).sym fin s1 with
  |some x=>match(k false).sym fin s2 with
   |some y=>some (.fork d x y)
   |none=>none
  |none=>none
 | .ask d k,.cD 0 v s=>match v with
  |true=>match(k true).sym fin s with
   |some x=>some (.cD d true x)
   |none=>none
  |false=>match(k false).sym fin s with
   |some x=>some (.cD d false x)
   |none=>none
 | .ask d k,.fork (n+1) s1 s2=>match d with
  |true=>(k true).sym fin (.fork n s1 s2)
  |false=>(k false).sym fin (.fork n s1 s2)
 | .ask d k,.cD (n+1) v s=>match d with
  |true=>(k true).sym fin (.cD n v s)
  |false=>(k false).sym fin (.cD n v s)
 | .ask d k,.leaf sl bs pl=>match d with
  |true=>(k true).sym fin (.leaf sl bs pl)
  |false=>(k false).sym fin (.leaf sl bs pl)
 | .fC p x y,.cD 0 v s=>match v with
  |true=>x.sym fin s
  |false=>y.sym fin s
 | .fC p x y,.cD (n+1) v s=>match p with
  |true=>x.sym fin (.cD n v s)
  |false=>y.sym fin (.cD n v s)
 | .fC p x y,.fork (n+1) s1 s2=>match p with
  |true=>x.sym fin (.fork n s1 s2)
  |false=>y.sym fin (.fork n s1 s2)
 | .fC p x y,.leaf sl bs pl=>match p with
  |true=>x.sym fin (.leaf sl bs pl)
  |false=>y.sym fin (.leaf sl bs pl)
 |_,_=>none
theorem DT.MR{α:Type}{fin:List Nat→List Nat→List Nat→α→Option Tree}{R:bd→aj→Prop}:∀{x:DT α} {s:ST} {T:Tree},x.sym fin s=some T→T.ok R→∃a sl bs pl T',x.Has a∧fin sl bs pl a=some T'∧T'.ok R:=by
 intro x
 induction x with
 |done a=>
  intro s T h ht
  cases s with
  |leaf sl bs pl=>exact⟨a,sl,bs,pl,T,.done a,h,ht⟩
  |fork n _ _=>cases n<;>cases h
  |cD n _ _=>cases n<;>cases h
 |fail=>
  intro s T h ht
  unfold DT.sym at h
  cases s with
  |leaf=>cases h
  |fork n _ _=>cases n<;>cases h
  |cD n _ _=>cases n<;>cases h
 |ask d k ih=>
  intro s T h ht
  cases s with
  |leaf sl bs pl=>
   unfold DT.sym at h
   cases d with
   |true=>obtain⟨a,sl,bs,pl,T',h1,h2⟩:=ih true h ht;exact⟨a,sl,bs,pl,T',.ask _ _ _ h1,h2⟩
   |false=>obtain⟨a,sl,bs,pl,T',h1,h2⟩:=ih false h ht;exact⟨a,sl,bs,pl,T',.ask _ _ _ h1,h2⟩
  |fork n s1 s2=>
   cases n with
   |zero=>
    unfold DT.sym at h
    split at h
    ·rename_i x hx
     split at h
     ·rename_i y hy
      cases h
      cases d with
      |true=>obtain⟨a,sl,bs,pl,T',h1,h2⟩:=ih true hx (ht.1 rfl);exact⟨a,sl,bs,pl,T',.ask _ _ _ h1,h2⟩
      |false=>obtain⟨a,sl,bs,pl,T',h1,h2⟩:=ih false hy (ht.2 rfl);exact⟨a,sl,bs,pl,T',.ask _ _ _ h1,h2⟩
     ·cases h
    ·cases h
   |succ n=>
    unfold DT.sym at h
    cases d with
    |true=>obtain⟨a,sl,bs,pl,T',h1,h2⟩:=ih true h ht;exact⟨a,sl,bs,pl,T',.ask _ _ _ h1,h2⟩
    |false=>obtain⟨a,sl,bs,pl,T',h1,h2⟩:=ih false h ht;exact⟨a,sl,bs,pl,T',.ask _ _ _ h1,h2⟩
  |cD n v s=>
   cases n with
   |zero=>
    unfold DT.sym at h
    cases v with
    |true=>
     dsimp only at h
     split at h
     ·rename_i x hx
      cases h
      obtain⟨e,ht⟩:=ht
      subst e
      obtain⟨a,sl,bs,pl,T',h1,h2⟩:=ih true hx ht
      exact⟨a,sl,bs,pl,T',.ask _ _ _ h1,h2⟩
     ·cases h
    |false=>
     dsimp only at h
     split at h
     ·rename_i x hx
      cases h
      obtain⟨e,ht⟩:=ht
      subst e
      obtain⟨a,sl,bs,pl,T',h1,h2⟩:=ih false hx ht
      exact⟨a,sl,bs,pl,T',.ask _ _ _ h1,h2⟩
     ·cases h
   |succ n=>
    unfold DT.sym at h
    cases d with
    |true=>obtain⟨a,sl,bs,pl,T',h1,h2⟩:=ih true h ht;exact⟨a,sl,bs,pl,T',.ask _ _ _ h1,h2⟩
    |false=>obtain⟨a,sl,bs,pl,T',h1,h2⟩:=ih false h ht;exact⟨a,sl,bs,pl,T',.ask _ _ _ h1,h2⟩
 |fC p x y qC qD=>
  intro s T h ht
  have L:∀{s},x.sym fin s=some T→∃a sl bs pl T',(DT.fC p x y).Has a∧fin sl bs pl a=some T'∧T'.ok R:=fun h=>by
   obtain⟨a,sl,bs,pl,T',h1,h2⟩:=qC h ht;exact⟨a,sl,bs,pl,T',.left _ _ _ _ h1,h2⟩
  have M:∀{s},y.sym fin s=some T→∃a sl bs pl T',(DT.fC p x y).Has a∧fin sl bs pl a=some T'∧T'.ok R:=fun h=>by
   obtain⟨a,sl,bs,pl,T',h1,h2⟩:=qD h ht;exact⟨a,sl,bs,pl,T',.right _ _ _ _ h1,h2⟩
  cases s with
  |leaf sl bs pl=>
   unfold DT.sym at h
   cases p with
   |true=>exact L h
   |false=>exact M h
  |fork n s1 s2=>
   cases n with
   |zero=>unfold DT.sym at h;cases h
   |succ n=>
    unfold DT.sym at h
    cases p with
    |true=>exact L h
    |false=>exact M h
  |cD n v s=>
   cases n with
   |zero=>
    unfold DT.sym at h
    cases v with
    |true=>exact L h
    |false=>exact M h
   |succ n=>
    unfold DT.sym at h
    cases p with
    |true=>exact L h
    |false=>exact M h
def pO(pl:List Nat)(τ:Nat→Option Nat):List (Nat×ag)→Option (List ag×List (List ape))
 | []=>some ([],[])
 |(b,o)::l=>match pO pl τ l with
  |none=>none
  |some (r,q)=>match o with
   | .cells c el ro=>match pl.any (apw b)with
    |true=>some (.cells c el ro::r,c::q)
    |false=>match mD (ij τ 6) c with
     |some c'=>some (.cells c' el ro::r,q)
     |none=>none
   | .map es clock=>match pl.any (apw b)with
    |true=>some (.map es clock::r,es.map (dW τ)::q)
    |false=>match rQ τ es with
     |some cN=>some (.map cN clock::r,q)
     |none=>none
   | .kX s p=>some (.kX s p::r,q)
   | .rows n s f=>some (.rows n s f::r,q)
   | .abs d=>some (.abs d::r,q)
   | .dead=>some (.dead::r,q)
def F4:List (List ape)→Tree→Tree
 | [],t=>t
 |c::l,t=>.cD (c.all af) true (F4 l t)
theorem F5{R:bd→aj→Prop}{t:Tree}:∀{l:List (List ape)},(F4 l t).ok R→(∀c∈l,c.all af=true)∧t.ok R
 | [],h=>⟨fun c hc=>(by cases hc),h⟩
 |c::l,h=>by
  obtain⟨h1,h2⟩:=h
  obtain⟨h3,h4⟩:=F5 h2
  exact⟨fun x hx=>by
   rcases apx.1 hx with rfl|hx
   ·exact h1
   ·exact h3 x hx,h4⟩
theorem nP{pl:List Nat}{τ:Nat→Option Nat}:∀{l:List (Nat×ag)} {l':List ag} {q:List (List ape)},pO pl τ l=some (l',q)→(∀c∈q,c.all af=true)→dL (ON τ) (l.map (·.2)) l'
 | [],l',q,h,_=>by cases h;exact .nil
 |(b,o)::l,l',q,h,hq=>by
  unfold pO at h
  split at h
  ·cases h
  ·rename_i r q' hr
   split at h
   ·split at h
    ·cases h
     exact .cons (.plain _ _ _ (hq _ apC)) (nP hr fun c hc=>hq c (apB _ hc))
    ·split at h
     ·rename_i hc
      cases h
      exact .cons (.cells _ _ _ _ hc) (nP hr hq)
     ·cases h
   ·split at h
    ·cases h
     exact .cons (.map _ _ _ (FG (hq _ apC))) (nP hr fun c hc=>hq c (apB _ hc))
    ·split at h
     ·rename_i he
      cases h
      exact .cons (.map _ _ _ he) (nP hr hq)
     ·cases h
   ·cases h;exact .cons (.kX _ _) (nP hr hq)
   ·cases h;exact .cons (.rows _ _ _) (nP hr hq)
   ·cases h;exact .cons (.abs _) (nP hr hq)
   ·cases h;exact .cons (.dead _) (nP hr hq)
def vM(n k:Nat)(sl bs pl:List Nat):bd×Fr×VS→Option Tree
 |(x,t,S)=>match pE bs S with
  |none=>none
  |some bl=>match vA (eX bs) sl (sl.map t.at),pO pl (eX bs) bl with
   |some d,some (objs,q)=>match tP k bs 0&&iK bs&&sl.all (fun i=>apy i n)&&apG bs.length 262144&&Xr x&&apw t.n n&&(t.ds.isEmpty&&t.base.isEmpty)with
    |true=>some (F4 q (.leaf x ⟨d,objs⟩))
    |false=>none
   |_,_=>none
theorem F6:∀{bs:List Nat} {S:VS} {r:List (Nat×ag)},pE bs S=some r→r.map (·.1)=bs
 | [],S,r,h=>by simp only[pE,api]at h;subst h;rfl
 |x::l,S,r,h=>by
  unfold pE at h
  split at h
  ·rename_i o r' h1 h2
   simp only[api]at h
   subst h
   simp[F6 h2]
  ·cases h
theorem an.tree{P:apu}(hP:iG P=true)(fw:P.follows .mixedOrders=true){cO:fD}(hc:dw P cO){lf n k m:Nat}{l:List apV}{d:aj}{s:ST}{T:Tree}
 (h:∀u,(tS P cO lf (l.take m) (eH n u d.sl) (ld d.objs)).sym (vM n k) s=some T){Q:bd→aj→Prop}
 (hT:T.ok (fun x d'=>match x with
  | .normal=>an P n k (l.drop m) d' Q
  |x=>Q x d')):an P n k l d Q:=by
 intro X hn hk a w hd
 have py:=hd
 obtain⟨ρ,u,M,hd⟩:=hd
 obtain⟨p,sl,bs,pl,T',h1,h2,h3⟩:=DT.MR (h u) hT
 obtain⟨x,t1,S1⟩:=p
 dsimp only[vM]at h2
 cases lO:pE bs S1 with
 |none=>rw[lO]at h2;cases h2
 |some bl=>
  rw[lO]at h2
  dsimp only at h2
  split at h2
  ·rename_i dl objs q hs hr
   split at h2
   ·rename_i eN
    cases h2
    obtain⟨hq,qK⟩:=F5 h3
    have lk:=F6 lO
    have e7:=nP hr hq
    simp only[apt]at eN
    obtain⟨⟨⟨⟨⟨⟨c1,c2⟩,c3⟩,c4⟩,c5⟩,c6⟩,c7,c8⟩:=eN
    have hlen:objs.length=bs.length:=by rw[←e7.len,←lk];simp
    subst hn hk
    obtain⟨cV,yk,F7⟩:=hc.ex
    have hv:=FL F7 lf h1
    have he:=yf yk lf hv
    have eo:=he.sm (fun x hx=>by rcases hx with hx|hx<;>cases hx)
    have m7:fG (ld d.objs) S1 (cm d.objs):=fun x hx=>by rw[cx (eo x hx),yc hd.bQ]
    rw[←aqv m l]
    have oM:=Mx hd.quiet
    refine FK (Mw hP fw yk lf (FM (M.map eQ) hv) hd.fr (hd.mem.Aw oM) m7 fun ρ' e a' w' hle dF cu yl=>?_)
    have cH:=yl.Ax hd.mem.env hd.mem.below hd.mem.size oM
    have hh:Holds P X ⟨dl,objs⟩ a' w':=Holds.Mu (bl:=bl) (t:=t1.dH (M.map eQ)) (M:=M) hd.full hle hd.kept cu (apz c6) (arA.1 c7) rfl (fun D hD=>(yl.Ay hD).trans (hd.quiet D hD)) hd.fX hd.outside cH rfl (fun p hp=>by
     have hg:=FN lO p hp
     unfold post
     by_cases hx:p.1∈S1.wr
     ·rw[if_pos hx,hg]
     ·rw[if_neg hx,cx (po hg),←yc hd.bQ,←he.frame p.1 hx,hg]) (by rw[lk];exact c1) (by rw[lk];exact c2) (by rw[lk];exact hs) (by rw[lk];exact e7) c3 (apU (by rw[hlen];exact apL c4))
    cases x with
    |normal=>cases dF;exact qK X rfl rfl a' w' hh
    |exit id=>cases dF;exact⟨.exit id,_,qK,.exit id,hh⟩
    |ret=>cases dF;exact⟨.ret,_,qK,.ret,hh⟩
    |panic v=>
     cases dF with
     |panic _ v' hv=>
      have:=mX c5 hv
      subst this
      exact⟨.panic v',_,qK,.panic _ _ (nD c5),hh⟩
   ·cases h2
  ·cases h2
theorem Tree.dj{R:bd→aj→Prop}{c:Bool}{a b:Tree}(h1:c=true→a.ok R)(h2:c=false→b.ok R):(Tree.fork c a b).ok R:=⟨h1,h2⟩
theorem Tree.aN{R:bd→aj→Prop}{c v:Bool}{t:Tree}(h1:c=v)(h2:t.ok R):(Tree.cD c v t).ok R:=⟨h1,h2⟩
theorem Tree.fz{R:bd→aj→Prop}{d:aj}(h:R .normal d):(Tree.leaf .normal d).ok R:=h
theorem Tree.dB{R:bd→aj→Prop}{d:aj}(h:R .ret d):(Tree.leaf .ret d).ok R:=h
theorem Tree.fH{R:bd→aj→Prop}(n:Nat){d:aj}(h:R (.exit n) d):(Tree.leaf (.exit n) d).ok R:=h
theorem Tree.eT{R:bd→aj→Prop}{x:bd}{d:aj}(h:R x d):(Tree.leaf x d).ok R:=h
theorem an.eU{P:apu}{n k:Nat}{L:List apV}{d:aj}{Q:bd→aj→Prop}(i id:Nat)(hl:FO (L.drop i)=some id)
 (h:an P n k (aY (inner (L.drop i))) d (QB id (fun d'=>an P n k (L.drop (i+1)) d' Q) Q)):an P n k (L.drop i) d Q:=
 an.block hl (by rw[atx];exact h)
theorem an.vN{P:apu}{n k:Nat}{L:List apV}{d:aj}{Q:bd→aj→Prop}(i:Nat){c:Nat}{b:Bool}(hl:AP (L.drop i)=some c)(hi:apy c n=true)(hv:jC d.sl c=some (.bool b))
 (h:an P n k (aY (pF b (L.drop i))++L.drop (i+1)) d Q):an P n k (L.drop i) d Q:=
 an.cond hl hi hv (by rw[atx];exact h)
def QL{σ:Type}(I:σ→aj)(μ:σ→Nat)(ok:σ→Prop)(s:σ)(Q:bd→aj→Prop):bd→aj→Prop
 | .normal,d=>∃s',ok s'∧μ s'<μ s∧d=I s'
 |x,d=>Q x d
theorem an.fS{P:apu}{n k:Nat}{l:List apV}{Q:bd→aj→Prop}{σ:Type}(I:σ→aj)(μ:σ→Nat)(ok:σ→Prop)(s₀:σ)(hl:FP l=true)(h₀:ok s₀)
 (h:∀s,ok s→an P n k (aY (inner l)) (I s) (QL I μ ok s Q)):an P n k l (I s₀) Q:=
 an.loop I μ ok hl (fun s hs=>(h s hs).mono fun x d hx=>by cases x<;>exact hx) s₀ h₀
theorem QL.ret{σ:Type}{I:σ→aj}{μ:σ→Nat}{ok:σ→Prop}{s:σ}{Q:bd→aj→Prop}{d:aj}(h:Q .ret d):QL I μ ok s Q .ret d:=h
theorem QL.exit{σ:Type}{I:σ→aj}{μ:σ→Nat}{ok:σ→Prop}{s:σ}{Q:bd→aj→Prop}{d:aj}{j:Nat}(h:Q (.exit j) d):QL I μ ok s Q (.exit j) d:=h
theorem QL.to{σ:Type}{I:σ→aj}{μ:σ→Nat}{ok:σ→Prop}{s:σ}{Q:bd→aj→Prop}{d:aj}(s':σ)(h:ok s')(hm:μ s'<μ s)(e:d=I s'):QL I μ ok s Q .normal d:=⟨s',h,hm,e⟩
theorem QB.ret{id:Nat}{N:aj→Prop}{Q:bd→aj→Prop}{d:aj}(h:Q .ret d):QB id N Q .ret d:=h
theorem QB.normal{id:Nat}{N:aj→Prop}{Q:bd→aj→Prop}{d:aj}(h:N d):QB id N Q .normal d:=h
theorem QB.cp{id:Nat}{N:aj→Prop}{Q:bd→aj→Prop}{d:aj}(h:N d):QB id N Q (.exit id) d:=by
 unfold QB;dsimp only;rw[aqn];exact h
theorem QB.cy{id j:Nat}{N:aj→Prop}{Q:bd→aj→Prop}{d:aj}(hj:apw j id=false)(h:Q (.exit j) d):QB id N Q (.exit j) d:=by
 unfold QB;dsimp only;rw[hj];exact h
noncomputable def eD(a args:List ape)(o objs:List ag):Bool:=@decide (a=args∧o=objs) (apF _)
theorem fo{a args:List ape}{o objs:List ag}(h1:a=args)(h2:o=objs):eD a args o objs=true:=by
 subst h1 h2
 simp[eD]
theorem ll(a:List ape)(o:List ag):eD a a o o=true:=fo rfl rfl
noncomputable def Sum.one(names:List ape→(Nat→Option ag)→Option (List Nat))(args:List ape)(objs:List ag)(r:bx)(out:List ag):Sum where
 names:=names
 spec a o:=.rS (eD a args o objs) (.done (r,out))
theorem bp.one{P:apu}{f:apQ}{names:List ape→(Nat→Option ag)→Option (List Nat)}{args:List ape}{objs:List ag}{r:bx}{out:List ag}(h:aE P f args objs fun r' o'=>r'=r∧o'=out):
 bp P f (Sum.one names args objs r out):=by
 intro a o r' o' hr
 obtain⟨h1,h2⟩:=QT.tT hr
 obtain⟨rfl,rfl⟩:=@of_decide_eq_true _ (apF _) h1
 cases h2
 exact h
def rZ:Nat→ape→List Nat
 |_,.pointer (some ⟨b,_,none⟩)=>[b]
 |_,.slice (some ⟨b,_,none⟩) _ _=>[b]
 |_,.map (some b)=>[b]
 |d+1,.iface _ v=>rZ d v
 |d+1,.agg c=>(c.toList.map (rZ d)).flatten
 |d+1,.tuple c=>(c.toList.map (rZ d)).flatten
 |d+1,.func _ f c=>(f.toList.map (rZ d)).flatten++(c.toList.map (rZ d)).flatten
 |_,_=>[]
def ym:List Nat→List Nat→List Nat
 | [],_=>[]
 |x::l,seen=>match seen.any (apw x)with
  |true=>ym l seen
  |false=>x::ym l (x::seen)
def tY(args:List ape)(_:Nat→Option ag):Option (List Nat):=some (ym ((args.map (rZ 6)).flatten) [])
theorem XG{p:Prop}(h:p):@decide p (apF _)=true:=by simp[h]
theorem bp.closed{P:apu}{f:apQ}{v:ape}(h:aE P f [] [] fun r' o'=>r'=.ret v∧o'=[]):bp P f ⟨tY,fun a o=>match a,o with
 | [],[]=>.done (.ret v,[])
 |_,_=>.fail⟩:=by
 intro a o r' o' hr
 dsimp only at hr
 split at hr
 ·cases hr;exact h
 ·cases hr
theorem WR.XH{P:apu}{B:Nat→Prop}{w₀ w:aps}{ρ:Ren}{m:Nat→Option ag}(gK:Full ρ)(hw:WR P B w₀ ρ m w){bl:List (Nat×ag)}(lO:∀p∈bl,m p.1=some p.2){objs:List ag}{k:Nat}(hk:∀x,x<k→∃r,ρ x=some r)
 (mG:tP k (bl.map (·.1)) 0=true)(cX:iK (bl.map (·.1))=true)(e7:dL (ON (eX (bl.map (·.1)))) (bl.map (·.2)) objs)(vB:objs.length≤262144):
 ∃ρ2:Ren,Full ρ2∧(∀x,x<k→ρ2 x=ρ x)∧(∀y i r,eX (bl.map (·.1)) y=some i→ρ y=some r→ρ2 i=some r)∧WR P B w₀ ρ2 (cm objs) w:=by
 let σ:List Nat:=bl.map (·.1)
 let ρ2:Ren:=fun x=>match small x with
  |true=>(σ[x]?).bind ρ
  |false=>ρ x
 have eo:∀x,small x=true→ρ2 x=(σ[x]?).bind ρ:=fun x h=>by show(match small x with|true=>_|false=>_)=_;rw[h]
 have lg:∀x,small x=false→ρ2 x=ρ x:=fun x h=>by show(match small x with|true=>_|false=>_)=_;rw[h]
 have hlen:bl.length=objs.length:=by have:=e7.len;simpa using this
 have pD:Full ρ2:=fun r=>by
  obtain⟨y,h1,h2⟩:=gK r
  exact⟨y,h1,by rw[lg y h1];exact h2⟩
 have tR:∀i y,σ[i]?=some y→small i=true:=fun i y h=>gX.2 (by
  have:i<σ.length:=(app.1 h).1
  have e:σ.length=bl.length:=by simp[σ]
  have:(2:Nat)^18=262144:=rfl
  omega)
 have hσ:∀i y r,σ[i]?=some y→ρ y=some r→ρ2 i=some r:=fun i y r h1 h2=>by rw[eo i (tR i y h1),h1];exact h2
 have rR:∀y i r,eX σ y=some i→ρ y=some r→ρ2 i=some r:=fun y i r h1 h2=>hσ i y r (AN h1) h2
 refine⟨ρ2,pD,fun x hx=>?_,rR,?_⟩
 ·have:=FI mG x hx
  rw[Nat.zero_add]at this
  obtain⟨r,hr⟩:=hk x hx
  rw[hσ x x r this hr,hr]
 ·have tz:∀(i:Nat) (o:ag),objs[i]?=some o→∃y ob,σ[i]?=some y∧m y=some ob∧ON (eX σ) ob o:=fun i o hi=>by
   obtain⟨ob,h1,h2⟩:=e7.get hi
   rw[aqJ]at h1
   cases hb:bl[i]?with
   |none=>rw[hb]at h1;cases h1
   |some p=>
    rw[hb]at h1
    simp only[Option.map_some,api]at h1
    subst h1
    exact⟨p.1,p.2,by simp[σ,hb],lO p (apX hb),h2⟩
  refine hw.FH (fun x=>match small x with
   |true=>σ[x]?
   |false=>none) (fun x o hx bk=>?_) (fun x y z hx hy=>?_) fun x hx=>?_
  ·cases hs:small x with
   |false=>rw[il hs]at hx;cases hx;exact absurd rfl bk
   |true=>
    rw[cx hs]at hx
    obtain⟨y,ob,h1,h2,h3⟩:=tz x o hx
    refine⟨y,ob,h1,h2,h3.ne bk,?_,fun r hl=>⟨(h3.live hl).1,(h3.live hl).2,h3.or rR hl⟩,fun n size row e=>?_,fun el ro e=>?_,fun d e=>?_⟩
    ·rw[eo x hs,h1];rfl
    ·subst e;cases h3;rfl
    ·subst e
     cases h3 with
     |plain=>rfl
     |cells c _ _ _ h=>
      cases c with
      |nil=>rfl
      |cons v c=>have:=tN h;simp at this
    ·subst e;cases h3;rfl
  ·have key:∀q,(match small q with|true=>σ[q]? |false=>none)=some z→σ[q]?=some z:=fun q hq=>by
    cases hs:small q with
    |true=>rw[hs]at hq;exact hq
    |false=>rw[hs]at hq;cases hq
   exact tQ cX (key x hx) (key y hy)
  ·cases hs:small x with
   |false=>rw[il hs]at hx;cases hx
   |true=>
    rw[cx hs]at hx
    rw[eo x hs]
    have:σ[x]?=none:=by
     rw[aq3]at hx⊢
     simp[σ]
     omega
    rw[this]
    rfl
def oN(k:Nat)(bs pl:List Nat)(r:bx)(o:List ag):Option (bx×List ag×List (List ape)):=match getAll (fun x=>o[x]?) bs with
 |none=>none
 |some ob=>match pO pl (eX bs) (bs.zip ob),qH (eX bs) r,tP k bs 0&&iK bs&&apG bs.length 262144 with
  |some (o',q),some r',true=>some (r',o',q)
  |_,_,_=>none
theorem aE.trim{P:apu}{f:apQ}{args:List ape}{objs:List ag}{Q Q':bx→List ag→Prop}(h:aE P f args objs Q)
 (ht:∀r o,Q r o→∃bs pl r' o' q,oN objs.length bs pl r o=some (r',o',q)∧(∀c∈q,c.all af=true)∧Q' r' o'):aE P f args objs Q':=by
 intro B w₀ ρ w args' h1 h2 h3 h4
 refine(h B w₀ ρ w args' h1 h2 h3 h4).mono fun e w' he=>?_
 obtain⟨r,o,ρ',hq,jk,gK,hw,iL,mG⟩:=he
 obtain⟨bs,pl,r',o',q,t1,t2,t3⟩:=ht r o hq
 unfold oN at t1
 split at t1
 ·cases t1
 ·rename_i ob e7
  split at t1
  ·rename_i o2 q2 r2 F8 eO hc
   simp only[api,apn]at t1
   obtain⟨rfl,rfl,rfl⟩:=t1
   simp only[apt]at hc
   obtain⟨⟨c1,c2⟩,c3⟩:=hc
   obtain⟨g1,g2⟩:=AX e7
   have e1:(bs.zip ob).map (·.1)=bs:=by rw[List.map_fst_zip (by omega)]
   have MT:=nP F8 t2
   have hl:o2.length=bs.length:=by rw[←MT.len];simp;omega
   have eo:∀x∈bs,small x=true:=fun x hx=>by
    obtain⟨i,hi⟩:=aqG hx
    obtain⟨oo,_,h⟩:=g2 i x hi
    have:x<o.length:=(app.1 h).1
    exact gX.2 (by have:(2:Nat)^18=262144:=rfl;omega)
   obtain⟨ρ2,k1,k2,k3,k4⟩:=WR.XH (bl:=bs.zip ob) (objs:=o2) (k:=objs.length) gK hw (fun p hp=>by
    obtain⟨i,hi⟩:=aqG hp
    rw[List.getElem?_zip_eq_some]at hi
    obtain⟨oo,h5,h6⟩:=g2 i p.1 hi.1
    rw[hi.2]at h5
    cases h5
    rw[cx (eo p.1 (apX hi.1))]
    exact h6) (fun x hx=>by rw[mG x hx];exact h2 x hx) (by rw[e1];exact c1) (by rw[e1];exact c2) (by rw[e1];exact MT) (by rw[hl];exact apL c3)
   rw[e1]at k3
   refine⟨r2,o2,ρ2,t3,?_,k1,k4,by rw[hl];exact apL c3,fun x hx=>(k2 x hx).trans (mG x hx)⟩
   unfold qH at eO
   split at eO
   ·rename_i v
    split at eO
    ·rename_i u hu
     cases eO
     cases e with
     |returned v'=>exact qE k3 6 v u v' hu jk
     |panicked chain=>cases jk
     |outgrown=>cases jk
    ·cases eO
   ·rename_i v
    split at eO
    ·rename_i fP
     cases eO
     cases e with
     |returned v'=>cases jk
     |panicked chain=>
      obtain⟨v',h1,h2⟩:=jk
      have:=mX fP h2
      subst this
      exact⟨v',h1,nD fP⟩
     |outgrown=>cases jk
    ·cases eO
  ·cases t1
def aF(P:apu)(f:apQ)(n k:Nat)(Q:bx→List ag→Prop):bd→aj→Prop
 | .normal,d=>∃vs l,(∀u,(hI P (eH n u d.sl) (rY P f)).run (gt (ld d.objs).mem)=some (vs,l))∧∃bs pl r' o' q,oN k bs pl (.ret (mU vs)) d.objs=some (r',o',q)∧(∀c∈q,c.all af=true)∧Q r' o'
 | .ret,d=>∃vs l,(∀u,(hI P (eH n u d.sl) (rY P f)).run (gt (ld d.objs).mem)=some (vs,l))∧∃bs pl r' o' q,oN k bs pl (.ret (mU vs)) d.objs=some (r',o',q)∧(∀c∈q,c.all af=true)∧Q r' o'
 |_,_=>False
theorem aE.cT{P:apu}{f:apQ}{n:Nat}{args:List ape}{objs:List ag}{Q:bx→List ag→Prop}
 (hf:(((P.funcs[f]?).bind (·.body)).isSome&&apw (cn P f) n&&apG args.length n&&apG n 1024&&apG objs.length 262144)=true)
 (h:an P n objs.length (aY (dz P f)) ⟨vD args 0,objs⟩ (aF P f n objs.length Q)):aE P f args objs Q:=
 aE.trim (Q:=fun r o=>∃bs pl r' o' q,oN objs.length bs pl r o=some (r',o',q)∧(∀c∈q,c.all af=true)∧Q r' o')
  (aE.of hf (h.mono fun x d hx=>by cases x<;>first|exact hx|exact hx.elim)) fun r o h=>h
theorem aF.ret{P:apu}{f n k:Nat}{Q:bx→List ag→Prop}{d:aj}{vs:List ape}{l bs pl:List Nat}{r':bx}{o':List ag}{q:List (List ape)}(h:∀u,(hI P (eH n u d.sl) (rY P f)).run (gt (ld d.objs).mem)=some (vs,l))
 (ht:oN k bs pl (.ret (mU vs)) d.objs=some (r',o',q))(hp:∀c∈q,c.all af=true)(hq:Q r' o'):aF P f n k Q .ret d:=⟨vs,l,h,bs,pl,r',o',q,ht,hp,hq⟩
theorem aF.normal{P:apu}{f n k:Nat}{Q:bx→List ag→Prop}{d:aj}{vs:List ape}{l bs pl:List Nat}{r':bx}{o':List ag}{q:List (List ape)}(h:∀u,(hI P (eH n u d.sl) (rY P f)).run (gt (ld d.objs).mem)=some (vs,l))
 (ht:oN k bs pl (.ret (mU vs)) d.objs=some (r',o',q))(hp:∀c∈q,c.all af=true)(hq:Q r' o'):aF P f n k Q .normal d:=⟨vs,l,h,bs,pl,r',o',q,ht,hp,hq⟩
theorem bc:∀c∈([]:List (List ape)),c.all af=true:=fun c h=>by cases h
theorem aC{c:List ape}{q:List (List ape)}(h:c.all af=true)(hq:∀c∈q,c.all af=true):∀x∈c::q,x.all af=true:=fun x hx=>by
 rcases apx.1 hx with rfl|hx
 ·exact h
 ·exact hq x hx
attribute [simp] aH aZ aG lj nj yj A4
@[simp] theorem anL{a b:List ape}{n:Nat}(ha:a.all af=true)(hb:b.all af=true):(a8 a n b).all af=true:=li ha hb n
@[simp] theorem anM{a:List ape}{n:Nat}(ha:a.all af=true):(a.take n).all af=true:=oL ha n
@[simp] theorem anN{a:List ape}{n:Nat}(ha:a.all af=true):(a.drop n).all af=true:=A5 ha n
@[simp] theorem F9(b:ByteArray):(ai b).all aqg=true:=tX (aH b)
@[simp] theorem anO(b:List ByteArray):(ap b).all aqg=true:=tX (aZ b)
@[simp] theorem anP(b:List Int):(aq b).all aqg=true:=tX (aG b)
@[simp] theorem anQ(k:IntKind)(x:Int):af (.int k x)=true:=rfl
@[simp] theorem anR(x:ByteArray):af (.string x)=true:=rfl
@[simp] theorem anS(x:Bool):af (.bool x)=true:=rfl
@[simp] theorem anT(k:IntKind)(x:Int):aqg (.int k x)=true:=rfl
@[simp] theorem anU(x:ByteArray):aqg (.string x)=true:=rfl
@[simp] theorem anV(x:Bool):aqg (.bool x)=true:=rfl
@[simp] theorem anW{a b:Nat}:apy a b=true↔a<b:=dQ
@[simp] theorem anX{a b:Nat}:apy a b=false↔b≤a:=by
 cases h:apy a b with
 |true=>have:=dQ.1 h;simp;omega
 |false=>simp;exact Nat.le_of_not_lt fun h'=>by rw[dQ.2 h']at h;cases h
@[simp] theorem anY{a b:Nat}:apG a b=true↔a≤b:=⟨apL,apU⟩
@[simp] theorem anZ{a b:Nat}:apG a b=false↔b<a:=by
 cases h:apG a b with
 |true=>have:=apL h;simp;omega
 |false=>simp;exact Nat.lt_of_not_le fun h'=>by rw[apU h']at h;cases h
@[simp] theorem an0{a b:Nat}:apw a b=true↔a=b:=⟨apz,fun h=>by subst h;exact aqn a⟩
@[simp] theorem an1{a b:Nat}:apw a b=false↔a≠b:=by
 cases h:apw a b with
 |true=>have:=apz h;simp;omega
 |false=>simp;intro e;subst e;rw[aqn]at h;cases h
@[simp] theorem XI{n c:Nat}:full n c=true↔c≤n:=by
 unfold full
 cases c with
 |zero=>simp
 |succ c=>simp
@[simp] theorem an2{n c:Nat}:full n c=false↔n<c:=by
 unfold full
 cases c with
 |zero=>simp
 |succ c=>simp
theorem ln(n:Nat):full n n=true:=XI.2 (apI n)
def dN:List (apQ×Sum)→apQ→Option Sum
 | [],_=>none
 |p::l,f=>match apw f p.1 with
  |true=>some p.2
  |false=>dN l f
inductive A8(P:apu):List (apQ×Sum)→Prop where
 |nil:A8 P []
 |cons {f:apQ} {s:Sum} {l:List (apQ×Sum)} (h:bp P f s) (t:A8 P l):A8 P ((f,s)::l)
theorem ed{P:apu}{l:List (apQ×Sum)}(h:A8 P l):∀f s,dN l f=some s→bp P f s:=by
 induction h with
 |nil=>intro f s h;cases h
 |cons h _ ih=>
  intro f s hf
  unfold dN at hf
  split at hf
  ·rename_i hb
   cases hf
   rw[apz hb]
   exact h
  ·exact ih f s hf
def Sum.of(g:List ape→List ag→Option (Bool×bx×List ag)):Sum:=⟨tY,fun a o=>match g a o with
 |some (c,r,o')=>.rS c (.done (r,o'))
 |none=>.fail⟩
theorem bp.of{P:apu}{f:apQ}{g:List ape→List ag→Option (Bool×bx×List ag)}(h:∀a o r o',g a o=some (true,r,o')→aE P f a o fun r' Ga=>r'=r∧Ga=o'):bp P f (Sum.of g):=by
 intro a o r o' hr
 unfold Sum.of at hr
 dsimp only at hr
 split at hr
 ·rename_i c r1 o1 hg
  obtain⟨h1,h2⟩:=QT.tT hr
  subst h1
  cases h2
  exact h _ _ _ _ hg
 ·cases hr
theorem vO:∀{l:List (Nat×ape)},iK (l.map (·.1))=true→∀p∈l,jC l p.1=some p.2
 | [],_,p,hp=>by cases hp
 |q::l,h,p,hp=>by
  simp only[aqb,iK,apt,arm,ar0]at h
  obtain⟨h1,h2⟩:=h
  unfold jC
  rcases apx.1 hp with rfl|hp
  ·have hn:jC l p.1=none:=by
    have key:∀l:List (Nat×ape),(∀x∈l.map (·.1),¬apw p.1 x=true)→jC l p.1=none:=by
     intro l
     induction l with
     |nil=>intro _;rfl
     |cons q l ih=>
      intro hx
      unfold jC
      rw[ih fun x hm=>hx x (by simp at hm⊢;exact .inr hm)]
      have:=hx q.1 (by simp)
      cases hb:apw q.1 p.1 with
      |false=>rfl
      |true=>exact absurd (by rw[apz hb,aqn]) this
    exact key l h1
   rw[hn,aqn]
  ·rw[vO h2 p hp]
def A9(i:Nat)(el:apq)(d:aj):aj:=
 ⟨d.sl.map fun p=>bif apw p.1 i then(i,.slice (some ⟨d.objs.length,0,none⟩) 0 0)else p,d.objs++[.cells [] el false]⟩
theorem Holds.Ba{P:apu}{X:vz}{d:aj}{a:Act}{w:aps}(i:Nat)(el:apq){s:Nat}(hz:bR P el=some s)(hi:jC d.sl i=some (.slice none 0 0))
 (hc:(iK (d.sl.map (·.1))&&d.sl.all (fun p=>apy p.1 X.n)&&apy d.objs.length 262144&&apG X.k d.objs.length)=true)(h:Holds P X d a w):Holds P X (A9 i el d) a w:=by
 obtain⟨ρ,u,M,hd⟩:=h
 simp only[apt]at hc
 obtain⟨⟨⟨c1,c2⟩,c3⟩,c4⟩:=hc
 have c3:=dQ.1 c3
 have c4:=apL c4
 have tZ:small d.objs.length=true:=gX.2 (by have:(2:Nat)^18=262144:=rfl;omega)
 have pB:cm d.objs d.objs.length=none:=by rw[cx tZ];simp
 let r:bN:=⟨0,0,s,0⟩
 have hle:ρ.le (ρ.put d.objs.length r):=Ren.j9 (hd.mem.fresh _ pB) r
 have hw:=hd.mem.xD pB (o:=.cells [] el false) (r:=r) rfl (fun m sz row e=>by cases e) (fun bU ro e k hk=>by
  cases e
  rw[hz]at hk
  cases hk
  rfl)
 have hm:cJ (cm d.objs) d.objs.length (.cells [] el false)=cm (d.objs++[.cells [] el false]):=by
  funext x
  by_cases hx:x=d.objs.length
  ·subst hx
   rw[e9,cx tZ]
   simp
  ·rw[dV _ hx]
   cases hs:small x with
   |false=>rw[il hs,il hs]
   |true=>
    rw[cx hs,cx hs]
    by_cases hl:x<d.objs.length
    ·rw[ap5 hl]
    ·rw[aqr (by omega),aqr (by simp;omega)]
 rw[hm]at hw
 have AE:((eH X.n u d.sl).dH (M.map eQ)).n=X.n:=by show(gB X.n u d.sl).length=_;unfold gB;rw[lN];simp
 have cf:a.tmps.size=X.n:=by rw[hd.fr.size,AE]
 have hn:X.n≤1024:=by have:=hd.fr.small;omega
 have pD:Full (ρ.put d.objs.length r):=fun q=>by
  obtain⟨y,h1,h2⟩:=hd.full q
  exact⟨y,h1,hle _ _ h2⟩
 obtain⟨u',hu⟩:∃u':Nat→ape,FR (ρ.put d.objs.length r) ((eH X.n u' (A9 i el d).sl).dH (M.map eQ)) a:=by
  refine FR.make (b:=M.map eQ) cf hn (hd.fr.rK rfl) (fun j=>⟨_,(hd.fr.at_ j).mono hle⟩) fun p hp=>?_
  simp only[A9,aq0]at hp
  obtain⟨p0,Gb,rfl⟩:=hp
  have Gc:p0.1<X.n:=dQ.1 (apR.1 c2 p0 Gb)
  have ca:=hd.fr.at_ p0.1
  rw[Fr.xZ,vC hn Gc (vO c1 p0 Gb)]at ca
  cases hb:apw p0.1 i with
  |false=>exact⟨Gc,ca.mono hle⟩
  |true=>
   have e:=apz hb
   subst e
   refine⟨Gc,?_⟩
   have h2:=vO c1 p0 Gb
   rw[hi]at h2
   have h3:p0.2=.slice none 0 0:=(asC h2).symm
   rw[h3]at ca
   show VR _ (.slice (some ⟨d.objs.length,0,none⟩) 0 0) (a.tmps.getD p0.1 undef)
   rw[VR.tj rfl ca]
   exact .eh _ _
 exact⟨_,u',M,pD,fun x hx=>by
  rw[←hd.kept x hx]
  show(if x=d.objs.length then some r else ρ x)=ρ x
  rw[if_neg (by omega)],hu,hw,by
  show Nat.le (d.objs++[ag.cells [] el false]).length 262144
  simp;omega,hd.quiet,hd.fX,hd.outside⟩
theorem an.Ba{P:apu}{n k:Nat}{l:List apV}{d d':aj}{Q:bd→aj→Prop}(i:Nat)(el:apq){s:Nat}(hz:bR P el=some s)(hi:jC d.sl i=some (.slice none 0 0))
 (hc:(iK (d.sl.map (·.1))&&d.sl.all (fun p=>apy p.1 n)&&apy d.objs.length 262144&&apG k d.objs.length)=true)(hd:A9 i el d=d')(h:an P n k l d' Q):an P n k l d Q:=by
 intro X hn hk a w py
 subst hd
 exact h X hn hk a w (py.Ba i el hz hi (by rw[hn,hk];exact hc))
theorem WR.MU{P:apu}{B:Nat→Prop}{w₀ w:aps}{ρ:Ren}{objs:List ag}(h:WR P B w₀ ρ (cm objs) w){el:apq}{s:Nat}(hz:bR P el=some s)(hl:objs.length<262144):
 ∃ρ1,ρ.le ρ1∧WR P B w₀ ρ1 (cm (objs++[.cells [] el false])) w∧(∀x,x≠objs.length→ρ1 x=ρ x)∧∃r,ρ1 objs.length=some r:=by
 have tZ:small objs.length=true:=gX.2 (by have:(2:Nat)^18=262144:=rfl;omega)
 have pB:cm objs objs.length=none:=by rw[cx tZ];simp
 have hw:=h.xD pB (o:=.cells [] el false) (r:=⟨0,0,s,0⟩) rfl (fun m sz row e=>by cases e) (fun bU ro e k hk=>by
  cases e
  rw[hz]at hk
  cases hk
  rfl)
 have hm:cJ (cm objs) objs.length (.cells [] el false)=cm (objs++[.cells [] el false]):=by
  funext x
  by_cases hx:x=objs.length
  ·subst hx
   rw[e9,cx tZ]
   simp
  ·rw[dV _ hx]
   cases hs:small x with
   |false=>rw[il hs,il hs]
   |true=>
    rw[cx hs,cx hs]
    by_cases hl:x<objs.length
    ·rw[ap5 hl]
    ·rw[aqr (by omega),aqr (by simp;omega)]
 rw[hm]at hw
 exact⟨_,Ren.j9 (h.fresh _ pB) _,hw,fun x hx=>Ren.qi ρ _ hx,_,Ren.kG ρ _ _⟩
def lp(i k:Nat)(el:apq)(d:aj):aj:=
 ⟨d.sl,(match d.objs[i]?with
  |some (.cells c e ro)=>d.objs.set i (.cells (c.set k (.slice (some ⟨d.objs.length,0,none⟩) 0 0)) e ro)
  |_=>d.objs)++[.cells [] el false]⟩
theorem an.lp{P:apu}{n k:Nat}{l:List apV}{d d':aj}{Q:bd→aj→Prop}(i kk:Nat)(el:apq){s:Nat}{c:List ape}{e:apq}(hz:bR P el=some s)(hi:d.objs[i]?=some (.cells c e false))(hc:c[kk]?=some (.slice none 0 0))
 (hb:(apy d.objs.length 262144&&apG k d.objs.length)=true)(hd:Go.Proofs.YtnlkkgpcikkpoaaGreat.Vm.lp i kk el d=d')(h:an P n k l d' Q):an P n k l d Q:=by
 intro X hn hk a w py
 subst hd
 refine h X hn hk a w ?_
 obtain⟨ρ,u,M,hd⟩:=py
 simp only[apt]at hb
 have c3:=dQ.1 hb.1
 have c4:=apL hb.2
 obtain⟨ρ1,g1,g2,g3,r0,g4⟩:=hd.mem.MU hz c3
 have qt:i<d.objs.length:=(app.1 hi).1
 have yi:small i=true:=gX.2 (by have:(2:Nat)^18=262144:=rfl;omega)
 have eo:∀x,x≤d.objs.length→small x=true:=fun x hx=>gX.2 (by have:(2:Nat)^18=262144:=rfl;omega)
 have gK:Full ρ1:=fun q=>by
  obtain⟨y,a,b⟩:=hd.full q
  exact⟨y,a,g1 _ _ b⟩
 have Gd:(Go.Proofs.YtnlkkgpcikkpoaaGreat.Vm.lp i kk el d).objs=d.objs.set i (.cells (c.set kk (.slice (some ⟨d.objs.length,0,none⟩) 0 0)) e false)++[.cells [] el false]:=by
  unfold Go.Proofs.YtnlkkgpcikkpoaaGreat.Vm.lp
  rw[hi]
 have bk:c≠[]:=by rintro rfl;simp at hc
 have ib:∀x o,cm (Go.Proofs.YtnlkkgpcikkpoaaGreat.Vm.lp i kk el d).objs x=some o→(x≠i∧cm (d.objs++[.cells [] el false]) x=some o)∨(x=i∧o=.cells (c.set kk (.slice (some ⟨d.objs.length,0,none⟩) 0 0)) e false):=fun x o hx=>by
  rw[Gd]at hx
  cases hs:small x with
  |false=>
   refine .inl ⟨(fun e=>by subst e;rw[yi]at hs;cases hs),?_⟩
   rw[il hs]at hx⊢
   exact hx
  |true=>
   rw[cx hs]at hx
   by_cases e0:x=i
   ·subst e0
    rw[ap5 (by simpa using qt),arP qt]at hx
    exact .inr ⟨rfl,(asC hx).symm⟩
   ·refine .inl ⟨e0,?_⟩
    rw[cx hs]
    by_cases kg:x<d.objs.length
    ·rw[ap5 (by simpa using kg),ar3 (Ne.symm e0)]at hx
     rw[ap5 kg]
     exact hx
    ·rw[apZ (by simp;omega)]at hx
     rw[apZ (by omega)]
     simpa using hx
 have vt:cm (d.objs++[.cells [] el false]) i=some (.cells c e false):=by
  rw[cx yi,ap5 qt];exact hi
 have Ge:∀r,Live (.cells c e false) r=true:=fun r=>om bk
 have cH:WR P X.B X.w₀ ρ1 (cm (Go.Proofs.YtnlkkgpcikkpoaaGreat.Vm.lp i kk el d).objs) w:=
  {below:=g2.below,env:=g2.env,size:=g2.size
   live:=by
    intro x o r hx hr hl
    rcases ib x o hx with⟨_,h2⟩|⟨rfl,rfl⟩
    ·exact g2.live x o r h2 hr hl
    ·obtain⟨o',q1,q2,q3⟩:=g2.live x _ r vt hr (Ge r)
     refine⟨o',q1,?_,fun _=>q3 rfl⟩
     cases q2 with
     |cells _ _ bU _ c' fr hp hs he z7 hf jr=>
      refine .cells _ e bU false c' fr hp (by rw[aqK];exact hs) he z7 hf fun j v hv=>?_
      by_cases ej:j=kk
      ·subst ej
       have XJ:j<c.length:=(app.1 hc).1
       rw[arP XJ]at hv
       cases hv
       obtain⟨v',q4,q5⟩:=jr j _ hc
       have:=VR.tj rfl q5
       subst this
       exact⟨_,q4,.eh _ _⟩
      ·rw[ar3 (Ne.symm ej)]at hv
       exact jr j v hv
   inj:=by
    intro x y ox oy rx ry hx hy kN ct kO di ua he
    have key:∀x o r,cm (Go.Proofs.YtnlkkgpcikkpoaaGreat.Vm.lp i kk el d).objs x=some o→Live o r=true→∃ob,cm (d.objs++[.cells [] el false]) x=some ob∧Live ob r=true∧ob.ro=o.ro:=fun x o r hx hl=>by
     rcases ib x o hx with⟨_,h2⟩|⟨rfl,rfl⟩
     ·exact⟨o,h2,hl,rfl⟩
     ·exact⟨_,vt,Ge r,rfl⟩
    obtain⟨a,a1,a2,a3⟩:=key x ox rx hx kO
    obtain⟨b,b1,b2,b3⟩:=key y oy ry hy di
    exact g2.inj x y a b rx ry a1 b1 kN ct a2 b2 (ua.imp (fun h=>a3▸h) (fun h=>b3▸h)) he
   fresh:=by
    intro x hx
    refine g2.fresh x ?_
    rw[Gd]at hx
    cases hs:small x with
    |false=>rw[il hs]at hx;cases hx
    |true=>
     rw[cx hs,aq3]at hx
     rw[cx hs,aq3]
     simp at hx⊢
     omega
   rows:=by
    intro x m size row hx
    rcases ib x _ hx with⟨_,h2⟩|⟨rfl,h2⟩
    ·exact g2.rows x m size row h2
    ·cases h2
   nil:=by
    intro x bU ro r hx hr
    rcases ib x _ hx with⟨_,h2⟩|⟨rfl,h2⟩
    ·exact g2.nil x bU ro r h2 hr
    ·exfalso
     simp only[ag.cells.injEq]at h2
     have:=congrArg apb h2.1
     rw[aqK]at this
     exact bk (aqf this.symm)
   named:=by
    intro x o hx XK
    rcases ib x o hx with⟨_,h2⟩|⟨rfl,_⟩
    ·exact g2.named x o h2 XK
    ·exact g2.named x _ vt (by intro e;cases e)
   abs:=by
    refine g2.abs.next (fun x d hx=>?_) (fun k _ a b=>⟨rfl,a,fun y o r hy hr hl=>?_⟩) (apI _)
    ·rcases ib x _ hx with⟨_,h2⟩|⟨rfl,h2⟩
     ·exact⟨h2,rfl⟩
     ·cases h2
    ·rcases ib y o hy with⟨_,h2⟩|⟨rfl,rfl⟩
     ·exact b y o r h2 hr hl
     ·exact b _ _ r vt hr (Ge r)}
 refine⟨ρ1,u,M,gK,fun x hx=>?_,hd.fr.mono g1,cH,?_,hd.quiet,hd.fX,hd.outside⟩
 ·rw[←hd.kept x hx,g3 x (by omega)]
 ·rw[Gd];simp;omega
def MV(P:apu)(g:Nat→Option ag):Nat→List Nat→List Nat
 |0,l=>l
 |d+1,l=>MV P g d (ym (l++(l.map fun x=>match g x with
  |some (.cells c el _)=>match MC P el with
   |true=>[]
   |false=>(c.map (rZ 6)).flatten
  |_=>[]).flatten) [])
def lP(P:apu)(args:List ape)(g:Nat→Option ag):Option (List Nat):=some (MV P g 6 (ym ((args.map (rZ 6)).flatten) []))
def Sum.dq(P:apu)(g:List ape→List ag→Option (Bool×bx×List ag)):Sum:=⟨lP P,(Sum.of g).spec⟩
theorem bp.dq{P:apu}{f:apQ}{g:List ape→List ag→Option (Bool×bx×List ag)}(h:∀a o r o',g a o=some (true,r,o')→aE P f a o fun r' Ga=>r'=r∧Ga=o'):bp P f (Sum.dq P g):=
 fun a o r o' hs=>bp.of h a o r o' hs
structure Gf where
 x:Nat
 d1:Nat
 d2:Nat
 ty:apq
def Gg:List apV→Option Gf
 | .region _ ops false::_=>match ops.toList with
  | [o1,o2]=>match o1.op,o1.dst,o1.guard,o2.op,o2.dst,o2.guard with
   | .move (.tmp x),some d1,none,.binOp .eql ty (.tmp y) (.const (.slice none 0 0)) _,some d2,none=>match apw y d1&& !Nat.beq d1 d2 with
    |true=>some ⟨x,d1,d2,ty⟩
    |false=>none
   |_,_,_,_,_,_=>none
  |_=>none
 |_=>none
theorem XL{l:List apV}{N:Gf}(h:Gg l=some N):∃id o1 o2 rest yt,l=.region id #[o1,o2] false::rest∧o1.op=.move (.tmp N.x)∧o1.dst=some N.d1∧o1.guard=none∧
 o2.op=.binOp .eql N.ty (.tmp N.d1) (.const (.slice none 0 0)) yt∧o2.dst=some N.d2∧o2.guard=none∧N.d1≠N.d2:=by
 unfold Gg at h
 split at h
 ·rename_i id ops rest
  split at h
  ·rename_i o1 o2 mz
   split at h
   ·rename_i x d1 ty y yt d2 h1 h2 h3 h4 h5 h6
    split at h
    ·rename_i hb
     cases h
     simp only[apt,arm]at hb
     have hy:=apz hb.1
     subst hy
     refine⟨id,o1,o2,rest,yt,?_,h1,h2,h3,h4,h5,h6,fun e=>?_⟩
     ·rw[show ops= #[o1,o2]by rw[←Array.toArray_toList (xs:=ops),mz]]
     ·dsimp only at e;rw[e,aqn]at hb;cases hb.2
    ·cases h
   ·cases h
  ·cases h
 ·cases h
theorem VR.MW{ρ:Ren}{a:Addr}{v:ape}(h:VR ρ (.slice (some a) 0 0) v):∃a' c',v=.slice a' 0 c':=by
 cases h with
 |bG _ h=>cases h
 |sl b off _ _ bw r h hc=>exact⟨_,_,rfl⟩
 |eh _ a'=>exact⟨_,_,rfl⟩
 |mW=>exact⟨_,_,rfl⟩
theorem XM{P:apu}{ty el:apq}(ht:P.underlying ty=some (.slice el))(a':Option Addr)(c':Nat)(x y:Operand)(w:aps):
 ∃b,((do eqGuard .eql ty x y (.slice a' 0 c') (.slice none 0 0);binOp .eql ty (.slice a' 0 c') (.slice none 0 0)):Sem ape).run P w=.ok (.bool b) w:=by
 cases a' with
 |none=>exact⟨true,by
  show(arL P (do let r ←ar8 ty (.slice none 0 c') (.slice none 0 0);(pure (aqj r):Sem ape)) w)=_
  obtain⟨dd,ua⟩:∃dd,avM=dd+1:=⟨_,rfl⟩
  unfold ar8
  rw[ua]
  unfold arM
  simp only[apg,Vm.run_underlying ht,apf]
  rfl⟩
 |some a=>exact⟨false,by
  show(arL P (do let r ←ar8 ty (.slice (some a) 0 c') (.slice none 0 0);(pure (aqj r):Sem ape)) w)=_
  obtain⟨dd,ua⟩:∃dd,avM=dd+1:=⟨_,rfl⟩
  unfold ar8
  rw[ua]
  unfold arM
  simp only[apg,Vm.run_underlying ht,apf]
  rfl⟩
theorem an.MX{P:apu}{n k:Nat}{l:List apV}{d:aj}{Q:bd→aj→Prop}(N:Gf)(el:apq)(a:Addr)(hl:Gg l=some N)(ht:P.underlying N.ty=some (.slice el))
 (hx:jC d.sl N.x=some (.slice (some a) 0 0))(hc:(iK (d.sl.map (·.1))&&d.sl.all (fun p=>apy p.1 n&&(!Nat.beq p.1 N.d1&& !Nat.beq p.1 N.d2))&&(apy N.d1 n&&apy N.d2 n))=true)
 (h:∀b,an P n k l.tail ⟨d.sl++[(N.d2,.bool b)],d.objs⟩ Q):an P n k l d Q:=by
 obtain⟨id,o1,o2,rest,yt,rfl,h1,h2,h3,h4,h5,h6,h7⟩:=XL hl
 simp only[apt]at hc
 obtain⟨⟨c1,c2⟩,c3,c4⟩:=hc
 intro X hn hk ac w hd
 subst hn hk
 obtain⟨ρ,u,M,hd⟩:=hd
 have cf:ac.tmps.size=X.n:=by have:=hd.fr.size;rw[this];show(gB X.n u d.sl).length=_;unfold gB;simp[lN]
 have eo:X.n≤1024:=by have h0:(gB X.n u d.sl).length≤1024:=hd.fr.small;unfold gB at h0;simpa[lN]using h0
 have ca:∀p∈d.sl,VR ρ p.2 (ac.tmps.getD p.1 undef):=fun p hp=>by
  have h8:=hd.fr.at_ p.1
  have:=apR.1 c2 p hp
  simp only[apt]at this
  rwa[Fr.xZ,vC eo (dQ.1 this.1) (vO c1 p hp)]at h8
 have XN:∃p∈d.sl,p.1=N.x∧p.2=.slice (some a) 0 0:=by
  have key:∀(l:List (Nat×ape)) (v:ape),jC l N.x=some v→∃p∈l,p.1=N.x∧p.2=v:=by
   intro l
   induction l with
   |nil=>intro v h;cases h
   |cons p l ih=>
    intro v h
    unfold jC at h
    split at h
    ·rename_i v' hv
     cases h
     obtain⟨q,h1,h2⟩:=ih _ hv
     exact⟨q,apB _ h1,h2⟩
    ·split at h
     ·rename_i hb;cases h;exact⟨p,apC,apz hb,rfl⟩
     ·cases h
  exact key _ _ hx
 obtain⟨p,hp,jF,XO⟩:=XN
 have hv:=ca p hp
 rw[jF,XO]at hv
 obtain⟨a',c',fY⟩:=hv.MW
 rw[fY]at hv
 refine wp_region ?_
 show wpOps P #[o1,o2] _ [0,1] ac w
 have w1:∀t,aqP o1 t=true:=fun t=>by unfold aqP;rw[h3]
 have w2:∀t,aqP o2 t=true:=fun t=>by unfold aqP;rw[h6]
 unfold wpOps
 simp only[aul,ap3,w1,if_true]
 left
 unfold Oper.wp
 have e1:(execOp ac.eval o1).run P w=.ok (.value (.slice a' 0 c')) w:=by
  unfold execOp
  rw[h1]
  show arL P (pure (Next.value (ac.eval (.tmp N.x))):Sem Next) w=_
  rw[show ac.eval (.tmp N.x)=.slice a' 0 c' from fY]
  rfl
 rw[e1]
 show wpOps P #[o1,o2] _ [1] (ac.put o1.dst (.slice a' 0 c')) w
 unfold wpOps
 simp only[aul,List.getElem?_cons_succ,ap3,w2,if_true]
 left
 unfold Oper.wp
 rw[h2]
 obtain⟨b,hb⟩:=XM ht a' c' (.tmp N.d1) (.const (.slice none 0 0)) w
 have jT:N.d1<ac.tmps.size:=by rw[cf];exact dQ.1 c3
 have e2:(execOp (ac.put (some N.d1) (.slice a' 0 c')).eval o2).run P w=.ok (.value (.bool b)) w:=by
  unfold execOp
  rw[h4]
  have XP:(ac.put (some N.d1) (.slice a' 0 c')).eval (.tmp N.d1)=.slice a' 0 c':=by
   show(ac.tmps.setIfInBounds N.d1 (.slice a' 0 c')).getD N.d1 undef=_
   simp only[apW,aqQ,jT,if_true,aq4]
  have XQ:(ac.put (some N.d1) (.slice a' 0 c')).eval (.const (.slice none 0 0))=.slice none 0 0:=rfl
  simp only[XP,XQ]
  rw[apg,hb]
  rfl
 rw[e2]
 have key:Holds P X ⟨d.sl++[(N.d2,.bool b)],d.objs⟩ ((ac.put (some N.d1) (.slice a' 0 c')).put o2.dst (.bool b)) w:=?_
 ·exact h b X rfl rfl _ w key
 rw[h5]
 have cu:∃u',FR ρ ((eH X.n u' (d.sl++[(N.d2,.bool b)])).dH (M.map eQ)) ((ac.put (some N.d1) (.slice a' 0 c')).put (some N.d2) (.bool b)):=by
  have XS:Vm.put ((eH X.n u d.sl).dH (M.map eQ)) (some N.d1) (.slice (some a) 0 0)=some {((eH X.n u d.sl).dH (M.map eQ))with t:=(eH X.n u d.sl).t.set 10 N.d1 (.slice (some a) 0 0)}:=by
   simp only[Vm.put,Fr.ri]
   have:apy N.d1 ((eH X.n u d.sl).dH (M.map eQ)).n=true:=by
    have:((eH X.n u d.sl).dH (M.map eQ)).n=X.n:=by show(gB X.n u d.sl).length=_;unfold gB;simp[lN]
    rw[this];exact c3
   rw[this]
   rfl
  have f1:=hd.fr.put hv XS
  have XT:Vm.put {((eH X.n u d.sl).dH (M.map eQ))with t:=(eH X.n u d.sl).t.set 10 N.d1 (.slice (some a) 0 0)} (some N.d2) (.bool b)=some {((eH X.n u d.sl).dH (M.map eQ))with t:=((eH X.n u d.sl).t.set 10 N.d1 (.slice (some a) 0 0)).set 10 N.d2 (.bool b)}:=by
   simp only[Vm.put,Fr.ri]
   have:apy N.d2 ((eH X.n u d.sl).dH (M.map eQ)).n=true:=by
    have:((eH X.n u d.sl).dH (M.map eQ)).n=X.n:=by show(gB X.n u d.sl).length=_;unfold gB;simp[lN]
    rw[this];exact c4
   simp only[this]
  have f2:=f1.put (VR.bG (.bool b) rfl) XT
  refine FR.make (b:=M.map eQ) (by rw[f2.size];show(gB X.n u d.sl).length=_;unfold gB;simp[lN]) eo (f2.rK rfl) (fun i=>⟨_,f2.at_ i⟩) fun q hq=>?_
  rcases apN.1 hq with hq|hq
  ·have iU:=apR.1 c2 q hq
   simp only[apt,arm]at iU
   obtain⟨q1,q2,q3⟩:=iU
   refine⟨dQ.1 q1,?_⟩
   have n1:q.1≠N.d1:=fun e=>by rw[e,aqn]at q2;cases q2
   have n2:q.1≠N.d2:=fun e=>by rw[e,aqn]at q3;cases q3
   have:((ac.put (some N.d1) (.slice a' 0 c')).put (some N.d2) (.bool b)).tmps.getD q.1 undef=ac.tmps.getD q.1 undef:=by
    show((ac.tmps.setIfInBounds N.d1 _).setIfInBounds N.d2 _).getD q.1 undef=_
    rw[apW,aqN (Ne.symm n2),aqN (Ne.symm n1),←apW]
   rw[this]
   exact ca q hq
  ·simp only[aqd]at hq
   subst hq
   refine⟨dQ.1 c4,?_⟩
   have:((ac.put (some N.d1) (.slice a' 0 c')).put (some N.d2) (.bool b)).tmps.getD N.d2 undef=.bool b:=by
    show((ac.tmps.setIfInBounds N.d1 _).setIfInBounds N.d2 _).getD N.d2 undef=_
    have kp:N.d2<(ac.tmps.setIfInBounds N.d1 (.slice a' 0 c')).size:=by rw[arH,cf];exact dQ.1 c4
    simp only[apW,aqQ,kp,if_true,aq4]
   rw[this]
   exact .bG _ rfl
 obtain⟨u',rJ⟩:=cu
 exact⟨ρ,u',M,hd.full,hd.kept,rJ,hd.mem,hd.bQ,hd.quiet,hd.fX,hd.outside⟩
structure an3 where
 args:List ape
 objs:List ag
 r:bx
 out:List ag
def lQ(P:apu)(r:Option Nat):List apV→(arB→Act→aps→Prop)→Act→aps→Prop
 | [],Q,a,w=>Q .normal a w
 |c::l,Q,a,w=>c.wpIn (FF r) 0 P (Exit.then (lQ P r l Q) Q) a w
theorem MY{P:apu}{r:Option Nat}:∀{l:List apV} {Q Q':arB→Act→aps→Prop} {a:Act} {w:aps},lQ P r l Q a w→(∀e a w,Q e a w→Q' e a w)→lQ P r l Q' a w
 | [],Q,Q',a,w,h,hq=>hq _ _ _ h
 |c::l,Q,Q',a,w,h,hq=>atK h fun e a w he=>by
  cases e with
  |normal=>exact MY he hq
  |_=>exact hq _ _ _ he
theorem MZ{P:apu}{r:Option Nat}:∀{l l':List apV} {Q:arB→Act→aps→Prop} {a:Act} {w:aps},lQ P r l (Exit.then (lQ P r l' Q) Q) a w→lQ P r (l++l') Q a w
 | [],l',Q,a,w,h=>h
 |c::l,l',Q,a,w,h=>atK h fun e a w he=>by
  cases e with
  |normal=>exact MZ he
  |_=>exact he
theorem M0{P:apu}{r:Option Nat}:∀{c:apV} {Q:arB→Act→aps→Prop} {a:Act} {w:aps},lQ P r (aY c) Q a w→c.wpIn (FF r) 0 P Q a w:=by
 intro c
 induction c with
 |seq a b iW k9=>
  intro Q t w h
  have h:lQ P r (aY a++aY b) Q t w:=h
  refine wpIn_seq (iW ?_)
  -- take apart what stands one behind the other
  have key:∀(l l':List apV) (Q:arB→Act→aps→Prop) (t:Act) (w:aps),lQ P r (l++l') Q t w→lQ P r l (Exit.then (lQ P r l' Q) Q) t w:=by
   intro l
   induction l with
   |nil=>intro l' Q t w h;exact h
   |cons c l ih=>
    intro l' Q t w h
    refine atK (show c.wpIn (FF r) 0 P (Exit.then (lQ P r (l++l') Q) Q) t w from h) fun e t w he=>?_
    cases e with
    |normal=>exact ih l' Q t w he
    |_=>exact he
  refine MY (key _ _ _ _ _ h) fun e t w he=>?_
  cases e with
  |normal=>exact k9 he
  |_=>exact he
 |_=>
  intro Q t w h
  refine atK (show Code.wpIn (FF r) 0 P _ (Exit.then (lQ P r [] Q) Q) t w from h) fun e t w he=>?_
  cases e<;>exact he
theorem M3{P:apu}{r:Option Nat}(hP:iG P=true)(fw:P.follows .mixedOrders=true){call:cB}(hc:ic P call)(lf:Nat):∀{l:List apV} {t t1:Fr} {S S1:VS} {x:bd},lh P call lf l t S=some (x,t1,S1)→
 ∀{B:Nat→Prop} {w₀:aps} {ρ:Ren} {m:Nat→Option ag} {w:aps} {a:Act},FR ρ t a→WR P B w₀ ρ m w→fG S S1 m→
 ∀{Q:arB→Act→aps→Prop},(∀(ρ':Ren) (e:arB) (a':Act) (w':aps),ρ.le ρ'→XR ρ' x e→FR ρ' t1 a'→WR P B w₀ ρ' (post m S1) w'→Q e a' w')→lQ P r l Q a w
 | [],t,t1,S,S1,x,h,B,w₀,ρ,m,w,a,ht,hw,hm,Q,hQ=>by
  simp only[lh,api,apn]at h
  obtain⟨rfl,rfl,rfl⟩:=h
  exact hQ ρ _ a w (Ren.le_refl ρ) .normal ht (by rw[oE hm];exact hw)
 |c::l,t,t1,S,S1,x,h,B,w₀,ρ,m,w,a,ht,hw,hm,Q,hQ=>by
  unfold lh at h
  split at h
  ·rename_i t2 S2 hx
   have e2:=yf hc lf h
   refine(tJ hP fw hc lf (r:=r) (fun h=>by cases h) c hx ht hw (hm.first e2) fun ρ' e a' w' hle dF cu cH=>?_)
   cases dF
   refine M3 hP fw hc lf h cu cH (hm.next (nL hc lf hx)) fun ρ2 qB a2 w2 km jR lK ig=>?_
   rw[oD e2]at ig
   exact hQ ρ2 qB a2 w2 (Ren.le_trans hle km) jR lK ig
  ·rename_i bk
   refine(tJ hP fw hc lf (r:=r) (fun h=>by cases h) c h ht hw hm fun ρ' e a' w' hle dF cu cH=>?_)
   cases dF with
   |normal=>exact absurd h (bk _ _)
   |_=>exact hQ ρ' _ a' w' hle (by constructor<;>assumption) cu cH
def jU(P:apu)(n k:Nat)(l:List apV)(d:aj)(Q:bd→aj→Prop):Prop:=
 ∀(X:vz),X.n=n→X.k=k→∀(r:Option Nat) (a:Act) (w:aps),Holds P X d a w→lQ P r l (fun e a' w'=>∃x d',Q x d'∧XR (fun _=>none) x e∧Holds P X d' a' w') a w
theorem jU.nil{P:apu}{n k:Nat}{d:aj}{Q:bd→aj→Prop}(h:Q .normal d):jU P n k [] d Q:=fun X hn hk r a w hd=>⟨.normal,d,h,.normal,hd⟩
theorem jU.tree{P:apu}(hP:iG P=true)(fw:P.follows .mixedOrders=true){cO:fD}(hc:dw P cO){lf n k m:Nat}{l:List apV}{d:aj}{s:ST}{T:Tree}
 (h:∀u,(tS P cO lf (l.take m) (eH n u d.sl) (ld d.objs)).sym (vM n k) s=some T){Q:bd→aj→Prop}
 (hT:T.ok (fun x d'=>match x with
  | .normal=>jU P n k (l.drop m) d' Q
  |x=>Q x d')):jU P n k l d Q:=by
 intro X hn hk r a w hd
 have py:=hd
 obtain⟨ρ,u,M,hd⟩:=hd
 obtain⟨p,sl,bs,pl,T',h1,h2,h3⟩:=DT.MR (h u) hT
 obtain⟨x,t1,S1⟩:=p
 dsimp only[vM]at h2
 cases lO:pE bs S1 with
 |none=>rw[lO]at h2;cases h2
 |some bl=>
  rw[lO]at h2
  dsimp only at h2
  split at h2
  ·rename_i dl objs q hs hr
   split at h2
   ·rename_i eN
    cases h2
    obtain⟨hq,qK⟩:=F5 h3
    have lk:=F6 lO
    have e7:=nP hr hq
    simp only[apt]at eN
    obtain⟨⟨⟨⟨⟨⟨c1,c2⟩,c3⟩,c4⟩,c5⟩,c6⟩,c7,c8⟩:=eN
    have hlen:objs.length=bs.length:=by rw[←e7.len,←lk];simp
    subst hn hk
    obtain⟨cV,yk,F7⟩:=hc.ex
    have hv:=FL F7 lf h1
    have he:=yf yk lf hv
    have eo:=he.sm (fun x hx=>by rcases hx with hx|hx<;>cases hx)
    have m7:fG (ld d.objs) S1 (cm d.objs):=fun x hx=>by rw[cx (eo x hx),yc hd.bQ]
    rw[←aqv m l]
    have oM:=Mx hd.quiet
    refine MZ (M3 hP fw yk lf (FM (M.map eQ) hv) hd.fr (hd.mem.Aw oM) m7 fun ρ' e a' w' hle dF cu yl=>?_)
    have cH:=yl.Ax hd.mem.env hd.mem.below hd.mem.size oM
    have hh:Holds P X ⟨dl,objs⟩ a' w':=Holds.Mu (bl:=bl) (t:=t1.dH (M.map eQ)) (M:=M) hd.full hle hd.kept cu (apz c6) (arA.1 c7) rfl (fun D hD=>(yl.Ay hD).trans (hd.quiet D hD)) hd.fX hd.outside cH rfl (fun p hp=>by
     have hg:=FN lO p hp
     unfold post
     by_cases hx:p.1∈S1.wr
     ·rw[if_pos hx,hg]
     ·rw[if_neg hx,cx (po hg),←yc hd.bQ,←he.frame p.1 hx,hg]) (by rw[lk];exact c1) (by rw[lk];exact c2) (by rw[lk];exact hs) (by rw[lk];exact e7) c3 (apU (by rw[hlen];exact apL c4))
    cases x with
    |normal=>cases dF;exact qK X rfl rfl r a' w' hh
    |exit id=>cases dF;exact⟨.exit id,_,qK,.exit id,hh⟩
    |ret=>cases dF;exact⟨.ret,_,qK,.ret,hh⟩
    |panic v=>
     cases dF with
     |panic _ v' hv=>
      have:=mX c5 hv
      subst this
      exact⟨.panic v',_,qK,.panic _ _ (nD c5),hh⟩
   ·cases h2
  ·cases h2
theorem jU.done{P:apu}{n k:Nat}{l:List apV}{d:aj}{Q:bd→aj→Prop}(hl:l.isEmpty=true)(h:Q .normal d):jU P n k l d Q:=by
 cases l with
 |nil=>exact jU.nil h
 |cons c l=>cases hl
def St(P:apu)(B:Nat→Prop)(w₀:aps)(ρ:Ren)(K:Nat)(O:List ag)(W:aps):Prop:=∃ρ':Ren,Full ρ'∧(∀x,x<K→ρ' x=ρ x)∧WR P B w₀ ρ' (cm O) W
def M5:List apV→Option (Nat×List Nat)
 | .rangeFunc (.tmp g) ps _ _::_=>some (g,ps.toList)
 |_=>none
def M6:List apV→apV
 | .rangeFunc _ _ a _::_=>a
 |_=>.skip
def Gh:List apV→apV
 | .rangeFunc _ _ _ b::_=>b
 |_=>.skip
def Gi(K:Nat)(x:Nat):Option Nat:=match apy x K with
 |true=>some x
 |false=>none
def XU:ag→Bool
 | .dead=>false
 |_=>true
theorem M7:∀(l:List (Nat×ape)) (t:Array ape),(l.foldl (fun t p=>t.setIfInBounds p.1 p.2) t).size=t.size
 | [],t=>rfl
 |p::l,t=>by rw[ari,M7 l,arH]
theorem Gj{i:Nat}:∀(l:List (Nat×ape)) (t:Array ape),(∀p∈l,p.1≠i)→(l.foldl (fun t p=>t.setIfInBounds p.1 p.2) t).getD i undef=t.getD i undef
 | [],t,_=>rfl
 |p::l,t,h=>by
  rw[ari,Gj l _ fun q hq=>h q (apB _ hq)]
  rw[apW,aqN (h p apC),←apW]
theorem M8{ρ:Ren}:∀(l:List (Nat×ape)) (t:Array ape),(∀p∈l,∃u,VR ρ u p.2)→(∀i,∃u,VR ρ u (t.getD i undef))→∀i,∃u,VR ρ u ((l.foldl (fun t p=>t.setIfInBounds p.1 p.2) t).getD i undef)
 | [],t,_,h,i=>h i
 |p::l,t,hl,h,i=>by
  rw[ari]
  refine M8 l _ (fun q hq=>hl q (apB _ hq)) (fun j=>?_) i
  rw[apW]
  by_cases e:p.1=j
  ·subst e
   by_cases hj:p.1<t.size
   ·rw[aqQ,if_pos hj];exact hl p apC
   ·rw[Array.getElem?_eq_none (by rw[arH];omega)];exact⟨_,VR.undef ρ⟩
  ·rw[aqN e,←apW];exact h j
theorem M9:∀(ps:List Nat) (xs:List ape) (t:Array ape),iK ps=true→ps.length=xs.length→∀(j i:Nat) (v:ape),ps[j]?=some i→xs[j]?=some v→i<t.size→((ps.zip xs).foldl (fun t p=>t.setIfInBounds p.1 p.2) t).getD i undef=v
 | [],_,t,_,_,j,i,v,h,_,_=>by simp at h
 |p::ps,[],t,_,hl,j,i,v,_,_,_=>by simp at hl
 |p::ps,x::xs,t,hn,hl,j,i,v,hi,hv,hs=>by
  rw[List.zip_cons_cons,ari]
  simp only[iK,apt,arm,ar0]at hn
  cases j with
  |zero=>
   simp only[ap3,api]at hi hv
   subst hi hv
   rw[Gj _ _ fun q hq e=>?_]
   ·rw[apW,aqQ,if_pos hs];rfl
   ·have:=hn.1 q.1 (List.of_mem_zip hq).1
    rw[e,aqn]at this
    exact this rfl
  |succ j=>exact M9 ps xs _ hn.2 (by simpa using hl) j i v (by simpa using hi) (by simpa using hv) (by rw[arH];exact hs)
theorem Na{P:apu}{r:Option Nat}{n m:Nat}{c:apV}{Q:arB→Act→aps→Prop}{a:Act}{w:aps}(h:c.wpIn (FF r) n P Q a w):c.wpIn (FF r) m P Q a w:=
 fun b k cs h1 h2 _=>h b k cs h1 h2 fun d hd=>by cases hd
theorem WR.Gk{P:apu}{B:Nat→Prop}{w₀ w w':aps}{ρ:Ren}{g:Nat→Option ag}(h:WR P B w₀ ρ g w)(hb:w.grownBy w' none):WR P B w₀ ρ g w' where
 env:=h.env
 below:=h.below.trans ⟨hb.os,hb.tape,hb.output,hb.size,fun k hk=>hb.block k (h.size k hk) (by intro e;cases e)⟩
 size:=fun k hk=>arC (h.size k hk) hb.size
 live:=fun x o r hx hr hl=>by
  obtain⟨o',h1,h2⟩:=h.live x o r hx hr hl
  exact⟨o',(hb.block _ (aqe.1 h1).1 (by intro e;cases e)).trans h1,h2⟩
 inj:=h.inj
 fresh:=h.fresh
 rows:=h.rows
 nil:=h.nil
 named:=h.named
 abs:=h.abs.next (fun x d hx=>⟨hx,rfl⟩) (fun k k1 a b=>⟨hb.block k k1 (by intro e;cases e),a,b⟩) hb.size
theorem vP{w w':aps}(h:w.grownBy w' none){D:Nat}{o:Obj}(hD:w.heap[D]?=some o):w'.heap[D]?=some o:=
 (h.block D (aqe.1 hD).1 (by intro e;cases e)).trans hD
noncomputable abbrev ao(b:Nat):ape:=.pointer (some ⟨b,0,none⟩)
noncomputable abbrev aa(x:Int):ape:=.int .i64 x
noncomputable abbrev dx(b o n c:Nat):ape:=.slice (some ⟨b,o,none⟩) n c
noncomputable abbrev ah(b n:Nat):ape:=.slice (some ⟨b,0,none⟩) n n
noncomputable abbrev b8:ape:=.slice none 0 0
noncomputable abbrev ab(c:List ape)(t:apq):ag:=.cells c t false
abbrev aQ:=bd→aj→Prop
noncomputable abbrev bg:=bx→List ag→Prop
def aA:List Nat→ST→ST
 | [],s=>s
 |k::l,s=>.cD (k/2) (apw (k%2) 1) (aA l s)
structure Nb(P:apu)(w:aps)(ρ:Ren)(g:Nat→Option ag)(x:Nat)(r:bN)(L:List (Nat×CO))(Z:Nat→Option (bN×ag)):Prop where
 root:∃o,Z x=some (r,o)
 new:∀y p,y≠x→Z y=some p→g y=none
 own:∀y q o,Z y=some (q,o)→o.ro=false∧(∀d,o≠ .abs d)
 nil:∀y q el ro,Z y=some (q,.cells [] el ro)→∀n,bR P el=some n→q.sz=n
 live:∀y q o,Z y=some (q,o)→Live o q=true→q.aI∈L.map (·.1)∧∃o',w.heap[q.aI]?=some o'∧OR P (fun y=>match Z y with|some p=>some p.1|none=>ρ y) q o o'
 inj:∀y z q s o u,Z y=some (q,o)→Z z=some (s,u)→Live o q=true→Live u s=true→q.aI=s.aI→y=z
def dS(ρ:Ren)(Z:Nat→Option (bN×ag)):Ren:=fun y=>match Z y with|some p=>some p.1|none=>ρ y
def r9(g:Nat→Option ag)(Z:Nat→Option (bN×ag)):Nat→Option ag:=fun y=>match Z y with|some p=>some p.2|none=>g y
def yn(B:Nat→Prop)(L:List (Nat×CO))(Z:Nat→Option (bN×ag)):Nat→Prop:=fun k=>B k∨k∈L.map (·.1)∧∀y q o,Z y=some (q,o)→Live o q=true→q.aI≠k
theorem oO{ρ:Ren}{Z:Nat→Option (bN×ag)}{y:Nat}{p:bN×ag}(h:Z y=some p):dS ρ Z y=some p.1:=by unfold dS;rw[h]
theorem nl{ρ:Ren}{Z:Nat→Option (bN×ag)}{y:Nat}(h:Z y=none):dS ρ Z y=ρ y:=by unfold dS;rw[h]
theorem pP{g:Nat→Option ag}{Z:Nat→Option (bN×ag)}{y:Nat}{p:bN×ag}(h:Z y=some p):r9 g Z y=some p.2:=by unfold r9;rw[h]
theorem oP{g:Nat→Option ag}{Z:Nat→Option (bN×ag)}{y:Nat}(h:Z y=none):r9 g Z y=g y:=by unfold r9;rw[h]
theorem WR.vQ{P:apu}{B:Nat→Prop}{w₀ w:aps}{ρ:Ren}{g:Nat→Option ag}(h:WR P B w₀ ρ g w){x:Nat}{d:lD}(hx:g x=some (.abs d)):
 ∃r S L,ρ x=some r∧Dc d r.aI r.sh r.sz r.dy L∧qc w r.aI S L∧(∀k,S k→k<w.heap.size∧¬B k∧∀y o q,g y=some o→ρ y=some q→Live o q=true→q.aI≠k)∧
  ∀Z,Nb P w ρ g x r L Z→WR P (yn B L Z) w (dS ρ Z) (r9 g Z) w:=by
 obtain⟨F,fa,fb,fc⟩:=h.abs
 obtain⟨r,S,hr,⟨L,jd,hL⟩,hf⟩:=fa x d hx
 refine⟨r,S,L,hr,jd,hL,fun k hk=>(fb x k (hf k hk)).2,fun Z hZ=>?_⟩
 have yo:∀k,k∈L.map (·.1)→F x k:=fun k hk=>hf k ((hL.all k).2 hk)
 have Gl:∀y o q k,g y=some o→ρ y=some q→Live o q=true→k∈L.map (·.1)→q.aI≠k:=fun y o q k a b c e=>(fb x k (yo k e)).2.2.2 y o q a b c
 have hle:ρ.le (dS ρ Z):=fun y q hy=>by
  cases hz:Z y with
  |none=>rw[nl hz];exact hy
  |some p=>
   rw[oO hz]
   by_cases e:y=x
   ·subst e
    obtain⟨o,ho⟩:=hZ.root
    rw[ho]at hz;cases hz
    rw[hr]at hy;cases hy;rfl
   ·rw[h.fresh y (hZ.new y p e hz)]at hy;cases hy
 have FZ:∀b,B b→yn B L Z b∧w.heap[b]?=w₀.heap[b]? :=fun b hb=>⟨.inl hb,h.below.block b hb⟩
 exact
 {below:=gu.refl _ _
  env:=h.env.next h.below fun k hk=>.inl hk
  size:=fun k hk=>by
   rcases hk with hk|hk
   ·exact h.size k hk
   ·exact(fb x k (yo k hk.1)).2.1
  live:=by
   intro y o q hy hq hl
   cases hz:Z y with
   |some p=>
    rw[pP hz]at hy;rw[oO hz]at hq
    cases hy;cases hq
    obtain⟨a,o',b,c⟩:=hZ.live y p.1 p.2 hz hl
    exact⟨o',b,c,fun _ hk=>by
     rcases hk with hk|hk
     ·exact(fb x _ (yo _ a)).2.2.1 hk
     ·exact hk.2 y p.1 p.2 hz hl rfl⟩
   |none=>
    rw[oP hz]at hy;rw[nl hz]at hq
    obtain⟨o',a,b,c⟩:=h.live y o q hy hq hl
    exact⟨o',a,b.mono hle,fun dh hk=>by
     rcases hk with hk|hk
     ·exact c dh hk
     ·exact Gl y o q _ hy hq hl hk.1 rfl⟩
  inj:=by
   intro y z oy oz ry rz hy hz ct iy di j8 hd e
   cases vR:Z y with
   |some p=>
    rw[pP vR]at hy;rw[oO vR]at ct
    cases hy;cases ct
    cases kP:Z z with
    |some q=>
     rw[pP kP]at hz;rw[oO kP]at iy
     cases hz;cases iy
     exact hZ.inj y z p.1 q.1 p.2 q.2 vR kP di j8 e
    |none=>
     rw[oP kP]at hz;rw[nl kP]at iy
     exact absurd e.symm (Gl z oz rz _ hz iy j8 (hZ.live y p.1 p.2 vR di).1)
   |none=>
    rw[oP vR]at hy;rw[nl vR]at ct
    cases kP:Z z with
    |some q=>
     rw[pP kP]at hz;rw[oO kP]at iy
     cases hz;cases iy
     exact absurd e (Gl y oy ry _ hy ct di (hZ.live z q.1 q.2 kP j8).1)
    |none=>
     rw[oP kP]at hz;rw[nl kP]at iy
     exact h.inj y z oy oz ry rz hy hz ct iy di j8 hd e
  fresh:=by
   intro y hy
   cases hz:Z y with
   |some p=>rw[pP hz]at hy;cases hy
   |none=>rw[oP hz]at hy;rw[nl hz];exact h.fresh y hy
  rows:=by
   intro y n size row hy
   cases hz:Z y with
   |some p=>rw[pP hz]at hy;obtain⟨p1,p2⟩:=p;cases hy;cases(hZ.own y p1 _ hz).1
   |none=>
    rw[oP hz]at hy;rw[nl hz]
    obtain⟨q,a,b⟩:=h.rows y n size row hy
    exact⟨q,a,fun hn=>(b hn).mono FZ⟩
  nil:=by
   intro y el ro q hy hq
   cases hz:Z y with
   |some p=>rw[pP hz]at hy;rw[oO hz]at hq;cases hq;obtain⟨p1,p2⟩:=p;cases hy;exact hZ.nil y p1 el ro hz
   |none=>rw[oP hz]at hy;rw[nl hz]at hq;exact h.nil y el ro q hy hq
  named:=by
   intro y o hy bk
   cases hz:Z y with
   |some p=>exact⟨_,oO hz⟩
   |none=>rw[oP hz]at hy;rw[nl hz];exact h.named y o hy bk
  abs:=by
   have old:∀y d',r9 g Z y=some (.abs d')→y≠x∧Z y=none∧g y=some (.abs d'):=fun y d' hy=>by
    cases hz:Z y with
    |some p=>rw[pP hz]at hy;obtain⟨p1,p2⟩:=p;cases hy;exact absurd rfl ((hZ.own y p1 _ hz).2 d')
    |none=>
     refine⟨fun e=>?_,rfl,by rw[oP hz]at hy;exact hy⟩
     subst e
     obtain⟨o,ho⟩:=hZ.root
     rw[ho]at hz;cases hz
   refine⟨fun y k=>F y k∧∃d',r9 g Z y=some (.abs d'),fun y d' hy=>?_,fun y k hk=>?_,fun y z k a b=>fc y z k a.1 b.1⟩
   ·obtain⟨_,hz,hg⟩:=old y d' hy
    obtain⟨q,S',a,b,c⟩:=fa y d' hg
    exact⟨q,S',by rw[nl hz];exact a,b,fun k hk=>⟨c k hk,d',hy⟩⟩
   ·obtain⟨hF,d',hy⟩:=hk
    obtain⟨bk,hz,hg⟩:=old y d' hy
    obtain⟨_,b2,b3,b4⟩:=fb y k hF
    refine⟨⟨d',hy⟩,b2,fun hk=>?_,fun z o q qh hq hl=>?_⟩
    ·rcases hk with hk|hk
     ·exact b3 hk
     ·exact bk (fc y x k hF (yo k hk.1))
    ·cases kP:Z z with
     |some p=>
      rw[pP kP]at qh;rw[oO kP]at hq
      cases qh;cases hq
      intro e
      exact bk (fc y x k hF (yo k (e▸(hZ.live z p.1 p.2 kP hl).1)))
     |none=>
      rw[oP kP]at qh;rw[nl kP]at hq
      exact b4 z o q qh hq hl}
theorem WR.Nc{P:apu}{B B':Nat→Prop}{w₀ w w2:aps}{ρ ρ2:Ren}{g g2:Nat→Option ag}(h:WR P B w₀ ρ g w)(h2:WR P B' w ρ2 g2 w2)(pN:∀k,B k→B' k)
 (XV:∀k,B' k→¬B k→∀y o q,g y=some o→ρ y=some q→Live o q=true→q.aI≠k)
 {x:Nat}{r:bN}(hr:ρ2 x=some r){d:lD}{S:Nat→Prop}(ca:oq w2 r d S)(C:Nat→Bool)(hx:C x=true)
 (hS:∀k,S k→(B' k∧¬B k)∨∃y o q,C y=true∧g2 y=some o∧ρ2 y=some q∧Live o q=true∧q.aI=k∧o.ro=false)
 (dh:∀y o,C y=false→g2 y=some o→o.ro=true→g y=some o∧ρ2 y=ρ y):
 WR P B w₀ ρ2 (fun y=>if y=x then some (.abs d)else match C y with|true=>(g2 y).map fun _=>.dead|false=>g2 y) w2:=by
 obtain⟨F,fa,fb,fc⟩:=h2.abs
 let g3:Nat→Option ag:=fun y=>if y=x then some (.abs d)else match C y with|true=>(g2 y).map fun _=>.dead|false=>g2 y
 have old:∀y o,g3 y=some o→(∀d',o≠ .abs d')→o≠ .dead→C y=false∧g2 y=some o:=fun y o hy hd bk=>by
  have hy:(if y=x then some (.abs d)else match C y with|true=>(g2 y).map fun _=>ag.dead|false=>g2 y)=some o:=hy
  split at hy
  ·cases hy;exact absurd rfl (hd d)
  ·cases hc:C y with
   |true=>
    rw[hc]at hy
    cases hg:g2 y with
    |none=>rw[hg]at hy;cases hy
    |some o'=>rw[hg]at hy;cases hy;exact absurd rfl bk
   |false=>rw[hc]at hy;exact⟨rfl,hy⟩
 have vS:∀y o q,g3 y=some o→Live o q=true→C y=false∧g2 y=some o:=fun y o q hy hl=>old y o hy (fun d' e=>by subst e;cases hl) (fun e=>by subst e;cases hl)
 have Nd:∀y d',y≠x→g3 y=some (.abs d')→C y=false∧g2 y=some (.abs d'):=fun y d' bk hy=>by
  have hy:(if y=x then some (.abs d)else match C y with|true=>(g2 y).map fun _=>ag.dead|false=>g2 y)=some (.abs d'):=hy
  rw[if_neg bk]at hy
  cases hc:C y with
  |true=>
   rw[hc]at hy
   cases hg:g2 y with
   |none=>rw[hg]at hy;cases hy
   |some o'=>rw[hg]at hy;cases hy
  |false=>rw[hc]at hy;exact⟨rfl,hy⟩
 have vT:∀k,S k→k<w2.heap.size∧¬B k∧(∀y o q,g3 y=some o→ρ2 y=some q→Live o q=true→q.aI≠k)∧∀y,F y k→False:=fun k hk=>by
  rcases hS k hk with⟨a,b⟩|⟨y,o,q,a,b,c,e,rfl,f⟩
  ·refine⟨h2.size k a,b,fun y o q hy hq hl=>?_,fun y hF=>(fb y k hF).2.2.1 a⟩
   obtain⟨c1,c2⟩:=vS y o q hy hl
   cases AW:o.ro with
   |false=>
    obtain⟨_,_,_,c3⟩:=h2.live y o q c2 hq hl
    intro e
    exact c3 AW (e▸a)
   |true=>
    obtain⟨c3,c4⟩:=dh y o c1 c2 AW
    exact XV k a b y o q c3 (c4▸hq) hl
  ·obtain⟨o',l1,l2,l3⟩:=h2.live y o q b c e
   refine⟨(aqe.1 l1).1,fun hk=>l3 f (pN _ hk),fun z u s hz hs hl he=>?_,fun z hF=>(fb z _ hF).2.2.2 y o q b c e rfl⟩
   obtain⟨c1,c2⟩:=vS z u s hz hl
   have:=h2.inj z y u o s q c2 b hs c hl e (.inr f) he
   subst this
   rw[a]at c1;cases c1
 exact
 {below:=h.below.trans ⟨h2.below.os,h2.below.tape,h2.below.output,h2.below.size,fun k hk=>h2.below.block k (pN k hk)⟩
  env:=h.env
  size:=fun k hk=>arC (h.size k hk) h2.below.size
  live:=by
   intro y o q hy hq hl
   obtain⟨_,c2⟩:=vS y o q hy hl
   obtain⟨o',l1,l2,l3⟩:=h2.live y o q c2 hq hl
   exact⟨o',l1,l2,fun e hk=>l3 e (pN _ hk)⟩
  inj:=by
   intro y z oy oz ry rz hy hz ct iy di j8
   exact h2.inj y z oy oz ry rz (vS y oy ry hy di).2 (vS z oz rz hz j8).2 ct iy di j8
  fresh:=by
   intro y hy
   have hy:(if y=x then some (.abs d)else match C y with|true=>(g2 y).map fun _=>ag.dead|false=>g2 y)=none:=hy
   split at hy
   ·cases hy
   ·refine h2.fresh y ?_
    cases hc:C y with
    |true=>rw[hc]at hy;simpa using hy
    |false=>rw[hc]at hy;exact hy
  rows:=by
   intro y n size row hy
   obtain⟨c1,c2⟩:=old y _ hy (fun d' e=>by cases e) (fun e=>by cases e)
   obtain⟨c3,c4⟩:=dh y _ c1 c2 rfl
   obtain⟨q,a,b⟩:=h.rows y n size row c3
   exact⟨q,by rw[c4];exact a,b⟩
  nil:=by
   intro y el ro q hy hq
   exact h2.nil y el ro q (old y _ hy (fun d' e=>by cases e) (fun e=>by cases e)).2 hq
  named:=by
   intro y o hy bk
   by_cases e:y=x
   ·subst e;exact⟨r,hr⟩
   ·cases hd:o with
    |abs d'=>subst hd;exact h2.named y _ (Nd y d' e hy).2 bk
    |_=>subst hd;exact h2.named y _ (old y _ hy (fun d' e=>by cases e) bk).2 bk
  abs:=by
   refine⟨fun y k=>(y=x∧S k)∨(y≠x∧F y k∧∃d',g3 y=some (.abs d')),fun y d' hy=>?_,fun y k hk=>?_,fun y z k a b=>?_⟩
   ·by_cases e:y=x
    ·subst e
     have:d'=d:=by
      have hy:(if y=y then some (.abs d)else match C y with|true=>(g2 y).map fun _=>ag.dead|false=>g2 y)=some (.abs d'):=hy
      rw[if_pos rfl]at hy;cases hy;rfl
     subst this
     exact⟨r,S,hr,ca,fun k hk=>.inl ⟨rfl,hk⟩⟩
    ·obtain⟨q,T,a,b,c⟩:=fa y d' (Nd y d' e hy).2
     exact⟨q,T,a,b,fun k hk=>.inr ⟨e,c k hk,d',hy⟩⟩
   ·rcases hk with⟨rfl,hk⟩|⟨e,hF,d',hy⟩
    ·obtain⟨a,b,c,_⟩:=vT k hk
     exact⟨⟨d,if_pos rfl⟩,a,b,c⟩
    ·obtain⟨_,b2,b3,b4⟩:=fb y k hF
     exact⟨⟨d',hy⟩,b2,fun hk=>b3 (pN k hk),fun z o q hz hq hl=>b4 z o q (vS z o q hz hl).2 hq hl⟩
   ·rcases a with⟨rfl,a⟩|⟨e,a,_⟩<;>rcases b with⟨rfl,b⟩|⟨e',b,_⟩
    ·rfl
    ·exact((vT k a).2.2.2 z b).elim
    ·exact((vT k b).2.2.2 y a).elim
    ·exact fc y z k a b}
theorem WR.yp{P:apu}{B:Nat→Prop}{w₀ w:aps}{ρ:Ren}{g:Nat→Option ag}(h:WR P B w₀ ρ g w){x:Nat}{c:List ape}{el:apq}(hx:g x=some (.cells c el false)){q:bN}(hq:ρ x=some q)(hl:Live (.cells c el false) q=true):
 ∃c',LR ρ c c'∧eL w q.aI (.cells c' el q.sh q.dy):=by
 obtain⟨o',h1,h2,_⟩:=h.live x _ q hx hq hl
 cases h2 with
 |cells _ _ bU _ a fr hp hs he hz hf hc=>
  have Nf:a.toList.length=q.dy:=by rw[Array.length_toList];exact hp
  refine⟨(a.toList.drop q.sh).take c.length,⟨?_,fun i v v' h3 h4=>?_⟩,a,fr,?_,hp,?_,hf rfl,fun i v hi=>?_⟩
  ·rw[ap8,aqp,Nf];omega
  ·obtain⟨u,h5,h6⟩:=hc i v h3
   rw[aqx,aqz]at h4
   split at h4
   ·rw[aqW,h5]at h4;cases h4;exact h6
   ·cases h4
  ·rw[h1,he rfl]
  ·rw[ap8,aqp,Nf];omega
  ·rw[aqx,aqz]at hi
   split at hi
   ·rw[aqW]at hi;exact hi
   ·cases hi
theorem WR.Ng{P:apu}{B:Nat→Prop}{w₀ w:aps}{ρ:Ren}{g:Nat→Option ag}(h:WR P B w₀ ρ g w){x:Nat}{es:List apM}{clock:Nat}(hx:g x=some (.map es clock)){q:bN}(hq:ρ x=some q):
 ∃cN,dL (mZ ρ) es cN∧eL w q.aI (.map cN clock):=by
 obtain⟨o',h1,h2,_⟩:=h.live x _ q hx hq rfl
 cases h2 with
 |map _ a _ h3 h4=>
  refine⟨a.toList,?_,h1⟩
  have key:∀(l:List apM) (l':List apM),l.length=l'.length→(∀(i:Nat) (e e':apM),l[i]?=some e→l'[i]?=some e'→mZ ρ e e')→dL (mZ ρ) l l':=by
   intro l
   induction l with
   |nil=>intro l' hl _;cases l' with|nil=>exact .nil|cons _ _=>simp at hl
   |cons e l ih=>
    intro l' hl hr
    cases l' with
    |nil=>simp at hl
    |cons e' l'=>exact .cons (hr 0 e e' rfl rfl) (ih l' (by simpa using hl) fun i a b ha hb=>hr (i+1) a b (by simpa using ha) (by simpa using hb))
  exact key _ _ h3 h4
theorem eL.or{P:apu}{w:aps}{ρ:Ren}{q:bN}{c c':List ape}{el:apq}(h:eL w q.aI (.cells c' el q.sh q.dy))(hz:∀n,bR P el=some n→q.sz=n)(hl:LR ρ c c'):∃o',w.heap[q.aI]?=some o'∧OR P ρ q (.cells c el false) o':=by
 obtain⟨a,fr,h1,h2,h3,h4,h5⟩:=h
 refine⟨_,h1,.cells c el el false a fr h2 (by rw[hl.len];exact h3) (fun _=>rfl) hz (fun _=>h4) fun i v hi=>?_⟩
 obtain⟨v',h6,h7⟩:=hl.get hi
 exact⟨v',h5 i v' h6,h7⟩
theorem eL.Bb{P:apu}{w:aps}{ρ:Ren}{q:bN}{es cN:List apM}{clock:Nat}(h:eL w q.aI (.map cN clock))(hl:dL (mZ ρ) es cN):∃o',w.heap[q.aI]?=some o'∧OR P ρ q (.map es clock) o':=by
 refine⟨_,h,.map es _ clock (by rw[hl.len]) fun i e e' h1 h2=>?_⟩
 obtain⟨e2,h3,h4⟩:=hl.get (i:=i) (b:=e') (by simpa using h2)
 rw[h1]at h3;cases h3;exact h4
def zF(r:bN)(o0:ag)(n:Nat)(zs:List (bN×ag)):Nat→Option (bN×ag):=fun y=>if y=0 then some (r,o0)else if y<n then none else zs[y-n]?
def closed(d:lD)(C:List Nat)(o:List ag):List ag:=o.mapIdx fun i ob=>if i=0 then .abs d else if C.contains i then .dead else ob
structure XW(P:apu)(w:aps)(L:List (Nat×CO))(r:bN)(o0:ag)(n:Nat)(zs:List (bN×ag)):Prop where
 own:∀p∈(r,o0)::zs,p.2.ro=false∧(∀d,p.2≠ .abs d)
 nil:∀p∈(r,o0)::zs,∀el ro,p.2=.cells [] el ro→∀n,bR P el=some n→p.1.sz=n
 live:∀ρ:Ren,ρ 0=some r→(∀i p,zs[i]?=some p→ρ (n+i)=some p.1)→∀p∈(r,o0)::zs,Live p.2 p.1=true→p.1.aI∈L.map (·.1)∧∃o',w.heap[p.1.aI]?=some o'∧OR P ρ p.1 p.2 o'
 inj:((r,o0)::zs).Pairwise fun p q=>Live p.2 p.1=true→Live q.2 q.1=true→p.1.aI≠q.1.aI
theorem XX{α:Type}{R:α→α→Prop}{l:List α}(h:l.Pairwise R){i j:Nat}{a b:α}(ha:l[i]?=some a)(hb:l[j]?=some b)(h1:¬R a b)(h2:¬R b a):i=j:=by
 obtain⟨hi,rfl⟩:=app.1 ha
 obtain⟨hj,rfl⟩:=app.1 hb
 rcases Nat.lt_trichotomy i j with hlt|rfl|hlt
 ·exact absurd (ar4.1 h i j hi hj hlt) h1
 ·rfl
 ·exact absurd (ar4.1 h j i hj hi hlt) h2
theorem ub{r:bN}{o0:ag}{n:Nat}{zs:List (bN×ag)}(hn:0<n){y:Nat}{p:bN×ag}(h:zF r o0 n zs y=some p):(y=0∧p=(r,o0))∨(y≠0∧n≤y∧zs[y-n]?=some p):=by
 unfold zF at h
 split at h
 ·rename_i e;cases h;exact .inl ⟨e,rfl⟩
 ·rename_i e
  split at h
  ·cases h
  ·exact .inr ⟨e,by omega,h⟩
theorem uc{r:bN}{o0:ag}{n:Nat}{zs:List (bN×ag)}(hn:0<n){y:Nat}{p:bN×ag}(h:zF r o0 n zs y=some p):((r,o0)::zs)[if y=0 then 0 else y-n+1]?=some p:=by
 rcases ub hn h with⟨rfl,rfl⟩|⟨h1,h2,h3⟩
 ·rfl
 ·rw[if_neg h1];exact h3
theorem aE.vQ{P:apu}{f:apQ}{args:List ape}{d:lD}{rest:List ag}{Q:bx→List ag→Prop}
 (h:∀(w:aps) (r:bN) (S:Nat→Prop) (L:List (Nat×CO)),Ki w→Dc d r.aI r.sh r.sz r.dy L→qc w r.aI S L→∃(o0:ag) (zs:List (bN×ag)) (Q1:bx→List ag→Prop),
   XW P w L r o0 (1+rest.length) zs∧1+rest.length+zs.length≤262144∧aE P f args (o0::rest++zs.map (·.2)) Q1∧
   ∀(v:bx) (o':List ag),Q1 v o'→∀(B:Nat→Prop) (ρ:Ren) (w':aps),WR P B w ρ (cm o') w'→ρ 0=some r→(∀i p,zs[i]?=some p→ρ (1+rest.length+i)=some p.1)→
    (∀k∈L.map (·.1),(∀p∈(r,o0)::zs,Live p.2 p.1=true→p.1.aI≠k)→B k∧w'.heap[k]?=w.heap[k]?)→
    ∃(d':lD) (S':Nat→Prop) (C:List Nat),oq w' r d' S'∧
     (∀k,S' k→(k∈L.map (·.1)∧∀p∈(r,o0)::zs,Live p.2 p.1=true→p.1.aI≠k)∨∃y o q,(y=0∨C.contains y=true)∧o'[y]?=some o∧ρ y=some q∧Live o q=true∧q.aI=k∧o.ro=false)∧
     (∀y o,y≠0→C.contains y=false→o'[y]?=some o→o.ro=true→1≤y∧rest[y-1]?=some o)∧Q v (closed d' C o')):
 aE P f args (.abs d::rest) Q:=by
 intro B w₀ ρ w args' gK Gm ha hw
 obtain⟨r,S,L,hr,jd,hL,vT,yq⟩:=hw.vQ (x:=0) (d:=d) rfl
 obtain⟨o0,zs,Q1,hZ,iL,hf,XY⟩:=h w r S L (hw.env w hw.below) jd hL
 have hn:0<1+rest.length:=by omega
 let Z:=zF r o0 (1+rest.length) zs
 have an4:∀y,small y=true→cm (.abs d::rest) y=(ag.abs d::rest)[y]? :=fun y hy=>cx hy
 have eo:∀y,y<1+rest.length+zs.length→small y=true:=fun y hy=>gX.2 (by have:(2:Nat)^18=262144:=rfl;omega)
 have Nh:∀y p,Z y=some p→y<1+rest.length+zs.length:=fun y p hy=>by
  rcases ub hn hy with⟨rfl,_⟩|⟨_,h2,h3⟩
  ·omega
  ·have:=(app.1 h3).1;omega
 have ud:dS ρ Z 0=some r:=oO (p:=(r,o0)) (by show zF r o0 _ zs 0=_;unfold zF;rw[if_pos rfl])
 have Gn:∀i p,zs[i]?=some p→dS ρ Z (1+rest.length+i)=some p.1:=fun i p hi=>oO (by
  show zF r o0 _ zs _=_
  unfold zF
  rw[if_neg (by omega),if_neg (by omega),show 1+rest.length+i-(1+rest.length)=i by omega];exact hi)
 have cQ:Nb P w ρ (cm (.abs d::rest)) 0 r L Z:=
 {root:=⟨o0,by show zF r o0 _ zs 0=_;unfold zF;rw[if_pos rfl]⟩
  new:=fun y p hy hz=>by
   rcases ub hn hz with⟨e,_⟩|⟨_,h2,h3⟩
   ·exact absurd e hy
   ·rw[cx (eo y (Nh y p hz)),aqr]
    rw[ap1];omega
  own:=fun y q o hz=>hZ.own (q,o) (apX (uc hn hz))
  nil:=fun y q el ro hz=>hZ.nil _ (apX (uc hn hz)) el ro rfl
  live:=fun y q o hz hl=>hZ.live (dS ρ Z) ud Gn (q,o) (apX (uc hn hz)) hl
  inj:=fun y z q s o u hy hz hl qu e=>by
   have:=XX hZ.inj (uc hn hy) (uc hn hz) (fun h=>h hl qu e) (fun h=>h qu hl e.symm)
   rcases ub hn hy with⟨e1,_⟩|⟨e1,h2,h3⟩<;>rcases ub hn hz with⟨e2,_⟩|⟨e2,vh,an5⟩
   ·omega
   ·rw[if_pos e1,if_neg e2]at this;omega
   ·rw[if_neg e1,if_pos e2]at this;omega
   ·rw[if_neg e1,if_neg e2]at this;omega}
 have gQ:=yq Z cQ
 have hle:ρ.le (dS ρ Z):=fun y q hy=>by
  cases hz:Z y with
  |none=>rw[nl hz];exact hy
  |some p=>
   rcases ub hn hz with⟨rfl,rfl⟩|⟨e,_,_⟩
   ·rw[oO hz];rw[hr]at hy;cases hy;rfl
   ·rw[hw.fresh y (cQ.new y p e hz)]at hy;cases hy
 have XZ:r9 (cm (.abs d::rest)) Z=cm (o0::rest++zs.map (·.2)):=by
  funext y
  cases hz:Z y with
  |some p=>
   rw[pP hz,cx (eo y (Nh y p hz))]
   rcases ub hn hz with⟨rfl,rfl⟩|⟨e,h2,h3⟩
   ·rfl
   ·rw[apZ (by rw[ap1];omega),aqJ,ap1,show y-(rest.length+1)=y-(1+rest.length)by omega,h3];rfl
  |none=>
   rw[oP hz]
   have hz:zF r o0 (1+rest.length) zs y=none:=hz
   unfold zF at hz
   split at hz
   ·cases hz
   ·rename_i e
    cases hs:small y with
    |false=>rw[il hs,il hs]
    |true=>
     rw[cx hs,cx hs]
     by_cases hlt:y<1+rest.length
     ·rw[ap5 (by rw[ap1];omega)]
      obtain⟨k,rfl⟩:∃k,y=k+1:=⟨y-1,by omega⟩
      rfl
     ·rw[if_neg hlt,aq3]at hz
      rw[aqr (by rw[ap1];omega),aqr (by rw[apv,ap1,arj];omega)]
 rw[XZ]at gQ
 have hlen:(o0::rest++zs.map (·.2)).length=1+rest.length+zs.length:=by rw[apv,ap1,arj];omega
 refine(hf (yn B L Z) w (dS ρ Z) w args' ?_ ?_ (ha.mono hle) gQ).mono fun e w' he=>?_
 ·intro q
  obtain⟨y,h1,h2⟩:=gK q
  exact⟨y,h1,hle _ _ h2⟩
 ·intro x hx
  rw[hlen]at hx
  by_cases h1:x<1+rest.length
  ·obtain⟨q,hq⟩:=Gm x (by rw[ap1];omega)
   exact⟨q,hle _ _ hq⟩
  ·have h2:x-(1+rest.length)<zs.length:=by omega
   have:=Gn (x-(1+rest.length)) _ (apl h2)
   rw[show 1+rest.length+(x-(1+rest.length))=x by omega]at this
   exact⟨_,this⟩
 obtain⟨v,o',ρ',hq,jk,Gp,gZ,vB,mG⟩:=he
 have iB:ρ' 0=some r:=by rw[mG 0 (by rw[hlen];omega)];exact ud
 have Ni:∀x,x<1+rest.length→ρ' x=ρ x:=fun x hx=>by
  rw[mG x (by rw[hlen];omega)]
  by_cases e:x=0
  ·subst e;rw[ud,hr]
  ·refine nl ?_
   show zF r o0 _ zs x=none
   unfold zF
   rw[if_neg e,if_pos hx]
 obtain⟨d',S',C,ca,X0,dh,hQ⟩:=XY v o' hq (yn B L Z) ρ' w' gZ iB (fun i p hi=>by rw[mG _ (by rw[hlen];have:=(app.1 hi).1;omega)];exact Gn i p hi) (fun k hk zL=>have hB:yn B L Z k:=.inr ⟨hk,fun y q o hz hl=>zL (q,o) (apX (uc hn hz)) hl⟩;⟨hB,gZ.below.block k hB⟩)
 have eN:=hw.Nc gZ (fun k hk=>.inl hk) (fun k hk hB=>by
  rcases hk with hk|hk
  ·exact absurd hk hB
  ·exact(vT k ((hL.all k).2 hk.1)).2.2) iB ca (fun y=>y==0||C.contains y) rfl (fun k hk=>by
   rcases X0 k hk with⟨a,b⟩|⟨y,o,q,a,b,c,e,f,g⟩
   ·exact .inl ⟨.inr ⟨a,fun y q o hz hl=>b (q,o) (apX (uc hn hz)) hl⟩,(vT k ((hL.all k).2 a)).2.1⟩
   ·refine .inr ⟨y,o,q,?_,?_,c,e,f,g⟩
    ·rcases a with rfl|a
     ·rfl
     ·rw[a,Bool.or_true]
    ·rw[cx]
     ·exact b
     ·exact gX.2 (by have:=(app.1 b).1;have:(2:Nat)^18=262144:=rfl;omega)) (fun y o hC hy vq=>by
   rw[Bool.or_eq_false_iff]at hC
   have qL:y≠0:=by intro e;subst e;cases hC.1
   cases hs:small y with
   |false=>rw[il hs]at hy;cases hy;cases vq
   |true=>
    rw[cx hs]at hy
    obtain⟨a,b⟩:=dh y o qL hC.2 hy vq
    have hlt:=(app.1 b).1
    refine⟨?_,Ni y (by omega)⟩
    rw[cx hs]
    obtain⟨k,rfl⟩:∃k,y=k+1:=⟨y-1,by omega⟩
    exact b)
 refine⟨v,closed d' C o',ρ',hQ,jk,Gp,?_,by unfold closed;rw[auH];exact vB,fun x hx=>Ni x (by rw[ap1]at hx;omega)⟩
 have:cm (closed d' C o')=(fun y=>if y=0 then some (.abs d')else match(y==0||C.contains y)with|true=>(cm o' y).map fun _=>.dead|false=>cm o' y):=by
  funext y
  cases hs:small y with
  |false=>
   have qL:y≠0:=by intro e;subst e;cases hs
   rw[il hs,if_neg qL,il hs]
   cases(y==0||C.contains y)<;>rfl
  |true=>
   rw[cx hs,cx hs]
   unfold closed
   rw[aur]
   by_cases qL:y=0
   ·subst qL
    rw[if_pos rfl]
    cases o' with
    |nil=>
     exfalso
     have:=gZ.fresh 0 (by rw[cx hs];rfl)
     rw[iB]at this;cases this
    |cons a l=>rfl
   ·rw[if_neg qL]
    have:(y==0)=false:=by simpa using qL
    rw[this,Bool.false_or]
    cases hc:C.contains y with
    |true=>cases o'[y]? <;>simp[qL,hc];
    |false=>cases o'[y]? <;>simp[qL,hc]
 rw[this]
 exact eN
def yr(x:Nat)(d:lD)(C:List Nat)(o:List ag):List ag:=o.mapIdx fun i ob=>if i=x then .abs d else if C.contains i then .dead else ob
theorem aE.X1{P:apu}{f:apQ}{args:List ape}{objs:List ag}{Q1 Q:bx→List ag→Prop}(h:aE P f args objs Q1)
 (hc:∀v o',Q1 v o'→∀(B:Nat→Prop) (w₀:aps) (ρ:Ren) (w':aps),WR P B w₀ ρ (cm o') w'→∃(x:Nat) (r:bN) (d:lD) (S:Nat→Prop) (C:List Nat),x<o'.length∧ρ x=some r∧oq w' r d S∧C.contains x=true∧
   (∀k,S k→∃y o q,C.contains y=true∧o'[y]?=some o∧ρ y=some q∧Live o q=true∧q.aI=k∧o.ro=false)∧Q v (yr x d C o')):aE P f args objs Q:=by
 intro B w₀ ρ w args' gK Gm ha hw
 refine(h B w₀ ρ w args' gK Gm ha hw).mono fun e w' he=>?_
 obtain⟨v,o',ρ',hq,jk,Gp,gZ,vB,mG⟩:=he
 obtain⟨x,r,d,S,C,kg,hr,ca,X2,hS,hQ⟩:=hc v o' hq B w₀ ρ' w' gZ
 have Ej:WR P B w' ρ' (cm o') w':=
 {below:=gu.refl _ _
  env:=gZ.env.next gZ.below fun k hk=>hk
  size:=gZ.size
  live:=gZ.live
  inj:=gZ.inj
  fresh:=gZ.fresh
  rows:=fun y n size row hy=>by
   obtain⟨q,a,b⟩:=gZ.rows y n size row hy
   exact⟨q,a,fun hn=>(b hn).mono fun k hk=>⟨hk,gZ.below.block k hk⟩⟩
  nil:=gZ.nil
  named:=gZ.named
  abs:=gZ.abs}
 have eo:∀{y o},o'[y]?=some o→small y=true:=fun{y o} hy=>gX.2 (by have:=(app.1 hy).1;have:(2:Nat)^18=262144:=rfl;omega)
 have eN:=gZ.Nc Ej (fun k hk=>hk) (fun k hk hB=>absurd hk hB) hr ca (fun y=>C.contains y) X2 (fun k hk=>by
  obtain⟨y,o,q,a,b,c⟩:=hS k hk
  exact .inr ⟨y,o,q,a,by rw[cx (eo b)];exact b,c⟩) (fun y o _ hy _=>⟨hy,rfl⟩)
 refine⟨v,yr x d C o',ρ',hQ,jk,Gp,?_,by unfold yr;rw[auH];exact vB,mG⟩
 have:cm (yr x d C o')=(fun y=>if y=x then some (.abs d)else match C.contains y with|true=>(cm o' y).map fun _=>.dead|false=>cm o' y):=by
  funext y
  cases hs:small y with
  |false=>
   have qM:y≠x:=by rintro rfl;rw[eo (apl kg)]at hs;cases hs
   rw[il hs,if_neg qM,il hs]
   cases C.contains y<;>rfl
  |true=>
   rw[cx hs,cx hs]
   unfold yr
   rw[aur]
   by_cases qM:y=x
   ·subst qM
    rw[if_pos rfl,apl kg]
    simp
   ·rw[if_neg qM]
    cases hc:C.contains y with
    |true=>cases o'[y]? <;>simp[qM,hc]
    |false=>cases o'[y]? <;>simp[qM,hc]
 rw[this]
 exact eN
end Go.Proofs.YtnlkkgpcikkpoaaGreat.Vm
namespace Go.Proofs.YtnlkkgpcikkpoaaGreat
theorem du:Vm.iG av9=true:=by kernel_rfl
theorem mixed:av9.follows .mixedOrders=true:=by kernel_rfl
end Go.Proofs.YtnlkkgpcikkpoaaGreat
namespace Go.Proofs.YtnlkkgpcikkpoaaGreat
open Go Vm Go.RowKit
def Nj:apQ→Option Sum:=fun _=>none
theorem bo:dw av9 (dM av9 Nj 50 40):=dR du mixed (fun f s h=>by cases h) 50 40
theorem X3(lf:Nat):dw av9 (dM av9 Nj lf 40):=dR du mixed (fun f s h=>by cases h) lf 40
theorem aS{cO:fD}(hc:dw av9 cO)(m:Nat)(s:ST){n k:Nat}{l:List apV}{d:aj}{T:Tree}(h:∀u,(tS av9 cO 50 (l.take m) (eH n u d.sl) (ld d.objs)).sym (vM n k) s=some T){Q:bd→aj→Prop}(hT:T.ok (fun x d'=>match x with
 | .normal=>an av9 n k (l.drop m) d' Q
 |x=>Q x d')):an av9 n k l d Q:=an.tree du mixed hc h hT
def X4:ape→ape
 | .pointer (some ⟨b,o,none⟩)=>.pointer (some ⟨b,o,some 0⟩)
 |v=>v
def bS(es:List apM):List apM:=es.map fun e=>{e with val:=X4 e.val}
theorem qN:bR av9 5=some 1:=by kernel_rfl
theorem pQ:bR av9 77=some 2:=by kernel_rfl
theorem Bc:bR av9 173=some 1:=by kernel_rfl
theorem yu:bR av9 80=some 5:=by kernel_rfl
theorem Bd(b:ByteArray):Kj b=ai b:=rfl
theorem LR.plain{ρ:Ren}:∀{c c':List ape},c.all af=true→LR ρ c c'→c'=c:=fun hc h=>
 zK h.len fun i v v' h1 h2=>VR.tj (apR.1 hc v (apX h1)) (h.at_ i v v' h1 h2)
theorem vU:∀{A C:List (Nat×ByteArray)} {es:List apM} {L:List (Nat×CO)},fv (A++C) es L→∃eA eC LA LC,es=eA++eC∧L=LA++LC∧fv A eA LA∧fv C eC LC
 | [],C,es,L,h=>⟨[],es,[],L,rfl,rfl,.nil,h⟩
 |p::A,C,es,L,h=>by
  cases h with
  |cons _ k sh _ qG L1 L2 hf ht hp=>
   obtain⟨eA,eC,LA,LC,rfl,rfl,h1,h2⟩:=vU ht
   exact⟨_::eA,eC,L1++LA,LC,rfl,by rw[apK],.cons p k sh A eA L1 LA hf h1 hp,h2⟩
theorem Nk{A C:List (Nat×ByteArray)}{eA eC:List apM}{LA LC:List (Nat×CO)}(h:fv A eA LA)(hC:fv C eC LC):fv (A++C) (eA++eC) (LA++LC):=by
 induction h with
 |nil=>exact hC
 |cons p k sh l es L L' hf ht hp ih=>rw[apK];exact .cons p k sh _ _ L _ hf ih hp
theorem Nl{ρ:Ren}{A:List (Nat×ByteArray)}{eA:List apM}{LA:List (Nat×CO)}(h:fv A eA LA):∀{e':List apM},dL (mZ ρ) (bS eA) e'→e'=eA:=by
 induction h with
 |nil=>intro e' h';cases h';rfl
 |cons p k sh l es L L' hf ht hp ih=>
  intro e' h'
  cases h' with
  |cons h1 h2=>
   rename_i b l'
   rw[ih h2]
   congr 1
   obtain⟨k1,k2,k3⟩:=h1
   have e1:=k1.jL
   cases b with
   |mk key val Nm=>
    dsimp only at e1 k2 k3⊢
    subst e1
    have:val=.pointer (some ⟨k,sh,none⟩):=by
     have k2:VR ρ (.pointer (some ⟨k,sh,some 0⟩)) val:=k2
     cases k2 with
     |bG _ h=>cases h
     |mv=>rfl
    subst this
    cases k3
    rfl
theorem dL.vV{ρ:Ren}{A:List (Nat×ByteArray)}{eA:List apM}{LA:List (Nat×CO)}(h:fv A eA LA):dL (mZ ρ) (bS eA) eA:=by
 induction h with
 |nil=>exact .nil
 |cons p k sh l es L L' hf ht hp ih=>exact .cons ⟨.bG _ rfl,.mv _ _ _,rfl⟩ ih
theorem dL.mw{α β:Type}{R:α→β→Prop}:∀{a:List α} {b:List β} {a':List α} {b':List β},dL R a b→dL R a' b'→dL R (a++a') (b++b')
 |_,_,_,_,.nil,h=>h
 |_,_,_,_,.cons h t,h'=>.cons h (dL.mw t h')
theorem dL.Gq{α β:Type}{R:α→β→Prop}:∀{a a':List α} {l:List β},dL R (a++a') l→∃b b',l=b++b'∧dL R a b∧dL R a' b'
 | [],a',l,h=>⟨[],l,rfl,.nil,h⟩
 |x::a,a',l,h=>by
  cases h with
  |cons h1 h2=>
   obtain⟨b,b',rfl,h3,h4⟩:=dL.Gq h2
   exact⟨_::b,b',rfl,.cons h1 h3,h4⟩
theorem Gr{B:Nat→Prop}{w₀ w:aps}{ρ:Ren}{g:Nat→Option ag}(h:WR av9 B w₀ ρ g w){z n size:Nat}{c:List ape}{el:apq}(hz:g z=some (.cells c el false))(hc:c.all af=true)(hl:c.length=n*size)(hs:bR av9 el=some size)(tA:0<size){v:ape}(hv:VR ρ (.slice (some ⟨z,0,none⟩) n n) v):
 ∃L,Vm.rowAt n size c el v L∧(L=[]∨∃q,ρ z=some q∧Live (.cells c el false) q=true∧L=[(q.aI,.cells c el q.sh q.dy)]∧eL w q.aI (.cells c el q.sh q.dy)):=by
 cases hv with
 |bG _ h=>cases h
 |eh _ a'=>exact⟨[],.inl ⟨rfl,rfl,a',rfl⟩,.inl rfl⟩
 |sl _ _ _ _ bw q hq gY=>
  by_cases lG:Live (.cells c el false) q=true
  ·obtain⟨c',h1,h2⟩:=h.yp hz hq lG
   have:=LR.plain hc h1
   subst this
   obtain⟨o',h3,h4,_⟩:=h.live z _ q hz hq lG
   have cf:q.sz=size:=h4.xv _ hs
   refine⟨_,.inr ⟨q.aI,q.sh,bw,q.dy,rfl,?_,?_,rfl⟩,.inr ⟨q,hq,lG,rfl,h2⟩⟩
   ·rcases gY with h|h
    ·omega
    ·exact h.1
   ·obtain⟨_,_,_,_,h5,_⟩:=h2
    rcases gY with h|h
    ·rw[h,←hl];exact h5
    ·have:=h.2;rw[cf]at this;omega
  ·have lG:Live (.cells c el false) q=false:=by simpa using lG
   obtain⟨h1,h2⟩:=DG lG
   subst h1
   have cf:q.sz=size:=h.nil z el false q hz hq _ hs
   have hn:n=0:=by
    rcases atI n with h|h
    ·exact h
    ·have:=avN h tA;simp at hl;omega
   subst hn
   have X5:bw=0:=by
    rcases gY with h|h
    ·exact h
    ·have h3:=h.2
     rw[cf,h2]at h3
     rcases atI bw with h|h
     ·exact h
     ·have:=avN h tA;omega
   subst X5
   exact⟨[],.inl ⟨rfl,rfl,_,rfl⟩,.inl rfl⟩
def gS(ρ:Ren)(o':List ag)(k y:Nat):Prop:=∃o q,o'[y]?=some o∧ρ y=some q∧Live o q=true∧q.aI=k∧o.ro=false
theorem gS.row{ρ:Ren}{o':List ag}{y:Nat}{c:List ape}{el:apq}{q:bN}(h:o'[y]?=some (.cells c el false))(hq:ρ y=some q)(hl:Live (.cells c el false) q=true):gS ρ o' q.aI y:=⟨_,q,h,hq,hl,rfl,rfl⟩
theorem gS.inj{P:apu}{B:Nat→Prop}{w₀ w:aps}{ρ:Ren}{o':List ag}(h:WR P B w₀ ρ (cm o') w)(hlen:o'.length≤262144){k y z:Nat}(h1:gS ρ o' k y)(h2:gS ρ o' k z):y=z:=by
 obtain⟨o,q,a,b,c,d,e⟩:=h1
 obtain⟨u,s,a',b',c',d',e'⟩:=h2
 have sm:∀{y o},o'[y]?=some o→cm o' y=some o:=fun{y o} hy=>by
  rw[cx];exact hy
  exact gX.2 (by have:=(app.1 hy).1;have:(2:Nat)^18=262144:=rfl;omega)
 exact h.inj y z o u q s (sm a) (sm a') b b' c c' (.inl e) (d.trans d'.symm)
theorem gS.X6{P:apu}{B:Nat→Prop}{w₀ w:aps}{ρ:Ren}{o':List ag}(h:WR P B w₀ ρ (cm o') w)(hlen:o'.length≤262144){k y:Nat}(h1:gS ρ o' k y):¬B k:=by
 obtain⟨o,q,a,b,c,rfl,e⟩:=h1
 have sm:cm o' y=some o:=by
  rw[cx];exact a
  exact gX.2 (by have:=(app.1 a).1;have:(2:Nat)^18=262144:=rfl;omega)
 obtain⟨_,_,_,d⟩:=h.live y o q sm b c
 exact d e
inductive sd(o':List ag)(K:List Nat):List (Nat×ByteArray)→List apM→Prop where
 |none:sd o' K [] []
 |empty (p:Nat×ByteArray) (y:Nat) (hy:o'[y]?=some (.cells [.slice none 0 0] 173 false)) (h0:p.2.size=0) (hd:3<y∧K.contains y=true) (hp:1≤p.1):sd o' K [p] [{key:=.int .i64 p.1,val:=.pointer (some ⟨y,0,none⟩),born:=p.1-1}]
 |full (p:Nat×ByteArray) (y z:Nat) (hy:o'[y]?=some (.cells [.slice (some ⟨z,0,none⟩) p.2.size p.2.size] 173 false)) (hz:o'[z]?=some (.cells (ai p.2) 5 false)) (hd:3<y∧K.contains y=true) (kp:3<z∧K.contains z=true) (bk:y≠z) (hp:1≤p.1):
  sd o' K [p] [{key:=.int .i64 p.1,val:=.pointer (some ⟨y,0,none⟩),born:=p.1-1}]
theorem X7{B:Nat→Prop}{w₀ w:aps}{ρ:Ren}{o':List ag}(h:WR av9 B w₀ ρ (cm o') w)(hlen:o'.length≤262144){F:List (Nat×ByteArray)}{eF e':List apM}{K:List Nat}(hF:sd o' K F eF)(he:dL (mZ ρ) eF e'):
 ∃LF,fv F e' LF∧(∀p∈LF,eL w p.1 p.2∧∃y,(3<y∧K.contains y=true)∧gS ρ o' p.1 y)∧(LF.map (·.1)).Nodup:=by
 have sm:∀{y o},o'[y]?=some o→cm o' y=some o:=fun{y o} hy=>by
  rw[cx];exact hy
  exact gX.2 (by have:=(app.1 hy).1;have:(2:Nat)^18=262144:=rfl;omega)
 cases hF with
 |none=>cases he;exact⟨[],.nil,(fun p hp=>by cases hp),.nil⟩
 |empty p y hy h0 hd hp=>
  cases he with
  |cons h1 h2=>
   cases h2
   rename_i b
   obtain⟨k1,k2,k3⟩:=h1
   obtain⟨q,hq,hv⟩:=VR.kE k2
   have e1:=k1.jL
   obtain⟨c',h3,h4⟩:=h.yp (sm hy) hq rfl
   obtain⟨v,l',rfl,h5,h6⟩:=h3.gI
   have:=h6.kD;subst this
   have fY:v=.slice none 0 0:=VR.tj rfl h5
   subst fY
   refine⟨[(q.aI,.cells [.slice none 0 0] 173 q.sh q.dy)],?_,?_,by simp⟩
   ·cases b with
    |mk key val Nm=>
     dsimp only at e1 hv k3
     subst e1 hv k3
     exact .cons p q.aI (q.sh+0) [] [] [(q.aI,.cells [.slice none 0 0] 173 q.sh q.dy)] [] ⟨_,q.dy,[],.inl ⟨h0,rfl,none,rfl⟩,rfl⟩ .nil hp
   ·intro p hp
    rw[aqd]at hp;subst hp
    exact⟨h4,y,hd,gS.row hy hq rfl⟩
 |full p y z hy hz hd kp bk hp=>
  cases he with
  |cons h1 h2=>
   cases h2
   rename_i b
   obtain⟨k1,k2,k3⟩:=h1
   obtain⟨q,hq,hv⟩:=VR.kE k2
   have e1:=k1.jL
   obtain⟨c',h3,h4⟩:=h.yp (sm hy) hq rfl
   obtain⟨v,l',rfl,h5,h6⟩:=h3.gI
   have:=h6.kD;subst this
   obtain⟨L,r1,r2⟩:=Gr h (sm hz) (by simp) (by rw[nj,Nat.mul_one]) qN (by omega) h5
   refine⟨(q.aI,.cells [v] 173 q.sh q.dy)::L,?_,?_,?_⟩
   ·cases b with
    |mk key val Nm=>
     dsimp only at e1 hv k3
     subst e1 hv k3
     have:=fv.cons p q.aI (q.sh+0) [] [] ((q.aI,.cells [v] 173 q.sh q.dy)::L) [] ⟨v,q.dy,L,r1,rfl⟩ .nil hp
     rw[aqF]at this
     exact this
   ·intro p hp
    rcases apx.1 hp with rfl|hp
    ·exact⟨h4,y,hd,gS.row hy hq rfl⟩
    ·rcases r2 with rfl|⟨s,s1,s2,rfl,s4⟩
     ·cases hp
     ·rw[aqd]at hp;subst hp
      exact⟨s4,z,kp,gS.row hz s1 s2⟩
   ·rcases r2 with rfl|⟨s,s1,s2,rfl,s4⟩
    ·simp
    ·simp only[aqb,atZ,aqB,aqd,List.not_mem_nil,not_false_eq_true,List.nodup_nil,and_true]
     intro e
     exact bk ((gS.row hy hq rfl).inj h hlen (e▸gS.row hz s1 s2))
theorem vW{w:aps}{n size:Nat}{c:List ape}{el:apq}{v:ape}{L:List (Nat×CO)}(h:Vm.rowAt n size c el v L)(ca:∀p∈L,eL w p.1 p.2)(hl:c.length=n*size):
 ∃q:bN,q.sz=size∧(Live (.cells c el false) q=true→q.aI∈L.map (·.1)∧eL w q.aI (.cells c el q.sh q.dy))∧∀(ρ:Ren) (z:Nat),ρ z=some q→VR ρ (.slice (some ⟨z,0,none⟩) n n) v:=by
 rcases h with⟨rfl,rfl,a,rfl⟩|⟨k,sh,cap,room,rfl,h1,h2,rfl⟩
 ·have:c=[]:=aqf (by rw[hl,Nat.zero_mul])
  subst this
  exact⟨⟨0,0,size,0⟩,rfl,(fun h=>by cases h),fun ρ z _=>.eh _ _⟩
 ·refine⟨⟨k,sh,size,room⟩,rfl,fun _=>⟨by simp,ca _ (aqd.2 rfl)⟩,fun ρ z hz=>?_⟩
  exact .sl z 0 n n cap ⟨k,sh,size,room⟩ hz (.inr ⟨h1,by simpa using h2⟩)
theorem Be{B:Nat→Prop}{w w':aps}{ρ:Ren}{o':List ag}{r:bN}{S:Nat→Prop}{L:List (Nat×CO)}(hL:qc w r.aI S L)(eO:r.sz=5)
 {sc:List (Int×Int)}{A F C:List (Nat×ByteArray)}{eA eF eC:List apM}{LA LM LC L1:List (Nat×CO)}{x1 x2:Nat×CO}(da:L=x1::x2::(L1++(LA++(LM++LC))))(hA:fv A eA LA)(hC:fv C eC LC)
 (h:WR av9 B w ρ (cm o') w')(hlen:o'.length≤262144)(h0:ρ 0=some r)(hid:∀k,k∈LA.map (·.1)∨k∈LC.map (·.1)→B k∧w'.heap[k]?=w.heap[k]?){made:Nat}{calls raw:Int}
 (o0:o'[0]?=some (.cells [.slice (some ⟨2,0,none⟩) sc.length sc.length,.map (some 3),.int .i64 made,.int .i64 calls,.int .i64 raw] 80 false))
 (o2:o'[2]?=some (.cells (aD sc) 77 false))(pv:(aD sc).all af=true)(Gs:(aD sc).length=sc.length*2)
 (o3:o'[3]?=some (.map (bS eA++(eF++bS eC)) made)){K:List Nat}(hF:sd o' K F eF)(X8:K.contains 2=true)(X9:K.contains 3=true):
 ∃S',oq w' r ⟨sc,A++(F++C),made,calls,raw⟩ S'∧∀k,S' k→(k∈LA.map (·.1)∨k∈LC.map (·.1))∨∃y,(y=0∨K.contains y=true)∧gS ρ o' k y:=by
 have m0:=(cx (objs:=o') (x:=0) rfl).trans o0
 have m2:=(cx (objs:=o') (x:=2) rfl).trans o2
 have m3:=(cx (objs:=o') (x:=3) rfl).trans o3
 obtain⟨c',h1,h2⟩:=h.yp m0 h0 rfl
 obtain⟨v,l,rfl,hv,bD⟩:=h1.gI
 obtain⟨vm,l,rfl,Gt,bf⟩:=bD.gI
 obtain⟨q3,se,rfl⟩:=Gt.qg
 have:=LR.plain (by rfl) bf
 subst this
 obtain⟨ue,r1,r2⟩:=Gr h m2 pv Gs pQ (by omega) hv
 obtain⟨es,h3,h4⟩:=h.Ng m3 se
 obtain⟨bA,b',rfl,g1,g2⟩:=dL.Gq h3
 obtain⟨bF,bC,rfl,g3,g4⟩:=dL.Gq g2
 have:=Nl hA g1
 subst this
 have:=Nl hC g4
 subst this
 obtain⟨LF,f1,f2,f3⟩:=X7 h hlen hF g3
 let L':List (Nat×CO):=(r.aI,.cells [v,.map (some q3.aI),.int .i64 made,.int .i64 calls,.int .i64 raw] 80 r.sh r.dy)::(q3.aI,.map (bA++(bF++bC)) made)::(ue++(LA++(LF++LC)))
 have iX:gS ρ o' r.aI 0:=gS.row o0 h0 rfl
 have pR:gS ρ o' q3.aI 3:=⟨_,q3,o3,se,rfl,rfl,rfl⟩
 have lU:∀k∈ue.map (·.1),gS ρ o' k 2:=fun k hk=>by
  rcases r2 with rfl|⟨q,a,b,rfl,c⟩
  ·cases hk
  ·simp only[aqb,atZ,aqd]at hk;subst hk;exact gS.row o2 a b
 have vX:∀k∈LF.map (·.1),∃y,(3<y∧K.contains y=true)∧gS ρ o' k y:=fun k hk=>by
  obtain⟨p,hp,rfl⟩:=aq0.1 hk
  exact(f2 p hp).2
 have sg:∀k,k∈LA.map (·.1)∨k∈LC.map (·.1)→∀y,gS ρ o' k y→False:=fun k hk y hy=>hy.X6 h hlen (hid k hk).1
 have Gu:=hL.fX
 rw[da]at Gu
 simp only[aqb,aqa,aqB]at Gu
 have kn:=(aqk.1 Gu.2.2).2.1
 obtain⟨nA,mu,dA⟩:=aqk.1 kn
 obtain⟨_,nC,_⟩:=aqk.1 mu
 have Ya:∀a∈LA.map (·.1),∀b∈LC.map (·.1),a≠b:=fun a ha b hb=>dA a ha b (aql _ hb)
 have nd:(L'.map (·.1)).Nodup:=by
  simp only[L',aqb,aqa,aqB,apx,apN,not_or]
  refine⟨⟨?_,?_,?_,?_,?_⟩,⟨?_,?_,?_,?_⟩,?_⟩
  ·intro e;have:=iX.inj h hlen (e▸pR);omega
  ·intro hk;have:=iX.inj h hlen (lU _ hk);omega
  ·intro hk;exact sg _ (.inl hk) 0 iX
  ·intro hk;obtain⟨y,⟨hy,_⟩,kF⟩:=vX _ hk;have:=iX.inj h hlen kF;omega
  ·intro hk;exact sg _ (.inr hk) 0 iX
  ·intro hk;have:=pR.inj h hlen (lU _ hk);omega
  ·intro hk;exact sg _ (.inl hk) 3 pR
  ·intro hk;obtain⟨y,⟨hy,_⟩,kF⟩:=vX _ hk;have:=pR.inj h hlen kF;omega
  ·intro hk;exact sg _ (.inr hk) 3 pR
  ·refine aqk.2 ⟨?_,aqk.2 ⟨nA,aqk.2 ⟨f3,nC,?_⟩,?_⟩,?_⟩
   ·rcases r2 with rfl|⟨q,a,b,rfl,c⟩<;>simp
   ·intro a ha b hb e;subst e;obtain⟨y,_,hy⟩:=vX _ ha;exact sg _ (.inr hb) y hy
   ·intro a ha b hb e
    subst e
    rcases apN.1 hb with hb|hb
    ·obtain⟨y,_,hy⟩:=vX _ hb;exact sg _ (.inl ha) y hy
    ·exact Ya _ ha _ hb rfl
   ·intro a ha b hb e
    subst e
    rcases apN.1 hb with hb|hb
    ·exact sg _ (.inl hb) 2 (lU _ ha)
    ·rcases apN.1 hb with hb|hb
     ·obtain⟨y,⟨hy,_⟩,kF⟩:=vX _ hb;have:=(lU _ ha).inj h hlen kF;omega
     ·exact sg _ (.inr hb) 2 (lU _ ha)
 refine⟨fun k=>k∈L'.map (·.1),⟨L',⟨eO,v,q3.aI,_,ue,LA++(LF++LC),r1,Nk hA (Nk f1 hC),rfl⟩,⟨?_,nd,apC,fun k=>Iff.rfl⟩⟩,?_⟩
 ·intro p hp
  rcases apx.1 hp with rfl|hp
  ·exact h2
  rcases apx.1 hp with rfl|hp
  ·exact h4
  rcases apN.1 hp with hp|hp
  ·rcases r2 with rfl|⟨q,a,b,rfl,c⟩
   ·cases hp
   ·rw[aqd]at hp;subst hp;exact c
  have old:∀p∈LA++LC,eL w' p.1 p.2:=fun p hp=>by
   refine(hL.at_ p ?_).frame (hid p.1 ?_).2
   ·rw[da]
    refine apB _ (apB _ (aql _ ?_))
    rcases apN.1 hp with hp|hp
    ·exact aqH _ hp
    ·exact aql _ (aql _ hp)
   ·rcases apN.1 hp with hp|hp
    ·exact .inl (arn hp)
    ·exact .inr (arn hp)
  rcases apN.1 hp with hp|hp
  ·exact old p (aqH _ hp)
  rcases apN.1 hp with hp|hp
  ·exact(f2 p hp).1
  ·exact old p (aql _ hp)
 ·intro k hk
  have hk:k∈L'.map (·.1):=hk
  simp only[L',aqb,aqa,apx,apN]at hk
  rcases hk with rfl|rfl|hk|hk|hk|hk
  ·exact .inr ⟨0,.inl rfl,iX⟩
  ·exact .inr ⟨3,.inr X9,pR⟩
  ·exact .inr ⟨2,.inr X8,lU k hk⟩
  ·exact .inl (.inl hk)
  ·obtain⟨y,hy,kF⟩:=vX k hk;exact .inr ⟨y,.inr hy.2,kF⟩
  ·exact .inl (.inr hk)
theorem Yb{B:Nat→Prop}{w₀ w':aps}{ρ:Ren}{o':List ag}{sc:List (Int×Int)}(h:WR av9 B w₀ ρ (cm o') w')(hlen:o'.length≤262144)
 (o1:o'[1]?=some (.cells [.slice (some ⟨2,0,none⟩) sc.length sc.length,.map (some 3),.int .i64 0,.int .i64 0,.int .i64 0] 80 false))
 (o2:o'[2]?=some (.cells (aD sc) 77 false))(pv:(aD sc).all af=true)(Gs:(aD sc).length=sc.length*2)(o3:o'[3]?=some (.map [] 0)):
 ∃r S,ρ 1=some r∧oq w' r ⟨sc,[],0,0,0⟩ S∧∀k,S k→∃y,(y=1∨y=2∨y=3)∧gS ρ o' k y:=by
 have m1:=(cx (objs:=o') (x:=1) rfl).trans o1
 have m2:=(cx (objs:=o') (x:=2) rfl).trans o2
 have m3:=(cx (objs:=o') (x:=3) rfl).trans o3
 obtain⟨r,hr⟩:=h.named 1 _ m1 (by intro e;cases e)
 obtain⟨c',h1,h2⟩:=h.yp m1 hr rfl
 obtain⟨oo,_,Yc,_⟩:=h.live 1 _ r m1 hr rfl
 have cf:r.sz=5:=Yc.xv _ yu
 obtain⟨v,l,rfl,hv,bD⟩:=h1.gI
 obtain⟨vm,l,rfl,Gt,bf⟩:=bD.gI
 obtain⟨q3,se,rfl⟩:=Gt.qg
 have:=LR.plain (by rfl) bf
 subst this
 obtain⟨ue,r1,r2⟩:=Gr h m2 pv Gs pQ (by omega) hv
 obtain⟨es,h3,h4⟩:=h.Ng m3 se
 cases h3
 let L':List (Nat×CO):=(r.aI,.cells [v,.map (some q3.aI),.int .i64 0,.int .i64 0,.int .i64 0] 80 r.sh r.dy)::(q3.aI,.map [] 0)::(ue++[])
 have iX:gS ρ o' r.aI 1:=gS.row o1 hr rfl
 have pR:gS ρ o' q3.aI 3:=⟨_,q3,o3,se,rfl,rfl,rfl⟩
 have lU:∀k∈ue.map (·.1),gS ρ o' k 2:=fun k hk=>by
  rcases r2 with rfl|⟨q,a,b,rfl,c⟩
  ·cases hk
  ·simp only[aqb,atZ,aqd]at hk;subst hk;exact gS.row o2 a b
 have nd:(L'.map (·.1)).Nodup:=by
  simp only[L',aqF,aqb,aqB,apx,not_or]
  refine⟨⟨?_,?_⟩,?_,?_⟩
  ·intro e;have:=iX.inj h hlen (e▸pR);omega
  ·intro hk;have:=iX.inj h hlen (lU _ hk);omega
  ·intro hk;have:=pR.inj h hlen (lU _ hk);omega
  ·rcases r2 with rfl|⟨q,a,b,rfl,c⟩<;>simp
 refine⟨r,fun k=>k∈L'.map (·.1),hr,⟨L',⟨cf,v,q3.aI,[],ue,[],r1,.nil,rfl⟩,⟨?_,nd,apC,fun k=>Iff.rfl⟩⟩,?_⟩
 ·intro p hp
  rcases apx.1 hp with rfl|hp
  ·exact h2
  rcases apx.1 hp with rfl|hp
  ·exact h4
  rw[aqF]at hp
  rcases r2 with rfl|⟨q,a,b,rfl,c⟩
  ·cases hp
  ·rw[aqd]at hp;subst hp;exact c
 ·intro k hk
  have hk:k∈L'.map (·.1):=hk
  simp only[L',aqF,aqb,apx]at hk
  rcases hk with rfl|rfl|hk
  ·exact⟨1,.inl rfl,iX⟩
  ·exact⟨3,.inr (.inr rfl),pR⟩
  ·exact⟨2,.inr (.inl rfl),lU k hk⟩
noncomputable section
noncomputable def si:List apV:=aY (dz av9 95)
abbrev ug:=fun(sc:List (Int×Int)) x0 es (ck nb:Nat) f5 (dm dc dr:Int)=>([ab ([ah 2 (apb sc),.map (some 3),aa dm,aa dc,aa dr]) 80,ab x0 5,ab (aD sc) 77,.map es ck,ab [ah 5 nb] 173,ab f5 5,ab [ao 0] 35]:List ag)
abbrev Yd:=fun(sc:List (Int×Int)) x0 es (ck nb:Nat) f5 (dm dc dr:Int)=>(⟨[(0,ah 2 (apb sc)),(1,.func (.func 96) #[] #[ao 6]),(7,aa (apb sc)),(8,aa 0)],ug sc x0 es ck nb f5 dm dc dr⟩:aj)
theorem Ye(sc:List (Int×Int))(x0 es)(ck nb:Nat)(f5)(dm dc dr:Int){Q:aQ}(aR:aph x0 af=true)(be:aph (aD sc) af=true)(bB:aph (bt [0,1,2,3,4,5,6] es) af=true)(br:aph f5 af=true)(l4:an apP 19 7 (si.drop 2) (Yd sc x0 es ck nb f5 dm dc dr) Q):an apP 19 7 si ⟨[(0,ah 2 (apb sc)),(1,.func (.func 96) #[] #[ao 6])],[ab [ah 2 (apb sc),.map (some 3),aa dm,aa dc,aa dr] 80,ab x0 5,ab (aD sc) 77,.map es ck,ab [ah 5 nb] 173,ab f5 5,ab [ao 0] 35]⟩ Q:=
 aS bo 2 (.leaf [0,1,7,8] [0,1,2,3,4,5,6] [1,2,3,5]) (fun u=>by kernel_rfl) (Tree.aN aR (Tree.aN be (Tree.aN bB (Tree.aN br (Tree.fz (l4))))))
abbrev Nn:=fun(sc:List (Int×Int)) x0 es (ck nb:Nat) f5 (dm dc dr j:Int)=>(⟨[(4,aa j)],ug sc x0 es ck nb f5 dm dc dr⟩:aj)
theorem Yf(sc:List (Int×Int))(x0 es)(ck nb:Nat)(f5)(dm dc dr j:Int){Q:bg}(aR:aph x0 af=true)(be:aph (aD sc) af=true)(cq:aph (bt [0,1,2,3,4,5,6] es) af=true)(br:aph f5 af=true)(hq:Q (.ret (aa j)) (ug sc x0 es ck nb f5 dm dc dr)):aF apP 95 19 7 Q .ret (Nn sc x0 es ck nb f5 dm dc dr j):=aF.ret (vs:=[aa j]) (l:=[]) (bs:=[0,1,2,3,4,5,6]) (pl:=[1,2,3,5]) (q:=[x0,aD sc,bt [0,1,2,3,4,5,6] es,f5]) (fun u=>by kernel_rfl) (by kernel_rfl) (aC aR (aC be (aC cq (aC br bc)))) hq
abbrev No:=fun(sc:List (Int×Int)) x0 es (ck nb:Nat) f5 (dm dc dr j:Int)=>(⟨[(0,ah 2 (apb sc)),(1,.func (.func 96) #[] #[ao 6]),(7,aa (apb sc)),(8,.int .i64 (apc apr (j+1)))],ug sc x0 es ck nb f5 dm dc dr⟩:aj)
abbrev Yg:=fun(sc:List (Int×Int)) x0 es (ck nb:Nat) f5 (dm dc dr j:Int)=>(⟨[],ug sc x0 es ck nb f5 dm dc dr⟩:aj)
theorem Yh(sc:List (Int×Int))(x0 es)(ck nb:Nat)(f5)(dm dc dr j:Int)(h0:0≤j){Q:aQ}(n0:(decide (j<(↑(apb sc):Int)))=true→(apG (0+apd j*2+2) (apb (aD sc)))=true)(n1:(decide (j<(↑(apb sc):Int)))=true→(cA apr (aD sc) (0+apd j*2))=true)(n2:(decide (j<(↑(apb sc):Int)))=true→(cA apr (aD sc) (0+apd j*2+1))=true)(aR:aph x0 af=true)(be:aph (aD sc) af=true)(bB:aph (bt [0,1,2,3,4,5,6] es) af=true)(br:aph f5 af=true)(l7:(decide (j<(↑(apb sc):Int)))=true→(av (aD sc) (0+apd j*2)==dc)=true→Q .ret (Nn sc x0 es ck nb f5 dm dc dr j))(l8:(decide (j<(↑(apb sc):Int)))=true→(av (aD sc) (0+apd j*2)==dc)=false→Q .normal (No sc x0 es ck nb f5 dm dc dr j))(l9:(decide (j<(↑(apb sc):Int)))=false→Q (.exit 0) (Yg sc x0 es ck nb f5 dm dc dr j)):an apP 19 7 (aY (inner (aY (inner (si.drop 2))))) ⟨[(0,ah 2 (apb sc)),(1,.func (.func 96) #[] #[ao 6]),(7,aa (apb sc)),(8,aa j)],[ab [ah 2 (apb sc),.map (some 3),aa dm,aa dc,aa dr] 80,ab x0 5,ab (aD sc) 77,.map es ck,ab [ah 5 nb] 173,ab f5 5,ab [ao 0] 35]⟩ Q:=
 aS bo 1000 (.fork 0 (aA [0,1,1,0,1,1,1] (.fork 4 (.leaf [4] [0,1,2,3,4,5,6] [1,2,3,5]) (.leaf [0,1,7,8] [0,1,2,3,4,5,6] [1,2,3,5]))) (.leaf [] [0,1,2,3,4,5,6] [1,2,3,5])) (fun u=>by kernel_rfl) (Tree.dj (c:=decide (j<(↑(apb sc):Int))) (fun h0=>(Tree.aN (decide_eq_true (by omega):(decide (0≤j))=true) (Tree.aN (show(apy (apd j) (apb sc))=true by simp at h0 h0⊢ <;>omega) (Tree.aN (n0 h0) (Tree.aN (n1 h0) (Tree.aN (n2 h0) (Tree.dj (c:=av (aD sc) (0+apd j*2)==dc) (fun h1=>(Tree.aN aR (Tree.aN be (Tree.aN bB (Tree.aN br (Tree.dB (l7 h0 h1))))))) (fun h1=>(Tree.aN aR (Tree.aN be (Tree.aN bB (Tree.aN br (Tree.fz (an.done (by kernel_rfl) (l8 h0 h1))))))))))))))) (fun h0=>(Tree.aN aR (Tree.aN be (Tree.aN bB (Tree.aN br (Tree.fH 0 (l9 h0))))))))
abbrev Np:=fun(sc:List (Int×Int)) x0 es (ck nb:Nat) f5 (dm dc dr:Int)=>(⟨[(4,aa (-1))],ug sc x0 es ck nb f5 dm dc dr⟩:aj)
theorem Yi(sc:List (Int×Int))(x0 es)(ck nb:Nat)(f5)(dm dc dr:Int){Q:bg}(aR:aph x0 af=true)(be:aph (aD sc) af=true)(cq:aph (bt [0,1,2,3,4,5,6] es) af=true)(br:aph f5 af=true)(hq:Q (.ret (aa (-1))) (ug sc x0 es ck nb f5 dm dc dr)):aF apP 95 19 7 Q .ret (Np sc x0 es ck nb f5 dm dc dr):=aF.ret (vs:=[aa (-1)]) (l:=[]) (bs:=[0,1,2,3,4,5,6]) (pl:=[1,2,3,5]) (q:=[x0,aD sc,bt [0,1,2,3,4,5,6] es,f5]) (fun u=>by kernel_rfl) (by kernel_rfl) (aC aR (aC be (aC cq (aC br bc)))) hq
theorem Yj(sc:List (Int×Int))(x0 es)(ck nb:Nat)(f5)(dm dc dr:Int){Q:aQ}(aR:aph x0 af=true)(be:aph (aD sc) af=true)(bB:aph (bt [0,1,2,3,4,5,6] es) af=true)(br:aph f5 af=true)(l4:Q .ret (Np sc x0 es ck nb f5 dm dc dr)):an apP 19 7 (si.drop 3) ⟨[],[ab [ah 2 (apb sc),.map (some 3),aa dm,aa dc,aa dr] 80,ab x0 5,ab (aD sc) 77,.map es ck,ab [ah 5 nb] 173,ab f5 5,ab [ao 0] 35]⟩ Q:=
 aS bo 1000 (.leaf [4] [0,1,2,3,4,5,6] [1,2,3,5]) (fun u=>by kernel_rfl) (Tree.aN aR (Tree.aN be (Tree.aN bB (Tree.aN br (Tree.dB (l4))))))
abbrev uh:=fun(sc:List (Int×Int)) x0 es (ck:Nat) f5 (dm dc dr:Int)=>([ab ([ah 2 (apb sc),.map (some 3),aa dm,aa dc,aa dr]) 80,ab x0 5,ab (aD sc) 77,.map es ck,ab [] 173,ab f5 5,ab [ao 0] 35]:List ag)
abbrev Yk:=fun(sc:List (Int×Int)) x0 es (ck nb:Nat) f5 (dm dc dr:Int)=>(⟨[(0,ah 2 (apb sc)),(1,.func (.func 96) #[] #[ao 6]),(7,aa (apb sc)),(8,aa 0)],uh sc x0 es ck f5 dm dc dr⟩:aj)
theorem Yl(sc:List (Int×Int))(x0 es)(ck nb:Nat)(f5)(dm dc dr:Int){Q:aQ}(aR:aph x0 af=true)(be:aph (aD sc) af=true)(bB:aph (bt [0,1,2,3,4,5,6] es) af=true)(br:aph f5 af=true)(l4:an apP 19 7 (si.drop 2) (Yk sc x0 es ck nb f5 dm dc dr) Q):an apP 19 7 si ⟨[(0,ah 2 (apb sc)),(1,.func (.func 96) #[] #[ao 6])],[ab [ah 2 (apb sc),.map (some 3),aa dm,aa dc,aa dr] 80,ab x0 5,ab (aD sc) 77,.map es ck,ab [] 173,ab f5 5,ab [ao 0] 35]⟩ Q:=
 aS bo 2 (.leaf [0,1,7,8] [0,1,2,3,4,5,6] [1,2,3,5]) (fun u=>by kernel_rfl) (Tree.aN aR (Tree.aN be (Tree.aN bB (Tree.aN br (Tree.fz (l4))))))
abbrev Nq:=fun(sc:List (Int×Int)) x0 es (ck nb:Nat) f5 (dm dc dr j:Int)=>(⟨[(4,aa j)],uh sc x0 es ck f5 dm dc dr⟩:aj)
theorem Ym(sc:List (Int×Int))(x0 es)(ck nb:Nat)(f5)(dm dc dr j:Int){Q:bg}(aR:aph x0 af=true)(be:aph (aD sc) af=true)(cq:aph (bt [0,1,2,3,4,5,6] es) af=true)(br:aph f5 af=true)(hq:Q (.ret (aa j)) (uh sc x0 es ck f5 dm dc dr)):aF apP 95 19 7 Q .ret (Nq sc x0 es ck nb f5 dm dc dr j):=aF.ret (vs:=[aa j]) (l:=[]) (bs:=[0,1,2,3,4,5,6]) (pl:=[1,2,3,5]) (q:=[x0,aD sc,bt [0,1,2,3,4,5,6] es,f5]) (fun u=>by kernel_rfl) (by kernel_rfl) (aC aR (aC be (aC cq (aC br bc)))) hq
abbrev Nr:=fun(sc:List (Int×Int)) x0 es (ck nb:Nat) f5 (dm dc dr j:Int)=>(⟨[(0,ah 2 (apb sc)),(1,.func (.func 96) #[] #[ao 6]),(7,aa (apb sc)),(8,.int .i64 (apc apr (j+1)))],uh sc x0 es ck f5 dm dc dr⟩:aj)
abbrev Yn:=fun(sc:List (Int×Int)) x0 es (ck nb:Nat) f5 (dm dc dr j:Int)=>(⟨[],uh sc x0 es ck f5 dm dc dr⟩:aj)
theorem Yo(sc:List (Int×Int))(x0 es)(ck nb:Nat)(f5)(dm dc dr j:Int)(h0:0≤j){Q:aQ}(n0:(decide (j<(↑(apb sc):Int)))=true→(apG (0+apd j*2+2) (apb (aD sc)))=true)(n1:(decide (j<(↑(apb sc):Int)))=true→(cA apr (aD sc) (0+apd j*2))=true)(n2:(decide (j<(↑(apb sc):Int)))=true→(cA apr (aD sc) (0+apd j*2+1))=true)(aR:aph x0 af=true)(be:aph (aD sc) af=true)(bB:aph (bt [0,1,2,3,4,5,6] es) af=true)(br:aph f5 af=true)(l7:(decide (j<(↑(apb sc):Int)))=true→(av (aD sc) (0+apd j*2)==dc)=true→Q .ret (Nq sc x0 es ck nb f5 dm dc dr j))(l8:(decide (j<(↑(apb sc):Int)))=true→(av (aD sc) (0+apd j*2)==dc)=false→Q .normal (Nr sc x0 es ck nb f5 dm dc dr j))(l9:(decide (j<(↑(apb sc):Int)))=false→Q (.exit 0) (Yn sc x0 es ck nb f5 dm dc dr j)):an apP 19 7 (aY (inner (aY (inner (si.drop 2))))) ⟨[(0,ah 2 (apb sc)),(1,.func (.func 96) #[] #[ao 6]),(7,aa (apb sc)),(8,aa j)],[ab [ah 2 (apb sc),.map (some 3),aa dm,aa dc,aa dr] 80,ab x0 5,ab (aD sc) 77,.map es ck,ab [] 173,ab f5 5,ab [ao 0] 35]⟩ Q:=
 aS bo 1000 (.fork 0 (aA [0,1,1,0,1,1,1] (.fork 4 (.leaf [4] [0,1,2,3,4,5,6] [1,2,3,5]) (.leaf [0,1,7,8] [0,1,2,3,4,5,6] [1,2,3,5]))) (.leaf [] [0,1,2,3,4,5,6] [1,2,3,5])) (fun u=>by kernel_rfl) (Tree.dj (c:=decide (j<(↑(apb sc):Int))) (fun h0=>(Tree.aN (decide_eq_true (by omega):(decide (0≤j))=true) (Tree.aN (show(apy (apd j) (apb sc))=true by simp at h0 h0⊢ <;>omega) (Tree.aN (n0 h0) (Tree.aN (n1 h0) (Tree.aN (n2 h0) (Tree.dj (c:=av (aD sc) (0+apd j*2)==dc) (fun h1=>(Tree.aN aR (Tree.aN be (Tree.aN bB (Tree.aN br (Tree.dB (l7 h0 h1))))))) (fun h1=>(Tree.aN aR (Tree.aN be (Tree.aN bB (Tree.aN br (Tree.fz (an.done (by kernel_rfl) (l8 h0 h1))))))))))))))) (fun h0=>(Tree.aN aR (Tree.aN be (Tree.aN bB (Tree.aN br (Tree.fH 0 (l9 h0))))))))
abbrev Ns:=fun(sc:List (Int×Int)) x0 es (ck nb:Nat) f5 (dm dc dr:Int)=>(⟨[(4,aa (-1))],uh sc x0 es ck f5 dm dc dr⟩:aj)
theorem Yp(sc:List (Int×Int))(x0 es)(ck nb:Nat)(f5)(dm dc dr:Int){Q:bg}(aR:aph x0 af=true)(be:aph (aD sc) af=true)(cq:aph (bt [0,1,2,3,4,5,6] es) af=true)(br:aph f5 af=true)(hq:Q (.ret (aa (-1))) (uh sc x0 es ck f5 dm dc dr)):aF apP 95 19 7 Q .ret (Ns sc x0 es ck nb f5 dm dc dr):=aF.ret (vs:=[aa (-1)]) (l:=[]) (bs:=[0,1,2,3,4,5,6]) (pl:=[1,2,3,5]) (q:=[x0,aD sc,bt [0,1,2,3,4,5,6] es,f5]) (fun u=>by kernel_rfl) (by kernel_rfl) (aC aR (aC be (aC cq (aC br bc)))) hq
theorem Yq(sc:List (Int×Int))(x0 es)(ck nb:Nat)(f5)(dm dc dr:Int){Q:aQ}(aR:aph x0 af=true)(be:aph (aD sc) af=true)(bB:aph (bt [0,1,2,3,4,5,6] es) af=true)(br:aph f5 af=true)(l4:Q .ret (Ns sc x0 es ck nb f5 dm dc dr)):an apP 19 7 (si.drop 3) ⟨[],[ab [ah 2 (apb sc),.map (some 3),aa dm,aa dc,aa dr] 80,ab x0 5,ab (aD sc) 77,.map es ck,ab [] 173,ab f5 5,ab [ao 0] 35]⟩ Q:=
 aS bo 1000 (.leaf [4] [0,1,2,3,4,5,6] [1,2,3,5]) (fun u=>by kernel_rfl) (Tree.aN aR (Tree.aN be (Tree.aN bB (Tree.aN br (Tree.dB (l4))))))
end
end Go.Proofs.YtnlkkgpcikkpoaaGreat
