/- Part of the proof: Vd, Abs, Shut0, Call0, Dkh, Dki, Dka, Dkb, Dkj, Srp, Soa, Srt, Sru, Sod, Srv, Sob, Srw, Soc, Srx, Soe, Sry, Sof, Srz, Sog, Sr1, Soh, Sr2, Sr3, Sop, Sr6, Sr4, Sou, Sos. -/
import Derived.Test.YtnlkkgpcikkpoaaGreatJAc
import Derived.LoopNIn
import Derived.RangeFuncNested
import Derived.RangeFuncCalls
import Derived.RangeFuncLeaves
import Derived.Test.YtnlkkgpcikkpoaaGreatChecked
import Derived.KernelRfl
import Derived.Test.YtnlkkgpcikkpoaaGreatJAb
import Derived.Sort.Defs
import Derived.Sort.LotC
import Derived.Sort.LotA
import Derived.Sort.LotD5
import Derived.Sort.LotD4
import Derived.Sort.LotD3
import Derived.Sort.AssemblyPlain
import Derived.Sort.Walk13a
open Array renaming getD_eq_getD_getElem?→apx,getElem?_eq_some_iff→apQ,getElem?_setIfInBounds_ne→aqp,getElem?_setIfInBounds_self→aqu,getElem?_toList→aqA,size_setIfInBounds→ari
open BitVec renaming ofInt→ap7,toNat→aqQ
open Bool renaming and_eq_true→ao3,not_eq_true'→aqX
open Classical renaming propDecidable→apj
open Go renaming Code→apw,Exit→arc,FuncId→apr,MapEntry→apl,Program→ao7,TypeId→ao1,Value→aoP,World→ao4,wpIn_mono→atg
open Go.IntKind renaming i64→ao2,u64→apF,u8→apb,wrap→aoN
open Go.MapEntry renaming mk→aqf
open Go.Op renaming equal→arJ,equalIn→arR,maxDepth→avg
open Go.Proofs.Tryz renaming prog→aoL,prog→apq
open Go.Region renaming wanted→aqt
open Go.Result renaming andThen_ok→aoQ
open Go.Sem renaming run→arl,run_bind→aoR
open Go.Sort renaming bitsLen→au4,heapBuild→auJ,heapPop→au3,insInner→auQ,partEqLoop→auB,partLoop→auS,pdq→avy,siftDown→auR
open Go.Value renaming bool→apV,int→aoW,oneCell'→apR,pointer→apZ
open Int renaming fdiv→aqi,le_refl→atF,toNat→aoO
open List renaming all→aoS,all_eq_true→aps,any_eq_false→arB,append_assoc→api,append_nil→aqm,eq_nil_of_length_eq_zero→apL,findIdx?_eq_none_iff→atm,findIdx?_eq_some_iff_getElem→asu,foldl_cons→aqS,getElem?_append_left→apH,getElem?_append_right→apz,getElem?_cons_zero→apE,getElem?_drop→aqb,getElem?_eq_getElem→aoV,getElem?_eq_none→ap3,getElem?_eq_none_iff→aqE,getElem?_eq_some_iff→ao0,getElem?_map→aqk,getElem?_mapIdx→atV,getElem?_of_mem→aqg,getElem?_set_ne→arE,getElem?_set_self→arn,getElem?_take→ap9,getElem?_toArray→atO,isEmpty_iff→aqJ,length→aoM,length_append→ao5,length_cons→apC,length_drop→ap0,length_map→aqT,length_mapIdx→at9,length_set→aql,length_take→apI,map_append→apK,map_cons→apM,map_nil→att,mem_append→apo,mem_append_left→aqh,mem_append_right→apW,mem_cons→ao8,mem_cons_of_mem→apc,mem_cons_self→ape,mem_map→aqv,mem_map_of_mem→aqY,mem_of_getElem?→apy,mem_singleton→apP,nodup_append→apU,nodup_cons→aqa,not_mem_nil→apD,pairwise_iff_getElem→arF,tail_drop→as5,take_append_drop→ap6
open Nat renaming beq→ao6,beq_refl→apY,ble→apf,ble_eq_true_of_le→apu,blt→ao9,eq_of_beq_eq_true→apa,eq_zero_or_pos→ate,le_of_ble_eq_true→apk,le_refl→apn,lt_of_lt_of_le→ard,lt_trans→au5,mul_one→arh,mul_pos→avh
open Option renaming getD_some→aqG
open Option.some renaming inj→asc,injEq→aoU
open Prod.mk renaming injEq→aoX
set_option linter.unusedVariables false
set_option linter.unusedSimpArgs false
set_option maxRecDepth 100000
namespace Go.Proofs.YtnlkkgpcikkpoaaGreat.Vm
open Go.RowKit
inductive Tree where
 |leaf (x:bj) (d:ai)
 |fork (c:Bool) (a b:Tree)
 |cM (c:Bool) (v:Bool) (t:Tree)
def Tree.ok(R:bj→ai→Prop):Tree→Prop
 | .leaf x d=>R x d
 | .fork c a b=>(c=true→a.ok R)∧(c=false→b.ok R)
 | .cM c v t=>c=v∧t.ok R
theorem Tree.AW{R R':bj→ai→Prop}(h:∀x d,R x d→R' x d):∀{T:Tree},T.ok R→T.ok R'
 | .leaf x d,ht=>h x d ht
 | .fork c a b,ht=>⟨fun hc=>AW h (ht.1 hc),fun hc=>AW h (ht.2 hc)⟩
 | .cM c v t,ht=>⟨ht.1,AW h ht.2⟩
inductive ST where
 |leaf (sl bs pl:List Nat)
 |fork (n:Nat) (a b:ST)
 |cM (n:Nat) (v:Bool) (a:ST)
def DT.sym{α:Type}(fin:List Nat→List Nat→List Nat→α→Option Tree):DT α→ST→Option Tree
 | .done a,.leaf sl bs pl=>fin sl bs pl a
 | .ask d k,.fork 0 s1 s2=>match(k true).sym fin s1 with
  |some x=>match(k false).sym fin s2 with
   |some y=>some (.fork d x y)
   |none=>none
  |none=>none
 | .ask d k,.cM 0 v s=>match v with
  |true=>match(k true).sym fin s with
   |some x=>some (.cM d true x)
   |none=>none
  |false=>match(k false).sym fin s with
   |some x=>some (.cM d false x)
   |none=>none
 | .ask d k,.fork (n+1) s1 s2=>match d with
  |true=>(k true).sym fin (.fork n s1 s2)
  |false=>(k false).sym fin (.fork n s1 s2)
 | .ask d k,.cM (n+1) v s=>match d with
  |true=>(k true).sym fin (.cM n v s)
  |false=>(k false).sym fin (.cM n v s)
 | .ask d k,.leaf sl bs pl=>match d with
  |true=>(k true).sym fin (.leaf sl bs pl)
  |false=>(k false).sym fin (.leaf sl bs pl)
 | .fC p x y,.cM 0 v s=>match v with
  |true=>x.sym fin s
  |false=>y.sym fin s
 | .fC p x y,.cM (n+1) v s=>match p with
  |true=>x.sym fin (.cM n v s)
  |false=>y.sym fin (.cM n v s)
 | .fC p x y,.fork (n+1) s1 s2=>match p with
  |true=>x.sym fin (.fork n s1 s2)
  |false=>y.sym fin (.fork n s1 s2)
 | .fC p x y,.leaf sl bs pl=>match p with
  |true=>x.sym fin (.leaf sl bs pl)
  |false=>y.sym fin (.leaf sl bs pl)
 |_,_=>none
theorem DT.MF{α:Type}{fin:List Nat→List Nat→List Nat→α→Option Tree}{R:bj→ai→Prop}:∀{x:DT α} {s:ST} {T:Tree},x.sym fin s=some T→T.ok R→∃a sl bs pl T',x.Has a∧fin sl bs pl a=some T'∧T'.ok R:=by
 intro x
 induction x with
 |done a=>
  intro s T h ht
  cases s with
  |leaf sl bs pl=>exact⟨a,sl,bs,pl,T,.done a,h,ht⟩
  |fork n _ _=>cases n<;>cases h
  |cM n _ _=>cases n<;>cases h
 |fail=>
  intro s T h ht
  unfold DT.sym at h
  cases s with
  |leaf=>cases h
  |fork n _ _=>cases n<;>cases h
  |cM n _ _=>cases n<;>cases h
 |ask d k ih=>
  intro s T h ht
  cases s with
  |leaf sl bs pl=>
   unfold DT.sym at h
   cases d with
   |true=>obtain⟨a,sl,bs,pl,T',h1,h2⟩:=ih true h ht;exact⟨a,sl,bs,pl,T',.ask _ _ _ h1,h2⟩
   |false=>obtain⟨a,sl,bs,pl,T',h1,h2⟩:=ih false h ht;exact⟨a,sl,bs,pl,T',.ask _ _ _ h1,h2⟩
  |fork n s1 s2=>
   cases n with
   |zero=>
    unfold DT.sym at h
    split at h
    ·rename_i x hx
     split at h
     ·rename_i y hy
      cases h
      cases d with
      |true=>obtain⟨a,sl,bs,pl,T',h1,h2⟩:=ih true hx (ht.1 rfl);exact⟨a,sl,bs,pl,T',.ask _ _ _ h1,h2⟩
      |false=>obtain⟨a,sl,bs,pl,T',h1,h2⟩:=ih false hy (ht.2 rfl);exact⟨a,sl,bs,pl,T',.ask _ _ _ h1,h2⟩
     ·cases h
    ·cases h
   |succ n=>
    unfold DT.sym at h
    cases d with
    |true=>obtain⟨a,sl,bs,pl,T',h1,h2⟩:=ih true h ht;exact⟨a,sl,bs,pl,T',.ask _ _ _ h1,h2⟩
    |false=>obtain⟨a,sl,bs,pl,T',h1,h2⟩:=ih false h ht;exact⟨a,sl,bs,pl,T',.ask _ _ _ h1,h2⟩
  |cM n v s=>
   cases n with
   |zero=>
    unfold DT.sym at h
    cases v with
    |true=>
     dsimp only at h
     split at h
     ·rename_i x hx
      cases h
      obtain⟨e,ht⟩:=ht
      subst e
      obtain⟨a,sl,bs,pl,T',h1,h2⟩:=ih true hx ht
      exact⟨a,sl,bs,pl,T',.ask _ _ _ h1,h2⟩
     ·cases h
    |false=>
     dsimp only at h
     split at h
     ·rename_i x hx
      cases h
      obtain⟨e,ht⟩:=ht
      subst e
      obtain⟨a,sl,bs,pl,T',h1,h2⟩:=ih false hx ht
      exact⟨a,sl,bs,pl,T',.ask _ _ _ h1,h2⟩
     ·cases h
   |succ n=>
    unfold DT.sym at h
    cases d with
    |true=>obtain⟨a,sl,bs,pl,T',h1,h2⟩:=ih true h ht;exact⟨a,sl,bs,pl,T',.ask _ _ _ h1,h2⟩
    |false=>obtain⟨a,sl,bs,pl,T',h1,h2⟩:=ih false h ht;exact⟨a,sl,bs,pl,T',.ask _ _ _ h1,h2⟩
 |fC p x y qD qE=>
  intro s T h ht
  have L:∀{s},x.sym fin s=some T→∃a sl bs pl T',(DT.fC p x y).Has a∧fin sl bs pl a=some T'∧T'.ok R:=fun h=>by
   obtain⟨a,sl,bs,pl,T',h1,h2⟩:=qD h ht;exact⟨a,sl,bs,pl,T',.left _ _ _ _ h1,h2⟩
  have M:∀{s},y.sym fin s=some T→∃a sl bs pl T',(DT.fC p x y).Has a∧fin sl bs pl a=some T'∧T'.ok R:=fun h=>by
   obtain⟨a,sl,bs,pl,T',h1,h2⟩:=qE h ht;exact⟨a,sl,bs,pl,T',.right _ _ _ _ h1,h2⟩
  cases s with
  |leaf sl bs pl=>
   unfold DT.sym at h
   cases p with
   |true=>exact L h
   |false=>exact M h
  |fork n s1 s2=>
   cases n with
   |zero=>unfold DT.sym at h;cases h
   |succ n=>
    unfold DT.sym at h
    cases p with
    |true=>exact L h
    |false=>exact M h
  |cM n v s=>
   cases n with
   |zero=>
    unfold DT.sym at h
    cases v with
    |true=>exact L h
    |false=>exact M h
   |succ n=>
    unfold DT.sym at h
    cases p with
    |true=>exact L h
    |false=>exact M h
def pN(pl:List Nat)(τ:Nat→Option Nat):List (Nat×ak)→Option (List ak×List (List aoP))
 | []=>some ([],[])
 |(b,o)::l=>match pN pl τ l with
  |none=>none
  |some (r,q)=>match o with
   | .cells c el ro=>match pl.any (ao6 b)with
    |true=>some (.cells c el ro::r,c::q)
    |false=>match mA (ic τ 6) c with
     |some c'=>some (.cells c' el ro::r,q)
     |none=>none
   | .map es clock=>match pl.any (ao6 b)with
    |true=>some (.map es clock::r,es.map (ed τ)::q)
    |false=>match rN τ es with
     |some cW=>some (.map cW clock::r,q)
     |none=>none
   | .kU s p=>some (.kU s p::r,q)
   | .rows n s f=>some (.rows n s f::r,q)
   | .abs d=>some (.abs d::r,q)
   | .dead=>some (.dead::r,q)
def FJ:List (List aoP)→Tree→Tree
 | [],t=>t
 |c::l,t=>.cM (c.all ag) true (FJ l t)
theorem FK{R:bj→ai→Prop}{t:Tree}:∀{l:List (List aoP)},(FJ l t).ok R→(∀c∈l,c.all ag=true)∧t.ok R
 | [],h=>⟨fun c hc=>(by cases hc),h⟩
 |c::l,h=>by
  obtain⟨h1,h2⟩:=h
  obtain⟨h3,h4⟩:=FK h2
  exact⟨fun x hx=>by
   rcases ao8.1 hx with rfl|hx
   ·exact h1
   ·exact h3 x hx,h4⟩
theorem nS{pl:List Nat}{τ:Nat→Option Nat}:∀{l:List (Nat×ak)} {l':List ak} {q:List (List aoP)},pN pl τ l=some (l',q)→(∀c∈q,c.all ag=true)→dQ (ON τ) (l.map (·.2)) l'
 | [],l',q,h,_=>by cases h;exact .nil
 |(b,o)::l,l',q,h,hq=>by
  unfold pN at h
  split at h
  ·cases h
  ·rename_i r q' hr
   split at h
   ·split at h
    ·cases h
     exact .cons (.plain _ _ _ (hq _ ape)) (nS hr fun c hc=>hq c (apc _ hc))
    ·split at h
     ·rename_i hc
      cases h
      exact .cons (.cells _ _ _ _ hc) (nS hr hq)
     ·cases h
   ·split at h
    ·cases h
     exact .cons (.map _ _ _ (Fi (hq _ ape))) (nS hr fun c hc=>hq c (apc _ hc))
    ·split at h
     ·rename_i he
      cases h
      exact .cons (.map _ _ _ he) (nS hr hq)
     ·cases h
   ·cases h;exact .cons (.kU _ _) (nS hr hq)
   ·cases h;exact .cons (.rows _ _ _) (nS hr hq)
   ·cases h;exact .cons (.abs _) (nS hr hq)
   ·cases h;exact .cons (.dead _) (nS hr hq)
def vF(n k:Nat)(sl bs pl:List Nat):bj×Fr×VS→Option Tree
 |(x,t,S)=>match pD bs S with
  |none=>none
  |some bl=>match vt (eX bs) sl (sl.map t.at),pN pl (eX bs) bl with
   |some d,some (objs,q)=>match tH k bs 0&&iG bs&&sl.all (fun i=>ao9 i n)&&apf bs.length 262144&&Xc x&&ao6 t.n n&&(t.ds.isEmpty&&t.base.isEmpty)with
    |true=>some (FJ q (.leaf x ⟨d,objs⟩))
    |false=>none
   |_,_=>none
theorem FL:∀{bs:List Nat} {S:VS} {r:List (Nat×ak)},pD bs S=some r→r.map (·.1)=bs
 | [],S,r,h=>by simp only[pD,aoU]at h;subst h;rfl
 |x::l,S,r,h=>by
  unfold pD at h
  split at h
  ·rename_i o r' h1 h2
   simp only[aoU]at h
   subst h
   simp[FL h2]
  ·cases h
theorem an.tree{P:ao7}(hP:iz P=true)(fx:P.follows .mixedOrders=true){cO:fD}(hc:dk P cO){lf n k m:Nat}{l:List apw}{d:ai}{s:ST}{T:Tree}
 (h:∀u,(tK P cO lf (l.take m) (eJ n u d.sl) (k9 d.objs)).sym (vF n k) s=some T){Q:bj→ai→Prop}
 (hT:T.ok (fun x d'=>match x with
  | .normal=>an P n k (l.drop m) d' Q
  |x=>Q x d')):an P n k l d Q:=by
 intro X hn hk a w hd
 have py:=hd
 obtain⟨ρ,u,M,hd⟩:=hd
 obtain⟨p,sl,bs,pl,T',h1,h2,h3⟩:=DT.MF (h u) hT
 obtain⟨x,t1,S1⟩:=p
 dsimp only[vF]at h2
 cases lK:pD bs S1 with
 |none=>rw[lK]at h2;cases h2
 |some bl=>
  rw[lK]at h2
  dsimp only at h2
  split at h2
  ·rename_i dl objs q hs hr
   split at h2
   ·rename_i eh
    cases h2
    obtain⟨hq,qL⟩:=FK h3
    have lg:=FL lK
    have fe:=nS hr hq
    simp only[ao3]at eh
    obtain⟨⟨⟨⟨⟨⟨c1,c2⟩,c3⟩,c4⟩,c5⟩,c6⟩,c7,c8⟩:=eh
    have hlen:objs.length=bs.length:=by rw[←fe.len,←lg];simp
    subst hn hk
    obtain⟨cV,yd,FM⟩:=hc.ex
    have hv:=Fo FM lf h1
    have he:=x8 yd lf hv
    have eE:=he.sm (fun x hx=>by rcases hx with hx|hx<;>cases hx)
    have m5:fI (k9 d.objs) S1 (cw d.objs):=fun x hx=>by rw[cD (eE x hx),x5 hd.bW]
    rw[←ap6 m l]
    have oP:=Mk hd.quiet
    refine Fm (Mj hP fx yd lf (Fq (M.map eN) hv) hd.fr (hd.mem.Al oP) m5 fun ρ' e a' w' hle dH cB ye=>?_)
    have cQ:=ye.Am hd.mem.env hd.mem.below hd.mem.size oP
    have hh:Holds P X ⟨dl,objs⟩ a' w':=Holds.Mh (bl:=bl) (t:=t1.dL (M.map eN)) (M:=M) hd.full hle hd.kept cB (apa c6) (aqJ.1 c7) rfl (fun D hD=>(ye.An hD).trans (hd.quiet D hD)) hd.fH hd.outside cQ rfl (fun p hp=>by
     have hg:=Fs lK p hp
     unfold post
     by_cases hx:p.1∈S1.wr
     ·rw[if_pos hx,hg]
     ·rw[if_neg hx,cD (po hg),←x5 hd.bW,←he.frame p.1 hx,hg]) (by rw[lg];exact c1) (by rw[lg];exact c2) (by rw[lg];exact hs) (by rw[lg];exact fe) c3 (apu (by rw[hlen];exact apk c4))
    cases x with
    |normal=>cases dH;exact qL X rfl rfl a' w' hh
    |exit id=>cases dH;exact⟨.exit id,_,qL,.exit id,hh⟩
    |ret=>cases dH;exact⟨.ret,_,qL,.ret,hh⟩
    |panic v=>
     cases dH with
     |panic _ v' hv=>
      have:=mW c5 hv
      subst this
      exact⟨.panic v',_,qL,.panic _ _ (nH c5),hh⟩
   ·cases h2
  ·cases h2
theorem Tree.dn{R:bj→ai→Prop}{c:Bool}{a b:Tree}(h1:c=true→a.ok R)(h2:c=false→b.ok R):(Tree.fork c a b).ok R:=⟨h1,h2⟩
theorem Tree.aW{R:bj→ai→Prop}{c v:Bool}{t:Tree}(h1:c=v)(h2:t.ok R):(Tree.cM c v t).ok R:=⟨h1,h2⟩
theorem Tree.fA{R:bj→ai→Prop}{d:ai}(h:R .normal d):(Tree.leaf .normal d).ok R:=h
theorem Tree.dD{R:bj→ai→Prop}{d:ai}(h:R .ret d):(Tree.leaf .ret d).ok R:=h
theorem Tree.fK{R:bj→ai→Prop}(n:Nat){d:ai}(h:R (.exit n) d):(Tree.leaf (.exit n) d).ok R:=h
theorem Tree.eS{R:bj→ai→Prop}{x:bj}{d:ai}(h:R x d):(Tree.leaf x d).ok R:=h
theorem an.eO{P:ao7}{n k:Nat}{L:List apw}{d:ai}{Q:bj→ai→Prop}(i id:Nat)(hl:Fu (L.drop i)=some id)
 (h:an P n k (bd (inner (L.drop i))) d (QB id (fun d'=>an P n k (L.drop (i+1)) d' Q) Q)):an P n k (L.drop i) d Q:=
 an.block hl (by rw[as5];exact h)
theorem an.vG{P:ao7}{n k:Nat}{L:List apw}{d:ai}{Q:bj→ai→Prop}(i:Nat){c:Nat}{b:Bool}(hl:AF (L.drop i)=some c)(hi:ao9 c n=true)(hv:jx d.sl c=some (.bool b))
 (h:an P n k (bd (pE b (L.drop i))++L.drop (i+1)) d Q):an P n k (L.drop i) d Q:=
 an.cond hl hi hv (by rw[as5];exact h)
def QL{σ:Type}(I:σ→ai)(μ:σ→Nat)(ok:σ→Prop)(s:σ)(Q:bj→ai→Prop):bj→ai→Prop
 | .normal,d=>∃s',ok s'∧μ s'<μ s∧d=I s'
 |x,d=>Q x d
theorem an.fL{P:ao7}{n k:Nat}{l:List apw}{Q:bj→ai→Prop}{σ:Type}(I:σ→ai)(μ:σ→Nat)(ok:σ→Prop)(s₀:σ)(hl:Fv l=true)(h₀:ok s₀)
 (h:∀s,ok s→an P n k (bd (inner l)) (I s) (QL I μ ok s Q)):an P n k l (I s₀) Q:=
 an.loop I μ ok hl (fun s hs=>(h s hs).mono fun x d hx=>by cases x<;>exact hx) s₀ h₀
theorem QL.ret{σ:Type}{I:σ→ai}{μ:σ→Nat}{ok:σ→Prop}{s:σ}{Q:bj→ai→Prop}{d:ai}(h:Q .ret d):QL I μ ok s Q .ret d:=h
theorem QL.exit{σ:Type}{I:σ→ai}{μ:σ→Nat}{ok:σ→Prop}{s:σ}{Q:bj→ai→Prop}{d:ai}{j:Nat}(h:Q (.exit j) d):QL I μ ok s Q (.exit j) d:=h
theorem QL.to{σ:Type}{I:σ→ai}{μ:σ→Nat}{ok:σ→Prop}{s:σ}{Q:bj→ai→Prop}{d:ai}(s':σ)(h:ok s')(hm:μ s'<μ s)(e:d=I s'):QL I μ ok s Q .normal d:=⟨s',h,hm,e⟩
theorem QB.ret{id:Nat}{N:ai→Prop}{Q:bj→ai→Prop}{d:ai}(h:Q .ret d):QB id N Q .ret d:=h
theorem QB.normal{id:Nat}{N:ai→Prop}{Q:bj→ai→Prop}{d:ai}(h:N d):QB id N Q .normal d:=h
theorem QB.cx{id:Nat}{N:ai→Prop}{Q:bj→ai→Prop}{d:ai}(h:N d):QB id N Q (.exit id) d:=by
 unfold QB;dsimp only;rw[apY];exact h
theorem QB.cG{id j:Nat}{N:ai→Prop}{Q:bj→ai→Prop}{d:ai}(hj:ao6 j id=false)(h:Q (.exit j) d):QB id N Q (.exit j) d:=by
 unfold QB;dsimp only;rw[hj];exact h
noncomputable def dW(a args:List aoP)(o objs:List ak):Bool:=@decide (a=args∧o=objs) (apj _)
theorem e8{a args:List aoP}{o objs:List ak}(h1:a=args)(h2:o=objs):dW a args o objs=true:=by
 subst h1 h2
 simp[dW]
theorem kM(a:List aoP)(o:List ak):dW a a o o=true:=e8 rfl rfl
noncomputable def Sum.one(names:List aoP→(Nat→Option ak)→Option (List Nat))(args:List aoP)(objs:List ak)(r:bO)(out:List ak):Sum where
 names:=names
 spec a o:=.tL (dW a args o objs) (.done (r,out))
theorem bB.one{P:ao7}{f:apr}{names:List aoP→(Nat→Option ak)→Option (List Nat)}{args:List aoP}{objs:List ak}{r:bO}{out:List ak}(h:aI P f args objs fun r' o'=>r'=r∧o'=out):
 bB P f (Sum.one names args objs r out):=by
 intro a o r' o' hr
 obtain⟨h1,h2⟩:=QT.vz hr
 obtain⟨rfl,rfl⟩:=@of_decide_eq_true _ (apj _) h1
 cases h2
 exact h
def rY:Nat→aoP→List Nat
 |_,.pointer (some ⟨b,_,none⟩)=>[b]
 |_,.slice (some ⟨b,_,none⟩) _ _=>[b]
 |_,.map (some b)=>[b]
 |d+1,.iface _ v=>rY d v
 |d+1,.agg c=>(c.toList.map (rY d)).flatten
 |d+1,.tuple c=>(c.toList.map (rY d)).flatten
 |d+1,.func _ f c=>(f.toList.map (rY d)).flatten++(c.toList.map (rY d)).flatten
 |_,_=>[]
def yf:List Nat→List Nat→List Nat
 | [],_=>[]
 |x::l,seen=>match seen.any (ao6 x)with
  |true=>yf l seen
  |false=>x::yf l (x::seen)
def vH(args:List aoP)(_:Nat→Option ak):Option (List Nat):=some (yf ((args.map (rY 6)).flatten) [])
theorem bB.closed{P:ao7}{f:apr}{v:aoP}(h:aI P f [] [] fun r' o'=>r'=.ret v∧o'=[]):bB P f ⟨vH,fun a o=>match a,o with
 | [],[]=>.done (.ret v,[])
 |_,_=>.fail⟩:=by
 intro a o r' o' hr
 dsimp only at hr
 split at hr
 ·cases hr;exact h
 ·cases hr
theorem WR.Xr{P:ao7}{B:Nat→Prop}{w₀ w:ao4}{ρ:Ren}{m:Nat→Option ak}(gI:Full ρ)(hw:WR P B w₀ ρ m w){bl:List (Nat×ak)}(lK:∀p∈bl,m p.1=some p.2){objs:List ak}{k:Nat}(hk:∀x,x<k→∃r,ρ x=some r)
 (mB:tH k (bl.map (·.1)) 0=true)(dx:iG (bl.map (·.1))=true)(fe:dQ (ON (eX (bl.map (·.1)))) (bl.map (·.2)) objs)(vu:objs.length≤262144):
 ∃ρ2:Ren,Full ρ2∧(∀x,x<k→ρ2 x=ρ x)∧(∀y i r,eX (bl.map (·.1)) y=some i→ρ y=some r→ρ2 i=some r)∧WR P B w₀ ρ2 (cw objs) w:=by
 let σ:List Nat:=bl.map (·.1)
 let ρ2:Ren:=fun x=>match small x with
  |true=>(σ[x]?).bind ρ
  |false=>ρ x
 have eE:∀x,small x=true→ρ2 x=(σ[x]?).bind ρ:=fun x h=>by show(match small x with|true=>_|false=>_)=_;rw[h]
 have la:∀x,small x=false→ρ2 x=ρ x:=fun x h=>by show(match small x with|true=>_|false=>_)=_;rw[h]
 have hlen:bl.length=objs.length:=by have:=fe.len;simpa using this
 have pC:Full ρ2:=fun r=>by
  obtain⟨y,h1,h2⟩:=gI r
  exact⟨y,h1,by rw[la y h1];exact h2⟩
 have tJ:∀i y,σ[i]?=some y→small i=true:=fun i y h=>gT.2 (by
  have:i<σ.length:=(ao0.1 h).1
  have e:σ.length=bl.length:=by simp[σ]
  have:(2:Nat)^18=262144:=rfl
  omega)
 have hσ:∀i y r,σ[i]?=some y→ρ y=some r→ρ2 i=some r:=fun i y r h1 h2=>by rw[eE i (tJ i y h1),h1];exact h2
 have rO:∀y i r,eX σ y=some i→ρ y=some r→ρ2 i=some r:=fun y i r h1 h2=>hσ i y r (AD h1) h2
 refine⟨ρ2,pC,fun x hx=>?_,rO,?_⟩
 ·have:=Fk mB x hx
  rw[Nat.zero_add]at this
  obtain⟨r,hr⟩:=hk x hx
  rw[hσ x x r this hr,hr]
 ·have tm:∀(i:Nat) (o:ak),objs[i]?=some o→∃y ob,σ[i]?=some y∧m y=some ob∧ON (eX σ) ob o:=fun i o hi=>by
   obtain⟨ob,h1,h2⟩:=fe.get hi
   rw[aqk]at h1
   cases hb:bl[i]?with
   |none=>rw[hb]at h1;cases h1
   |some p=>
    rw[hb]at h1
    simp only[Option.map_some,aoU]at h1
    subst h1
    exact⟨p.1,p.2,by simp[σ,hb],lK p (apy hb),h2⟩
  refine hw.Fj (fun x=>match small x with
   |true=>σ[x]?
   |false=>none) (fun x o hx bu=>?_) (fun x y z hx hy=>?_) fun x hx=>?_
  ·cases hs:small x with
   |false=>rw[ie hs]at hx;cases hx;exact absurd rfl bu
   |true=>
    rw[cD hs]at hx
    obtain⟨y,ob,h1,h2,h3⟩:=tm x o hx
    refine⟨y,ob,h1,h2,h3.ne bu,?_,fun r hl=>⟨(h3.live hl).1,(h3.live hl).2,h3.or rO hl⟩,fun n size row e=>?_,fun el ro e=>?_,fun d e=>?_⟩
    ·rw[eE x hs,h1];rfl
    ·subst e;cases h3;rfl
    ·subst e
     cases h3 with
     |plain=>rfl
     |cells c _ _ _ h=>
      cases c with
      |nil=>rfl
      |cons v c=>have:=tG h;simp at this
    ·subst e;cases h3;rfl
  ·have key:∀q,(match small q with|true=>σ[q]? |false=>none)=some z→σ[q]?=some z:=fun q hq=>by
    cases hs:small q with
    |true=>rw[hs]at hq;exact hq
    |false=>rw[hs]at hq;cases hq
   exact tI dx (key x hx) (key y hy)
  ·cases hs:small x with
   |false=>rw[ie hs]at hx;cases hx
   |true=>
    rw[cD hs]at hx
    rw[eE x hs]
    have:σ[x]?=none:=by
     rw[aqE]at hx⊢
     simp[σ]
     omega
    rw[this]
    rfl
def oQ(k:Nat)(bs pl:List Nat)(r:bO)(o:List ak):Option (bO×List ak×List (List aoP)):=match getAll (fun x=>o[x]?) bs with
 |none=>none
 |some ob=>match pN pl (eX bs) (bs.zip ob),qI (eX bs) r,tH k bs 0&&iG bs&&apf bs.length 262144 with
  |some (o',q),some r',true=>some (r',o',q)
  |_,_,_=>none
theorem aI.trim{P:ao7}{f:apr}{args:List aoP}{objs:List ak}{Q Q':bO→List ak→Prop}(h:aI P f args objs Q)
 (ht:∀r o,Q r o→∃bs pl r' o' q,oQ objs.length bs pl r o=some (r',o',q)∧(∀c∈q,c.all ag=true)∧Q' r' o'):aI P f args objs Q':=by
 intro B w₀ ρ w args' h1 h2 h3 h4
 refine(h B w₀ ρ w args' h1 h2 h3 h4).mono fun e w' he=>?_
 obtain⟨r,o,ρ',hq,jf,gI,hw,jb,mB⟩:=he
 obtain⟨bs,pl,r',o',q,t1,t2,t3⟩:=ht r o hq
 unfold oQ at t1
 split at t1
 ·cases t1
 ·rename_i ob fe
  split at t1
  ·rename_i o2 q2 r2 FN eL hc
   simp only[aoU,aoX]at t1
   obtain⟨rfl,rfl,rfl⟩:=t1
   simp only[ao3]at hc
   obtain⟨⟨c1,c2⟩,c3⟩:=hc
   obtain⟨g1,g2⟩:=AM fe
   have e1:(bs.zip ob).map (·.1)=bs:=by rw[List.map_fst_zip (by omega)]
   have MG:=nS FN t2
   have hl:o2.length=bs.length:=by rw[←MG.len];simp;omega
   have eE:∀x∈bs,small x=true:=fun x hx=>by
    obtain⟨i,hi⟩:=aqg hx
    obtain⟨oo,_,h⟩:=g2 i x hi
    have:x<o.length:=(ao0.1 h).1
    exact gT.2 (by have:(2:Nat)^18=262144:=rfl;omega)
   obtain⟨ρ2,k1,k2,k3,k4⟩:=WR.Xr (bl:=bs.zip ob) (objs:=o2) (k:=objs.length) gI hw (fun p hp=>by
    obtain⟨i,hi⟩:=aqg hp
    rw[List.getElem?_zip_eq_some]at hi
    obtain⟨oo,h5,h6⟩:=g2 i p.1 hi.1
    rw[hi.2]at h5
    cases h5
    rw[cD (eE p.1 (apy hi.1))]
    exact h6) (fun x hx=>by rw[mB x hx];exact h2 x hx) (by rw[e1];exact c1) (by rw[e1];exact c2) (by rw[e1];exact MG) (by rw[hl];exact apk c3)
   rw[e1]at k3
   refine⟨r2,o2,ρ2,t3,?_,k1,k4,by rw[hl];exact apk c3,fun x hx=>(k2 x hx).trans (mB x hx)⟩
   unfold qI at eL
   split at eL
   ·rename_i v
    split at eL
    ·rename_i u hu
     cases eL
     cases e with
     |returned v'=>exact qF k3 6 v u v' hu jf
     |panicked chain=>cases jf
     |outgrown=>cases jf
    ·cases eL
   ·rename_i v
    split at eL
    ·rename_i fQ
     cases eL
     cases e with
     |returned v'=>cases jf
     |panicked chain=>
      obtain⟨v',h1,h2⟩:=jf
      have:=mW fQ h2
      subst this
      exact⟨v',h1,nH fQ⟩
     |outgrown=>cases jf
    ·cases eL
  ·cases t1
def aJ(P:ao7)(f:apr)(n k:Nat)(Q:bO→List ak→Prop):bj→ai→Prop
 | .normal,d=>∃vs l,(∀u,(gX P (eJ n u d.sl) (rW P f)).run (gt (k9 d.objs).mem)=some (vs,l))∧∃bs pl r' o' q,oQ k bs pl (.ret (mT vs)) d.objs=some (r',o',q)∧(∀c∈q,c.all ag=true)∧Q r' o'
 | .ret,d=>∃vs l,(∀u,(gX P (eJ n u d.sl) (rW P f)).run (gt (k9 d.objs).mem)=some (vs,l))∧∃bs pl r' o' q,oQ k bs pl (.ret (mT vs)) d.objs=some (r',o',q)∧(∀c∈q,c.all ag=true)∧Q r' o'
 |_,_=>False
theorem aI.cY{P:ao7}{f:apr}{n:Nat}{args:List aoP}{objs:List ak}{Q:bO→List ak→Prop}
 (hf:(((P.funcs[f]?).bind (·.body)).isSome&&ao6 (cp P f) n&&apf args.length n&&apf n 1024&&apf objs.length 262144)=true)
 (h:an P n objs.length (bd (dC P f)) ⟨vx args 0,objs⟩ (aJ P f n objs.length Q)):aI P f args objs Q:=
 aI.trim (Q:=fun r o=>∃bs pl r' o' q,oQ objs.length bs pl r o=some (r',o',q)∧(∀c∈q,c.all ag=true)∧Q r' o')
  (aI.of hf (h.mono fun x d hx=>by cases x<;>first|exact hx|exact hx.elim)) fun r o h=>h
theorem aJ.ret{P:ao7}{f n k:Nat}{Q:bO→List ak→Prop}{d:ai}{vs:List aoP}{l bs pl:List Nat}{r':bO}{o':List ak}{q:List (List aoP)}(h:∀u,(gX P (eJ n u d.sl) (rW P f)).run (gt (k9 d.objs).mem)=some (vs,l))
 (ht:oQ k bs pl (.ret (mT vs)) d.objs=some (r',o',q))(hp:∀c∈q,c.all ag=true)(hq:Q r' o'):aJ P f n k Q .ret d:=⟨vs,l,h,bs,pl,r',o',q,ht,hp,hq⟩
theorem aJ.normal{P:ao7}{f n k:Nat}{Q:bO→List ak→Prop}{d:ai}{vs:List aoP}{l bs pl:List Nat}{r':bO}{o':List ak}{q:List (List aoP)}(h:∀u,(gX P (eJ n u d.sl) (rW P f)).run (gt (k9 d.objs).mem)=some (vs,l))
 (ht:oQ k bs pl (.ret (mT vs)) d.objs=some (r',o',q))(hp:∀c∈q,c.all ag=true)(hq:Q r' o'):aJ P f n k Q .normal d:=⟨vs,l,h,bs,pl,r',o',q,ht,hp,hq⟩
theorem bi:∀c∈([]:List (List aoP)),c.all ag=true:=fun c h=>by cases h
theorem aF{c:List aoP}{q:List (List aoP)}(h:c.all ag=true)(hq:∀c∈q,c.all ag=true):∀x∈c::q,x.all ag=true:=fun x hx=>by
 rcases ao8.1 hx with rfl|hx
 ·exact h
 ·exact hq x hx
attribute [simp] aH aV aQ aU mH yc AV
@[simp] theorem ank{a b:List aoP}{n:Nat}(ha:a.all ag=true)(hb:b.all ag=true):(bf a n b).all ag=true:=aE ha hb n
@[simp] theorem anl{a:List aoP}{n:Nat}(ha:a.all ag=true):(a.take n).all ag=true:=aB ha n
@[simp] theorem anm{a:List aoP}{n:Nat}(ha:a.all ag=true):(a.drop n).all ag=true:=aS ha n
@[simp] theorem FO(b:ByteArray):(af b).all apR=true:=rX (aH b)
@[simp] theorem ann(b:List ByteArray):(ao b).all apR=true:=rX (aV b)
@[simp] theorem ano(b:List Int):(ap b).all apR=true:=rX (aQ b)
@[simp] theorem anp(k:IntKind)(x:Int):ag (.int k x)=true:=rfl
@[simp] theorem anq(x:ByteArray):ag (.string x)=true:=rfl
@[simp] theorem anr(x:Bool):ag (.bool x)=true:=rfl
@[simp] theorem ans(k:IntKind)(x:Int):apR (.int k x)=true:=rfl
@[simp] theorem ant(x:ByteArray):apR (.string x)=true:=rfl
@[simp] theorem anu(x:Bool):apR (.bool x)=true:=rfl
@[simp] theorem anv{a b:Nat}:ao9 a b=true↔a<b:=dV
@[simp] theorem anw{a b:Nat}:ao9 a b=false↔b≤a:=by
 cases h:ao9 a b with
 |true=>have:=dV.1 h;simp;omega
 |false=>simp;exact Nat.le_of_not_lt fun h'=>by rw[dV.2 h']at h;cases h
@[simp] theorem anx{a b:Nat}:apf a b=true↔a≤b:=⟨apk,apu⟩
@[simp] theorem anz{a b:Nat}:apf a b=false↔b<a:=by
 cases h:apf a b with
 |true=>have:=apk h;simp;omega
 |false=>simp;exact Nat.lt_of_not_le fun h'=>by rw[apu h']at h;cases h
@[simp] theorem anA{a b:Nat}:ao6 a b=true↔a=b:=⟨apa,fun h=>by subst h;exact apY a⟩
@[simp] theorem anB{a b:Nat}:ao6 a b=false↔a≠b:=by
 cases h:ao6 a b with
 |true=>have:=apa h;simp;omega
 |false=>simp;intro e;subst e;rw[apY]at h;cases h
@[simp] theorem Xs{n c:Nat}:full n c=true↔c≤n:=by
 unfold full
 cases c with
 |zero=>simp
 |succ c=>simp
@[simp] theorem anC{n c:Nat}:full n c=false↔n<c:=by
 unfold full
 cases c with
 |zero=>simp
 |succ c=>simp
theorem lh(n:Nat):full n n=true:=Xs.2 (apn n)
def dE:List (apr×Sum)→apr→Option Sum
 | [],_=>none
 |p::l,f=>match ao6 f p.1 with
  |true=>some p.2
  |false=>dE l f
inductive AX(P:ao7):List (apr×Sum)→Prop where
 |nil:AX P []
 |cons {f:apr} {s:Sum} {l:List (apr×Sum)} (h:bB P f s) (t:AX P l):AX P ((f,s)::l)
theorem dR{P:ao7}{l:List (apr×Sum)}(h:AX P l):∀f s,dE l f=some s→bB P f s:=by
 induction h with
 |nil=>intro f s h;cases h
 |cons h _ ih=>
  intro f s hf
  unfold dE at hf
  split at hf
  ·rename_i hb
   cases hf
   rw[apa hb]
   exact h
  ·exact ih f s hf
def Sum.of(g:List aoP→List ak→Option (Bool×bO×List ak)):Sum:=⟨vH,fun a o=>match g a o with
 |some (c,r,o')=>.tL c (.done (r,o'))
 |none=>.fail⟩
theorem bB.of{P:ao7}{f:apr}{g:List aoP→List ak→Option (Bool×bO×List ak)}(h:∀a o r o',g a o=some (true,r,o')→aI P f a o fun r' FP=>r'=r∧FP=o'):bB P f (Sum.of g):=by
 intro a o r o' hr
 unfold Sum.of at hr
 dsimp only at hr
 split at hr
 ·rename_i c r1 o1 hg
  obtain⟨h1,h2⟩:=QT.vz hr
  subst h1
  cases h2
  exact h _ _ _ _ hg
 ·cases hr
theorem vI:∀{l:List (Nat×aoP)},iG (l.map (·.1))=true→∀p∈l,jx l p.1=some p.2
 | [],_,p,hp=>by cases hp
 |q::l,h,p,hp=>by
  simp only[apM,iG,ao3,aqX,arB]at h
  obtain⟨h1,h2⟩:=h
  unfold jx
  rcases ao8.1 hp with rfl|hp
  ·have hn:jx l p.1=none:=by
    have key:∀l:List (Nat×aoP),(∀x∈l.map (·.1),¬ao6 p.1 x=true)→jx l p.1=none:=by
     intro l
     induction l with
     |nil=>intro _;rfl
     |cons q l ih=>
      intro hx
      unfold jx
      rw[ih fun x hm=>hx x (by simp at hm⊢;exact .inr hm)]
      have:=hx q.1 (by simp)
      cases hb:ao6 q.1 p.1 with
      |false=>rfl
      |true=>exact absurd (by rw[apa hb,apY]) this
    exact key l h1
   rw[hn,apY]
  ·rw[vI h2 p hp]
def AY(i:Nat)(el:ao1)(d:ai):ai:=
 ⟨d.sl.map fun p=>bif ao6 p.1 i then(i,.slice (some ⟨d.objs.length,0,none⟩) 0 0)else p,d.objs++[.cells [] el false]⟩
theorem Holds.AZ{P:ao7}{X:vq}{d:ai}{a:Act}{w:ao4}(i:Nat)(el:ao1){s:Nat}(hz:b7 P el=some s)(hi:jx d.sl i=some (.slice none 0 0))
 (hc:(iG (d.sl.map (·.1))&&d.sl.all (fun p=>ao9 p.1 X.n)&&ao9 d.objs.length 262144&&apf X.k d.objs.length)=true)(h:Holds P X d a w):Holds P X (AY i el d) a w:=by
 obtain⟨ρ,u,M,hd⟩:=h
 simp only[ao3]at hc
 obtain⟨⟨⟨c1,c2⟩,c3⟩,c4⟩:=hc
 have c3:=dV.1 c3
 have c4:=apk c4
 have tQ:small d.objs.length=true:=gT.2 (by have:(2:Nat)^18=262144:=rfl;omega)
 have pA:cw d.objs d.objs.length=none:=by rw[cD tQ];simp
 let r:bT:=⟨0,0,s,0⟩
 have hle:ρ.le (ρ.put d.objs.length r):=Ren.j6 (hd.mem.fresh _ pA) r
 have hw:=hd.mem.xw pA (o:=.cells [] el false) (r:=r) rfl (fun m sz row e=>by cases e) (fun b8 ro e k hk=>by
  cases e
  rw[hz]at hk
  cases hk
  rfl)
 have hm:cT (cw d.objs) d.objs.length (.cells [] el false)=cw (d.objs++[.cells [] el false]):=by
  funext x
  by_cases hx:x=d.objs.length
  ·subst hx
   rw[fh,cD tQ]
   simp
  ·rw[ec _ hx]
   cases hs:small x with
   |false=>rw[ie hs,ie hs]
   |true=>
    rw[cD hs,cD hs]
    by_cases hl:x<d.objs.length
    ·rw[apH hl]
    ·rw[ap3 (by omega),ap3 (by simp;omega)]
 rw[hm]at hw
 have Au:((eJ X.n u d.sl).dL (M.map eN)).n=X.n:=by show(gz X.n u d.sl).length=_;unfold gz;rw[lJ];simp
 have cd:a.tmps.size=X.n:=by rw[hd.fr.size,Au]
 have hn:X.n≤1024:=by have:=hd.fr.small;omega
 have pC:Full (ρ.put d.objs.length r):=fun q=>by
  obtain⟨y,h1,h2⟩:=hd.full q
  exact⟨y,h1,hle _ _ h2⟩
 obtain⟨u',hu⟩:∃u':Nat→aoP,FR (ρ.put d.objs.length r) ((eJ X.n u' (AY i el d).sl).dL (M.map eN)) a:=by
  refine FR.make (b:=M.map eN) cd hn (hd.fr.rH rfl) (fun j=>⟨_,(hd.fr.at_ j).mono hle⟩) fun p hp=>?_
  simp only[AY,aqv]at hp
  obtain⟨p0,FQ,rfl⟩:=hp
  have FT:p0.1<X.n:=dV.1 (aps.1 c2 p0 FQ)
  have cn:=hd.fr.at_ p0.1
  rw[Fr.xR,vw hn FT (vI c1 p0 FQ)]at cn
  cases hb:ao6 p0.1 i with
  |false=>exact⟨FT,cn.mono hle⟩
  |true=>
   have e:=apa hb
   subst e
   refine⟨FT,?_⟩
   have h2:=vI c1 p0 FQ
   rw[hi]at h2
   have h3:p0.2=.slice none 0 0:=(asc h2).symm
   rw[h3]at cn
   show VR _ (.slice (some ⟨d.objs.length,0,none⟩) 0 0) (a.tmps.getD p0.1 undef)
   rw[VR.te rfl cn]
   exact .eD _ _
 exact⟨_,u',M,pC,fun x hx=>by
  rw[←hd.kept x hx]
  show(if x=d.objs.length then some r else ρ x)=ρ x
  rw[if_neg (by omega)],hu,hw,by
  show Nat.le (d.objs++[ak.cells [] el false]).length 262144
  simp;omega,hd.quiet,hd.fH,hd.outside⟩
theorem an.AZ{P:ao7}{n k:Nat}{l:List apw}{d d':ai}{Q:bj→ai→Prop}(i:Nat)(el:ao1){s:Nat}(hz:b7 P el=some s)(hi:jx d.sl i=some (.slice none 0 0))
 (hc:(iG (d.sl.map (·.1))&&d.sl.all (fun p=>ao9 p.1 n)&&ao9 d.objs.length 262144&&apf k d.objs.length)=true)(hd:AY i el d=d')(h:an P n k l d' Q):an P n k l d Q:=by
 intro X hn hk a w py
 subst hd
 exact h X hn hk a w (py.AZ i el hz hi (by rw[hn,hk];exact hc))
theorem WR.MH{P:ao7}{B:Nat→Prop}{w₀ w:ao4}{ρ:Ren}{objs:List ak}(h:WR P B w₀ ρ (cw objs) w){el:ao1}{s:Nat}(hz:b7 P el=some s)(hl:objs.length<262144):
 ∃ρ1,ρ.le ρ1∧WR P B w₀ ρ1 (cw (objs++[.cells [] el false])) w∧(∀x,x≠objs.length→ρ1 x=ρ x)∧∃r,ρ1 objs.length=some r:=by
 have tQ:small objs.length=true:=gT.2 (by have:(2:Nat)^18=262144:=rfl;omega)
 have pA:cw objs objs.length=none:=by rw[cD tQ];simp
 have hw:=h.xw pA (o:=.cells [] el false) (r:=⟨0,0,s,0⟩) rfl (fun m sz row e=>by cases e) (fun b8 ro e k hk=>by
  cases e
  rw[hz]at hk
  cases hk
  rfl)
 have hm:cT (cw objs) objs.length (.cells [] el false)=cw (objs++[.cells [] el false]):=by
  funext x
  by_cases hx:x=objs.length
  ·subst hx
   rw[fh,cD tQ]
   simp
  ·rw[ec _ hx]
   cases hs:small x with
   |false=>rw[ie hs,ie hs]
   |true=>
    rw[cD hs,cD hs]
    by_cases hl:x<objs.length
    ·rw[apH hl]
    ·rw[ap3 (by omega),ap3 (by simp;omega)]
 rw[hm]at hw
 exact⟨_,Ren.j6 (h.fresh _ pA) _,hw,fun x hx=>Ren.qj ρ _ hx,_,Ren.kC ρ _ _⟩
def nh(i k:Nat)(el:ao1)(d:ai):ai:=
 ⟨d.sl,(match d.objs[i]?with
  |some (.cells c e ro)=>d.objs.set i (.cells (c.set k (.slice (some ⟨d.objs.length,0,none⟩) 0 0)) e ro)
  |_=>d.objs)++[.cells [] el false]⟩
theorem an.nh{P:ao7}{n k:Nat}{l:List apw}{d d':ai}{Q:bj→ai→Prop}(i kk:Nat)(el:ao1){s:Nat}{c:List aoP}{e:ao1}(hz:b7 P el=some s)(hi:d.objs[i]?=some (.cells c e false))(hc:c[kk]?=some (.slice none 0 0))
 (hb:(ao9 d.objs.length 262144&&apf k d.objs.length)=true)(hd:Go.Proofs.YtnlkkgpcikkpoaaGreat.Vm.nh i kk el d=d')(h:an P n k l d' Q):an P n k l d Q:=by
 intro X hn hk a w py
 subst hd
 refine h X hn hk a w ?_
 obtain⟨ρ,u,M,hd⟩:=py
 simp only[ao3]at hb
 have c3:=dV.1 hb.1
 have c4:=apk hb.2
 obtain⟨ρ1,g1,g2,g3,r0,g4⟩:=hd.mem.MH hz c3
 have qu:i<d.objs.length:=(ao0.1 hi).1
 have yb:small i=true:=gT.2 (by have:(2:Nat)^18=262144:=rfl;omega)
 have eE:∀x,x≤d.objs.length→small x=true:=fun x hx=>gT.2 (by have:(2:Nat)^18=262144:=rfl;omega)
 have gI:Full ρ1:=fun q=>by
  obtain⟨y,a,b⟩:=hd.full q
  exact⟨y,a,g1 _ _ b⟩
 have FU:(Go.Proofs.YtnlkkgpcikkpoaaGreat.Vm.nh i kk el d).objs=d.objs.set i (.cells (c.set kk (.slice (some ⟨d.objs.length,0,none⟩) 0 0)) e false)++[.cells [] el false]:=by
  unfold Go.Proofs.YtnlkkgpcikkpoaaGreat.Vm.nh
  rw[hi]
 have bu:c≠[]:=by rintro rfl;simp at hc
 have g9:∀x o,cw (Go.Proofs.YtnlkkgpcikkpoaaGreat.Vm.nh i kk el d).objs x=some o→(x≠i∧cw (d.objs++[.cells [] el false]) x=some o)∨(x=i∧o=.cells (c.set kk (.slice (some ⟨d.objs.length,0,none⟩) 0 0)) e false):=fun x o hx=>by
  rw[FU]at hx
  cases hs:small x with
  |false=>
   refine .inl ⟨(fun e=>by subst e;rw[yb]at hs;cases hs),?_⟩
   rw[ie hs]at hx⊢
   exact hx
  |true=>
   rw[cD hs]at hx
   by_cases e0:x=i
   ·subst e0
    rw[apH (by simpa using qu),arn qu]at hx
    exact .inr ⟨rfl,(asc hx).symm⟩
   ·refine .inl ⟨e0,?_⟩
    rw[cD hs]
    by_cases j9:x<d.objs.length
    ·rw[apH (by simpa using j9),arE (Ne.symm e0)]at hx
     rw[apH j9]
     exact hx
    ·rw[apz (by simp;omega)]at hx
     rw[apz (by omega)]
     simpa using hx
 have vj:cw (d.objs++[.cells [] el false]) i=some (.cells c e false):=by
  rw[cD yb,apH qu];exact hi
 have FV:∀r,Live (.cells c e false) r=true:=fun r=>oq bu
 have cQ:WR P X.B X.w₀ ρ1 (cw (Go.Proofs.YtnlkkgpcikkpoaaGreat.Vm.nh i kk el d).objs) w:=
  {below:=g2.below,env:=g2.env,size:=g2.size
   live:=by
    intro x o r hx hr hl
    rcases g9 x o hx with⟨_,h2⟩|⟨rfl,rfl⟩
    ·exact g2.live x o r h2 hr hl
    ·obtain⟨o',q1,q2,q3⟩:=g2.live x _ r vj hr (FV r)
     refine⟨o',q1,?_,fun _=>q3 rfl⟩
     cases q2 with
     |cells _ _ b8 _ c' fr hp hs he zU hf jn=>
      refine .cells _ e b8 false c' fr hp (by rw[aql];exact hs) he zU hf fun j v hv=>?_
      by_cases ej:j=kk
      ·subst ej
       have Xt:j<c.length:=(ao0.1 hc).1
       rw[arn Xt]at hv
       cases hv
       obtain⟨v',q4,q5⟩:=jn j _ hc
       have:=VR.te rfl q5
       subst this
       exact⟨_,q4,.eD _ _⟩
      ·rw[arE (Ne.symm ej)]at hv
       exact jn j v hv
   inj:=by
    intro x y ox oy rx ry hx hy kK cA kL dj tR he
    have key:∀x o r,cw (Go.Proofs.YtnlkkgpcikkpoaaGreat.Vm.nh i kk el d).objs x=some o→Live o r=true→∃ob,cw (d.objs++[.cells [] el false]) x=some ob∧Live ob r=true∧ob.ro=o.ro:=fun x o r hx hl=>by
     rcases g9 x o hx with⟨_,h2⟩|⟨rfl,rfl⟩
     ·exact⟨o,h2,hl,rfl⟩
     ·exact⟨_,vj,FV r,rfl⟩
    obtain⟨a,a1,a2,a3⟩:=key x ox rx hx kL
    obtain⟨b,b1,b2,b3⟩:=key y oy ry hy dj
    exact g2.inj x y a b rx ry a1 b1 kK cA a2 b2 (tR.imp (fun h=>a3▸h) (fun h=>b3▸h)) he
   fresh:=by
    intro x hx
    refine g2.fresh x ?_
    rw[FU]at hx
    cases hs:small x with
    |false=>rw[ie hs]at hx;cases hx
    |true=>
     rw[cD hs,aqE]at hx
     rw[cD hs,aqE]
     simp at hx⊢
     omega
   rows:=by
    intro x m size row hx
    rcases g9 x _ hx with⟨_,h2⟩|⟨rfl,h2⟩
    ·exact g2.rows x m size row h2
    ·cases h2
   nil:=by
    intro x b8 ro r hx hr
    rcases g9 x _ hx with⟨_,h2⟩|⟨rfl,h2⟩
    ·exact g2.nil x b8 ro r h2 hr
    ·exfalso
     simp only[ak.cells.injEq]at h2
     have:=congrArg aoM h2.1
     rw[aql]at this
     exact bu (apL this.symm)
   named:=by
    intro x o hx Xu
    rcases g9 x o hx with⟨_,h2⟩|⟨rfl,_⟩
    ·exact g2.named x o h2 Xu
    ·exact g2.named x _ vj (by intro e;cases e)
   abs:=by
    refine g2.abs.next (fun x d hx=>?_) (fun k _ a b=>⟨rfl,a,fun y o r hy hr hl=>?_⟩) (apn _)
    ·rcases g9 x _ hx with⟨_,h2⟩|⟨rfl,h2⟩
     ·exact⟨h2,rfl⟩
     ·cases h2
    ·rcases g9 y o hy with⟨_,h2⟩|⟨rfl,rfl⟩
     ·exact b y o r h2 hr hl
     ·exact b _ _ r vj hr (FV r)}
 refine⟨ρ1,u,M,gI,fun x hx=>?_,hd.fr.mono g1,cQ,?_,hd.quiet,hd.fH,hd.outside⟩
 ·rw[←hd.kept x hx,g3 x (by omega)]
 ·rw[FU];simp;omega
def MI(P:ao7)(g:Nat→Option ak):Nat→List Nat→List Nat
 |0,l=>l
 |d+1,l=>MI P g d (yf (l++(l.map fun x=>match g x with
  |some (.cells c el _)=>match Mp P el with
   |true=>[]
   |false=>(c.map (rY 6)).flatten
  |_=>[]).flatten) [])
def kN(P:ao7)(args:List aoP)(g:Nat→Option ak):Option (List Nat):=some (MI P g 6 (yf ((args.map (rY 6)).flatten) []))
def Sum.dp(P:ao7)(g:List aoP→List ak→Option (Bool×bO×List ak)):Sum:=⟨kN P,(Sum.of g).spec⟩
theorem bB.dp{P:ao7}{f:apr}{g:List aoP→List ak→Option (Bool×bO×List ak)}(h:∀a o r o',g a o=some (true,r,o')→aI P f a o fun r' FP=>r'=r∧FP=o'):bB P f (Sum.dp P g):=
 fun a o r o' hs=>bB.of h a o r o' hs
structure FW where
 x:Nat
 d1:Nat
 d2:Nat
 ty:ao1
def FX:List apw→Option FW
 | .region _ ops false::_=>match ops.toList with
  | [o1,o2]=>match o1.op,o1.dst,o1.guard,o2.op,o2.dst,o2.guard with
   | .move (.tmp x),some d1,none,.binOp .eql ty (.tmp y) (.const (.slice none 0 0)) _,some d2,none=>match ao6 y d1&& !Nat.beq d1 d2 with
    |true=>some ⟨x,d1,d2,ty⟩
    |false=>none
   |_,_,_,_,_,_=>none
  |_=>none
 |_=>none
theorem Xv{l:List apw}{N:FW}(h:FX l=some N):∃id o1 o2 rest yt,l=.region id #[o1,o2] false::rest∧o1.op=.move (.tmp N.x)∧o1.dst=some N.d1∧o1.guard=none∧
 o2.op=.binOp .eql N.ty (.tmp N.d1) (.const (.slice none 0 0)) yt∧o2.dst=some N.d2∧o2.guard=none∧N.d1≠N.d2:=by
 unfold FX at h
 split at h
 ·rename_i id ops rest
  split at h
  ·rename_i o1 o2 mv
   split at h
   ·rename_i x d1 ty y yt d2 h1 h2 h3 h4 h5 h6
    split at h
    ·rename_i hb
     cases h
     simp only[ao3,aqX]at hb
     have hy:=apa hb.1
     subst hy
     refine⟨id,o1,o2,rest,yt,?_,h1,h2,h3,h4,h5,h6,fun e=>?_⟩
     ·rw[show ops= #[o1,o2]by rw[←Array.toArray_toList (xs:=ops),mv]]
     ·dsimp only at e;rw[e,apY]at hb;cases hb.2
    ·cases h
   ·cases h
  ·cases h
 ·cases h
theorem VR.MJ{ρ:Ren}{a:Addr}{v:aoP}(h:VR ρ (.slice (some a) 0 0) v):∃a' c',v=.slice a' 0 c':=by
 cases h with
 |bM _ h=>cases h
 |sl b off _ _ bI r h hc=>exact⟨_,_,rfl⟩
 |eD _ a'=>exact⟨_,_,rfl⟩
 |mV=>exact⟨_,_,rfl⟩
theorem Xw{P:ao7}{ty el:ao1}(ht:P.underlying ty=some (.slice el))(a':Option Addr)(c':Nat)(x y:Operand)(w:ao4):
 ∃b,((do eqGuard .eql ty x y (.slice a' 0 c') (.slice none 0 0);binOp .eql ty (.slice a' 0 c') (.slice none 0 0)):Sem aoP).run P w=.ok (.bool b) w:=by
 cases a' with
 |none=>exact⟨true,by
  show(arl P (do let r ←arJ ty (.slice none 0 c') (.slice none 0 0);(pure (apV r):Sem aoP)) w)=_
  obtain⟨dd,tR⟩:∃dd,avg=dd+1:=⟨_,rfl⟩
  unfold arJ
  rw[tR]
  unfold arR
  simp only[aoR,Vm.run_underlying ht,aoQ]
  rfl⟩
 |some a=>exact⟨false,by
  show(arl P (do let r ←arJ ty (.slice (some a) 0 c') (.slice none 0 0);(pure (apV r):Sem aoP)) w)=_
  obtain⟨dd,tR⟩:∃dd,avg=dd+1:=⟨_,rfl⟩
  unfold arJ
  rw[tR]
  unfold arR
  simp only[aoR,Vm.run_underlying ht,aoQ]
  rfl⟩
theorem an.MK{P:ao7}{n k:Nat}{l:List apw}{d:ai}{Q:bj→ai→Prop}(N:FW)(el:ao1)(a:Addr)(hl:FX l=some N)(ht:P.underlying N.ty=some (.slice el))
 (hx:jx d.sl N.x=some (.slice (some a) 0 0))(hc:(iG (d.sl.map (·.1))&&d.sl.all (fun p=>ao9 p.1 n&&(!Nat.beq p.1 N.d1&& !Nat.beq p.1 N.d2))&&(ao9 N.d1 n&&ao9 N.d2 n))=true)
 (h:∀b,an P n k l.tail ⟨d.sl++[(N.d2,.bool b)],d.objs⟩ Q):an P n k l d Q:=by
 obtain⟨id,o1,o2,rest,yt,rfl,h1,h2,h3,h4,h5,h6,h7⟩:=Xv hl
 simp only[ao3]at hc
 obtain⟨⟨c1,c2⟩,c3,c4⟩:=hc
 intro X hn hk ac w hd
 subst hn hk
 obtain⟨ρ,u,M,hd⟩:=hd
 have cd:ac.tmps.size=X.n:=by have:=hd.fr.size;rw[this];show(gz X.n u d.sl).length=_;unfold gz;simp[lJ]
 have eE:X.n≤1024:=by have h0:(gz X.n u d.sl).length≤1024:=hd.fr.small;unfold gz at h0;simpa[lJ]using h0
 have cn:∀p∈d.sl,VR ρ p.2 (ac.tmps.getD p.1 undef):=fun p hp=>by
  have h8:=hd.fr.at_ p.1
  have:=aps.1 c2 p hp
  simp only[ao3]at this
  rwa[Fr.xR,vw eE (dV.1 this.1) (vI c1 p hp)]at h8
 have Xx:∃p∈d.sl,p.1=N.x∧p.2=.slice (some a) 0 0:=by
  have key:∀(l:List (Nat×aoP)) (v:aoP),jx l N.x=some v→∃p∈l,p.1=N.x∧p.2=v:=by
   intro l
   induction l with
   |nil=>intro v h;cases h
   |cons p l ih=>
    intro v h
    unfold jx at h
    split at h
    ·rename_i v' hv
     cases h
     obtain⟨q,h1,h2⟩:=ih _ hv
     exact⟨q,apc _ h1,h2⟩
    ·split at h
     ·rename_i hb;cases h;exact⟨p,ape,apa hb,rfl⟩
     ·cases h
  exact key _ _ hx
 obtain⟨p,hp,jA,Xy⟩:=Xx
 have hv:=cn p hp
 rw[jA,Xy]at hv
 obtain⟨a',c',fV⟩:=hv.MJ
 rw[fV]at hv
 refine wp_region ?_
 show wpOps P #[o1,o2] _ [0,1] ac w
 have w1:∀t,aqt o1 t=true:=fun t=>by unfold aqt;rw[h3]
 have w2:∀t,aqt o2 t=true:=fun t=>by unfold aqt;rw[h6]
 unfold wpOps
 simp only[atO,apE,w1,if_true]
 left
 unfold Oper.wp
 have e1:(execOp ac.eval o1).run P w=.ok (.value (.slice a' 0 c')) w:=by
  unfold execOp
  rw[h1]
  show arl P (pure (Next.value (ac.eval (.tmp N.x))):Sem Next) w=_
  rw[show ac.eval (.tmp N.x)=.slice a' 0 c' from fV]
  rfl
 rw[e1]
 show wpOps P #[o1,o2] _ [1] (ac.put o1.dst (.slice a' 0 c')) w
 unfold wpOps
 simp only[atO,List.getElem?_cons_succ,apE,w2,if_true]
 left
 unfold Oper.wp
 rw[h2]
 obtain⟨b,hb⟩:=Xw ht a' c' (.tmp N.d1) (.const (.slice none 0 0)) w
 have li:N.d1<ac.tmps.size:=by rw[cd];exact dV.1 c3
 have e2:(execOp (ac.put (some N.d1) (.slice a' 0 c')).eval o2).run P w=.ok (.value (.bool b)) w:=by
  unfold execOp
  rw[h4]
  have Xz:(ac.put (some N.d1) (.slice a' 0 c')).eval (.tmp N.d1)=.slice a' 0 c':=by
   show(ac.tmps.setIfInBounds N.d1 (.slice a' 0 c')).getD N.d1 undef=_
   simp only[apx,aqu,li,if_true,aqG]
  have XA:(ac.put (some N.d1) (.slice a' 0 c')).eval (.const (.slice none 0 0))=.slice none 0 0:=rfl
  simp only[Xz,XA]
  rw[aoR,hb]
  rfl
 rw[e2]
 have key:Holds P X ⟨d.sl++[(N.d2,.bool b)],d.objs⟩ ((ac.put (some N.d1) (.slice a' 0 c')).put o2.dst (.bool b)) w:=?_
 ·exact h b X rfl rfl _ w key
 rw[h5]
 have cB:∃u',FR ρ ((eJ X.n u' (d.sl++[(N.d2,.bool b)])).dL (M.map eN)) ((ac.put (some N.d1) (.slice a' 0 c')).put (some N.d2) (.bool b)):=by
  have XB:Vm.put ((eJ X.n u d.sl).dL (M.map eN)) (some N.d1) (.slice (some a) 0 0)=some {((eJ X.n u d.sl).dL (M.map eN))with t:=(eJ X.n u d.sl).t.set 10 N.d1 (.slice (some a) 0 0)}:=by
   simp only[Vm.put,Fr.rf]
   have:ao9 N.d1 ((eJ X.n u d.sl).dL (M.map eN)).n=true:=by
    have:((eJ X.n u d.sl).dL (M.map eN)).n=X.n:=by show(gz X.n u d.sl).length=_;unfold gz;simp[lJ]
    rw[this];exact c3
   rw[this]
   rfl
  have f1:=hd.fr.put hv XB
  have XC:Vm.put {((eJ X.n u d.sl).dL (M.map eN))with t:=(eJ X.n u d.sl).t.set 10 N.d1 (.slice (some a) 0 0)} (some N.d2) (.bool b)=some {((eJ X.n u d.sl).dL (M.map eN))with t:=((eJ X.n u d.sl).t.set 10 N.d1 (.slice (some a) 0 0)).set 10 N.d2 (.bool b)}:=by
   simp only[Vm.put,Fr.rf]
   have:ao9 N.d2 ((eJ X.n u d.sl).dL (M.map eN)).n=true:=by
    have:((eJ X.n u d.sl).dL (M.map eN)).n=X.n:=by show(gz X.n u d.sl).length=_;unfold gz;simp[lJ]
    rw[this];exact c4
   simp only[this]
  have f2:=f1.put (VR.bM (.bool b) rfl) XC
  refine FR.make (b:=M.map eN) (by rw[f2.size];show(gz X.n u d.sl).length=_;unfold gz;simp[lJ]) eE (f2.rH rfl) (fun i=>⟨_,f2.at_ i⟩) fun q hq=>?_
  rcases apo.1 hq with hq|hq
  ·have gM:=aps.1 c2 q hq
   simp only[ao3,aqX]at gM
   obtain⟨q1,q2,q3⟩:=gM
   refine⟨dV.1 q1,?_⟩
   have n1:q.1≠N.d1:=fun e=>by rw[e,apY]at q2;cases q2
   have n2:q.1≠N.d2:=fun e=>by rw[e,apY]at q3;cases q3
   have:((ac.put (some N.d1) (.slice a' 0 c')).put (some N.d2) (.bool b)).tmps.getD q.1 undef=ac.tmps.getD q.1 undef:=by
    show((ac.tmps.setIfInBounds N.d1 _).setIfInBounds N.d2 _).getD q.1 undef=_
    rw[apx,aqp (Ne.symm n2),aqp (Ne.symm n1),←apx]
   rw[this]
   exact cn q hq
  ·simp only[apP]at hq
   subst hq
   refine⟨dV.1 c4,?_⟩
   have:((ac.put (some N.d1) (.slice a' 0 c')).put (some N.d2) (.bool b)).tmps.getD N.d2 undef=.bool b:=by
    show((ac.tmps.setIfInBounds N.d1 _).setIfInBounds N.d2 _).getD N.d2 undef=_
    have lL:N.d2<(ac.tmps.setIfInBounds N.d1 (.slice a' 0 c')).size:=by rw[ari,cd];exact dV.1 c4
    simp only[apx,aqu,lL,if_true,aqG]
   rw[this]
   exact .bM _ rfl
 obtain⟨u',rG⟩:=cB
 exact⟨ρ,u',M,hd.full,hd.kept,rG,hd.mem,hd.bW,hd.quiet,hd.fH,hd.outside⟩
structure anD where
 args:List aoP
 objs:List ak
 r:bO
 out:List ak
def lM(P:ao7)(r:Option Nat):List apw→(arc→Act→ao4→Prop)→Act→ao4→Prop
 | [],Q,a,w=>Q .normal a w
 |c::l,Q,a,w=>c.wpIn (FF r) 0 P (Exit.then (lM P r l Q) Q) a w
theorem ML{P:ao7}{r:Option Nat}:∀{l:List apw} {Q Q':arc→Act→ao4→Prop} {a:Act} {w:ao4},lM P r l Q a w→(∀e a w,Q e a w→Q' e a w)→lM P r l Q' a w
 | [],Q,Q',a,w,h,hq=>hq _ _ _ h
 |c::l,Q,Q',a,w,h,hq=>atg h fun e a w he=>by
  cases e with
  |normal=>exact ML he hq
  |_=>exact hq _ _ _ he
theorem MM{P:ao7}{r:Option Nat}:∀{l l':List apw} {Q:arc→Act→ao4→Prop} {a:Act} {w:ao4},lM P r l (Exit.then (lM P r l' Q) Q) a w→lM P r (l++l') Q a w
 | [],l',Q,a,w,h=>h
 |c::l,l',Q,a,w,h=>atg h fun e a w he=>by
  cases e with
  |normal=>exact MM he
  |_=>exact he
theorem MN{P:ao7}{r:Option Nat}:∀{c:apw} {Q:arc→Act→ao4→Prop} {a:Act} {w:ao4},lM P r (bd c) Q a w→c.wpIn (FF r) 0 P Q a w:=by
 intro c
 induction c with
 |seq a b iQ kY=>
  intro Q t w h
  have h:lM P r (bd a++bd b) Q t w:=h
  refine wpIn_seq (iQ ?_)
  -- take apart what stands one behind the other
  have key:∀(l l':List apw) (Q:arc→Act→ao4→Prop) (t:Act) (w:ao4),lM P r (l++l') Q t w→lM P r l (Exit.then (lM P r l' Q) Q) t w:=by
   intro l
   induction l with
   |nil=>intro l' Q t w h;exact h
   |cons c l ih=>
    intro l' Q t w h
    refine atg (show c.wpIn (FF r) 0 P (Exit.then (lM P r (l++l') Q) Q) t w from h) fun e t w he=>?_
    cases e with
    |normal=>exact ih l' Q t w he
    |_=>exact he
  refine ML (key _ _ _ _ _ h) fun e t w he=>?_
  cases e with
  |normal=>exact kY he
  |_=>exact he
 |_=>
  intro Q t w h
  refine atg (show Code.wpIn (FF r) 0 P _ (Exit.then (lM P r [] Q) Q) t w from h) fun e t w he=>?_
  cases e<;>exact he
theorem MO{P:ao7}{r:Option Nat}(hP:iz P=true)(fx:P.follows .mixedOrders=true){call:cL}(hc:hI P call)(lf:Nat):∀{l:List apw} {t t1:Fr} {S S1:VS} {x:bj},ld P call lf l t S=some (x,t1,S1)→
 ∀{B:Nat→Prop} {w₀:ao4} {ρ:Ren} {m:Nat→Option ak} {w:ao4} {a:Act},FR ρ t a→WR P B w₀ ρ m w→fI S S1 m→
 ∀{Q:arc→Act→ao4→Prop},(∀(ρ':Ren) (e:arc) (a':Act) (w':ao4),ρ.le ρ'→XR ρ' x e→FR ρ' t1 a'→WR P B w₀ ρ' (post m S1) w'→Q e a' w')→lM P r l Q a w
 | [],t,t1,S,S1,x,h,B,w₀,ρ,m,w,a,ht,hw,hm,Q,hQ=>by
  simp only[ld,aoU,aoX]at h
  obtain⟨rfl,rfl,rfl⟩:=h
  exact hQ ρ _ a w (Ren.le_refl ρ) .normal ht (by rw[oH hm];exact hw)
 |c::l,t,t1,S,S1,x,h,B,w₀,ρ,m,w,a,ht,hw,hm,Q,hQ=>by
  unfold ld at h
  split at h
  ·rename_i t2 S2 hx
   have e2:=x8 hc lf h
   refine(tC hP fx hc lf (r:=r) (fun h=>by cases h) c hx ht hw (hm.first e2) fun ρ' e a' w' hle dH cB cQ=>?_)
   cases dH
   refine MO hP fx hc lf h cB cQ (hm.next (nO hc lf hx)) fun ρ2 qC a2 w2 kg jM lG ia=>?_
   rw[oG e2]at ia
   exact hQ ρ2 qC a2 w2 (Ren.le_trans hle kg) jM lG ia
  ·rename_i bu
   refine(tC hP fx hc lf (r:=r) (fun h=>by cases h) c h ht hw hm fun ρ' e a' w' hle dH cB cQ=>?_)
   cases dH with
   |normal=>exact absurd h (bu _ _)
   |_=>exact hQ ρ' _ a' w' hle (by constructor<;>assumption) cB cQ
def jO(P:ao7)(n k:Nat)(l:List apw)(d:ai)(Q:bj→ai→Prop):Prop:=
 ∀(X:vq),X.n=n→X.k=k→∀(r:Option Nat) (a:Act) (w:ao4),Holds P X d a w→lM P r l (fun e a' w'=>∃x d',Q x d'∧XR (fun _=>none) x e∧Holds P X d' a' w') a w
theorem jO.nil{P:ao7}{n k:Nat}{d:ai}{Q:bj→ai→Prop}(h:Q .normal d):jO P n k [] d Q:=fun X hn hk r a w hd=>⟨.normal,d,h,.normal,hd⟩
theorem jO.tree{P:ao7}(hP:iz P=true)(fx:P.follows .mixedOrders=true){cO:fD}(hc:dk P cO){lf n k m:Nat}{l:List apw}{d:ai}{s:ST}{T:Tree}
 (h:∀u,(tK P cO lf (l.take m) (eJ n u d.sl) (k9 d.objs)).sym (vF n k) s=some T){Q:bj→ai→Prop}
 (hT:T.ok (fun x d'=>match x with
  | .normal=>jO P n k (l.drop m) d' Q
  |x=>Q x d')):jO P n k l d Q:=by
 intro X hn hk r a w hd
 have py:=hd
 obtain⟨ρ,u,M,hd⟩:=hd
 obtain⟨p,sl,bs,pl,T',h1,h2,h3⟩:=DT.MF (h u) hT
 obtain⟨x,t1,S1⟩:=p
 dsimp only[vF]at h2
 cases lK:pD bs S1 with
 |none=>rw[lK]at h2;cases h2
 |some bl=>
  rw[lK]at h2
  dsimp only at h2
  split at h2
  ·rename_i dl objs q hs hr
   split at h2
   ·rename_i eh
    cases h2
    obtain⟨hq,qL⟩:=FK h3
    have lg:=FL lK
    have fe:=nS hr hq
    simp only[ao3]at eh
    obtain⟨⟨⟨⟨⟨⟨c1,c2⟩,c3⟩,c4⟩,c5⟩,c6⟩,c7,c8⟩:=eh
    have hlen:objs.length=bs.length:=by rw[←fe.len,←lg];simp
    subst hn hk
    obtain⟨cV,yd,FM⟩:=hc.ex
    have hv:=Fo FM lf h1
    have he:=x8 yd lf hv
    have eE:=he.sm (fun x hx=>by rcases hx with hx|hx<;>cases hx)
    have m5:fI (k9 d.objs) S1 (cw d.objs):=fun x hx=>by rw[cD (eE x hx),x5 hd.bW]
    rw[←ap6 m l]
    have oP:=Mk hd.quiet
    refine MM (MO hP fx yd lf (Fq (M.map eN) hv) hd.fr (hd.mem.Al oP) m5 fun ρ' e a' w' hle dH cB ye=>?_)
    have cQ:=ye.Am hd.mem.env hd.mem.below hd.mem.size oP
    have hh:Holds P X ⟨dl,objs⟩ a' w':=Holds.Mh (bl:=bl) (t:=t1.dL (M.map eN)) (M:=M) hd.full hle hd.kept cB (apa c6) (aqJ.1 c7) rfl (fun D hD=>(ye.An hD).trans (hd.quiet D hD)) hd.fH hd.outside cQ rfl (fun p hp=>by
     have hg:=Fs lK p hp
     unfold post
     by_cases hx:p.1∈S1.wr
     ·rw[if_pos hx,hg]
     ·rw[if_neg hx,cD (po hg),←x5 hd.bW,←he.frame p.1 hx,hg]) (by rw[lg];exact c1) (by rw[lg];exact c2) (by rw[lg];exact hs) (by rw[lg];exact fe) c3 (apu (by rw[hlen];exact apk c4))
    cases x with
    |normal=>cases dH;exact qL X rfl rfl r a' w' hh
    |exit id=>cases dH;exact⟨.exit id,_,qL,.exit id,hh⟩
    |ret=>cases dH;exact⟨.ret,_,qL,.ret,hh⟩
    |panic v=>
     cases dH with
     |panic _ v' hv=>
      have:=mW c5 hv
      subst this
      exact⟨.panic v',_,qL,.panic _ _ (nH c5),hh⟩
   ·cases h2
  ·cases h2
theorem jO.done{P:ao7}{n k:Nat}{l:List apw}{d:ai}{Q:bj→ai→Prop}(hl:l.isEmpty=true)(h:Q .normal d):jO P n k l d Q:=by
 cases l with
 |nil=>exact jO.nil h
 |cons c l=>cases hl
def St(P:ao7)(B:Nat→Prop)(w₀:ao4)(ρ:Ren)(K:Nat)(O:List ak)(W:ao4):Prop:=∃ρ':Ren,Full ρ'∧(∀x,x<K→ρ' x=ρ x)∧WR P B w₀ ρ' (cw O) W
def MP:List apw→Option (Nat×List Nat)
 | .rangeFunc (.tmp g) ps _ _::_=>some (g,ps.toList)
 |_=>none
def MQ:List apw→apw
 | .rangeFunc _ _ a _::_=>a
 |_=>.skip
def FY:List apw→apw
 | .rangeFunc _ _ _ b::_=>b
 |_=>.skip
def FZ(K:Nat)(x:Nat):Option Nat:=match ao9 x K with
 |true=>some x
 |false=>none
def XD:ak→Bool
 | .dead=>false
 |_=>true
theorem MR:∀(l:List (Nat×aoP)) (t:Array aoP),(l.foldl (fun t p=>t.setIfInBounds p.1 p.2) t).size=t.size
 | [],t=>rfl
 |p::l,t=>by rw[aqS,MR l,ari]
theorem F0{i:Nat}:∀(l:List (Nat×aoP)) (t:Array aoP),(∀p∈l,p.1≠i)→(l.foldl (fun t p=>t.setIfInBounds p.1 p.2) t).getD i undef=t.getD i undef
 | [],t,_=>rfl
 |p::l,t,h=>by
  rw[aqS,F0 l _ fun q hq=>h q (apc _ hq)]
  rw[apx,aqp (h p ape),←apx]
theorem MT{ρ:Ren}:∀(l:List (Nat×aoP)) (t:Array aoP),(∀p∈l,∃u,VR ρ u p.2)→(∀i,∃u,VR ρ u (t.getD i undef))→∀i,∃u,VR ρ u ((l.foldl (fun t p=>t.setIfInBounds p.1 p.2) t).getD i undef)
 | [],t,_,h,i=>h i
 |p::l,t,hl,h,i=>by
  rw[aqS]
  refine MT l _ (fun q hq=>hl q (apc _ hq)) (fun j=>?_) i
  rw[apx]
  by_cases e:p.1=j
  ·subst e
   by_cases hj:p.1<t.size
   ·rw[aqu,if_pos hj];exact hl p ape
   ·rw[Array.getElem?_eq_none (by rw[ari];omega)];exact⟨_,VR.undef ρ⟩
  ·rw[aqp e,←apx];exact h j
theorem MU:∀(ps:List Nat) (xs:List aoP) (t:Array aoP),iG ps=true→ps.length=xs.length→∀(j i:Nat) (v:aoP),ps[j]?=some i→xs[j]?=some v→i<t.size→((ps.zip xs).foldl (fun t p=>t.setIfInBounds p.1 p.2) t).getD i undef=v
 | [],_,t,_,_,j,i,v,h,_,_=>by simp at h
 |p::ps,[],t,_,hl,j,i,v,_,_,_=>by simp at hl
 |p::ps,x::xs,t,hn,hl,j,i,v,hi,hv,hs=>by
  rw[List.zip_cons_cons,aqS]
  simp only[iG,ao3,aqX,arB]at hn
  cases j with
  |zero=>
   simp only[apE,aoU]at hi hv
   subst hi hv
   rw[F0 _ _ fun q hq e=>?_]
   ·rw[apx,aqu,if_pos hs];rfl
   ·have:=hn.1 q.1 (List.of_mem_zip hq).1
    rw[e,apY]at this
    exact this rfl
  |succ j=>exact MU ps xs _ hn.2 (by simpa using hl) j i v (by simpa using hi) (by simpa using hv) (by rw[ari];exact hs)
theorem MV{P:ao7}{r:Option Nat}{n m:Nat}{c:apw}{Q:arc→Act→ao4→Prop}{a:Act}{w:ao4}(h:c.wpIn (FF r) n P Q a w):c.wpIn (FF r) m P Q a w:=
 fun b k cs h1 h2 _=>h b k cs h1 h2 fun d hd=>by cases hd
theorem WR.F1{P:ao7}{B:Nat→Prop}{w₀ w w':ao4}{ρ:Ren}{g:Nat→Option ak}(h:WR P B w₀ ρ g w)(hb:w.grownBy w' none):WR P B w₀ ρ g w' where
 env:=h.env
 below:=h.below.trans ⟨hb.os,hb.tape,hb.output,hb.size,fun k hk=>hb.block k (h.size k hk) (by intro e;cases e)⟩
 size:=fun k hk=>ard (h.size k hk) hb.size
 live:=fun x o r hx hr hl=>by
  obtain⟨o',h1,h2⟩:=h.live x o r hx hr hl
  exact⟨o',(hb.block _ (apQ.1 h1).1 (by intro e;cases e)).trans h1,h2⟩
 inj:=h.inj
 fresh:=h.fresh
 rows:=h.rows
 nil:=h.nil
 named:=h.named
 abs:=h.abs.next (fun x d hx=>⟨hx,rfl⟩) (fun k k1 a b=>⟨hb.block k k1 (by intro e;cases e),a,b⟩) hb.size
theorem vJ{w w':ao4}(h:w.grownBy w' none){D:Nat}{o:Obj}(hD:w.heap[D]?=some o):w'.heap[D]?=some o:=
 (h.block D (apQ.1 hD).1 (by intro e;cases e)).trans hD
noncomputable abbrev al(b:Nat):aoP:=.pointer (some ⟨b,0,none⟩)
noncomputable abbrev aa(x:Int):aoP:=.int .i64 x
noncomputable abbrev ct(b o n c:Nat):aoP:=.slice (some ⟨b,o,none⟩) n c
noncomputable abbrev ah(b n:Nat):aoP:=.slice (some ⟨b,0,none⟩) n n
noncomputable abbrev cm:aoP:=.slice none 0 0
noncomputable abbrev ab(c:List aoP)(t:ao1):ak:=.cells c t false
abbrev aY:=bj→ai→Prop
noncomputable abbrev bo:=bO→List ak→Prop
def aA:List Nat→ST→ST
 | [],s=>s
 |k::l,s=>.cM (k/2) (ao6 (k%2) 1) (aA l s)
structure MW(P:ao7)(w:ao4)(ρ:Ren)(g:Nat→Option ak)(x:Nat)(r:bT)(L:List (Nat×CO))(Z:Nat→Option (bT×ak)):Prop where
 root:∃o,Z x=some (r,o)
 new:∀y p,y≠x→Z y=some p→g y=none
 own:∀y q o,Z y=some (q,o)→o.ro=false∧(∀d,o≠ .abs d)
 nil:∀y q el ro,Z y=some (q,.cells [] el ro)→∀n,b7 P el=some n→q.sz=n
 live:∀y q o,Z y=some (q,o)→Live o q=true→q.aN∈L.map (·.1)∧∃o',w.heap[q.aN]?=some o'∧OR P (fun y=>match Z y with|some p=>some p.1|none=>ρ y) q o o'
 inj:∀y z q s o u,Z y=some (q,o)→Z z=some (s,u)→Live o q=true→Live u s=true→q.aN=s.aN→y=z
def eB(ρ:Ren)(Z:Nat→Option (bT×ak)):Ren:=fun y=>match Z y with|some p=>some p.1|none=>ρ y
def rZ(g:Nat→Option ak)(Z:Nat→Option (bT×ak)):Nat→Option ak:=fun y=>match Z y with|some p=>some p.2|none=>g y
def yg(B:Nat→Prop)(L:List (Nat×CO))(Z:Nat→Option (bT×ak)):Nat→Prop:=fun k=>B k∨k∈L.map (·.1)∧∀y q o,Z y=some (q,o)→Live o q=true→q.aN≠k
theorem oS{ρ:Ren}{Z:Nat→Option (bT×ak)}{y:Nat}{p:bT×ak}(h:Z y=some p):eB ρ Z y=some p.1:=by unfold eB;rw[h]
theorem ni{ρ:Ren}{Z:Nat→Option (bT×ak)}{y:Nat}(h:Z y=none):eB ρ Z y=ρ y:=by unfold eB;rw[h]
theorem pO{g:Nat→Option ak}{Z:Nat→Option (bT×ak)}{y:Nat}{p:bT×ak}(h:Z y=some p):rZ g Z y=some p.2:=by unfold rZ;rw[h]
theorem oT{g:Nat→Option ak}{Z:Nat→Option (bT×ak)}{y:Nat}(h:Z y=none):rZ g Z y=g y:=by unfold rZ;rw[h]
theorem WR.vK{P:ao7}{B:Nat→Prop}{w₀ w:ao4}{ρ:Ren}{g:Nat→Option ak}(h:WR P B w₀ ρ g w){x:Nat}{d:ly}(hx:g x=some (.abs d)):
 ∃r S L,ρ x=some r∧CQ d r.aN r.sh r.sz r.dz L∧qe w r.aN S L∧(∀k,S k→k<w.heap.size∧¬B k∧∀y o q,g y=some o→ρ y=some q→Live o q=true→q.aN≠k)∧
  ∀Z,MW P w ρ g x r L Z→WR P (yg B L Z) w (eB ρ Z) (rZ g Z) w:=by
 obtain⟨F,fa,fb,fc⟩:=h.abs
 obtain⟨r,S,hr,⟨L,iW,hL⟩,hf⟩:=fa x d hx
 refine⟨r,S,L,hr,iW,hL,fun k hk=>(fb x k (hf k hk)).2,fun Z hZ=>?_⟩
 have yh:∀k,k∈L.map (·.1)→F x k:=fun k hk=>hf k ((hL.all k).2 hk)
 have F3:∀y o q k,g y=some o→ρ y=some q→Live o q=true→k∈L.map (·.1)→q.aN≠k:=fun y o q k a b c e=>(fb x k (yh k e)).2.2.2 y o q a b c
 have hle:ρ.le (eB ρ Z):=fun y q hy=>by
  cases hz:Z y with
  |none=>rw[ni hz];exact hy
  |some p=>
   rw[oS hz]
   by_cases e:y=x
   ·subst e
    obtain⟨o,ho⟩:=hZ.root
    rw[ho]at hz;cases hz
    rw[hr]at hy;cases hy;rfl
   ·rw[h.fresh y (hZ.new y p e hz)]at hy;cases hy
 have FD:∀b,B b→yg B L Z b∧w.heap[b]?=w₀.heap[b]? :=fun b hb=>⟨.inl hb,h.below.block b hb⟩
 exact
 {below:=gq.refl _ _
  env:=h.env.next h.below fun k hk=>.inl hk
  size:=fun k hk=>by
   rcases hk with hk|hk
   ·exact h.size k hk
   ·exact(fb x k (yh k hk.1)).2.1
  live:=by
   intro y o q hy hq hl
   cases hz:Z y with
   |some p=>
    rw[pO hz]at hy;rw[oS hz]at hq
    cases hy;cases hq
    obtain⟨a,o',b,c⟩:=hZ.live y p.1 p.2 hz hl
    exact⟨o',b,c,fun _ hk=>by
     rcases hk with hk|hk
     ·exact(fb x _ (yh _ a)).2.2.1 hk
     ·exact hk.2 y p.1 p.2 hz hl rfl⟩
   |none=>
    rw[oT hz]at hy;rw[ni hz]at hq
    obtain⟨o',a,b,c⟩:=h.live y o q hy hq hl
    exact⟨o',a,b.mono hle,fun dw hk=>by
     rcases hk with hk|hk
     ·exact c dw hk
     ·exact F3 y o q _ hy hq hl hk.1 rfl⟩
  inj:=by
   intro y z oy oz ry rz hy hz cA iu dj j5 hd e
   cases vL:Z y with
   |some p=>
    rw[pO vL]at hy;rw[oS vL]at cA
    cases hy;cases cA
    cases kO:Z z with
    |some q=>
     rw[pO kO]at hz;rw[oS kO]at iu
     cases hz;cases iu
     exact hZ.inj y z p.1 q.1 p.2 q.2 vL kO dj j5 e
    |none=>
     rw[oT kO]at hz;rw[ni kO]at iu
     exact absurd e.symm (F3 z oz rz _ hz iu j5 (hZ.live y p.1 p.2 vL dj).1)
   |none=>
    rw[oT vL]at hy;rw[ni vL]at cA
    cases kO:Z z with
    |some q=>
     rw[pO kO]at hz;rw[oS kO]at iu
     cases hz;cases iu
     exact absurd e (F3 y oy ry _ hy cA dj (hZ.live z q.1 q.2 kO j5).1)
    |none=>
     rw[oT kO]at hz;rw[ni kO]at iu
     exact h.inj y z oy oz ry rz hy hz cA iu dj j5 hd e
  fresh:=by
   intro y hy
   cases hz:Z y with
   |some p=>rw[pO hz]at hy;cases hy
   |none=>rw[oT hz]at hy;rw[ni hz];exact h.fresh y hy
  rows:=by
   intro y n size row hy
   cases hz:Z y with
   |some p=>rw[pO hz]at hy;obtain⟨p1,p2⟩:=p;cases hy;cases(hZ.own y p1 _ hz).1
   |none=>
    rw[oT hz]at hy;rw[ni hz]
    obtain⟨q,a,b⟩:=h.rows y n size row hy
    exact⟨q,a,fun hn=>(b hn).mono FD⟩
  nil:=by
   intro y el ro q hy hq
   cases hz:Z y with
   |some p=>rw[pO hz]at hy;rw[oS hz]at hq;cases hq;obtain⟨p1,p2⟩:=p;cases hy;exact hZ.nil y p1 el ro hz
   |none=>rw[oT hz]at hy;rw[ni hz]at hq;exact h.nil y el ro q hy hq
  named:=by
   intro y o hy bu
   cases hz:Z y with
   |some p=>exact⟨_,oS hz⟩
   |none=>rw[oT hz]at hy;rw[ni hz];exact h.named y o hy bu
  abs:=by
   have old:∀y d',rZ g Z y=some (.abs d')→y≠x∧Z y=none∧g y=some (.abs d'):=fun y d' hy=>by
    cases hz:Z y with
    |some p=>rw[pO hz]at hy;obtain⟨p1,p2⟩:=p;cases hy;exact absurd rfl ((hZ.own y p1 _ hz).2 d')
    |none=>
     refine⟨fun e=>?_,rfl,by rw[oT hz]at hy;exact hy⟩
     subst e
     obtain⟨o,ho⟩:=hZ.root
     rw[ho]at hz;cases hz
   refine⟨fun y k=>F y k∧∃d',rZ g Z y=some (.abs d'),fun y d' hy=>?_,fun y k hk=>?_,fun y z k a b=>fc y z k a.1 b.1⟩
   ·obtain⟨_,hz,hg⟩:=old y d' hy
    obtain⟨q,S',a,b,c⟩:=fa y d' hg
    exact⟨q,S',by rw[ni hz];exact a,b,fun k hk=>⟨c k hk,d',hy⟩⟩
   ·obtain⟨hF,d',hy⟩:=hk
    obtain⟨bu,hz,hg⟩:=old y d' hy
    obtain⟨_,b2,b3,b4⟩:=fb y k hF
    refine⟨⟨d',hy⟩,b2,fun hk=>?_,fun z o q qi hq hl=>?_⟩
    ·rcases hk with hk|hk
     ·exact b3 hk
     ·exact bu (fc y x k hF (yh k hk.1))
    ·cases kO:Z z with
     |some p=>
      rw[pO kO]at qi;rw[oS kO]at hq
      cases qi;cases hq
      intro e
      exact bu (fc y x k hF (yh k (e▸(hZ.live z p.1 p.2 kO hl).1)))
     |none=>
      rw[oT kO]at qi;rw[ni kO]at hq
      exact b4 z o q qi hq hl}
theorem WR.MX{P:ao7}{B B':Nat→Prop}{w₀ w w2:ao4}{ρ ρ2:Ren}{g g2:Nat→Option ak}(h:WR P B w₀ ρ g w)(h2:WR P B' w ρ2 g2 w2)(pM:∀k,B k→B' k)
 (XE:∀k,B' k→¬B k→∀y o q,g y=some o→ρ y=some q→Live o q=true→q.aN≠k)
 {x:Nat}{r:bT}(hr:ρ2 x=some r){d:ly}{S:Nat→Prop}(cn:ot w2 r d S)(C:Nat→Bool)(hx:C x=true)
 (hS:∀k,S k→(B' k∧¬B k)∨∃y o q,C y=true∧g2 y=some o∧ρ2 y=some q∧Live o q=true∧q.aN=k∧o.ro=false)
 (dw:∀y o,C y=false→g2 y=some o→o.ro=true→g y=some o∧ρ2 y=ρ y):
 WR P B w₀ ρ2 (fun y=>if y=x then some (.abs d)else match C y with|true=>(g2 y).map fun _=>.dead|false=>g2 y) w2:=by
 obtain⟨F,fa,fb,fc⟩:=h2.abs
 let g3:Nat→Option ak:=fun y=>if y=x then some (.abs d)else match C y with|true=>(g2 y).map fun _=>.dead|false=>g2 y
 have old:∀y o,g3 y=some o→(∀d',o≠ .abs d')→o≠ .dead→C y=false∧g2 y=some o:=fun y o hy hd bu=>by
  have hy:(if y=x then some (.abs d)else match C y with|true=>(g2 y).map fun _=>ak.dead|false=>g2 y)=some o:=hy
  split at hy
  ·cases hy;exact absurd rfl (hd d)
  ·cases hc:C y with
   |true=>
    rw[hc]at hy
    cases hg:g2 y with
    |none=>rw[hg]at hy;cases hy
    |some o'=>rw[hg]at hy;cases hy;exact absurd rfl bu
   |false=>rw[hc]at hy;exact⟨rfl,hy⟩
 have vM:∀y o q,g3 y=some o→Live o q=true→C y=false∧g2 y=some o:=fun y o q hy hl=>old y o hy (fun d' e=>by subst e;cases hl) (fun e=>by subst e;cases hl)
 have MY:∀y d',y≠x→g3 y=some (.abs d')→C y=false∧g2 y=some (.abs d'):=fun y d' bu hy=>by
  have hy:(if y=x then some (.abs d)else match C y with|true=>(g2 y).map fun _=>ak.dead|false=>g2 y)=some (.abs d'):=hy
  rw[if_neg bu]at hy
  cases hc:C y with
  |true=>
   rw[hc]at hy
   cases hg:g2 y with
   |none=>rw[hg]at hy;cases hy
   |some o'=>rw[hg]at hy;cases hy
  |false=>rw[hc]at hy;exact⟨rfl,hy⟩
 have vN:∀k,S k→k<w2.heap.size∧¬B k∧(∀y o q,g3 y=some o→ρ2 y=some q→Live o q=true→q.aN≠k)∧∀y,F y k→False:=fun k hk=>by
  rcases hS k hk with⟨a,b⟩|⟨y,o,q,a,b,c,e,rfl,f⟩
  ·refine⟨h2.size k a,b,fun y o q hy hq hl=>?_,fun y hF=>(fb y k hF).2.2.1 a⟩
   obtain⟨c1,c2⟩:=vM y o q hy hl
   cases AL:o.ro with
   |false=>
    obtain⟨_,_,_,c3⟩:=h2.live y o q c2 hq hl
    intro e
    exact c3 AL (e▸a)
   |true=>
    obtain⟨c3,c4⟩:=dw y o c1 c2 AL
    exact XE k a b y o q c3 (c4▸hq) hl
  ·obtain⟨o',l1,l2,l3⟩:=h2.live y o q b c e
   refine⟨(apQ.1 l1).1,fun hk=>l3 f (pM _ hk),fun z u s hz hs hl he=>?_,fun z hF=>(fb z _ hF).2.2.2 y o q b c e rfl⟩
   obtain⟨c1,c2⟩:=vM z u s hz hl
   have:=h2.inj z y u o s q c2 b hs c hl e (.inr f) he
   subst this
   rw[a]at c1;cases c1
 exact
 {below:=h.below.trans ⟨h2.below.os,h2.below.tape,h2.below.output,h2.below.size,fun k hk=>h2.below.block k (pM k hk)⟩
  env:=h.env
  size:=fun k hk=>ard (h.size k hk) h2.below.size
  live:=by
   intro y o q hy hq hl
   obtain⟨_,c2⟩:=vM y o q hy hl
   obtain⟨o',l1,l2,l3⟩:=h2.live y o q c2 hq hl
   exact⟨o',l1,l2,fun e hk=>l3 e (pM _ hk)⟩
  inj:=by
   intro y z oy oz ry rz hy hz cA iu dj j5
   exact h2.inj y z oy oz ry rz (vM y oy ry hy dj).2 (vM z oz rz hz j5).2 cA iu dj j5
  fresh:=by
   intro y hy
   have hy:(if y=x then some (.abs d)else match C y with|true=>(g2 y).map fun _=>ak.dead|false=>g2 y)=none:=hy
   split at hy
   ·cases hy
   ·refine h2.fresh y ?_
    cases hc:C y with
    |true=>rw[hc]at hy;simpa using hy
    |false=>rw[hc]at hy;exact hy
  rows:=by
   intro y n size row hy
   obtain⟨c1,c2⟩:=old y _ hy (fun d' e=>by cases e) (fun e=>by cases e)
   obtain⟨c3,c4⟩:=dw y _ c1 c2 rfl
   obtain⟨q,a,b⟩:=h.rows y n size row c3
   exact⟨q,by rw[c4];exact a,b⟩
  nil:=by
   intro y el ro q hy hq
   exact h2.nil y el ro q (old y _ hy (fun d' e=>by cases e) (fun e=>by cases e)).2 hq
  named:=by
   intro y o hy bu
   by_cases e:y=x
   ·subst e;exact⟨r,hr⟩
   ·cases hd:o with
    |abs d'=>subst hd;exact h2.named y _ (MY y d' e hy).2 bu
    |_=>subst hd;exact h2.named y _ (old y _ hy (fun d' e=>by cases e) bu).2 bu
  abs:=by
   refine⟨fun y k=>(y=x∧S k)∨(y≠x∧F y k∧∃d',g3 y=some (.abs d')),fun y d' hy=>?_,fun y k hk=>?_,fun y z k a b=>?_⟩
   ·by_cases e:y=x
    ·subst e
     have:d'=d:=by
      have hy:(if y=y then some (.abs d)else match C y with|true=>(g2 y).map fun _=>ak.dead|false=>g2 y)=some (.abs d'):=hy
      rw[if_pos rfl]at hy;cases hy;rfl
     subst this
     exact⟨r,S,hr,cn,fun k hk=>.inl ⟨rfl,hk⟩⟩
    ·obtain⟨q,T,a,b,c⟩:=fa y d' (MY y d' e hy).2
     exact⟨q,T,a,b,fun k hk=>.inr ⟨e,c k hk,d',hy⟩⟩
   ·rcases hk with⟨rfl,hk⟩|⟨e,hF,d',hy⟩
    ·obtain⟨a,b,c,_⟩:=vN k hk
     exact⟨⟨d,if_pos rfl⟩,a,b,c⟩
    ·obtain⟨_,b2,b3,b4⟩:=fb y k hF
     exact⟨⟨d',hy⟩,b2,fun hk=>b3 (pM k hk),fun z o q hz hq hl=>b4 z o q (vM z o q hz hl).2 hq hl⟩
   ·rcases a with⟨rfl,a⟩|⟨e,a,_⟩<;>rcases b with⟨rfl,b⟩|⟨e',b,_⟩
    ·rfl
    ·exact((vN k a).2.2.2 z b).elim
    ·exact((vN k b).2.2.2 y a).elim
    ·exact fc y z k a b}
theorem WR.yi{P:ao7}{B:Nat→Prop}{w₀ w:ao4}{ρ:Ren}{g:Nat→Option ak}(h:WR P B w₀ ρ g w){x:Nat}{c:List aoP}{el:ao1}(hx:g x=some (.cells c el false)){q:bT}(hq:ρ x=some q)(hl:Live (.cells c el false) q=true):
 ∃c',LR ρ c c'∧eK w q.aN (.cells c' el q.sh q.dz):=by
 obtain⟨o',h1,h2,_⟩:=h.live x _ q hx hq hl
 cases h2 with
 |cells _ _ b8 _ a fr hp hs he hz hf hc=>
  have MZ:a.toList.length=q.dz:=by rw[Array.length_toList];exact hp
  refine⟨(a.toList.drop q.sh).take c.length,⟨?_,fun i v v' h3 h4=>?_⟩,a,fr,?_,hp,?_,hf rfl,fun i v hi=>?_⟩
  ·rw[apI,ap0,MZ];omega
  ·obtain⟨u,h5,h6⟩:=hc i v h3
   rw[ap9,aqb]at h4
   split at h4
   ·rw[aqA,h5]at h4;cases h4;exact h6
   ·cases h4
  ·rw[h1,he rfl]
  ·rw[apI,ap0,MZ];omega
  ·rw[ap9,aqb]at hi
   split at hi
   ·rw[aqA]at hi;exact hi
   ·cases hi
theorem WR.M0{P:ao7}{B:Nat→Prop}{w₀ w:ao4}{ρ:Ren}{g:Nat→Option ak}(h:WR P B w₀ ρ g w){x:Nat}{es:List apl}{clock:Nat}(hx:g x=some (.map es clock)){q:bT}(hq:ρ x=some q):
 ∃cW,dQ (mY ρ) es cW∧eK w q.aN (.map cW clock):=by
 obtain⟨o',h1,h2,_⟩:=h.live x _ q hx hq rfl
 cases h2 with
 |map _ a _ h3 h4=>
  refine⟨a.toList,?_,h1⟩
  have key:∀(l:List apl) (l':List apl),l.length=l'.length→(∀(i:Nat) (e e':apl),l[i]?=some e→l'[i]?=some e'→mY ρ e e')→dQ (mY ρ) l l':=by
   intro l
   induction l with
   |nil=>intro l' hl _;cases l' with|nil=>exact .nil|cons _ _=>simp at hl
   |cons e l ih=>
    intro l' hl hr
    cases l' with
    |nil=>simp at hl
    |cons e' l'=>exact .cons (hr 0 e e' rfl rfl) (ih l' (by simpa using hl) fun i a b ha hb=>hr (i+1) a b (by simpa using ha) (by simpa using hb))
  exact key _ _ h3 h4
theorem eK.or{P:ao7}{w:ao4}{ρ:Ren}{q:bT}{c c':List aoP}{el:ao1}(h:eK w q.aN (.cells c' el q.sh q.dz))(hz:∀n,b7 P el=some n→q.sz=n)(hl:LR ρ c c'):∃o',w.heap[q.aN]?=some o'∧OR P ρ q (.cells c el false) o':=by
 obtain⟨a,fr,h1,h2,h3,h4,h5⟩:=h
 refine⟨_,h1,.cells c el el false a fr h2 (by rw[hl.len];exact h3) (fun _=>rfl) hz (fun _=>h4) fun i v hi=>?_⟩
 obtain⟨v',h6,h7⟩:=hl.get hi
 exact⟨v',h5 i v' h6,h7⟩
theorem eK.A0{P:ao7}{w:ao4}{ρ:Ren}{q:bT}{es cW:List apl}{clock:Nat}(h:eK w q.aN (.map cW clock))(hl:dQ (mY ρ) es cW):∃o',w.heap[q.aN]?=some o'∧OR P ρ q (.map es clock) o':=by
 refine⟨_,h,.map es _ clock (by rw[hl.len]) fun i e e' h1 h2=>?_⟩
 obtain⟨e2,h3,h4⟩:=hl.get (i:=i) (b:=e') (by simpa using h2)
 rw[h1]at h3;cases h3;exact h4
def zF(r:bT)(o0:ak)(n:Nat)(zs:List (bT×ak)):Nat→Option (bT×ak):=fun y=>if y=0 then some (r,o0)else if y<n then none else zs[y-n]?
def closed(d:ly)(C:List Nat)(o:List ak):List ak:=o.mapIdx fun i ob=>if i=0 then .abs d else if C.contains i then .dead else ob
structure XF(P:ao7)(w:ao4)(L:List (Nat×CO))(r:bT)(o0:ak)(n:Nat)(zs:List (bT×ak)):Prop where
 own:∀p∈(r,o0)::zs,p.2.ro=false∧(∀d,p.2≠ .abs d)
 nil:∀p∈(r,o0)::zs,∀el ro,p.2=.cells [] el ro→∀n,b7 P el=some n→p.1.sz=n
 live:∀ρ:Ren,ρ 0=some r→(∀i p,zs[i]?=some p→ρ (n+i)=some p.1)→∀p∈(r,o0)::zs,Live p.2 p.1=true→p.1.aN∈L.map (·.1)∧∃o',w.heap[p.1.aN]?=some o'∧OR P ρ p.1 p.2 o'
 inj:((r,o0)::zs).Pairwise fun p q=>Live p.2 p.1=true→Live q.2 q.1=true→p.1.aN≠q.1.aN
theorem XG{α:Type}{R:α→α→Prop}{l:List α}(h:l.Pairwise R){i j:Nat}{a b:α}(ha:l[i]?=some a)(hb:l[j]?=some b)(h1:¬R a b)(h2:¬R b a):i=j:=by
 obtain⟨hi,rfl⟩:=ao0.1 ha
 obtain⟨hj,rfl⟩:=ao0.1 hb
 rcases Nat.lt_trichotomy i j with hlt|rfl|hlt
 ·exact absurd (arF.1 h i j hi hj hlt) h1
 ·rfl
 ·exact absurd (arF.1 h j i hj hi hlt) h2
theorem tS{r:bT}{o0:ak}{n:Nat}{zs:List (bT×ak)}(hn:0<n){y:Nat}{p:bT×ak}(h:zF r o0 n zs y=some p):(y=0∧p=(r,o0))∨(y≠0∧n≤y∧zs[y-n]?=some p):=by
 unfold zF at h
 split at h
 ·rename_i e;cases h;exact .inl ⟨e,rfl⟩
 ·rename_i e
  split at h
  ·cases h
  ·exact .inr ⟨e,by omega,h⟩
theorem tT{r:bT}{o0:ak}{n:Nat}{zs:List (bT×ak)}(hn:0<n){y:Nat}{p:bT×ak}(h:zF r o0 n zs y=some p):((r,o0)::zs)[if y=0 then 0 else y-n+1]?=some p:=by
 rcases tS hn h with⟨rfl,rfl⟩|⟨h1,h2,h3⟩
 ·rfl
 ·rw[if_neg h1];exact h3
theorem aI.vK{P:ao7}{f:apr}{args:List aoP}{d:ly}{rest:List ak}{Q:bO→List ak→Prop}
 (h:∀(w:ao4) (r:bT) (S:Nat→Prop) (L:List (Nat×CO)),J3 w→CQ d r.aN r.sh r.sz r.dz L→qe w r.aN S L→∃(o0:ak) (zs:List (bT×ak)) (Q1:bO→List ak→Prop),
   XF P w L r o0 (1+rest.length) zs∧1+rest.length+zs.length≤262144∧aI P f args (o0::rest++zs.map (·.2)) Q1∧
   ∀(v:bO) (o':List ak),Q1 v o'→∀(B:Nat→Prop) (ρ:Ren) (w':ao4),WR P B w ρ (cw o') w'→ρ 0=some r→(∀i p,zs[i]?=some p→ρ (1+rest.length+i)=some p.1)→
    (∀k∈L.map (·.1),(∀p∈(r,o0)::zs,Live p.2 p.1=true→p.1.aN≠k)→B k∧w'.heap[k]?=w.heap[k]?)→
    ∃(d':ly) (S':Nat→Prop) (C:List Nat),ot w' r d' S'∧
     (∀k,S' k→(k∈L.map (·.1)∧∀p∈(r,o0)::zs,Live p.2 p.1=true→p.1.aN≠k)∨∃y o q,(y=0∨C.contains y=true)∧o'[y]?=some o∧ρ y=some q∧Live o q=true∧q.aN=k∧o.ro=false)∧
     (∀y o,y≠0→C.contains y=false→o'[y]?=some o→o.ro=true→1≤y∧rest[y-1]?=some o)∧Q v (closed d' C o')):
 aI P f args (.abs d::rest) Q:=by
 intro B w₀ ρ w args' gI F4 ha hw
 obtain⟨r,S,L,hr,iW,hL,vN,yj⟩:=hw.vK (x:=0) (d:=d) rfl
 obtain⟨o0,zs,Q1,hZ,jb,hf,XH⟩:=h w r S L (hw.env w hw.below) iW hL
 have hn:0<1+rest.length:=by omega
 let Z:=zF r o0 (1+rest.length) zs
 have anE:∀y,small y=true→cw (.abs d::rest) y=(ak.abs d::rest)[y]? :=fun y hy=>cD hy
 have eE:∀y,y<1+rest.length+zs.length→small y=true:=fun y hy=>gT.2 (by have:(2:Nat)^18=262144:=rfl;omega)
 have M3:∀y p,Z y=some p→y<1+rest.length+zs.length:=fun y p hy=>by
  rcases tS hn hy with⟨rfl,_⟩|⟨_,h2,h3⟩
  ·omega
  ·have:=(ao0.1 h3).1;omega
 have tU:eB ρ Z 0=some r:=oS (p:=(r,o0)) (by show zF r o0 _ zs 0=_;unfold zF;rw[if_pos rfl])
 have F5:∀i p,zs[i]?=some p→eB ρ Z (1+rest.length+i)=some p.1:=fun i p hi=>oS (by
  show zF r o0 _ zs _=_
  unfold zF
  rw[if_neg (by omega),if_neg (by omega),show 1+rest.length+i-(1+rest.length)=i by omega];exact hi)
 have cX:MW P w ρ (cw (.abs d::rest)) 0 r L Z:=
 {root:=⟨o0,by show zF r o0 _ zs 0=_;unfold zF;rw[if_pos rfl]⟩
  new:=fun y p hy hz=>by
   rcases tS hn hz with⟨e,_⟩|⟨_,h2,h3⟩
   ·exact absurd e hy
   ·rw[cD (eE y (M3 y p hz)),ap3]
    rw[apC];omega
  own:=fun y q o hz=>hZ.own (q,o) (apy (tT hn hz))
  nil:=fun y q el ro hz=>hZ.nil _ (apy (tT hn hz)) el ro rfl
  live:=fun y q o hz hl=>hZ.live (eB ρ Z) tU F5 (q,o) (apy (tT hn hz)) hl
  inj:=fun y z q s o u hy hz hl qv e=>by
   have:=XG hZ.inj (tT hn hy) (tT hn hz) (fun h=>h hl qv e) (fun h=>h qv hl e.symm)
   rcases tS hn hy with⟨e1,_⟩|⟨e1,h2,h3⟩<;>rcases tS hn hz with⟨e2,_⟩|⟨e2,KB,anF⟩
   ·omega
   ·rw[if_pos e1,if_neg e2]at this;omega
   ·rw[if_neg e1,if_pos e2]at this;omega
   ·rw[if_neg e1,if_neg e2]at this;omega}
 have gP:=yj Z cX
 have hle:ρ.le (eB ρ Z):=fun y q hy=>by
  cases hz:Z y with
  |none=>rw[ni hz];exact hy
  |some p=>
   rcases tS hn hz with⟨rfl,rfl⟩|⟨e,_,_⟩
   ·rw[oS hz];rw[hr]at hy;cases hy;rfl
   ·rw[hw.fresh y (cX.new y p e hz)]at hy;cases hy
 have XI:rZ (cw (.abs d::rest)) Z=cw (o0::rest++zs.map (·.2)):=by
  funext y
  cases hz:Z y with
  |some p=>
   rw[pO hz,cD (eE y (M3 y p hz))]
   rcases tS hn hz with⟨rfl,rfl⟩|⟨e,h2,h3⟩
   ·rfl
   ·rw[apz (by rw[apC];omega),aqk,apC,show y-(rest.length+1)=y-(1+rest.length)by omega,h3];rfl
  |none=>
   rw[oT hz]
   have hz:zF r o0 (1+rest.length) zs y=none:=hz
   unfold zF at hz
   split at hz
   ·cases hz
   ·rename_i e
    cases hs:small y with
    |false=>rw[ie hs,ie hs]
    |true=>
     rw[cD hs,cD hs]
     by_cases hlt:y<1+rest.length
     ·rw[apH (by rw[apC];omega)]
      obtain⟨k,rfl⟩:∃k,y=k+1:=⟨y-1,by omega⟩
      rfl
     ·rw[if_neg hlt,aqE]at hz
      rw[ap3 (by rw[apC];omega),ap3 (by rw[ao5,apC,aqT];omega)]
 rw[XI]at gP
 have hlen:(o0::rest++zs.map (·.2)).length=1+rest.length+zs.length:=by rw[ao5,apC,aqT];omega
 refine(hf (yg B L Z) w (eB ρ Z) w args' ?_ ?_ (ha.mono hle) gP).mono fun e w' he=>?_
 ·intro q
  obtain⟨y,h1,h2⟩:=gI q
  exact⟨y,h1,hle _ _ h2⟩
 ·intro x hx
  rw[hlen]at hx
  by_cases h1:x<1+rest.length
  ·obtain⟨q,hq⟩:=F4 x (by rw[apC];omega)
   exact⟨q,hle _ _ hq⟩
  ·have h2:x-(1+rest.length)<zs.length:=by omega
   have:=F5 (x-(1+rest.length)) _ (aoV h2)
   rw[show 1+rest.length+(x-(1+rest.length))=x by omega]at this
   exact⟨_,this⟩
 obtain⟨v,o',ρ',hq,jf,F6,gV,vu,mB⟩:=he
 have iw:ρ' 0=some r:=by rw[mB 0 (by rw[hlen];omega)];exact tU
 have M5:∀x,x<1+rest.length→ρ' x=ρ x:=fun x hx=>by
  rw[mB x (by rw[hlen];omega)]
  by_cases e:x=0
  ·subst e;rw[tU,hr]
  ·refine ni ?_
   show zF r o0 _ zs x=none
   unfold zF
   rw[if_neg e,if_pos hx]
 obtain⟨d',S',C,cn,XJ,dw,hQ⟩:=XH v o' hq (yg B L Z) ρ' w' gV iw (fun i p hi=>by rw[mB _ (by rw[hlen];have:=(ao0.1 hi).1;omega)];exact F5 i p hi) (fun k hk zD=>have hB:yg B L Z k:=.inr ⟨hk,fun y q o hz hl=>zD (q,o) (apy (tT hn hz)) hl⟩;⟨hB,gV.below.block k hB⟩)
 have eh:=hw.MX gV (fun k hk=>.inl hk) (fun k hk hB=>by
  rcases hk with hk|hk
  ·exact absurd hk hB
  ·exact(vN k ((hL.all k).2 hk.1)).2.2) iw cn (fun y=>y==0||C.contains y) rfl (fun k hk=>by
   rcases XJ k hk with⟨a,b⟩|⟨y,o,q,a,b,c,e,f,g⟩
   ·exact .inl ⟨.inr ⟨a,fun y q o hz hl=>b (q,o) (apy (tT hn hz)) hl⟩,(vN k ((hL.all k).2 a)).2.1⟩
   ·refine .inr ⟨y,o,q,?_,?_,c,e,f,g⟩
    ·rcases a with rfl|a
     ·rfl
     ·rw[a,Bool.or_true]
    ·rw[cD]
     ·exact b
     ·exact gT.2 (by have:=(ao0.1 b).1;have:(2:Nat)^18=262144:=rfl;omega)) (fun y o hC hy vi=>by
   rw[Bool.or_eq_false_iff]at hC
   have qM:y≠0:=by intro e;subst e;cases hC.1
   cases hs:small y with
   |false=>rw[ie hs]at hy;cases hy;cases vi
   |true=>
    rw[cD hs]at hy
    obtain⟨a,b⟩:=dw y o qM hC.2 hy vi
    have hlt:=(ao0.1 b).1
    refine⟨?_,M5 y (by omega)⟩
    rw[cD hs]
    obtain⟨k,rfl⟩:∃k,y=k+1:=⟨y-1,by omega⟩
    exact b)
 refine⟨v,closed d' C o',ρ',hQ,jf,F6,?_,by unfold closed;rw[at9];exact vu,fun x hx=>M5 x (by rw[apC]at hx;omega)⟩
 have:cw (closed d' C o')=(fun y=>if y=0 then some (.abs d')else match(y==0||C.contains y)with|true=>(cw o' y).map fun _=>.dead|false=>cw o' y):=by
  funext y
  cases hs:small y with
  |false=>
   have qM:y≠0:=by intro e;subst e;cases hs
   rw[ie hs,if_neg qM,ie hs]
   cases(y==0||C.contains y)<;>rfl
  |true=>
   rw[cD hs,cD hs]
   unfold closed
   rw[atV]
   by_cases qM:y=0
   ·subst qM
    rw[if_pos rfl]
    cases o' with
    |nil=>
     exfalso
     have:=gV.fresh 0 (by rw[cD hs];rfl)
     rw[iw]at this;cases this
    |cons a l=>rfl
   ·rw[if_neg qM]
    have:(y==0)=false:=by simpa using qM
    rw[this,Bool.false_or]
    cases hc:C.contains y with
    |true=>cases o'[y]? <;>simp[qM,hc];
    |false=>cases o'[y]? <;>simp[qM,hc]
 rw[this]
 exact eh
def yk(x:Nat)(d:ly)(C:List Nat)(o:List ak):List ak:=o.mapIdx fun i ob=>if i=x then .abs d else if C.contains i then .dead else ob
theorem aI.XK{P:ao7}{f:apr}{args:List aoP}{objs:List ak}{Q1 Q:bO→List ak→Prop}(h:aI P f args objs Q1)
 (hc:∀v o',Q1 v o'→∀(B:Nat→Prop) (w₀:ao4) (ρ:Ren) (w':ao4),WR P B w₀ ρ (cw o') w'→∃(x:Nat) (r:bT) (d:ly) (S:Nat→Prop) (C:List Nat),x<o'.length∧ρ x=some r∧ot w' r d S∧C.contains x=true∧
   (∀k,S k→∃y o q,C.contains y=true∧o'[y]?=some o∧ρ y=some q∧Live o q=true∧q.aN=k∧o.ro=false)∧Q v (yk x d C o')):aI P f args objs Q:=by
 intro B w₀ ρ w args' gI F4 ha hw
 refine(h B w₀ ρ w args' gI F4 ha hw).mono fun e w' he=>?_
 obtain⟨v,o',ρ',hq,jf,F6,gV,vu,mB⟩:=he
 obtain⟨x,r,d,S,C,j9,hr,cn,XL,hS,hQ⟩:=hc v o' hq B w₀ ρ' w' gV
 have DY:WR P B w' ρ' (cw o') w':=
 {below:=gq.refl _ _
  env:=gV.env.next gV.below fun k hk=>hk
  size:=gV.size
  live:=gV.live
  inj:=gV.inj
  fresh:=gV.fresh
  rows:=fun y n size row hy=>by
   obtain⟨q,a,b⟩:=gV.rows y n size row hy
   exact⟨q,a,fun hn=>(b hn).mono fun k hk=>⟨hk,gV.below.block k hk⟩⟩
  nil:=gV.nil
  named:=gV.named
  abs:=gV.abs}
 have eE:∀{y o},o'[y]?=some o→small y=true:=fun{y o} hy=>gT.2 (by have:=(ao0.1 hy).1;have:(2:Nat)^18=262144:=rfl;omega)
 have eh:=gV.MX DY (fun k hk=>hk) (fun k hk hB=>absurd hk hB) hr cn (fun y=>C.contains y) XL (fun k hk=>by
  obtain⟨y,o,q,a,b,c⟩:=hS k hk
  exact .inr ⟨y,o,q,a,by rw[cD (eE b)];exact b,c⟩) (fun y o _ hy _=>⟨hy,rfl⟩)
 refine⟨v,yk x d C o',ρ',hQ,jf,F6,?_,by unfold yk;rw[at9];exact vu,mB⟩
 have:cw (yk x d C o')=(fun y=>if y=x then some (.abs d)else match C.contains y with|true=>(cw o' y).map fun _=>.dead|false=>cw o' y):=by
  funext y
  cases hs:small y with
  |false=>
   have qN:y≠x:=by rintro rfl;rw[eE (aoV j9)]at hs;cases hs
   rw[ie hs,if_neg qN,ie hs]
   cases C.contains y<;>rfl
  |true=>
   rw[cD hs,cD hs]
   unfold yk
   rw[atV]
   by_cases qN:y=x
   ·subst qN
    rw[if_pos rfl,aoV j9]
    simp
   ·rw[if_neg qN]
    cases hc:C.contains y with
    |true=>cases o'[y]? <;>simp[qN,hc]
    |false=>cases o'[y]? <;>simp[qN,hc]
 rw[this]
 exact eh
end Go.Proofs.YtnlkkgpcikkpoaaGreat.Vm
namespace Go.Proofs.YtnlkkgpcikkpoaaGreat
theorem de:Vm.iz aoL=true:=by kernel_rfl
theorem mixed:aoL.follows .mixedOrders=true:=by kernel_rfl
end Go.Proofs.YtnlkkgpcikkpoaaGreat
namespace Go.Proofs.YtnlkkgpcikkpoaaGreat
open Go Vm Go.RowKit
def M6:apr→Option Sum:=fun _=>none
theorem bt:dk aoL (dB aoL M6 50 40):=dI de mixed (fun f s h=>by cases h) 50 40
theorem XM(lf:Nat):dk aoL (dB aoL M6 lf 40):=dI de mixed (fun f s h=>by cases h) lf 40
theorem aZ{cO:fD}(hc:dk aoL cO)(m:Nat)(s:ST){n k:Nat}{l:List apw}{d:ai}{T:Tree}(h:∀u,(tK aoL cO 50 (l.take m) (eJ n u d.sl) (k9 d.objs)).sym (vF n k) s=some T){Q:bj→ai→Prop}(hT:T.ok (fun x d'=>match x with
 | .normal=>an aoL n k (l.drop m) d' Q
 |x=>Q x d')):an aoL n k l d Q:=an.tree de mixed hc h hT
def XN:aoP→aoP
 | .pointer (some ⟨b,o,none⟩)=>.pointer (some ⟨b,o,some 0⟩)
 |v=>v
def bX(es:List apl):List apl:=es.map fun e=>{e with val:=XN e.val}
theorem qO:b7 aoL 5=some 1:=by kernel_rfl
theorem pP:b7 aoL 77=some 2:=by kernel_rfl
theorem A1:b7 aoL 173=some 1:=by kernel_rfl
theorem yl:b7 aoL 80=some 5:=by kernel_rfl
theorem A2(b:ByteArray):J4 b=af b:=rfl
theorem LR.plain{ρ:Ren}:∀{c c':List aoP},c.all ag=true→LR ρ c c'→c'=c:=fun hc h=>
 zC h.len fun i v v' h1 h2=>VR.te (aps.1 hc v (apy h1)) (h.at_ i v v' h1 h2)
theorem vO:∀{A C:List (Nat×ByteArray)} {es:List apl} {L:List (Nat×CO)},fw (A++C) es L→∃eA eC LA LC,es=eA++eC∧L=LA++LC∧fw A eA LA∧fw C eC LC
 | [],C,es,L,h=>⟨[],es,[],L,rfl,rfl,.nil,h⟩
 |p::A,C,es,L,h=>by
  cases h with
  |cons _ k sh _ qH L1 L2 hf ht hp=>
   obtain⟨eA,eC,LA,LC,rfl,rfl,h1,h2⟩:=vO ht
   exact⟨_::eA,eC,L1++LA,LC,rfl,by rw[api],.cons p k sh A eA L1 LA hf h1 hp,h2⟩
theorem M7{A C:List (Nat×ByteArray)}{eA eC:List apl}{LA LC:List (Nat×CO)}(h:fw A eA LA)(hC:fw C eC LC):fw (A++C) (eA++eC) (LA++LC):=by
 induction h with
 |nil=>exact hC
 |cons p k sh l es L L' hf ht hp ih=>rw[api];exact .cons p k sh _ _ L _ hf ih hp
theorem M8{ρ:Ren}{A:List (Nat×ByteArray)}{eA:List apl}{LA:List (Nat×CO)}(h:fw A eA LA):∀{e':List apl},dQ (mY ρ) (bX eA) e'→e'=eA:=by
 induction h with
 |nil=>intro e' h';cases h';rfl
 |cons p k sh l es L L' hf ht hp ih=>
  intro e' h'
  cases h' with
  |cons h1 h2=>
   rename_i b l'
   rw[ih h2]
   congr 1
   obtain⟨k1,k2,k3⟩:=h1
   have e1:=k1.jG
   cases b with
   |mk key val M9=>
    dsimp only at e1 k2 k3⊢
    subst e1
    have:val=.pointer (some ⟨k,sh,none⟩):=by
     have k2:VR ρ (.pointer (some ⟨k,sh,some 0⟩)) val:=k2
     cases k2 with
     |bM _ h=>cases h
     |mq=>rfl
    subst this
    cases k3
    rfl
theorem dQ.vP{ρ:Ren}{A:List (Nat×ByteArray)}{eA:List apl}{LA:List (Nat×CO)}(h:fw A eA LA):dQ (mY ρ) (bX eA) eA:=by
 induction h with
 |nil=>exact .nil
 |cons p k sh l es L L' hf ht hp ih=>exact .cons ⟨.bM _ rfl,.mq _ _ _,rfl⟩ ih
theorem dQ.mr{α β:Type}{R:α→β→Prop}:∀{a:List α} {b:List β} {a':List α} {b':List β},dQ R a b→dQ R a' b'→dQ R (a++a') (b++b')
 |_,_,_,_,.nil,h=>h
 |_,_,_,_,.cons h t,h'=>.cons h (dQ.mr t h')
theorem dQ.F7{α β:Type}{R:α→β→Prop}:∀{a a':List α} {l:List β},dQ R (a++a') l→∃b b',l=b++b'∧dQ R a b∧dQ R a' b'
 | [],a',l,h=>⟨[],l,rfl,.nil,h⟩
 |x::a,a',l,h=>by
  cases h with
  |cons h1 h2=>
   obtain⟨b,b',rfl,h3,h4⟩:=dQ.F7 h2
   exact⟨_::b,b',rfl,.cons h1 h3,h4⟩
theorem F8{B:Nat→Prop}{w₀ w:ao4}{ρ:Ren}{g:Nat→Option ak}(h:WR aoL B w₀ ρ g w){z n size:Nat}{c:List aoP}{el:ao1}(hz:g z=some (.cells c el false))(hc:c.all ag=true)(hl:c.length=n*size)(hs:b7 aoL el=some size)(tp:0<size){v:aoP}(hv:VR ρ (.slice (some ⟨z,0,none⟩) n n) v):
 ∃L,Vm.rowAt n size c el v L∧(L=[]∨∃q,ρ z=some q∧Live (.cells c el false) q=true∧L=[(q.aN,.cells c el q.sh q.dz)]∧eK w q.aN (.cells c el q.sh q.dz)):=by
 cases hv with
 |bM _ h=>cases h
 |eD _ a'=>exact⟨[],.inl ⟨rfl,rfl,a',rfl⟩,.inl rfl⟩
 |sl _ _ _ _ bI q hq gU=>
  by_cases lC:Live (.cells c el false) q=true
  ·obtain⟨c',h1,h2⟩:=h.yi hz hq lC
   have:=LR.plain hc h1
   subst this
   obtain⟨o',h3,h4,_⟩:=h.live z _ q hz hq lC
   have cd:q.sz=size:=h4.xl _ hs
   refine⟨_,.inr ⟨q.aN,q.sh,bI,q.dz,rfl,?_,?_,rfl⟩,.inr ⟨q,hq,lC,rfl,h2⟩⟩
   ·rcases gU with h|h
    ·omega
    ·exact h.1
   ·obtain⟨_,_,_,_,h5,_⟩:=h2
    rcases gU with h|h
    ·rw[h,←hl];exact h5
    ·have:=h.2;rw[cd]at this;omega
  ·have lC:Live (.cells c el false) q=false:=by simpa using lC
   obtain⟨h1,h2⟩:=Dk lC
   subst h1
   have cd:q.sz=size:=h.nil z el false q hz hq _ hs
   have hn:n=0:=by
    rcases ate n with h|h
    ·exact h
    ·have:=avh h tp;simp at hl;omega
   subst hn
   have XO:bI=0:=by
    rcases gU with h|h
    ·exact h
    ·have h3:=h.2
     rw[cd,h2]at h3
     rcases ate bI with h|h
     ·exact h
     ·have:=avh h tp;omega
   subst XO
   exact⟨[],.inl ⟨rfl,rfl,_,rfl⟩,.inl rfl⟩
def gR(ρ:Ren)(o':List ak)(k y:Nat):Prop:=∃o q,o'[y]?=some o∧ρ y=some q∧Live o q=true∧q.aN=k∧o.ro=false
theorem gR.row{ρ:Ren}{o':List ak}{y:Nat}{c:List aoP}{el:ao1}{q:bT}(h:o'[y]?=some (.cells c el false))(hq:ρ y=some q)(hl:Live (.cells c el false) q=true):gR ρ o' q.aN y:=⟨_,q,h,hq,hl,rfl,rfl⟩
theorem gR.inj{P:ao7}{B:Nat→Prop}{w₀ w:ao4}{ρ:Ren}{o':List ak}(h:WR P B w₀ ρ (cw o') w)(hlen:o'.length≤262144){k y z:Nat}(h1:gR ρ o' k y)(h2:gR ρ o' k z):y=z:=by
 obtain⟨o,q,a,b,c,d,e⟩:=h1
 obtain⟨u,s,a',b',c',d',e'⟩:=h2
 have sm:∀{y o},o'[y]?=some o→cw o' y=some o:=fun{y o} hy=>by
  rw[cD];exact hy
  exact gT.2 (by have:=(ao0.1 hy).1;have:(2:Nat)^18=262144:=rfl;omega)
 exact h.inj y z o u q s (sm a) (sm a') b b' c c' (.inl e) (d.trans d'.symm)
theorem gR.XP{P:ao7}{B:Nat→Prop}{w₀ w:ao4}{ρ:Ren}{o':List ak}(h:WR P B w₀ ρ (cw o') w)(hlen:o'.length≤262144){k y:Nat}(h1:gR ρ o' k y):¬B k:=by
 obtain⟨o,q,a,b,c,rfl,e⟩:=h1
 have sm:cw o' y=some o:=by
  rw[cD];exact a
  exact gT.2 (by have:=(ao0.1 a).1;have:(2:Nat)^18=262144:=rfl;omega)
 obtain⟨_,_,_,d⟩:=h.live y o q sm b c
 exact d e
inductive r9(o':List ak)(K:List Nat):List (Nat×ByteArray)→List apl→Prop where
 |none:r9 o' K [] []
 |empty (p:Nat×ByteArray) (y:Nat) (hy:o'[y]?=some (.cells [.slice none 0 0] 173 false)) (h0:p.2.size=0) (hd:3<y∧K.contains y=true) (hp:1≤p.1):r9 o' K [p] [{key:=.int .i64 p.1,val:=.pointer (some ⟨y,0,none⟩),born:=p.1-1}]
 |full (p:Nat×ByteArray) (y z:Nat) (hy:o'[y]?=some (.cells [.slice (some ⟨z,0,none⟩) p.2.size p.2.size] 173 false)) (hz:o'[z]?=some (.cells (af p.2) 5 false)) (hd:3<y∧K.contains y=true) (lL:3<z∧K.contains z=true) (bu:y≠z) (hp:1≤p.1):
  r9 o' K [p] [{key:=.int .i64 p.1,val:=.pointer (some ⟨y,0,none⟩),born:=p.1-1}]
theorem XQ{B:Nat→Prop}{w₀ w:ao4}{ρ:Ren}{o':List ak}(h:WR aoL B w₀ ρ (cw o') w)(hlen:o'.length≤262144){F:List (Nat×ByteArray)}{eF e':List apl}{K:List Nat}(hF:r9 o' K F eF)(he:dQ (mY ρ) eF e'):
 ∃LF,fw F e' LF∧(∀p∈LF,eK w p.1 p.2∧∃y,(3<y∧K.contains y=true)∧gR ρ o' p.1 y)∧(LF.map (·.1)).Nodup:=by
 have sm:∀{y o},o'[y]?=some o→cw o' y=some o:=fun{y o} hy=>by
  rw[cD];exact hy
  exact gT.2 (by have:=(ao0.1 hy).1;have:(2:Nat)^18=262144:=rfl;omega)
 cases hF with
 |none=>cases he;exact⟨[],.nil,(fun p hp=>by cases hp),.nil⟩
 |empty p y hy h0 hd hp=>
  cases he with
  |cons h1 h2=>
   cases h2
   rename_i b
   obtain⟨k1,k2,k3⟩:=h1
   obtain⟨q,hq,hv⟩:=VR.ky k2
   have e1:=k1.jG
   obtain⟨c',h3,h4⟩:=h.yi (sm hy) hq rfl
   obtain⟨v,l',rfl,h5,h6⟩:=h3.gG
   have:=h6.kx;subst this
   have fV:v=.slice none 0 0:=VR.te rfl h5
   subst fV
   refine⟨[(q.aN,.cells [.slice none 0 0] 173 q.sh q.dz)],?_,?_,by simp⟩
   ·cases b with
    |mk key val M9=>
     dsimp only at e1 hv k3
     subst e1 hv k3
     exact .cons p q.aN (q.sh+0) [] [] [(q.aN,.cells [.slice none 0 0] 173 q.sh q.dz)] [] ⟨_,q.dz,[],.inl ⟨h0,rfl,none,rfl⟩,rfl⟩ .nil hp
   ·intro p hp
    rw[apP]at hp;subst hp
    exact⟨h4,y,hd,gR.row hy hq rfl⟩
 |full p y z hy hz hd lL bu hp=>
  cases he with
  |cons h1 h2=>
   cases h2
   rename_i b
   obtain⟨k1,k2,k3⟩:=h1
   obtain⟨q,hq,hv⟩:=VR.ky k2
   have e1:=k1.jG
   obtain⟨c',h3,h4⟩:=h.yi (sm hy) hq rfl
   obtain⟨v,l',rfl,h5,h6⟩:=h3.gG
   have:=h6.kx;subst this
   obtain⟨L,r1,r2⟩:=F8 h (sm hz) (by simp) (by rw[mH,arh]) qO (by omega) h5
   refine⟨(q.aN,.cells [v] 173 q.sh q.dz)::L,?_,?_,?_⟩
   ·cases b with
    |mk key val M9=>
     dsimp only at e1 hv k3
     subst e1 hv k3
     have:=fw.cons p q.aN (q.sh+0) [] [] ((q.aN,.cells [v] 173 q.sh q.dz)::L) [] ⟨v,q.dz,L,r1,rfl⟩ .nil hp
     rw[aqm]at this
     exact this
   ·intro p hp
    rcases ao8.1 hp with rfl|hp
    ·exact⟨h4,y,hd,gR.row hy hq rfl⟩
    ·rcases r2 with rfl|⟨s,s1,s2,rfl,s4⟩
     ·cases hp
     ·rw[apP]at hp;subst hp
      exact⟨s4,z,lL,gR.row hz s1 s2⟩
   ·rcases r2 with rfl|⟨s,s1,s2,rfl,s4⟩
    ·simp
    ·simp only[apM,att,aqa,apP,apD,not_false_eq_true,List.nodup_nil,and_true]
     intro e
     exact bu ((gR.row hy hq rfl).inj h hlen (e▸gR.row hz s1 s2))
theorem vQ{w:ao4}{n size:Nat}{c:List aoP}{el:ao1}{v:aoP}{L:List (Nat×CO)}(h:Vm.rowAt n size c el v L)(cn:∀p∈L,eK w p.1 p.2)(hl:c.length=n*size):
 ∃q:bT,q.sz=size∧(Live (.cells c el false) q=true→q.aN∈L.map (·.1)∧eK w q.aN (.cells c el q.sh q.dz))∧∀(ρ:Ren) (z:Nat),ρ z=some q→VR ρ (.slice (some ⟨z,0,none⟩) n n) v:=by
 rcases h with⟨rfl,rfl,a,rfl⟩|⟨k,sh,cap,room,rfl,h1,h2,rfl⟩
 ·have:c=[]:=apL (by rw[hl,Nat.zero_mul])
  subst this
  exact⟨⟨0,0,size,0⟩,rfl,(fun h=>by cases h),fun ρ z _=>.eD _ _⟩
 ·refine⟨⟨k,sh,size,room⟩,rfl,fun _=>⟨by simp,cn _ (apP.2 rfl)⟩,fun ρ z hz=>?_⟩
  exact .sl z 0 n n cap ⟨k,sh,size,room⟩ hz (.inr ⟨h1,by simpa using h2⟩)
theorem A3{B:Nat→Prop}{w w':ao4}{ρ:Ren}{o':List ak}{r:bT}{S:Nat→Prop}{L:List (Nat×CO)}(hL:qe w r.aN S L)(eL:r.sz=5)
 {sc:List (Int×Int)}{A F C:List (Nat×ByteArray)}{eA eF eC:List apl}{LA LM LC L1:List (Nat×CO)}{x1 x2:Nat×CO}(dg:L=x1::x2::(L1++(LA++(LM++LC))))(hA:fw A eA LA)(hC:fw C eC LC)
 (h:WR aoL B w ρ (cw o') w')(hlen:o'.length≤262144)(h0:ρ 0=some r)(hid:∀k,k∈LA.map (·.1)∨k∈LC.map (·.1)→B k∧w'.heap[k]?=w.heap[k]?){made:Nat}{calls raw:Int}
 (o0:o'[0]?=some (.cells [.slice (some ⟨2,0,none⟩) sc.length sc.length,.map (some 3),.int .i64 made,.int .i64 calls,.int .i64 raw] 80 false))
 (o2:o'[2]?=some (.cells (aG sc) 77 false))(pv:(aG sc).all ag=true)(F9:(aG sc).length=sc.length*2)
 (o3:o'[3]?=some (.map (bX eA++(eF++bX eC)) made)){K:List Nat}(hF:r9 o' K F eF)(XS:K.contains 2=true)(XT:K.contains 3=true):
 ∃S',ot w' r ⟨sc,A++(F++C),made,calls,raw⟩ S'∧∀k,S' k→(k∈LA.map (·.1)∨k∈LC.map (·.1))∨∃y,(y=0∨K.contains y=true)∧gR ρ o' k y:=by
 have m0:=(cD (objs:=o') (x:=0) rfl).trans o0
 have m2:=(cD (objs:=o') (x:=2) rfl).trans o2
 have m3:=(cD (objs:=o') (x:=3) rfl).trans o3
 obtain⟨c',h1,h2⟩:=h.yi m0 h0 rfl
 obtain⟨v,l,rfl,hv,bJ⟩:=h1.gG
 obtain⟨vm,l,rfl,Ga,bk⟩:=bJ.gG
 obtain⟨q3,sd,rfl⟩:=Ga.qh
 have:=LR.plain (by rfl) bk
 subst this
 obtain⟨tV,r1,r2⟩:=F8 h m2 pv F9 pP (by omega) hv
 obtain⟨es,h3,h4⟩:=h.M0 m3 sd
 obtain⟨bA,b',rfl,g1,g2⟩:=dQ.F7 h3
 obtain⟨bF,bC,rfl,g3,g4⟩:=dQ.F7 g2
 have:=M8 hA g1
 subst this
 have:=M8 hC g4
 subst this
 obtain⟨LF,f1,f2,f3⟩:=XQ h hlen hF g3
 let L':List (Nat×CO):=(r.aN,.cells [v,.map (some q3.aN),.int .i64 made,.int .i64 calls,.int .i64 raw] 80 r.sh r.dz)::(q3.aN,.map (bA++(bF++bC)) made)::(tV++(LA++(LF++LC)))
 have jB:gR ρ o' r.aN 0:=gR.row o0 h0 rfl
 have pQ:gR ρ o' q3.aN 3:=⟨_,q3,o3,sd,rfl,rfl,rfl⟩
 have lN:∀k∈tV.map (·.1),gR ρ o' k 2:=fun k hk=>by
  rcases r2 with rfl|⟨q,a,b,rfl,c⟩
  ·cases hk
  ·simp only[apM,att,apP]at hk;subst hk;exact gR.row o2 a b
 have vR:∀k∈LF.map (·.1),∃y,(3<y∧K.contains y=true)∧gR ρ o' k y:=fun k hk=>by
  obtain⟨p,hp,rfl⟩:=aqv.1 hk
  exact(f2 p hp).2
 have se:∀k,k∈LA.map (·.1)∨k∈LC.map (·.1)→∀y,gR ρ o' k y→False:=fun k hk y hy=>hy.XP h hlen (hid k hk).1
 have Gb:=hL.fH
 rw[dg]at Gb
 simp only[apM,apK,aqa]at Gb
 have kJ:=(apU.1 Gb.2.2).2.1
 obtain⟨nA,mo,dA⟩:=apU.1 kJ
 obtain⟨_,nC,_⟩:=apU.1 mo
 have XU:∀a∈LA.map (·.1),∀b∈LC.map (·.1),a≠b:=fun a ha b hb=>dA a ha b (apW _ hb)
 have nd:(L'.map (·.1)).Nodup:=by
  simp only[L',apM,apK,aqa,ao8,apo,not_or]
  refine⟨⟨?_,?_,?_,?_,?_⟩,⟨?_,?_,?_,?_⟩,?_⟩
  ·intro e;have:=jB.inj h hlen (e▸pQ);omega
  ·intro hk;have:=jB.inj h hlen (lN _ hk);omega
  ·intro hk;exact se _ (.inl hk) 0 jB
  ·intro hk;obtain⟨y,⟨hy,_⟩,kA⟩:=vR _ hk;have:=jB.inj h hlen kA;omega
  ·intro hk;exact se _ (.inr hk) 0 jB
  ·intro hk;have:=pQ.inj h hlen (lN _ hk);omega
  ·intro hk;exact se _ (.inl hk) 3 pQ
  ·intro hk;obtain⟨y,⟨hy,_⟩,kA⟩:=vR _ hk;have:=pQ.inj h hlen kA;omega
  ·intro hk;exact se _ (.inr hk) 3 pQ
  ·refine apU.2 ⟨?_,apU.2 ⟨nA,apU.2 ⟨f3,nC,?_⟩,?_⟩,?_⟩
   ·rcases r2 with rfl|⟨q,a,b,rfl,c⟩<;>simp
   ·intro a ha b hb e;subst e;obtain⟨y,_,hy⟩:=vR _ ha;exact se _ (.inr hb) y hy
   ·intro a ha b hb e
    subst e
    rcases apo.1 hb with hb|hb
    ·obtain⟨y,_,hy⟩:=vR _ hb;exact se _ (.inl ha) y hy
    ·exact XU _ ha _ hb rfl
   ·intro a ha b hb e
    subst e
    rcases apo.1 hb with hb|hb
    ·exact se _ (.inl hb) 2 (lN _ ha)
    ·rcases apo.1 hb with hb|hb
     ·obtain⟨y,⟨hy,_⟩,kA⟩:=vR _ hb;have:=(lN _ ha).inj h hlen kA;omega
     ·exact se _ (.inr hb) 2 (lN _ ha)
 refine⟨fun k=>k∈L'.map (·.1),⟨L',⟨eL,v,q3.aN,_,tV,LA++(LF++LC),r1,M7 hA (M7 f1 hC),rfl⟩,⟨?_,nd,ape,fun k=>Iff.rfl⟩⟩,?_⟩
 ·intro p hp
  rcases ao8.1 hp with rfl|hp
  ·exact h2
  rcases ao8.1 hp with rfl|hp
  ·exact h4
  rcases apo.1 hp with hp|hp
  ·rcases r2 with rfl|⟨q,a,b,rfl,c⟩
   ·cases hp
   ·rw[apP]at hp;subst hp;exact c
  have old:∀p∈LA++LC,eK w' p.1 p.2:=fun p hp=>by
   refine(hL.at_ p ?_).frame (hid p.1 ?_).2
   ·rw[dg]
    refine apc _ (apc _ (apW _ ?_))
    rcases apo.1 hp with hp|hp
    ·exact aqh _ hp
    ·exact apW _ (apW _ hp)
   ·rcases apo.1 hp with hp|hp
    ·exact .inl (aqY hp)
    ·exact .inr (aqY hp)
  rcases apo.1 hp with hp|hp
  ·exact old p (aqh _ hp)
  rcases apo.1 hp with hp|hp
  ·exact(f2 p hp).1
  ·exact old p (apW _ hp)
 ·intro k hk
  have hk:k∈L'.map (·.1):=hk
  simp only[L',apM,apK,ao8,apo]at hk
  rcases hk with rfl|rfl|hk|hk|hk|hk
  ·exact .inr ⟨0,.inl rfl,jB⟩
  ·exact .inr ⟨3,.inr XT,pQ⟩
  ·exact .inr ⟨2,.inr XS,lN k hk⟩
  ·exact .inl (.inl hk)
  ·obtain⟨y,hy,kA⟩:=vR k hk;exact .inr ⟨y,.inr hy.2,kA⟩
  ·exact .inl (.inr hk)
theorem XV{B:Nat→Prop}{w₀ w':ao4}{ρ:Ren}{o':List ak}{sc:List (Int×Int)}(h:WR aoL B w₀ ρ (cw o') w')(hlen:o'.length≤262144)
 (o1:o'[1]?=some (.cells [.slice (some ⟨2,0,none⟩) sc.length sc.length,.map (some 3),.int .i64 0,.int .i64 0,.int .i64 0] 80 false))
 (o2:o'[2]?=some (.cells (aG sc) 77 false))(pv:(aG sc).all ag=true)(F9:(aG sc).length=sc.length*2)(o3:o'[3]?=some (.map [] 0)):
 ∃r S,ρ 1=some r∧ot w' r ⟨sc,[],0,0,0⟩ S∧∀k,S k→∃y,(y=1∨y=2∨y=3)∧gR ρ o' k y:=by
 have m1:=(cD (objs:=o') (x:=1) rfl).trans o1
 have m2:=(cD (objs:=o') (x:=2) rfl).trans o2
 have m3:=(cD (objs:=o') (x:=3) rfl).trans o3
 obtain⟨r,hr⟩:=h.named 1 _ m1 (by intro e;cases e)
 obtain⟨c',h1,h2⟩:=h.yi m1 hr rfl
 obtain⟨oo,_,XW,_⟩:=h.live 1 _ r m1 hr rfl
 have cd:r.sz=5:=XW.xl _ yl
 obtain⟨v,l,rfl,hv,bJ⟩:=h1.gG
 obtain⟨vm,l,rfl,Ga,bk⟩:=bJ.gG
 obtain⟨q3,sd,rfl⟩:=Ga.qh
 have:=LR.plain (by rfl) bk
 subst this
 obtain⟨tV,r1,r2⟩:=F8 h m2 pv F9 pP (by omega) hv
 obtain⟨es,h3,h4⟩:=h.M0 m3 sd
 cases h3
 let L':List (Nat×CO):=(r.aN,.cells [v,.map (some q3.aN),.int .i64 0,.int .i64 0,.int .i64 0] 80 r.sh r.dz)::(q3.aN,.map [] 0)::(tV++[])
 have jB:gR ρ o' r.aN 1:=gR.row o1 hr rfl
 have pQ:gR ρ o' q3.aN 3:=⟨_,q3,o3,sd,rfl,rfl,rfl⟩
 have lN:∀k∈tV.map (·.1),gR ρ o' k 2:=fun k hk=>by
  rcases r2 with rfl|⟨q,a,b,rfl,c⟩
  ·cases hk
  ·simp only[apM,att,apP]at hk;subst hk;exact gR.row o2 a b
 have nd:(L'.map (·.1)).Nodup:=by
  simp only[L',aqm,apM,aqa,ao8,not_or]
  refine⟨⟨?_,?_⟩,?_,?_⟩
  ·intro e;have:=jB.inj h hlen (e▸pQ);omega
  ·intro hk;have:=jB.inj h hlen (lN _ hk);omega
  ·intro hk;have:=pQ.inj h hlen (lN _ hk);omega
  ·rcases r2 with rfl|⟨q,a,b,rfl,c⟩<;>simp
 refine⟨r,fun k=>k∈L'.map (·.1),hr,⟨L',⟨cd,v,q3.aN,[],tV,[],r1,.nil,rfl⟩,⟨?_,nd,ape,fun k=>Iff.rfl⟩⟩,?_⟩
 ·intro p hp
  rcases ao8.1 hp with rfl|hp
  ·exact h2
  rcases ao8.1 hp with rfl|hp
  ·exact h4
  rw[aqm]at hp
  rcases r2 with rfl|⟨q,a,b,rfl,c⟩
  ·cases hp
  ·rw[apP]at hp;subst hp;exact c
 ·intro k hk
  have hk:k∈L'.map (·.1):=hk
  simp only[L',aqm,apM,ao8]at hk
  rcases hk with rfl|rfl|hk
  ·exact⟨1,.inl rfl,jB⟩
  ·exact⟨3,.inr (.inr rfl),pQ⟩
  ·exact⟨2,.inr (.inl rfl),lN k hk⟩
noncomputable section
noncomputable def sg:List apw:=bd (dC aoL 95)
abbrev tW:=fun(sc:List (Int×Int)) x0 es (ck nb:Nat) f5 (dm dc dr:Int)=>([ab ([ah 2 (aoM sc),.map (some 3),aa dm,aa dc,aa dr]) 80,ab x0 5,ab (aG sc) 77,.map es ck,ab [ah 5 nb] 173,ab f5 5,ab [al 0] 35]:List ak)
abbrev XX:=fun(sc:List (Int×Int)) x0 es (ck nb:Nat) f5 (dm dc dr:Int)=>(⟨[(0,ah 2 (aoM sc)),(1,.func (.func 96) #[] #[al 6]),(7,aa (aoM sc)),(8,aa 0)],tW sc x0 es ck nb f5 dm dc dr⟩:ai)
theorem XY(sc:List (Int×Int))(x0 es)(ck nb:Nat)(f5)(dm dc dr:Int){Q:aY}(aX:aoS x0 ag=true)(bh:aoS (aG sc) ag=true)(bD:aoS (bG [0,1,2,3,4,5,6] es) ag=true)(bx:aoS f5 ag=true)(l4:an apq 19 7 (sg.drop 2) (XX sc x0 es ck nb f5 dm dc dr) Q):an apq 19 7 sg ⟨[(0,ah 2 (aoM sc)),(1,.func (.func 96) #[] #[al 6])],[ab [ah 2 (aoM sc),.map (some 3),aa dm,aa dc,aa dr] 80,ab x0 5,ab (aG sc) 77,.map es ck,ab [ah 5 nb] 173,ab f5 5,ab [al 0] 35]⟩ Q:=
 aZ bt 2 (.leaf [0,1,7,8] [0,1,2,3,4,5,6] [1,2,3,5]) (fun u=>by kernel_rfl) (Tree.aW aX (Tree.aW bh (Tree.aW bD (Tree.aW bx (Tree.fA (l4))))))
abbrev Na:=fun(sc:List (Int×Int)) x0 es (ck nb:Nat) f5 (dm dc dr j:Int)=>(⟨[(4,aa j)],tW sc x0 es ck nb f5 dm dc dr⟩:ai)
theorem XZ(sc:List (Int×Int))(x0 es)(ck nb:Nat)(f5)(dm dc dr j:Int){Q:bo}(aX:aoS x0 ag=true)(bh:aoS (aG sc) ag=true)(cy:aoS (bG [0,1,2,3,4,5,6] es) ag=true)(bx:aoS f5 ag=true)(hq:Q (.ret (aa j)) (tW sc x0 es ck nb f5 dm dc dr)):aJ apq 95 19 7 Q .ret (Na sc x0 es ck nb f5 dm dc dr j):=aJ.ret (vs:=[aa j]) (l:=[]) (bs:=[0,1,2,3,4,5,6]) (pl:=[1,2,3,5]) (q:=[x0,aG sc,bG [0,1,2,3,4,5,6] es,f5]) (fun u=>by kernel_rfl) (by kernel_rfl) (aF aX (aF bh (aF cy (aF bx bi)))) hq
abbrev Nb:=fun(sc:List (Int×Int)) x0 es (ck nb:Nat) f5 (dm dc dr j:Int)=>(⟨[(0,ah 2 (aoM sc)),(1,.func (.func 96) #[] #[al 6]),(7,aa (aoM sc)),(8,.int .i64 (aoN ao2 (j+1)))],tW sc x0 es ck nb f5 dm dc dr⟩:ai)
abbrev X0:=fun(sc:List (Int×Int)) x0 es (ck nb:Nat) f5 (dm dc dr j:Int)=>(⟨[],tW sc x0 es ck nb f5 dm dc dr⟩:ai)
theorem X1(sc:List (Int×Int))(x0 es)(ck nb:Nat)(f5)(dm dc dr j:Int)(h0:0≤j){Q:aY}(n0:(decide (j<(↑(aoM sc):Int)))=true→(apf (0+aoO j*2+2) (aoM (aG sc)))=true)(n1:(decide (j<(↑(aoM sc):Int)))=true→(cH ao2 (aG sc) (0+aoO j*2))=true)(n2:(decide (j<(↑(aoM sc):Int)))=true→(cH ao2 (aG sc) (0+aoO j*2+1))=true)(aX:aoS x0 ag=true)(bh:aoS (aG sc) ag=true)(bD:aoS (bG [0,1,2,3,4,5,6] es) ag=true)(bx:aoS f5 ag=true)(l7:(decide (j<(↑(aoM sc):Int)))=true→(ay (aG sc) (0+aoO j*2)==dc)=true→Q .ret (Na sc x0 es ck nb f5 dm dc dr j))(l8:(decide (j<(↑(aoM sc):Int)))=true→(ay (aG sc) (0+aoO j*2)==dc)=false→Q .normal (Nb sc x0 es ck nb f5 dm dc dr j))(l9:(decide (j<(↑(aoM sc):Int)))=false→Q (.exit 0) (X0 sc x0 es ck nb f5 dm dc dr j)):an apq 19 7 (bd (inner (bd (inner (sg.drop 2))))) ⟨[(0,ah 2 (aoM sc)),(1,.func (.func 96) #[] #[al 6]),(7,aa (aoM sc)),(8,aa j)],[ab [ah 2 (aoM sc),.map (some 3),aa dm,aa dc,aa dr] 80,ab x0 5,ab (aG sc) 77,.map es ck,ab [ah 5 nb] 173,ab f5 5,ab [al 0] 35]⟩ Q:=
 aZ bt 1000 (.fork 0 (aA [0,1,1,0,1,1,1] (.fork 4 (.leaf [4] [0,1,2,3,4,5,6] [1,2,3,5]) (.leaf [0,1,7,8] [0,1,2,3,4,5,6] [1,2,3,5]))) (.leaf [] [0,1,2,3,4,5,6] [1,2,3,5])) (fun u=>by kernel_rfl) (Tree.dn (c:=decide (j<(↑(aoM sc):Int))) (fun h0=>(Tree.aW (decide_eq_true (by omega):(decide (0≤j))=true) (Tree.aW (show(ao9 (aoO j) (aoM sc))=true by simp at h0 h0⊢ <;>omega) (Tree.aW (n0 h0) (Tree.aW (n1 h0) (Tree.aW (n2 h0) (Tree.dn (c:=ay (aG sc) (0+aoO j*2)==dc) (fun h1=>(Tree.aW aX (Tree.aW bh (Tree.aW bD (Tree.aW bx (Tree.dD (l7 h0 h1))))))) (fun h1=>(Tree.aW aX (Tree.aW bh (Tree.aW bD (Tree.aW bx (Tree.fA (an.done (by kernel_rfl) (l8 h0 h1))))))))))))))) (fun h0=>(Tree.aW aX (Tree.aW bh (Tree.aW bD (Tree.aW bx (Tree.fK 0 (l9 h0))))))))
abbrev Nc:=fun(sc:List (Int×Int)) x0 es (ck nb:Nat) f5 (dm dc dr:Int)=>(⟨[(4,aa (-1))],tW sc x0 es ck nb f5 dm dc dr⟩:ai)
theorem X2(sc:List (Int×Int))(x0 es)(ck nb:Nat)(f5)(dm dc dr:Int){Q:bo}(aX:aoS x0 ag=true)(bh:aoS (aG sc) ag=true)(cy:aoS (bG [0,1,2,3,4,5,6] es) ag=true)(bx:aoS f5 ag=true)(hq:Q (.ret (aa (-1))) (tW sc x0 es ck nb f5 dm dc dr)):aJ apq 95 19 7 Q .ret (Nc sc x0 es ck nb f5 dm dc dr):=aJ.ret (vs:=[aa (-1)]) (l:=[]) (bs:=[0,1,2,3,4,5,6]) (pl:=[1,2,3,5]) (q:=[x0,aG sc,bG [0,1,2,3,4,5,6] es,f5]) (fun u=>by kernel_rfl) (by kernel_rfl) (aF aX (aF bh (aF cy (aF bx bi)))) hq
theorem X3(sc:List (Int×Int))(x0 es)(ck nb:Nat)(f5)(dm dc dr:Int){Q:aY}(aX:aoS x0 ag=true)(bh:aoS (aG sc) ag=true)(bD:aoS (bG [0,1,2,3,4,5,6] es) ag=true)(bx:aoS f5 ag=true)(l4:Q .ret (Nc sc x0 es ck nb f5 dm dc dr)):an apq 19 7 (sg.drop 3) ⟨[],[ab [ah 2 (aoM sc),.map (some 3),aa dm,aa dc,aa dr] 80,ab x0 5,ab (aG sc) 77,.map es ck,ab [ah 5 nb] 173,ab f5 5,ab [al 0] 35]⟩ Q:=
 aZ bt 1000 (.leaf [4] [0,1,2,3,4,5,6] [1,2,3,5]) (fun u=>by kernel_rfl) (Tree.aW aX (Tree.aW bh (Tree.aW bD (Tree.aW bx (Tree.dD (l4))))))
abbrev tX:=fun(sc:List (Int×Int)) x0 es (ck:Nat) f5 (dm dc dr:Int)=>([ab ([ah 2 (aoM sc),.map (some 3),aa dm,aa dc,aa dr]) 80,ab x0 5,ab (aG sc) 77,.map es ck,ab [] 173,ab f5 5,ab [al 0] 35]:List ak)
abbrev X4:=fun(sc:List (Int×Int)) x0 es (ck nb:Nat) f5 (dm dc dr:Int)=>(⟨[(0,ah 2 (aoM sc)),(1,.func (.func 96) #[] #[al 6]),(7,aa (aoM sc)),(8,aa 0)],tX sc x0 es ck f5 dm dc dr⟩:ai)
theorem X5(sc:List (Int×Int))(x0 es)(ck nb:Nat)(f5)(dm dc dr:Int){Q:aY}(aX:aoS x0 ag=true)(bh:aoS (aG sc) ag=true)(bD:aoS (bG [0,1,2,3,4,5,6] es) ag=true)(bx:aoS f5 ag=true)(l4:an apq 19 7 (sg.drop 2) (X4 sc x0 es ck nb f5 dm dc dr) Q):an apq 19 7 sg ⟨[(0,ah 2 (aoM sc)),(1,.func (.func 96) #[] #[al 6])],[ab [ah 2 (aoM sc),.map (some 3),aa dm,aa dc,aa dr] 80,ab x0 5,ab (aG sc) 77,.map es ck,ab [] 173,ab f5 5,ab [al 0] 35]⟩ Q:=
 aZ bt 2 (.leaf [0,1,7,8] [0,1,2,3,4,5,6] [1,2,3,5]) (fun u=>by kernel_rfl) (Tree.aW aX (Tree.aW bh (Tree.aW bD (Tree.aW bx (Tree.fA (l4))))))
abbrev Nd:=fun(sc:List (Int×Int)) x0 es (ck nb:Nat) f5 (dm dc dr j:Int)=>(⟨[(4,aa j)],tX sc x0 es ck f5 dm dc dr⟩:ai)
theorem X6(sc:List (Int×Int))(x0 es)(ck nb:Nat)(f5)(dm dc dr j:Int){Q:bo}(aX:aoS x0 ag=true)(bh:aoS (aG sc) ag=true)(cy:aoS (bG [0,1,2,3,4,5,6] es) ag=true)(bx:aoS f5 ag=true)(hq:Q (.ret (aa j)) (tX sc x0 es ck f5 dm dc dr)):aJ apq 95 19 7 Q .ret (Nd sc x0 es ck nb f5 dm dc dr j):=aJ.ret (vs:=[aa j]) (l:=[]) (bs:=[0,1,2,3,4,5,6]) (pl:=[1,2,3,5]) (q:=[x0,aG sc,bG [0,1,2,3,4,5,6] es,f5]) (fun u=>by kernel_rfl) (by kernel_rfl) (aF aX (aF bh (aF cy (aF bx bi)))) hq
abbrev Nf:=fun(sc:List (Int×Int)) x0 es (ck nb:Nat) f5 (dm dc dr j:Int)=>(⟨[(0,ah 2 (aoM sc)),(1,.func (.func 96) #[] #[al 6]),(7,aa (aoM sc)),(8,.int .i64 (aoN ao2 (j+1)))],tX sc x0 es ck f5 dm dc dr⟩:ai)
abbrev X7:=fun(sc:List (Int×Int)) x0 es (ck nb:Nat) f5 (dm dc dr j:Int)=>(⟨[],tX sc x0 es ck f5 dm dc dr⟩:ai)
theorem X8(sc:List (Int×Int))(x0 es)(ck nb:Nat)(f5)(dm dc dr j:Int)(h0:0≤j){Q:aY}(n0:(decide (j<(↑(aoM sc):Int)))=true→(apf (0+aoO j*2+2) (aoM (aG sc)))=true)(n1:(decide (j<(↑(aoM sc):Int)))=true→(cH ao2 (aG sc) (0+aoO j*2))=true)(n2:(decide (j<(↑(aoM sc):Int)))=true→(cH ao2 (aG sc) (0+aoO j*2+1))=true)(aX:aoS x0 ag=true)(bh:aoS (aG sc) ag=true)(bD:aoS (bG [0,1,2,3,4,5,6] es) ag=true)(bx:aoS f5 ag=true)(l7:(decide (j<(↑(aoM sc):Int)))=true→(ay (aG sc) (0+aoO j*2)==dc)=true→Q .ret (Nd sc x0 es ck nb f5 dm dc dr j))(l8:(decide (j<(↑(aoM sc):Int)))=true→(ay (aG sc) (0+aoO j*2)==dc)=false→Q .normal (Nf sc x0 es ck nb f5 dm dc dr j))(l9:(decide (j<(↑(aoM sc):Int)))=false→Q (.exit 0) (X7 sc x0 es ck nb f5 dm dc dr j)):an apq 19 7 (bd (inner (bd (inner (sg.drop 2))))) ⟨[(0,ah 2 (aoM sc)),(1,.func (.func 96) #[] #[al 6]),(7,aa (aoM sc)),(8,aa j)],[ab [ah 2 (aoM sc),.map (some 3),aa dm,aa dc,aa dr] 80,ab x0 5,ab (aG sc) 77,.map es ck,ab [] 173,ab f5 5,ab [al 0] 35]⟩ Q:=
 aZ bt 1000 (.fork 0 (aA [0,1,1,0,1,1,1] (.fork 4 (.leaf [4] [0,1,2,3,4,5,6] [1,2,3,5]) (.leaf [0,1,7,8] [0,1,2,3,4,5,6] [1,2,3,5]))) (.leaf [] [0,1,2,3,4,5,6] [1,2,3,5])) (fun u=>by kernel_rfl) (Tree.dn (c:=decide (j<(↑(aoM sc):Int))) (fun h0=>(Tree.aW (decide_eq_true (by omega):(decide (0≤j))=true) (Tree.aW (show(ao9 (aoO j) (aoM sc))=true by simp at h0 h0⊢ <;>omega) (Tree.aW (n0 h0) (Tree.aW (n1 h0) (Tree.aW (n2 h0) (Tree.dn (c:=ay (aG sc) (0+aoO j*2)==dc) (fun h1=>(Tree.aW aX (Tree.aW bh (Tree.aW bD (Tree.aW bx (Tree.dD (l7 h0 h1))))))) (fun h1=>(Tree.aW aX (Tree.aW bh (Tree.aW bD (Tree.aW bx (Tree.fA (an.done (by kernel_rfl) (l8 h0 h1))))))))))))))) (fun h0=>(Tree.aW aX (Tree.aW bh (Tree.aW bD (Tree.aW bx (Tree.fK 0 (l9 h0))))))))
abbrev Ng:=fun(sc:List (Int×Int)) x0 es (ck nb:Nat) f5 (dm dc dr:Int)=>(⟨[(4,aa (-1))],tX sc x0 es ck f5 dm dc dr⟩:ai)
theorem X9(sc:List (Int×Int))(x0 es)(ck nb:Nat)(f5)(dm dc dr:Int){Q:bo}(aX:aoS x0 ag=true)(bh:aoS (aG sc) ag=true)(cy:aoS (bG [0,1,2,3,4,5,6] es) ag=true)(bx:aoS f5 ag=true)(hq:Q (.ret (aa (-1))) (tX sc x0 es ck f5 dm dc dr)):aJ apq 95 19 7 Q .ret (Ng sc x0 es ck nb f5 dm dc dr):=aJ.ret (vs:=[aa (-1)]) (l:=[]) (bs:=[0,1,2,3,4,5,6]) (pl:=[1,2,3,5]) (q:=[x0,aG sc,bG [0,1,2,3,4,5,6] es,f5]) (fun u=>by kernel_rfl) (by kernel_rfl) (aF aX (aF bh (aF cy (aF bx bi)))) hq
theorem Ya(sc:List (Int×Int))(x0 es)(ck nb:Nat)(f5)(dm dc dr:Int){Q:aY}(aX:aoS x0 ag=true)(bh:aoS (aG sc) ag=true)(bD:aoS (bG [0,1,2,3,4,5,6] es) ag=true)(bx:aoS f5 ag=true)(l4:Q .ret (Ng sc x0 es ck nb f5 dm dc dr)):an apq 19 7 (sg.drop 3) ⟨[],[ab [ah 2 (aoM sc),.map (some 3),aa dm,aa dc,aa dr] 80,ab x0 5,ab (aG sc) 77,.map es ck,ab [] 173,ab f5 5,ab [al 0] 35]⟩ Q:=
 aZ bt 1000 (.leaf [4] [0,1,2,3,4,5,6] [1,2,3,5]) (fun u=>by kernel_rfl) (Tree.aW aX (Tree.aW bh (Tree.aW bD (Tree.aW bx (Tree.dD (l4))))))
end
def cI(sc:List (Int×Int))(c:Int):Int:=match sc.findIdx? (fun x=>x.1==c)with
 |some i=>i
 |none=> -1
theorem Yb{sc:List (Int×Int)}{c:Int}{j:Nat}(hj:j<sc.length)(h1:∀i,i<j→∀x,sc[i]?=some x→(x.1==c)=false)(h2:(sc[j].1==c)=true):cI sc c=j:=by
 unfold cI
 have:sc.findIdx? (fun x=>x.1==c)=some j:=by
  rw[asu]
  exact⟨hj,h2,fun i hi=>by rw[h1 i hi _ (aoV (by omega))];simp⟩
 rw[this]
theorem Nh{sc:List (Int×Int)}{c:Int}(h1:∀i,i<sc.length→∀x,sc[i]?=some x→(x.1==c)=false):cI sc c= -1:=by
 unfold cI
 have:sc.findIdx? (fun x=>x.1==c)=none:=by
  rw[atm]
  intro x hx
  obtain⟨i,hi,rfl⟩:=List.getElem_of_mem hx
  exact h1 i hi _ (aoV hi)
 rw[this]
theorem Ni(sc:List (Int×Int)):(aG sc).length=2*sc.length:=by
 unfold aG
 induction sc with
 |nil=>rfl
 |cons x l ih=>rw[apM,List.flatten_cons,ao5,ih,apC,apC,apC,List.length_nil];omega
theorem Nj(x:Int×Int)(l:List (Int×Int)):aG (x::l)=.int .i64 x.1:: .int .i64 x.2::aG l:=rfl
theorem Nk:∀(sc:List (Int×Int)) (i:Nat) (h:i<sc.length),(aG sc)[2*i]?=some (.int .i64 sc[i].1)∧(aG sc)[2*i+1]?=some (.int .i64 sc[i].2)
 | [],i,h=>by cases h
 |x::l,0,h=>⟨rfl,rfl⟩
 |x::l,i+1,h=>by
  obtain⟨a,b⟩:=Nk l i (by simpa using h)
  rw[Nj,show 2*(i+1)=2*i+1+1 by omega]
  exact⟨by simpa using a,by simpa using b⟩
theorem bb(sc:List (Int×Int)):(aG sc).all ag=true:=by
 induction sc with
 |nil=>rfl
 |cons x l ih=>rw[Nj];simpa[ag]using ih
theorem oU{sc:List (Int×Int)}{j:Int}(h0:0≤j)(h:j<sc.length):cH ao2 (aG sc) (0+aoO j*2)=true∧cH ao2 (aG sc) (0+aoO j*2+1)=true∧
 ay (aG sc) (0+aoO j*2)=(sc[j.toNat]'(by omega)).1∧ay (aG sc) (0+aoO j*2+1)=(sc[j.toNat]'(by omega)).2∧apf (0+aoO j*2+2) (aoM (aG sc))=true:=by
 obtain⟨a,b⟩:=Nk sc j.toNat (by omega)
 rw[show 2*j.toNat=0+j.toNat*2 by omega]at a b
 refine⟨?_,?_,?_,?_,apu (by rw[Ni];omega)⟩
 ·unfold cH;rw[a];rfl
 ·unfold cH;rw[b];rfl
 ·unfold ay;rw[a]
 ·unfold ay;rw[b]
structure tY(sc:List (Int×Int))(c j:Int):Prop where
 a:0≤j
 b:j≤sc.length
 c:∀i,i<j.toNat→∀x,sc[i]?=some x→(x.1==c)=false
theorem tY.next{sc:List (Int×Int)}{c j:Int}(h:tY sc c j)(hlt:j<sc.length)(hd:(ay (aG sc) (0+aoO j*2)==c)=false):tY sc c (j+1):=
 ⟨by have:=h.a;omega,by omega,fun i hi x hx=>by
  have ha:=h.a
  by_cases iC:i<j.toNat
  ·exact h.c i iC x hx
  ·have e:i=j.toNat:=by omega
   subst e
   rw[(oU ha hlt).2.2.1]at hd
   rw[aoV (by omega)]at hx
   cases hx
   exact hd⟩
theorem tY.found{sc:List (Int×Int)}{c j:Int}(h:tY sc c j)(hlt:j<sc.length)(hd:(ay (aG sc) (0+aoO j*2)==c)=true):cI sc c=j:=by
 have ha:=h.a
 rw[(oU ha hlt).2.2.1]at hd
 rw[Yb (j:=j.toNat) (by omega) h.c hd]
 omega
theorem Nl(sc:List (Int×Int))(c:Int):(cI sc c= -1∧sc.find? (fun x=>x.1==c)=none)∨∃i,∃h:i<sc.length,cI sc c=(i:Int)∧sc.find? (fun x=>x.1==c)=some sc[i]:=by
 unfold cI
 cases h:sc.findIdx? (fun x=>x.1==c)with
 |none=>exact .inl ⟨rfl,by rw[List.find?_eq_none];rw[atm]at h;intro x hx;simpa using h x hx⟩
 |some i=>
  obtain⟨h1,h2,h3⟩:=asu.1 h
  refine .inr ⟨i,h1,rfl,?_⟩
  rw[List.find?_eq_some_iff_getElem]
  exact⟨h2,i,h1,rfl,fun k hk=>by simpa using h3 k hk⟩
def A4(e:apl):Bool:=ag e.key&&match e.val with
 | .pointer (some ⟨b,_,none⟩)=>ao9 b 6
 | .pointer (some ⟨_,_,some _⟩)=>true
 |_=>false
def cg(es:List apl):Bool:=es.all A4
theorem cg.Nm{es:List apl}(h:cg es=true){τ:Nat→Option Nat}(hτ:∀y,y<6→τ y=some y):(es.map (ed τ)).all ag=true:=by
 rw[List.all_map,aps]
 intro e he
 have h:=aps.1 h e he
 unfold A4 at h
 rw[ao3]at h
 have hk:qG τ e.key=true:=by
  have h1:=h.1
  unfold ag at h1
  split at h1<;>first|(rename_i tt;rw[tt];rfl)|cases h1
 have hv:qG τ e.val=true:=by
  have h2:=h.2
  split at h2
  ·rename_i b o hb
   rw[hb]
   unfold qG
   dsimp only
   rw[hτ b (dV.1 h2)]
   exact apY b
  ·rename_i hb;rw[hb];rfl
  ·cases h2
 show ag (ed τ e)=true
 unfold ed
 rw[hk,hv]
 rfl
theorem Yc{k n:Nat}(hk:6≤k)(y:Nat)(hy:y<6)(l:List Nat):([0,1,2,3,4,5]++l)[y]?=some y:=by
 rw[apH (by simpa using hy)]
 have:y=0∨y=1∨y=2∨y=3∨y=4∨y=5:=by omega
 rcases this with rfl|rfl|rfl|rfl|rfl|rfl<;>rfl
theorem Yd(y:Nat)(hy:y<6)(l:List Nat):eX ([0,1,2,3,4,5]++l) y=some y:=by
 have:y=0∨y=1∨y=2∨y=3∨y=4∨y=5:=by omega
 rcases this with rfl|rfl|rfl|rfl|rfl|rfl<;>rfl
theorem cg.idx{es:List apl}(h:cg es=true)(l:List Nat):(bG ([0,1,2,3,4,5]++l) es).all ag=true:=cg.Nm h fun y hy=>Yd y hy l
theorem cg.qP{es:List apl}(h:cg es=true)(l:List Nat):(es.map (ed fun i=>([0,1,2,3,4,5]++l)[i]?)).all ag=true:=cg.Nm h fun y hy=>Yc (k:=6) (n:=0) (apn _) y hy l
def ee:List Nat:=[0,1,2,3,4,5]
def kj:List Nat:=[0,1,2,3,4,5,6]
def fM(sc:List (Int×Int))(x0:List aoP)(es:List apl)(ck nb:Nat)(f5:List aoP)(dm dc dr:Int):List ak:=[.cells [.slice (some ⟨2,0,none⟩) sc.length sc.length,.map (some 3),.int .i64 dm,.int .i64 (dc),.int .i64 (dr)] 80 false,.cells x0 5 false,.cells (aG sc) 77 false,.map es ck,.cells [.slice (some ⟨5,0,none⟩) nb nb] 173 false,.cells f5 5 false]
def Ye(sc:List (Int×Int))(x0:List aoP)(es:List apl)(ck nb:Nat)(f5:List aoP)(dm dc dr:Int)(j:Int):ai:=⟨[(0,.slice (some ⟨2,0,none⟩) sc.length sc.length),(1,.func (.func 96) #[] #[.pointer (some ⟨6,0,none⟩)]),(7,.int .i64 sc.length),(8,.int .i64 j)],fM sc x0 es ck nb f5 dm dc dr++[.cells [.pointer (some ⟨0,0,none⟩)] 35 false]⟩
theorem Yf(sc:List (Int×Int))(x0:List aoP)(es:List apl)(ck nb:Nat)(f5:List aoP)(dm dc dr:Int)(hs:sc.length≤1000000)(h0:x0.all ag=true)(h3:(bG kj es).all ag=true)(h5:f5.all ag=true):aI aoL 95 [.slice (some ⟨2,0,none⟩) sc.length sc.length,.func (.func 96) #[] #[.pointer (some ⟨6,0,none⟩)]] (fM sc x0 es ck nb f5 dm dc dr++[.cells [.pointer (some ⟨0,0,none⟩)] 35 false])
 fun r o=>r=.ret (.int .i64 (cI sc dc))∧o=fM sc x0 es ck nb f5 dm dc dr++[.cells [.pointer (some ⟨0,0,none⟩)] 35 false]:=by
 refine aI.cY (n:=cp aoL 95) (by kernel_rfl) ?_
 have hp:=bb sc
 apply XY sc x0 es ck nb f5 dm dc dr<;>try assumption
 intros
 refine an.eO 2 0 (by kernel_rfl) ?_
 refine an.fL (Ye sc x0 es ck nb f5 dm dc dr) (fun j=>(sc.length-j).toNat) (tY sc dc) 0 (by kernel_rfl) ⟨atF 0,by omega,fun i hi=>by simp at hi⟩ ?_
 intro j hj
 have ha:=hj.a
 apply X1 sc x0 es ck nb f5 dm dc dr j hj.a<;>try assumption
 case n0=>intro g;exact(oU ha (of_decide_eq_true g)).2.2.2.2
 case n1=>intro g;exact(oU ha (of_decide_eq_true g)).1
 case n2=>intro g;exact(oU ha (of_decide_eq_true g)).2.1
 case l7=>
  intro g g1
  have g:=of_decide_eq_true g
  with_reducible (repeat first|refine QL.ret ?_|refine QL.exit ?_|refine QB.ret ?_|refine QB.cx ?_|refine QB.normal ?_|refine QB.cG (by rfl) ?_)
  exact XZ sc x0 es ck nb f5 dm dc dr j h0 hp h3 h5 ⟨by rw[hj.found g g1],rfl⟩
 case l8=>
  intro g g1
  have g:=of_decide_eq_true g
  have hw:aoN ao2 (j+1)=j+1:=ng (by omega) (by omega)
  exact QL.to (j+1) (hj.next g g1) (by omega) (by unfold Nb;rw[hw];rfl)
 case l9=>
  intro g
  have g:=of_decide_eq_false g
  with_reducible (repeat first|refine QL.ret ?_|refine QL.exit ?_|refine QB.ret ?_|refine QB.cx ?_|refine QB.normal ?_|refine QB.cG (by rfl) ?_)
  refine X3 sc x0 es ck nb f5 dm dc dr ?_ ?_ ?_ ?_ ?_<;>try assumption
  intros
  exact X2 sc x0 es ck nb f5 dm dc dr h0 hp h3 h5 ⟨by rw[Nh fun i hi=>hj.c i (by omega)],rfl⟩
def fE(sc:List (Int×Int))(x0:List aoP)(es:List apl)(ck nb:Nat)(f5:List aoP)(dm dc dr:Int):List ak:=[.cells [.slice (some ⟨2,0,none⟩) sc.length sc.length,.map (some 3),.int .i64 dm,.int .i64 (dc),.int .i64 (dr)] 80 false,.cells x0 5 false,.cells (aG sc) 77 false,.map es ck,.cells [] 173 false,.cells f5 5 false]
def Yg(sc:List (Int×Int))(x0:List aoP)(es:List apl)(ck nb:Nat)(f5:List aoP)(dm dc dr:Int)(j:Int):ai:=⟨[(0,.slice (some ⟨2,0,none⟩) sc.length sc.length),(1,.func (.func 96) #[] #[.pointer (some ⟨6,0,none⟩)]),(7,.int .i64 sc.length),(8,.int .i64 j)],fE sc x0 es ck nb f5 dm dc dr++[.cells [.pointer (some ⟨0,0,none⟩)] 35 false]⟩
theorem Yh(sc:List (Int×Int))(x0:List aoP)(es:List apl)(ck nb:Nat)(f5:List aoP)(dm dc dr:Int)(hs:sc.length≤1000000)(h0:x0.all ag=true)(h3:(bG kj es).all ag=true)(h5:f5.all ag=true):aI aoL 95 [.slice (some ⟨2,0,none⟩) sc.length sc.length,.func (.func 96) #[] #[.pointer (some ⟨6,0,none⟩)]] (fE sc x0 es ck nb f5 dm dc dr++[.cells [.pointer (some ⟨0,0,none⟩)] 35 false])
 fun r o=>r=.ret (.int .i64 (cI sc dc))∧o=fE sc x0 es ck nb f5 dm dc dr++[.cells [.pointer (some ⟨0,0,none⟩)] 35 false]:=by
 refine aI.cY (n:=cp aoL 95) (by kernel_rfl) ?_
 have hp:=bb sc
 apply X5 sc x0 es ck nb f5 dm dc dr<;>try assumption
 intros
 refine an.eO 2 0 (by kernel_rfl) ?_
 refine an.fL (Yg sc x0 es ck nb f5 dm dc dr) (fun j=>(sc.length-j).toNat) (tY sc dc) 0 (by kernel_rfl) ⟨atF 0,by omega,fun i hi=>by simp at hi⟩ ?_
 intro j hj
 have ha:=hj.a
 apply X8 sc x0 es ck nb f5 dm dc dr j hj.a<;>try assumption
 case n0=>intro g;exact(oU ha (of_decide_eq_true g)).2.2.2.2
 case n1=>intro g;exact(oU ha (of_decide_eq_true g)).1
 case n2=>intro g;exact(oU ha (of_decide_eq_true g)).2.1
 case l7=>
  intro g g1
  have g:=of_decide_eq_true g
  with_reducible (repeat first|refine QL.ret ?_|refine QL.exit ?_|refine QB.ret ?_|refine QB.cx ?_|refine QB.normal ?_|refine QB.cG (by rfl) ?_)
  exact X6 sc x0 es ck nb f5 dm dc dr j h0 hp h3 h5 ⟨by rw[hj.found g g1],rfl⟩
 case l8=>
  intro g g1
  have g:=of_decide_eq_true g
  have hw:aoN ao2 (j+1)=j+1:=ng (by omega) (by omega)
  exact QL.to (j+1) (hj.next g g1) (by omega) (by unfold Nf;rw[hw];rfl)
 case l9=>
  intro g
  have g:=of_decide_eq_false g
  with_reducible (repeat first|refine QL.ret ?_|refine QL.exit ?_|refine QB.ret ?_|refine QB.cx ?_|refine QB.normal ?_|refine QB.cG (by rfl) ?_)
  refine Ya sc x0 es ck nb f5 dm dc dr ?_ ?_ ?_ ?_ ?_<;>try assumption
  intros
  exact X9 sc x0 es ck nb f5 dm dc dr h0 hp h3 h5 ⟨by rw[Nh fun i hi=>hj.c i (by omega)],rfl⟩
end Go.Proofs.YtnlkkgpcikkpoaaGreat
namespace Go.Proofs.YtnlkkgpcikkpoaaGreat
open Go Vm Go.RowKit
set_option maxHeartbeats 1000000
structure Left(d:au)(eR:List apl)(L2:List (Nat×CO))(o':List ak)(K:List Nat)(d':au):Prop where
 it:∃A R C eA eM eC F eF LA LM LC,d.files=A++(R++C)∧eR=eA++(eM++eC)∧L2=LA++(LM++LC)∧fw A eA LA∧fw C eC LC∧d'.bS=d.bS∧d'.files=A++(F++C)∧
  o'[0]?=some (.cells [.slice (some ⟨2,0,none⟩) d.bS.length d.bS.length,.map (some 3),.int .i64 d'.made,.int .i64 d'.calls,.int .i64 d'.raw] 80 false)∧
  o'[3]?=some (.map (bX eA++(eF++bX eC)) d'.made)∧r9 o' K F eF
 row:o'[2]?=some (.cells (aG d.bS) 77 false)
 k2:K.contains 2=true
 k3:K.contains 3=true
 own:∀o∈o',o.ro=false
 bW:o'.length≤262144
theorem vS{c:List aoP}(h:c.all ag=true):c.all fl=true:=by
 rw[aps]at h⊢
 intro v hv
 have:=h v hv
 unfold ag at this
 split at this<;>first|rfl|cases this
theorem A5{a b:Nat}{X Y:List Nat}(h:(a::b::(X++Y)).Nodup):a≠b∧a∉X∧a∉Y∧b∉X∧b∉Y∧∀x∈X,x∉Y:=by
 simp only[aqa,ao8,apo,not_or]at h
 obtain⟨⟨h1,h2,h3⟩,⟨h4,h5⟩,h6⟩:=h
 exact⟨h1,h2,h3,h4,h5,fun x hx hy=>(apU.1 h6).2.2 x hx x hy rfl⟩
theorem oV(sc:List (Int×Int)):(aG sc).length=sc.length*2:=by rw[Ni,Nat.mul_comm]
theorem aI.ym{f:apr}{args:List aoP}{d:au}{x0:List aoP}{Q:bO→List ak→Prop}(h:∀eR L2,fw d.files eR L2→aI aoL f args (fE d.bS [] (bX eR) d.made 0 [] d.made d.calls d.raw) fun v o'=>∃d' K,Left d eR L2 o' K d'∧Q v (closed d' K o')):aI aoL f args (.abs d::[]) Q:=by
 refine aI.vK fun w r S L hG iW hL=>?_
 obtain⟨eL,v,m,es,L1,L2,kP,jP,dg⟩:=iW
 have tZ:∀p∈L1,eK w p.1 p.2:=fun p hp=>hL.at_ p (by rw[dg];simp[hp])
 obtain⟨qs,oW,lO,ua⟩:=vQ kP tZ (oV _)
 have dx:=hL.fH
 rw[dg]at dx
 simp only[apM,apK]at dx
 obtain⟨n1,n2,n3,n4,n5,n6⟩:=A5 dx
 refine⟨.cells [.slice (some ⟨2,0,none⟩) d.bS.length d.bS.length,.map (some 3),.int .i64 d.made,.int .i64 d.calls,.int .i64 d.raw] 80 false,[(⟨0,0,1,0⟩,.cells [] 5 false),(qs,.cells (aG d.bS) 77 false),(⟨m,0,0,0⟩,.map (bX es) d.made),(⟨0,0,1,0⟩,.cells [] 173 false),(⟨0,0,1,0⟩,.cells [] 5 false)],_,⟨?_,?_,?_,?_⟩,by simp,h es L2 jP,?_⟩
 ·intro p hp
  simp only[ao8,apD,or_false]at hp
  rcases hp with rfl|rfl|rfl|rfl|rfl|rfl<;>exact⟨rfl,by intro d' e;cases e⟩
 ·intro p hp el ro he n hn
  simp only[ao8,apD,or_false]at hp
  rcases hp with rfl|rfl|rfl|rfl|rfl|rfl
  ·cases he
  ·cases he;rw[qO]at hn;cases hn;rfl
  ·injection he with e1 e2 e3;subst e2;rw[pP]at hn;cases hn;exact oW
  ·cases he
  ·cases he;rw[A1]at hn;cases hn;rfl
  ·cases he;rw[qO]at hn;cases hn;rfl
 ·intro ρ tU hρ p hp hl
  have ub:ρ 2=some qs:=hρ 1 _ rfl
  have uc:ρ 3=some ⟨m,0,0,0⟩:=hρ 2 _ rfl
  simp only[ao8,apD,or_false]at hp
  rcases hp with rfl|rfl|rfl|rfl|rfl|rfl
  ·have hc:eK w r.aN (.cells [v,.map (some m),.int .i64 d.made,.int .i64 d.calls,.int .i64 d.raw] 80 r.sh r.dz):=hL.at_ (r.aN,_) (by rw[dg];exact ape)
   refine⟨by rw[dg];simp,?_⟩
   exact hc.or (fun n hn=>by rw[yl]at hn;cases hn;exact eL) (.cons (ua ρ 2 ub) (.cons (.map 3 _ uc) (.cons (.bM _ rfl) (.cons (.bM _ rfl) (.cons (.bM _ rfl) (LR.nil ρ))))))
  ·cases hl
  ·obtain⟨h1,h2⟩:=lO hl
   exact⟨by rw[dg];simp only[apM,apK,ao8,apo];exact .inr (.inr (.inl h1)),h2.or (fun n hn=>by rw[pP]at hn;cases hn;exact oW) (LR.rA (vS (bb _)))⟩
  ·have hc:eK w m _:=hL.at_ (m,_) (by rw[dg];exact apc _ ape)
   exact⟨by rw[dg];simp,eK.A0 (q:=⟨m,0,0,0⟩) hc (dQ.vP jP)⟩
  ·cases hl
  ·cases hl
 ·have s1:Live (.cells (aG d.bS) 77 false) qs=true→qs.aN∈L1.map (·.1):=fun hl=>(lO hl).1
  refine .cons (fun q hq=>?_) ?_
  ·simp only[ao8,apD,or_false]at hq
   rcases hq with rfl|rfl|rfl|rfl|rfl
   ·intro h1 h2;exact absurd h2 (by decide)
   ·exact fun h1 h2 e=>n2 (by rw[show r.aN=qs.aN from e];exact s1 h2)
   ·exact fun h1 h2 e=>n1 e
   ·intro h1 h2;exact absurd h2 (by decide)
   ·intro h1 h2;exact absurd h2 (by decide)
  refine .cons (fun q hq=>?_) ?_
  ·simp only[ao8,apD,or_false]at hq
   rcases hq with rfl|rfl|rfl|rfl
   ·intro h1 h2;exact absurd h1 (by decide)
   ·intro h1 h2;exact absurd h1 (by decide)
   ·intro h1 h2;exact absurd h2 (by decide)
   ·intro h1 h2;exact absurd h2 (by decide)
  refine .cons (fun q hq=>?_) ?_
  ·simp only[ao8,apD,or_false]at hq
   rcases hq with rfl|rfl|rfl
   ·exact fun h1 h2 e=>n4 (by rw[←show qs.aN=m from e];exact s1 h1)
   ·intro h1 h2;exact absurd h2 (by decide)
   ·intro h1 h2;exact absurd h2 (by decide)
  refine .cons (fun q hq=>?_) ?_
  ·simp only[ao8,apD,or_false]at hq
   rcases hq with rfl|rfl
   ·intro h1 h2;exact absurd h2 (by decide)
   ·intro h1 h2;exact absurd h2 (by decide)
  refine .cons (fun q hq=>?_) ?_
  ·simp only[ao8,apD,or_false]at hq
   rcases hq with rfl
   ·intro h1 h2;exact absurd h2 (by decide)
  refine .cons (fun q hq=>?_) ?_
  ·simp only[ao8,apD,or_false]at hq
  exact .nil
 ·rintro vr o' ⟨d',K,⟨⟨A,R,C,eA,eM,eC,F,eF,LA,LM,LC,c0,ce,cl,hA,hC,c1,c2,c3,c4,c5⟩,c6,c7,c8,c9,ud⟩,hQ⟩ B ρ w' hw h0 hρ hid
  rw[cl]at dg n3 n5 n6
  simp only[apK]at n3 n5 n6
  have jQ:∀k,k∈LA.map (·.1)∨k∈LC.map (·.1)→k∈LA.map (·.1)++(LM.map (·.1)++LC.map (·.1)):=fun k hk=>by
   rcases hk with hk|hk
   ·exact aqh _ hk
   ·exact apW _ (apW _ hk)
  have oX:∀k,k∈LA.map (·.1)∨k∈LC.map (·.1)→∀q∈(r,.cells [.slice (some ⟨2,0,none⟩) d.bS.length d.bS.length,.map (some 3),.int .i64 d.made,.int .i64 d.calls,.int .i64 d.raw] 80 false)::([(⟨0,0,1,0⟩,.cells [] 5 false),(qs,.cells (aG d.bS) 77 false),(⟨m,0,0,0⟩,.map (bX es) d.made),(⟨0,0,1,0⟩,.cells [] 173 false),(⟨0,0,1,0⟩,.cells [] 5 false)]:List (bT×ak)),Live q.2 q.1=true→q.1.aN≠k:=by
   intro k hk q hq hl e
   have jQ:=jQ k hk
   simp only[ao8,apD,or_false]at hq
   rcases hq with rfl|rfl|rfl|rfl|rfl|rfl
   ·exact n3 (by rw[show r.aN=k from e];exact jQ)
   ·cases hl
   ·exact n6 _ (lO hl).1 (by rw[show qs.aN=k from e];exact jQ)
   ·exact n5 (by rw[show m=k from e];exact jQ)
   ·cases hl
   ·cases hl
  have oY:∀k,k∈LA.map (·.1)∨k∈LC.map (·.1)→k∈L.map (·.1):=fun k hk=>by rw[dg];simp only[apM,apK,ao8,apo];exact hk.elim (fun hk=>.inr (.inr (.inr (.inl hk)))) (fun hk=>.inr (.inr (.inr (.inr (.inr hk)))))
  obtain⟨S',cn,hS⟩:=A3 (C:=C) (made:=d'.made) (calls:=d'.calls) (raw:=d'.raw) hL eL dg hA hC hw ud h0 (fun k hk=>hid k (oY k hk) (oX k hk)) c3 c6 (bb _) (oV _) c4 c5 c7 c8
  rw[←c1,←c2]at cn
  refine⟨d',S',K,cn,fun k hk=>?_,fun y o _ _ hy hr=>?_,hQ⟩
  ·rcases hS k hk with hk|⟨y,hy,o,q,a1,a2,a3,a4,a5⟩
   ·exact .inl ⟨oY k hk,oX k hk⟩
   ·exact .inr ⟨y,o,q,hy,a1,a2,a3,a4,a5⟩
  ·have:=c9 o (apy hy);rw[this]at hr;cases hr
theorem aI.Yi{f:apr}{args:List aoP}{d:au}{x0:List aoP}{Q:bO→List ak→Prop}(h:∀eR L2,fw d.files eR L2→aI aoL f args (fE d.bS x0 (bX eR) d.made 0 [] d.made d.calls d.raw) fun v o'=>∃d' K,Left d eR L2 o' K d'∧Q v (closed d' K o')):aI aoL f args (.abs d::[.cells x0 5 false]) Q:=by
 refine aI.vK fun w r S L hG iW hL=>?_
 obtain⟨eL,v,m,es,L1,L2,kP,jP,dg⟩:=iW
 have tZ:∀p∈L1,eK w p.1 p.2:=fun p hp=>hL.at_ p (by rw[dg];simp[hp])
 obtain⟨qs,oW,lO,ua⟩:=vQ kP tZ (oV _)
 have dx:=hL.fH
 rw[dg]at dx
 simp only[apM,apK]at dx
 obtain⟨n1,n2,n3,n4,n5,n6⟩:=A5 dx
 refine⟨.cells [.slice (some ⟨2,0,none⟩) d.bS.length d.bS.length,.map (some 3),.int .i64 d.made,.int .i64 d.calls,.int .i64 d.raw] 80 false,[(qs,.cells (aG d.bS) 77 false),(⟨m,0,0,0⟩,.map (bX es) d.made),(⟨0,0,1,0⟩,.cells [] 173 false),(⟨0,0,1,0⟩,.cells [] 5 false)],_,⟨?_,?_,?_,?_⟩,by simp,h es L2 jP,?_⟩
 ·intro p hp
  simp only[ao8,apD,or_false]at hp
  rcases hp with rfl|rfl|rfl|rfl|rfl<;>exact⟨rfl,by intro d' e;cases e⟩
 ·intro p hp el ro he n hn
  simp only[ao8,apD,or_false]at hp
  rcases hp with rfl|rfl|rfl|rfl|rfl
  ·cases he
  ·injection he with e1 e2 e3;subst e2;rw[pP]at hn;cases hn;exact oW
  ·cases he
  ·cases he;rw[A1]at hn;cases hn;rfl
  ·cases he;rw[qO]at hn;cases hn;rfl
 ·intro ρ tU hρ p hp hl
  have ub:ρ 2=some qs:=hρ 0 _ rfl
  have uc:ρ 3=some ⟨m,0,0,0⟩:=hρ 1 _ rfl
  simp only[ao8,apD,or_false]at hp
  rcases hp with rfl|rfl|rfl|rfl|rfl
  ·have hc:eK w r.aN (.cells [v,.map (some m),.int .i64 d.made,.int .i64 d.calls,.int .i64 d.raw] 80 r.sh r.dz):=hL.at_ (r.aN,_) (by rw[dg];exact ape)
   refine⟨by rw[dg];simp,?_⟩
   exact hc.or (fun n hn=>by rw[yl]at hn;cases hn;exact eL) (.cons (ua ρ 2 ub) (.cons (.map 3 _ uc) (.cons (.bM _ rfl) (.cons (.bM _ rfl) (.cons (.bM _ rfl) (LR.nil ρ))))))
  ·obtain⟨h1,h2⟩:=lO hl
   exact⟨by rw[dg];simp only[apM,apK,ao8,apo];exact .inr (.inr (.inl h1)),h2.or (fun n hn=>by rw[pP]at hn;cases hn;exact oW) (LR.rA (vS (bb _)))⟩
  ·have hc:eK w m _:=hL.at_ (m,_) (by rw[dg];exact apc _ ape)
   exact⟨by rw[dg];simp,eK.A0 (q:=⟨m,0,0,0⟩) hc (dQ.vP jP)⟩
  ·cases hl
  ·cases hl
 ·have s1:Live (.cells (aG d.bS) 77 false) qs=true→qs.aN∈L1.map (·.1):=fun hl=>(lO hl).1
  refine .cons (fun q hq=>?_) ?_
  ·simp only[ao8,apD,or_false]at hq
   rcases hq with rfl|rfl|rfl|rfl
   ·exact fun h1 h2 e=>n2 (by rw[show r.aN=qs.aN from e];exact s1 h2)
   ·exact fun h1 h2 e=>n1 e
   ·intro h1 h2;exact absurd h2 (by decide)
   ·intro h1 h2;exact absurd h2 (by decide)
  refine .cons (fun q hq=>?_) ?_
  ·simp only[ao8,apD,or_false]at hq
   rcases hq with rfl|rfl|rfl
   ·exact fun h1 h2 e=>n4 (by rw[←show qs.aN=m from e];exact s1 h1)
   ·intro h1 h2;exact absurd h2 (by decide)
   ·intro h1 h2;exact absurd h2 (by decide)
  refine .cons (fun q hq=>?_) ?_
  ·simp only[ao8,apD,or_false]at hq
   rcases hq with rfl|rfl
   ·intro h1 h2;exact absurd h2 (by decide)
   ·intro h1 h2;exact absurd h2 (by decide)
  refine .cons (fun q hq=>?_) ?_
  ·simp only[ao8,apD,or_false]at hq
   rcases hq with rfl
   ·intro h1 h2;exact absurd h2 (by decide)
  refine .cons (fun q hq=>?_) ?_
  ·simp only[ao8,apD,or_false]at hq
  exact .nil
 ·rintro vr o' ⟨d',K,⟨⟨A,R,C,eA,eM,eC,F,eF,LA,LM,LC,c0,ce,cl,hA,hC,c1,c2,c3,c4,c5⟩,c6,c7,c8,c9,ud⟩,hQ⟩ B ρ w' hw h0 hρ hid
  rw[cl]at dg n3 n5 n6
  simp only[apK]at n3 n5 n6
  have jQ:∀k,k∈LA.map (·.1)∨k∈LC.map (·.1)→k∈LA.map (·.1)++(LM.map (·.1)++LC.map (·.1)):=fun k hk=>by
   rcases hk with hk|hk
   ·exact aqh _ hk
   ·exact apW _ (apW _ hk)
  have oX:∀k,k∈LA.map (·.1)∨k∈LC.map (·.1)→∀q∈(r,.cells [.slice (some ⟨2,0,none⟩) d.bS.length d.bS.length,.map (some 3),.int .i64 d.made,.int .i64 d.calls,.int .i64 d.raw] 80 false)::([(qs,.cells (aG d.bS) 77 false),(⟨m,0,0,0⟩,.map (bX es) d.made),(⟨0,0,1,0⟩,.cells [] 173 false),(⟨0,0,1,0⟩,.cells [] 5 false)]:List (bT×ak)),Live q.2 q.1=true→q.1.aN≠k:=by
   intro k hk q hq hl e
   have jQ:=jQ k hk
   simp only[ao8,apD,or_false]at hq
   rcases hq with rfl|rfl|rfl|rfl|rfl
   ·exact n3 (by rw[show r.aN=k from e];exact jQ)
   ·exact n6 _ (lO hl).1 (by rw[show qs.aN=k from e];exact jQ)
   ·exact n5 (by rw[show m=k from e];exact jQ)
   ·cases hl
   ·cases hl
  have oY:∀k,k∈LA.map (·.1)∨k∈LC.map (·.1)→k∈L.map (·.1):=fun k hk=>by rw[dg];simp only[apM,apK,ao8,apo];exact hk.elim (fun hk=>.inr (.inr (.inr (.inl hk)))) (fun hk=>.inr (.inr (.inr (.inr (.inr hk)))))
  obtain⟨S',cn,hS⟩:=A3 (C:=C) (made:=d'.made) (calls:=d'.calls) (raw:=d'.raw) hL eL dg hA hC hw ud h0 (fun k hk=>hid k (oY k hk) (oX k hk)) c3 c6 (bb _) (oV _) c4 c5 c7 c8
  rw[←c1,←c2]at cn
  refine⟨d',S',K,cn,fun k hk=>?_,fun y o _ _ hy hr=>?_,hQ⟩
  ·rcases hS k hk with hk|⟨y,hy,o,q,a1,a2,a3,a4,a5⟩
   ·exact .inl ⟨oY k hk,oX k hk⟩
   ·exact .inr ⟨y,o,q,hy,a1,a2,a3,a4,a5⟩
  ·have:=c9 o (apy hy);rw[this]at hr;cases hr
theorem aI.Yj{f:apr}{args:List aoP}{d:au}{x0:List aoP}{A C:List (Nat×ByteArray)}{p:Nat×ByteArray}(hd:d.files=A++([p]++C)){Q:bO→List ak→Prop}(h:∀eA eC kf sf LA LF LC,fw A eA LA→fw C eC LC→fileAt p kf sf LF→1≤p.1→aI aoL f args (fM d.bS [] (bX eA++([aqf (aoW .i64 p.1) (apZ (some ⟨4,0,none⟩)) (p.1-1)]++bX eC)) d.made p.2.size (af p.2) d.made d.calls d.raw) fun v o'=>∃d' K F eF,d'.bS=d.bS∧d'.files=A++(F++C)∧o'[0]?=some (.cells [.slice (some ⟨2,0,none⟩) d.bS.length d.bS.length,.map (some 3),.int .i64 d'.made,.int .i64 d'.calls,.int .i64 d'.raw] 80 false)∧o'[3]?=some (.map (bX eA++(eF++bX eC)) d'.made)∧r9 o' K F eF∧o'[2]?=some (.cells (aG d.bS) 77 false)∧K.contains 2=true∧K.contains 3=true∧(∀o∈o',o.ro=false)∧o'.length≤262144∧Q v (closed d' K o')):aI aoL f args (.abs d::[]) Q:=by
 refine aI.vK fun w r S L hG iW hL=>?_
 obtain⟨eL,v,m,es,L1,L2,kP,jP,dg⟩:=iW
 rw[hd]at jP
 obtain⟨eA,e1,LA,L3,rfl,rfl,hA,jP⟩:=vO jP
 obtain⟨eM,eC,LM,LC,rfl,rfl,hM,hC⟩:=vO jP
 obtain⟨kf,sf,LF,rfl,iR,Gc,jA⟩:∃kf sf LF,eM=[{key:=.int .i64 p.1,val:=.pointer (some ⟨kf,sf,none⟩),born:=p.1-1}]∧LM=LF∧fileAt p kf sf LF∧1≤p.1:=by
  cases hM with
  |cons _ kf sf _ _ L L' h1 h2 hp=>cases h2;exact⟨kf,sf,L,rfl,by rw[aqm],h1,hp⟩
 subst iR
 obtain⟨vf,nj,Lr,yn,iR⟩:=Gc
 have Gd:∀p∈Lr,eK w p.1 p.2:=fun p hp=>hL.at_ p (by rw[dg,iR];simp[hp])
 obtain⟨qr,oP,ue,Ge⟩:=vQ yn Gd (by rw[A2,mH,arh])
 have iY:eK w kf (.cells [vf] 173 sf nj):=hL.at_ (kf,_) (by rw[dg,iR];simp)
 have tZ:∀p∈L1,eK w p.1 p.2:=fun p hp=>hL.at_ p (by rw[dg];simp[hp])
 obtain⟨qs,oW,lO,ua⟩:=vQ kP tZ (oV _)
 have dx:=hL.fH
 rw[dg]at dx
 simp only[apM,apK]at dx
 obtain⟨n1,n2,n3,n4,n5,n6⟩:=A5 dx
 have Gf:kf∉Lr.map (·.1):=by
  have:=(apU.1 ((aqa.1 (aqa.1 dx).2).2)).2.1
  have:=(apU.1 (apU.1 this).2.1).1
  rw[iR]at this
  exact(aqa.1 this).1
 have nk:∀k,k=kf∨k∈Lr.map (·.1)→k∈LA.map (·.1)++(LM.map (·.1)++LC.map (·.1)):=fun k hk=>by
  rw[iR]
  rcases hk with rfl|hk
  ·simp
  ·simp only[apM,apo,ao8];exact .inr (.inl (.inr hk))
 refine⟨.cells [.slice (some ⟨2,0,none⟩) d.bS.length d.bS.length,.map (some 3),.int .i64 d.made,.int .i64 d.calls,.int .i64 d.raw] 80 false,[(⟨0,0,1,0⟩,.cells [] 5 false),(qs,.cells (aG d.bS) 77 false),(⟨m,0,0,0⟩,.map (bX eA++([aqf (aoW .i64 p.1) (apZ (some ⟨4,0,none⟩)) (p.1-1)]++bX eC)) d.made),(⟨kf,sf,1,nj⟩,.cells [.slice (some ⟨5,0,none⟩) p.2.size p.2.size] 173 false),(qr,.cells (af p.2) 5 false)],_,⟨?_,?_,?_,?_⟩,by simp,h eA eC kf sf LA LM LC hA hC ⟨vf,nj,Lr,yn,iR⟩ jA,?_⟩
 ·intro p hp
  simp only[ao8,apD,or_false]at hp
  rcases hp with rfl|rfl|rfl|rfl|rfl|rfl<;>exact⟨rfl,by intro d' e;cases e⟩
 ·intro p hp el ro he n hn
  simp only[ao8,apD,or_false]at hp
  rcases hp with rfl|rfl|rfl|rfl|rfl|rfl
  ·cases he
  ·cases he;rw[qO]at hn;cases hn;rfl
  ·injection he with e1 e2 e3;subst e2;rw[pP]at hn;cases hn;exact oW
  ·cases he
  ·cases he
  ·injection he with e1 e2 e3;subst e2;rw[qO]at hn;cases hn;exact oP
 ·intro ρ tU hρ p hp hl
  have ub:ρ 2=some qs:=hρ 1 _ rfl
  have uc:ρ 3=some ⟨m,0,0,0⟩:=hρ 2 _ rfl
  have Gg:ρ 4=some ⟨kf,sf,1,nj⟩:=hρ 3 _ rfl
  have Gh:ρ 5=some qr:=hρ 4 _ rfl
  simp only[ao8,apD,or_false]at hp
  rcases hp with rfl|rfl|rfl|rfl|rfl|rfl
  ·have hc:eK w r.aN (.cells [v,.map (some m),.int .i64 d.made,.int .i64 d.calls,.int .i64 d.raw] 80 r.sh r.dz):=hL.at_ (r.aN,_) (by rw[dg];exact ape)
   refine⟨by rw[dg];simp,?_⟩
   exact hc.or (fun n hn=>by rw[yl]at hn;cases hn;exact eL) (.cons (ua ρ 2 ub) (.cons (.map 3 _ uc) (.cons (.bM _ rfl) (.cons (.bM _ rfl) (.cons (.bM _ rfl) (LR.nil ρ))))))
  ·cases hl
  ·obtain⟨h1,h2⟩:=lO hl
   exact⟨by rw[dg];simp only[apM,apK,ao8,apo];exact .inr (.inr (.inl h1)),h2.or (fun n hn=>by rw[pP]at hn;cases hn;exact oW) (LR.rA (vS (bb _)))⟩
  ·have hc:eK w m _:=hL.at_ (m,_) (by rw[dg];exact apc _ ape)
   exact⟨by rw[dg];simp,eK.A0 (q:=⟨m,0,0,0⟩) hc (dQ.mr (dQ.vP hA) (dQ.mr (.cons ⟨.bM _ rfl,.ptr 4 0 _ Gg,rfl⟩ .nil) (dQ.vP hC)))⟩
  ·exact⟨by rw[dg,iR];simp,eK.or (q:=⟨kf,sf,1,nj⟩) iY (fun n hn=>by rw[A1]at hn;cases hn;rfl) (.cons (Ge ρ 5 Gh) (LR.nil ρ))⟩
  ·obtain⟨h1,h2⟩:=ue hl
   rw[A2]at h2
   exact⟨by rw[dg,iR];simp only[apM,apK,ao8,apo];exact .inr (.inr (.inr (.inr (.inl (.inr h1))))),h2.or (fun n hn=>by rw[qO]at hn;cases hn;exact oP) (LR.rA (vS (aH _)))⟩
 ·have s1:Live (.cells (aG d.bS) 77 false) qs=true→qs.aN∈L1.map (·.1):=fun hl=>(lO hl).1
  have s2:Live (.cells (af p.2) 5 false) qr=true→qr.aN∈Lr.map (·.1):=fun hl=>(ue hl).1
  refine .cons (fun q hq=>?_) ?_
  ·simp only[ao8,apD,or_false]at hq
   rcases hq with rfl|rfl|rfl|rfl|rfl
   ·intro h1 h2;exact absurd h2 (by decide)
   ·exact fun h1 h2 e=>n2 (by rw[show r.aN=qs.aN from e];exact s1 h2)
   ·exact fun h1 h2 e=>n1 e
   ·exact fun h1 h2 e=>n3 (by rw[show r.aN=kf from e];exact nk _ (.inl rfl))
   ·exact fun h1 h2 e=>n3 (by rw[show r.aN=qr.aN from e];exact nk _ (.inr (s2 h2)))
  refine .cons (fun q hq=>?_) ?_
  ·simp only[ao8,apD,or_false]at hq
   rcases hq with rfl|rfl|rfl|rfl
   ·intro h1 h2;exact absurd h1 (by decide)
   ·intro h1 h2;exact absurd h1 (by decide)
   ·intro h1 h2;exact absurd h1 (by decide)
   ·intro h1 h2;exact absurd h1 (by decide)
  refine .cons (fun q hq=>?_) ?_
  ·simp only[ao8,apD,or_false]at hq
   rcases hq with rfl|rfl|rfl
   ·exact fun h1 h2 e=>n4 (by rw[←show qs.aN=m from e];exact s1 h1)
   ·exact fun h1 h2 e=>n6 _ (s1 h1) (by rw[show qs.aN=kf from e];exact nk _ (.inl rfl))
   ·exact fun h1 h2 e=>n6 _ (s1 h1) (by rw[show qs.aN=qr.aN from e];exact nk _ (.inr (s2 h2)))
  refine .cons (fun q hq=>?_) ?_
  ·simp only[ao8,apD,or_false]at hq
   rcases hq with rfl|rfl
   ·exact fun h1 h2 e=>n5 (by rw[show m=kf from e];exact nk _ (.inl rfl))
   ·exact fun h1 h2 e=>n5 (by rw[show m=qr.aN from e];exact nk _ (.inr (s2 h2)))
  refine .cons (fun q hq=>?_) ?_
  ·simp only[ao8,apD,or_false]at hq
   rcases hq with rfl
   ·exact fun h1 h2 e=>Gf (by rw[show kf=qr.aN from e];exact s2 h2)
  refine .cons (fun q hq=>?_) ?_
  ·simp only[ao8,apD,or_false]at hq
  exact .nil
 ·rintro vr o' ⟨d',K,F,eF,c1,c2,c3,c4,c5,c6,c7,c8,c9,ud,hQ⟩ B ρ w' hw h0 hρ hid
  have oX:∀k,k∈LA.map (·.1)∨k∈LC.map (·.1)→∀q∈(r,.cells [.slice (some ⟨2,0,none⟩) d.bS.length d.bS.length,.map (some 3),.int .i64 d.made,.int .i64 d.calls,.int .i64 d.raw] 80 false)::([(⟨0,0,1,0⟩,.cells [] 5 false),(qs,.cells (aG d.bS) 77 false),(⟨m,0,0,0⟩,.map (bX eA++([aqf (aoW .i64 p.1) (apZ (some ⟨4,0,none⟩)) (p.1-1)]++bX eC)) d.made),(⟨kf,sf,1,nj⟩,.cells [.slice (some ⟨5,0,none⟩) p.2.size p.2.size] 173 false),(qr,.cells (af p.2) 5 false)]:List (bT×ak)),Live q.2 q.1=true→q.1.aN≠k:=by
   intro k hk q hq hl e
   have yo:=(apU.1 ((aqa.1 (aqa.1 dx).2).2)).2.1
   have nF:∀x,x∈LM.map (·.1)→x≠k:=fun x hx ex=>by
    subst ex
    rcases hk with hk|hk
    ·exact(apU.1 yo).2.2 _ hk _ (aqh _ hx) rfl
    ·exact(apU.1 (apU.1 yo).2.1).2.2 _ hx _ hk rfl
   have jQ:k∈LA.map (·.1)++(LM.map (·.1)++LC.map (·.1)):=by
    rcases hk with hk|hk
    ·exact aqh _ hk
    ·exact apW _ (apW _ hk)
   simp only[ao8,apD,or_false]at hq
   rcases hq with rfl|rfl|rfl|rfl|rfl|rfl
   ·exact n3 (by rw[show r.aN=k from e];exact jQ)
   ·cases hl
   ·exact n6 _ (lO hl).1 (by rw[show qs.aN=k from e];exact jQ)
   ·exact n5 (by rw[show m=k from e];exact jQ)
   ·exact nF kf (by rw[iR];simp) e
   ·exact nF _ (by rw[iR];exact apc _ (ue hl).1) e
  have oY:∀k,k∈LA.map (·.1)∨k∈LC.map (·.1)→k∈L.map (·.1):=fun k hk=>by rw[dg];simp only[apM,apK,ao8,apo];exact hk.elim (fun hk=>.inr (.inr (.inr (.inl hk)))) (fun hk=>.inr (.inr (.inr (.inr (.inr hk)))))
  obtain⟨S',cn,hS⟩:=A3 (C:=C) (made:=d'.made) (calls:=d'.calls) (raw:=d'.raw) hL eL dg hA hC hw ud h0 (fun k hk=>hid k (oY k hk) (oX k hk)) c3 c6 (bb _) (oV _) c4 c5 c7 c8
  rw[←c1,←c2]at cn
  refine⟨d',S',K,cn,fun k hk=>?_,fun y o _ _ hy hr=>?_,hQ⟩
  ·rcases hS k hk with hk|⟨y,hy,o,q,a1,a2,a3,a4,a5⟩
   ·exact .inl ⟨oY k hk,oX k hk⟩
   ·exact .inr ⟨y,o,q,hy,a1,a2,a3,a4,a5⟩
  ·have:=c9 o (apy hy);rw[this]at hr;cases hr
theorem aI.Yk{f:apr}{args:List aoP}{d:au}{x0:List aoP}{A C:List (Nat×ByteArray)}{p:Nat×ByteArray}(hd:d.files=A++([p]++C)){Q:bO→List ak→Prop}(h:∀eA eC kf sf LA LF LC,fw A eA LA→fw C eC LC→fileAt p kf sf LF→1≤p.1→aI aoL f args (fM d.bS x0 (bX eA++([aqf (aoW .i64 p.1) (apZ (some ⟨4,0,none⟩)) (p.1-1)]++bX eC)) d.made p.2.size (af p.2) d.made d.calls d.raw) fun v o'=>∃d' K F eF,d'.bS=d.bS∧d'.files=A++(F++C)∧o'[0]?=some (.cells [.slice (some ⟨2,0,none⟩) d.bS.length d.bS.length,.map (some 3),.int .i64 d'.made,.int .i64 d'.calls,.int .i64 d'.raw] 80 false)∧o'[3]?=some (.map (bX eA++(eF++bX eC)) d'.made)∧r9 o' K F eF∧o'[2]?=some (.cells (aG d.bS) 77 false)∧K.contains 2=true∧K.contains 3=true∧(∀o∈o',o.ro=false)∧o'.length≤262144∧Q v (closed d' K o')):aI aoL f args (.abs d::[.cells x0 5 false]) Q:=by
 refine aI.vK fun w r S L hG iW hL=>?_
 obtain⟨eL,v,m,es,L1,L2,kP,jP,dg⟩:=iW
 rw[hd]at jP
 obtain⟨eA,e1,LA,L3,rfl,rfl,hA,jP⟩:=vO jP
 obtain⟨eM,eC,LM,LC,rfl,rfl,hM,hC⟩:=vO jP
 obtain⟨kf,sf,LF,rfl,iR,Gc,jA⟩:∃kf sf LF,eM=[{key:=.int .i64 p.1,val:=.pointer (some ⟨kf,sf,none⟩),born:=p.1-1}]∧LM=LF∧fileAt p kf sf LF∧1≤p.1:=by
  cases hM with
  |cons _ kf sf _ _ L L' h1 h2 hp=>cases h2;exact⟨kf,sf,L,rfl,by rw[aqm],h1,hp⟩
 subst iR
 obtain⟨vf,nj,Lr,yn,iR⟩:=Gc
 have Gd:∀p∈Lr,eK w p.1 p.2:=fun p hp=>hL.at_ p (by rw[dg,iR];simp[hp])
 obtain⟨qr,oP,ue,Ge⟩:=vQ yn Gd (by rw[A2,mH,arh])
 have iY:eK w kf (.cells [vf] 173 sf nj):=hL.at_ (kf,_) (by rw[dg,iR];simp)
 have tZ:∀p∈L1,eK w p.1 p.2:=fun p hp=>hL.at_ p (by rw[dg];simp[hp])
 obtain⟨qs,oW,lO,ua⟩:=vQ kP tZ (oV _)
 have dx:=hL.fH
 rw[dg]at dx
 simp only[apM,apK]at dx
 obtain⟨n1,n2,n3,n4,n5,n6⟩:=A5 dx
 have Gf:kf∉Lr.map (·.1):=by
  have:=(apU.1 ((aqa.1 (aqa.1 dx).2).2)).2.1
  have:=(apU.1 (apU.1 this).2.1).1
  rw[iR]at this
  exact(aqa.1 this).1
 have nk:∀k,k=kf∨k∈Lr.map (·.1)→k∈LA.map (·.1)++(LM.map (·.1)++LC.map (·.1)):=fun k hk=>by
  rw[iR]
  rcases hk with rfl|hk
  ·simp
  ·simp only[apM,apo,ao8];exact .inr (.inl (.inr hk))
 refine⟨.cells [.slice (some ⟨2,0,none⟩) d.bS.length d.bS.length,.map (some 3),.int .i64 d.made,.int .i64 d.calls,.int .i64 d.raw] 80 false,[(qs,.cells (aG d.bS) 77 false),(⟨m,0,0,0⟩,.map (bX eA++([aqf (aoW .i64 p.1) (apZ (some ⟨4,0,none⟩)) (p.1-1)]++bX eC)) d.made),(⟨kf,sf,1,nj⟩,.cells [.slice (some ⟨5,0,none⟩) p.2.size p.2.size] 173 false),(qr,.cells (af p.2) 5 false)],_,⟨?_,?_,?_,?_⟩,by simp,h eA eC kf sf LA LM LC hA hC ⟨vf,nj,Lr,yn,iR⟩ jA,?_⟩
 ·intro p hp
  simp only[ao8,apD,or_false]at hp
  rcases hp with rfl|rfl|rfl|rfl|rfl<;>exact⟨rfl,by intro d' e;cases e⟩
 ·intro p hp el ro he n hn
  simp only[ao8,apD,or_false]at hp
  rcases hp with rfl|rfl|rfl|rfl|rfl
  ·cases he
  ·injection he with e1 e2 e3;subst e2;rw[pP]at hn;cases hn;exact oW
  ·cases he
  ·cases he
  ·injection he with e1 e2 e3;subst e2;rw[qO]at hn;cases hn;exact oP
 ·intro ρ tU hρ p hp hl
  have ub:ρ 2=some qs:=hρ 0 _ rfl
  have uc:ρ 3=some ⟨m,0,0,0⟩:=hρ 1 _ rfl
  have Gg:ρ 4=some ⟨kf,sf,1,nj⟩:=hρ 2 _ rfl
  have Gh:ρ 5=some qr:=hρ 3 _ rfl
  simp only[ao8,apD,or_false]at hp
  rcases hp with rfl|rfl|rfl|rfl|rfl
  ·have hc:eK w r.aN (.cells [v,.map (some m),.int .i64 d.made,.int .i64 d.calls,.int .i64 d.raw] 80 r.sh r.dz):=hL.at_ (r.aN,_) (by rw[dg];exact ape)
   refine⟨by rw[dg];simp,?_⟩
   exact hc.or (fun n hn=>by rw[yl]at hn;cases hn;exact eL) (.cons (ua ρ 2 ub) (.cons (.map 3 _ uc) (.cons (.bM _ rfl) (.cons (.bM _ rfl) (.cons (.bM _ rfl) (LR.nil ρ))))))
  ·obtain⟨h1,h2⟩:=lO hl
   exact⟨by rw[dg];simp only[apM,apK,ao8,apo];exact .inr (.inr (.inl h1)),h2.or (fun n hn=>by rw[pP]at hn;cases hn;exact oW) (LR.rA (vS (bb _)))⟩
  ·have hc:eK w m _:=hL.at_ (m,_) (by rw[dg];exact apc _ ape)
   exact⟨by rw[dg];simp,eK.A0 (q:=⟨m,0,0,0⟩) hc (dQ.mr (dQ.vP hA) (dQ.mr (.cons ⟨.bM _ rfl,.ptr 4 0 _ Gg,rfl⟩ .nil) (dQ.vP hC)))⟩
  ·exact⟨by rw[dg,iR];simp,eK.or (q:=⟨kf,sf,1,nj⟩) iY (fun n hn=>by rw[A1]at hn;cases hn;rfl) (.cons (Ge ρ 5 Gh) (LR.nil ρ))⟩
  ·obtain⟨h1,h2⟩:=ue hl
   rw[A2]at h2
   exact⟨by rw[dg,iR];simp only[apM,apK,ao8,apo];exact .inr (.inr (.inr (.inr (.inl (.inr h1))))),h2.or (fun n hn=>by rw[qO]at hn;cases hn;exact oP) (LR.rA (vS (aH _)))⟩
 ·have s1:Live (.cells (aG d.bS) 77 false) qs=true→qs.aN∈L1.map (·.1):=fun hl=>(lO hl).1
  have s2:Live (.cells (af p.2) 5 false) qr=true→qr.aN∈Lr.map (·.1):=fun hl=>(ue hl).1
  refine .cons (fun q hq=>?_) ?_
  ·simp only[ao8,apD,or_false]at hq
   rcases hq with rfl|rfl|rfl|rfl
   ·exact fun h1 h2 e=>n2 (by rw[show r.aN=qs.aN from e];exact s1 h2)
   ·exact fun h1 h2 e=>n1 e
   ·exact fun h1 h2 e=>n3 (by rw[show r.aN=kf from e];exact nk _ (.inl rfl))
   ·exact fun h1 h2 e=>n3 (by rw[show r.aN=qr.aN from e];exact nk _ (.inr (s2 h2)))
  refine .cons (fun q hq=>?_) ?_
  ·simp only[ao8,apD,or_false]at hq
   rcases hq with rfl|rfl|rfl
   ·exact fun h1 h2 e=>n4 (by rw[←show qs.aN=m from e];exact s1 h1)
   ·exact fun h1 h2 e=>n6 _ (s1 h1) (by rw[show qs.aN=kf from e];exact nk _ (.inl rfl))
   ·exact fun h1 h2 e=>n6 _ (s1 h1) (by rw[show qs.aN=qr.aN from e];exact nk _ (.inr (s2 h2)))
  refine .cons (fun q hq=>?_) ?_
  ·simp only[ao8,apD,or_false]at hq
   rcases hq with rfl|rfl
   ·exact fun h1 h2 e=>n5 (by rw[show m=kf from e];exact nk _ (.inl rfl))
   ·exact fun h1 h2 e=>n5 (by rw[show m=qr.aN from e];exact nk _ (.inr (s2 h2)))
  refine .cons (fun q hq=>?_) ?_
  ·simp only[ao8,apD,or_false]at hq
   rcases hq with rfl
   ·exact fun h1 h2 e=>Gf (by rw[show kf=qr.aN from e];exact s2 h2)
  refine .cons (fun q hq=>?_) ?_
  ·simp only[ao8,apD,or_false]at hq
  exact .nil
 ·rintro vr o' ⟨d',K,F,eF,c1,c2,c3,c4,c5,c6,c7,c8,c9,ud,hQ⟩ B ρ w' hw h0 hρ hid
  have oX:∀k,k∈LA.map (·.1)∨k∈LC.map (·.1)→∀q∈(r,.cells [.slice (some ⟨2,0,none⟩) d.bS.length d.bS.length,.map (some 3),.int .i64 d.made,.int .i64 d.calls,.int .i64 d.raw] 80 false)::([(qs,.cells (aG d.bS) 77 false),(⟨m,0,0,0⟩,.map (bX eA++([aqf (aoW .i64 p.1) (apZ (some ⟨4,0,none⟩)) (p.1-1)]++bX eC)) d.made),(⟨kf,sf,1,nj⟩,.cells [.slice (some ⟨5,0,none⟩) p.2.size p.2.size] 173 false),(qr,.cells (af p.2) 5 false)]:List (bT×ak)),Live q.2 q.1=true→q.1.aN≠k:=by
   intro k hk q hq hl e
   have yo:=(apU.1 ((aqa.1 (aqa.1 dx).2).2)).2.1
   have nF:∀x,x∈LM.map (·.1)→x≠k:=fun x hx ex=>by
    subst ex
    rcases hk with hk|hk
    ·exact(apU.1 yo).2.2 _ hk _ (aqh _ hx) rfl
    ·exact(apU.1 (apU.1 yo).2.1).2.2 _ hx _ hk rfl
   have jQ:k∈LA.map (·.1)++(LM.map (·.1)++LC.map (·.1)):=by
    rcases hk with hk|hk
    ·exact aqh _ hk
    ·exact apW _ (apW _ hk)
   simp only[ao8,apD,or_false]at hq
   rcases hq with rfl|rfl|rfl|rfl|rfl
   ·exact n3 (by rw[show r.aN=k from e];exact jQ)
   ·exact n6 _ (lO hl).1 (by rw[show qs.aN=k from e];exact jQ)
   ·exact n5 (by rw[show m=k from e];exact jQ)
   ·exact nF kf (by rw[iR];simp) e
   ·exact nF _ (by rw[iR];exact apc _ (ue hl).1) e
  have oY:∀k,k∈LA.map (·.1)∨k∈LC.map (·.1)→k∈L.map (·.1):=fun k hk=>by rw[dg];simp only[apM,apK,ao8,apo];exact hk.elim (fun hk=>.inr (.inr (.inr (.inl hk)))) (fun hk=>.inr (.inr (.inr (.inr (.inr hk)))))
  obtain⟨S',cn,hS⟩:=A3 (C:=C) (made:=d'.made) (calls:=d'.calls) (raw:=d'.raw) hL eL dg hA hC hw ud h0 (fun k hk=>hid k (oY k hk) (oX k hk)) c3 c6 (bb _) (oV _) c4 c5 c7 c8
  rw[←c1,←c2]at cn
  refine⟨d',S',K,cn,fun k hk=>?_,fun y o _ _ hy hr=>?_,hQ⟩
  ·rcases hS k hk with hk|⟨y,hy,o,q,a1,a2,a3,a4,a5⟩
   ·exact .inl ⟨oY k hk,oX k hk⟩
   ·exact .inr ⟨y,o,q,hy,a1,a2,a3,a4,a5⟩
  ·have:=c9 o (apy hy);rw[this]at hr;cases hr
end Go.Proofs.YtnlkkgpcikkpoaaGreat
namespace Go.Proofs.YtnlkkgpcikkpoaaGreat
open Go Vm Go.RowKit
def jR(x y:UInt8):Bool:=decide (x<y)
abbrev ii(d:Array UInt8):ByteArray:=⟨d⟩
theorem Nn(d:Array UInt8):(ii d).size=d.size:=rfl
theorem vT{d:Array UInt8}{i:Nat}(h:i<d.size):ay (af (ii d)) i=(d[i]!.toNat:Int):=by
 rw[MD (b:=ii d) h,getElem!_pos d i h];rfl
theorem A6{d:Array UInt8}{p:Nat}(h:p<d.size):cH apb (af (ii d)) p=true:=ME h
abbrev yp(n:Nat):aoP:=.slice (some ⟨0,0,none⟩) n n
abbrev iA(n:Nat):aoP:=.int .i64 (n:Int)
theorem Yl{x:Int}(h0: -1000000≤x)(h1:x≤1000000):aoN ao2 x=x:=ng (by omega) (by omega)
open Tree renaming aW→mN,dn→mF,eS→mL
theorem qQ{x:Nat}:0+aoO (x:Int)*1=x:=by simp
theorem Gi{x:Nat}(h:x≤100000):aoW .i64 (aoN ao2 ((x:Int)+1))=iA (x+1):=by rw[Yl (by omega) (by omega)];rfl
structure anG(d:Array UInt8)(n a z:Nat)(s:Array UInt8×Nat):Prop where
 h1:s.1.size=n
 h2:a+1≤s.2
 h3:s.2≤100000
 h4:Sort.insOuter jR a z s.2 s.1=Sort.insertionSort jR d a z
structure anH(d:Array UInt8)(n a i:Nat)(s:Array UInt8×Nat):Prop where
 h1:s.1.size=n
 h2:s.2≤i
 h3:auQ jR a s.2 s.1=auQ jR a i d
structure anI(d:Array UInt8)(n a z:Nat)(s:Array UInt8×Nat×Int):Prop where
 h1:s.1.size=n
 h2: -1≤s.2.2
 h3:s.2.2<n
 h5:s.2.1≤n
 h4:Sort.reverseLoop s.2.1 s.2.2.toNat s.1=Sort.reverseRange d a z
structure anJ(d:Array UInt8)(n hi fs lo:Nat)(s:Array UInt8×Nat):Prop where
 h1:s.1.size=n
 h2:s.2≤n
 h3:auR jR hi fs s.2 s.1=auR jR hi fs lo d
def si(l:List aoP):Array UInt8:=(l.map fun v=>match v with| .int _ x=>UInt8.ofNat x.toNat|_=>0).toArray
@[simp] theorem No(d:Array UInt8):si (af (ii d))=d:=by
 unfold si af ii
 simp[Function.comp_def]
noncomputable def pR(l:List aoP)(P:Prop):Bool:=@decide ((∃d:Array UInt8,l=af (ii d))∧P) (apj _)
theorem Gj{l:List aoP}{P:Prop}:pR l P=true↔(∃d:Array UInt8,l=af (ii d))∧P:=by unfold pR;exact @decide_eq_true_iff _ (apj _)
theorem Ym{d:Array UInt8}{P:Prop}(h:P):pR (af (ii d)) P=true:=Gj.2 ⟨⟨d,rfl⟩,h⟩
open Tree renaming aW→mN,dn→mF,eS→mL
structure anK(d:Array UInt8)(n a hi:Nat)(s:Array UInt8×Int):Prop where
 h1:s.1.size=n
 h2: -1≤s.2
 h3:s.2≤n
 h4:auJ jR hi a (s.2+1).toNat s.1=auJ jR hi a ((hi-1)/2+1) d
structure anL(d:Array UInt8)(n a hi:Nat)(s:Array UInt8×Int):Prop where
 h1:s.1.size=n
 h2: -1≤s.2
 h3:s.2<hi
 h4:au3 jR a (s.2+1).toNat s.1=au3 jR a hi d
open Tree renaming aW→mN,dn→mF,eS→mL
structure anM(d:Array UInt8)(n a i0 j0:Nat)(s:Array UInt8×Nat×Nat):Prop where
 h1:s.1.size=n
 h2:1≤s.2.1
 h3:s.2.1≤n
 h4:s.2.2<n
 h5:auS jR a s.2.1 s.2.2 s.1=auS jR a i0 j0 d
structure anN(d:Array UInt8)(n a i0 j0:Nat)(s:Array UInt8×Nat×Nat):Prop where
 h1:s.1.size=n
 h2:1≤s.2.1
 h3:s.2.1≤n
 h4:s.2.2<n
 h5:auB jR a s.2.1 s.2.2 s.1=auB jR a i0 j0 d
open Tree renaming aW→mN,dn→mF,eS→mL
end Go.Proofs.YtnlkkgpcikkpoaaGreat
namespace Go.Proofs.YtnlkkgpcikkpoaaGreat.Vm
open Go.RowKit
end Go.Proofs.YtnlkkgpcikkpoaaGreat.Vm
namespace Go.Proofs.YtnlkkgpcikkpoaaGreat
open Go Vm Go.RowKit
structure anO(d:Array UInt8)(n a z:Nat)(s:Array UInt8×Nat×Nat):Prop where
 h1:s.1.size=n
 h2:a+1≤s.2.1
 h3:s.2.1≤z
 h4:s.2.2≤5
 h5:Sort.partialIns jR a z (5-s.2.2) s.2.1 s.1=Sort.partialInsertionSort jR d a z
noncomputable section
noncomputable def Yn:List apw:=bd (dC aoL 153)
noncomputable def Yo:List apw:=bd (dC aoL 130)
open Tree renaming aW→mN,dn→mF,eS→mL,fA→mQ,dD→mR,fK→mE
def Np:Nat→Bool→Bool→Tree→Tree
 |0,_,_,t=>t
 |n+1,d,b,t=>.cM d b (Np n d b t)
theorem Yp{R:bj→ai→Prop}{c v:Bool}{t:Tree}(n:Nat)(h1:c=v)(h2:t.ok R):(Np n c v t).ok R:=by
 induction n with
 |zero=>exact h2
 |succ n ih=>exact⟨h1,ih⟩
abbrev Yq:=fun b (n:Nat) (a z s:Int)=>(⟨[(8,aa z),(9,aa a)],[ab (af b) 5,ab [.int .i64 (aoN .i64 (s+1))] 3]⟩:ai)
abbrev Yr:=fun b (n:Nat) (a z s:Int)=>(⟨[(8,aa a),(9,aa z)],[ab (af b) 5,ab [aa s] 3]⟩:ai)
abbrev Ys:=fun b (n:Nat) (a z s:Int)=>(⟨[(0,ah 0 n),(1,aa a),(2,aa z),(3,al 1)],[ab (af b) 5,ab [aa s] 3]⟩:ai)
theorem o2(b:ByteArray)(n:Nat)(a z s:Int)(hn:n≤b.size)(h0:0≤a)(h1:a<n)(h2:0≤z)(h3:z<n)(h4:aoN .i64 (s+1)=s+1){Q:aY}(n0:(cH apb (af b) (0+aoO z*1))=true)(n1:(cH apb (af b) (0+aoO a*1))=true)(aX:aoS (af b) ag=true)(l3:(decide (ay (af b) (0+aoO z*1)<ay (af b) (0+aoO a*1)))=true→Q .ret (Yq b n a z s))(l4:(decide (ay (af b) (0+aoO z*1)<ay (af b) (0+aoO a*1)))=false→Q .ret (Yr b n a z s)):an aoL 28 2 Yn (Ys b n a z s) Q:=
 aZ bt 1000 (aA [0,1,1,0,1,0,1,1,0,1,4,0,0,0] (.fork 4 (.leaf [8,9] [0,1] [0]) (.leaf [8,9] [0,1] [0]))) (fun u=>by kernel_rfl) (mN (decide_eq_true (by omega):(decide (0≤z))=true) (mN (show(ao9 (aoO z) n)=true by simp at hn h0 h1 h2 h3 h4⊢ <;>omega) (mN n0 (mN (decide_eq_true (by omega):(decide (0≤a))=true) (mN (show(ao9 (aoO a) n)=true by simp at hn h0 h1 h2 h3 h4⊢ <;>omega) (mN n1 (Yp 4 (show(ay (af b) (0+aoO z*1) != ay (af b) (0+aoO z*1))=false by simp) (mF (c:=decide (ay (af b) (0+aoO z*1)<ay (af b) (0+aoO a*1))) (fun h0=>(mN (aH b) (mR (l3 h0)))) (fun h0=>(mN (aH b) (mR (l4 h0))))))))))))
abbrev Yt(x:Int):ai:=⟨[(2,.int .u64 (aoN apF (↑(aqQ (ap7 64 (aoN apF (↑(aqQ (ap7 64 (aoN apF (↑(aqQ (ap7 64 x^^^ap7 64 (aoN apF (x*8192)))):Int))^^^ap7 64 (aqi (aoN apF (↑(aqQ (ap7 64 x^^^ap7 64 (aoN apF (x*8192)))):Int)) 128))):Int))^^^ap7 64 (aoN apF (aoN apF (↑(aqQ (ap7 64 (aoN apF (↑(aqQ (ap7 64 x^^^ap7 64 (aoN apF (x*8192)))):Int))^^^ap7 64 (aqi (aoN apF (↑(aqQ (ap7 64 x^^^ap7 64 (aoN apF (x*8192)))):Int)) 128))):Int)*131072)))):Int)))],[ab ([.int .u64 (aoN apF (↑(aqQ (ap7 64 (aoN apF (↑(aqQ (ap7 64 (aoN apF (↑(aqQ (ap7 64 x^^^ap7 64 (aoN apF (x*8192)))):Int))^^^ap7 64 (aqi (aoN apF (↑(aqQ (ap7 64 x^^^ap7 64 (aoN apF (x*8192)))):Int)) 128))):Int))^^^ap7 64 (aoN apF (aoN apF (↑(aqQ (ap7 64 (aoN apF (↑(aqQ (ap7 64 x^^^ap7 64 (aoN apF (x*8192)))):Int))^^^ap7 64 (aqi (aoN apF (↑(aqQ (ap7 64 x^^^ap7 64 (aoN apF (x*8192)))):Int)) 128))):Int)*131072)))):Int))]) 194]⟩
abbrev Yu(x:Int):ai:=⟨[(0,al 0)],[ab [.int .u64 x] 194]⟩
theorem xs(x:Int){Q:aY}(l0:Q .ret (Yt x)):an aoL 33 1 Yo (Yu x) Q:=
 aZ bt 1000 (.leaf [2] [0] []) (fun u=>by kernel_rfl) (mR l0)
end
open Tree renaming aW→mN,dn→mF,eS→mL
open Tree renaming aW→mN,dn→mF,eS→mL
def Gk(a l m:Nat):Nat→Nat→UInt64×Array UInt8→UInt64×Array UInt8
 |0,_,st=>st
 |k+1,i,st=>Gk a l m k (i+1) (Sort.breakStep a l m st i)
structure anP(d:Array UInt8)(n a l i0:Nat)(s:(UInt64×Array UInt8)×Nat):Prop where
 h1:s.1.2.size=n
 h2:i0≤s.2
 h3:s.2≤i0+3
 h4:Gk a l (2^au4 l) (i0+3-s.2) s.2 s.1=Gk a l (2^au4 l) 3 i0 (UInt64.ofNat l,d)
open Tree renaming aW→mN,dn→mF,eS→mL
open Tree renaming aW→mN,dn→mF,eS→mL
noncomputable def sj(d:Array UInt8):Bool:=@decide (d.toList.Nodup) (apj _)
theorem Nq{d:Array UInt8}:sj d=true↔d.toList.Nodup:=by unfold sj;exact @decide_eq_true_iff _ (apj _)
theorem Nr{d:Array UInt8}:d.toList.Nodup↔∀i j,i<j→j<d.size→d[i]! ≠d[j]! :=by
 unfold List.Nodup
 rw[arF]
 constructor
 ·intro h i j iC hj
  have:=h i j (by simpa using au5 iC hj) (by simpa using hj) iC
  rw[getElem!_pos d i (au5 iC hj),getElem!_pos d j hj]
  simpa using this
 ·intro h i j hi hj iC
  have fo:i<d.size:=by simpa using hi
  have kD:j<d.size:=by simpa using hj
  have:=h i j iC kD
  rw[getElem!_pos d i fo,getElem!_pos d j kD]at this
  simpa using this
structure Yv where
 d:Array UInt8
 a:Nat
 z:Nat
 q:Nat
 x:Bool
 y:Bool
structure anQ(d:Array UInt8)(n a z q N:Nat)(s:Yv):Prop where
 h1:s.d.size=n
 h2:s.z≤n
 h3:s.a≤s.z
 h4:s.q≤100
 h5:s.z-s.a≤N
 h6:Go.Sort.Below jR s.a s.z s.d
 h7:avy jR s.d s.a s.z s.q s.x s.y=avy jR d a z q true true
noncomputable section
theorem cu{l:List aoP}(h:l.all ag=true):∀n,(fg l n).all ag=true
 |0=>rfl
 |n+1=>aC h (cu h n)
noncomputable def A7:List apw:=bd (dC aoL 83)
noncomputable def A8:List apw:=bd (dC aoL 84)
open Tree renaming aW→mN,dn→mF,eS→mL,fA→mQ,dD→mR,fK→mE
noncomputable abbrev A9:List apw:=(bd (inner (bd (inner (A8.drop 2)))))
noncomputable abbrev Gl:List apw:=(bd (inner (A9.drop 2)))
noncomputable abbrev Yw:List apw:=(bd (inner (bd (inner (A7.drop 2)))))
noncomputable abbrev Yx:List apw:=(bd (inner (bd (inner (Gl.drop 1)))))
abbrev iH:=fun b (ro:Bool)=>([.cells (af b) 5 ro]:List ak)
abbrev Yy:=fun b (n:Nat) (v:Int) (ro:Bool)=>(⟨[(0,ah 0 n),(1,.int .u8 v)],iH b ro⟩:ai)
noncomputable abbrev Ns(b:ByteArray)(n:Nat)(ro:Bool):ai:=⟨[],iH b ro⟩
abbrev Yz:=fun b (n:Nat) (v:Int) (ro:Bool)=>(⟨[(0,ah 0 n),(1,.int .u8 v),(5,aa 0)],iH b ro⟩:ai)
theorem YA(b:ByteArray)(n:Nat)(v:Int)(ro:Bool)(hn:n≤b.size){Q:aY}(l1:an aoL 18 1 (A7.drop 2) (Yz b n v ro) Q):an aoL 18 1 A7 (Yy b n v ro) Q:=
 aZ bt 2 (.leaf [0,1,5] [0] [0]) (fun u=>by kernel_rfl) (mN (aH b) (mQ l1))
noncomputable abbrev Nt(b:ByteArray)(n:Nat)(j:Int)(v:Int)(ro:Bool):ai:=⟨[(4,.bool true)],iH b ro⟩
theorem YB(b)(n:Nat)(j v:Int)(ro:Bool){Q:bo}(hq:Q (.ret (.bool true)) (iH b ro)):aJ aoL 83 18 1 Q .ret (Nt b n j v ro):=aJ.ret (vs:=[.bool true]) (l:=[]) (bs:=[0]) (pl:=[0]) (q:=[af b]) (fun u=>by kernel_rfl) (by kernel_rfl) (aF (aH b) bi) hq
abbrev Nu:=fun b (n:Nat) (j v:Int) (ro:Bool)=>(⟨[(0,ah 0 n),(1,.int .u8 v),(5,.int .i64 (aoN .i64 (j+1)))],iH b ro⟩:ai)
noncomputable abbrev YC(b:ByteArray)(n:Nat)(j:Int)(v:Int)(ro:Bool):ai:=⟨[],iH b ro⟩
abbrev YD:=fun b (n:Nat) (j v:Int) (ro:Bool)=>(⟨[(0,ah 0 n),(1,.int .u8 v),(5,aa j)],iH b ro⟩:ai)
theorem YE(b:ByteArray)(n:Nat)(j v:Int)(ro:Bool)(hn:n≤b.size)(h0:0≤j){Q:aY}(n0:(decide (j<(↑n:Int)))=true→(cH apb (af b) (0+aoO j*1))=true)(l2:(decide (j<(↑n:Int)))=true→(ay (af b) (0+aoO j*1)==v)=true→Q .ret (Nt b n j v ro))(l3:(decide (j<(↑n:Int)))=true→(ay (af b) (0+aoO j*1)==v)=false→Q .normal (Nu b n j v ro))(l4:(decide (j<(↑n:Int)))=false→Q (.exit 0) (YC b n j v ro)):an aoL 18 1 Yw (YD b n j v ro) Q:=
 aZ bt 1000 (.fork 1 (aA [0,1,1,0,1] (.fork 0 (.leaf [4] [0] [0]) (.leaf [0,1,5] [0] [0]))) (.leaf [] [0] [0])) (fun u=>by kernel_rfl) (mF (c:=decide (j<(↑n:Int))) (fun h0=>(mN (decide_eq_true (by omega):(decide (0≤j))=true) (mN (show(ao9 (aoO j) n)=true by simp at hn h0 h0⊢ <;>omega) (mN (n0 h0) (mF (c:=ay (af b) (0+aoO j*1)==v) (fun h1=>(mN (aH b) (mR (l2 h0 h1)))) (fun h1=>(mN (aH b) (mQ (an.done (by kernel_rfl) (l3 h0 h1)))))))))) (fun h0=>(mN (aH b) (mE 0 (l4 h0)))))
noncomputable abbrev Nv(b:ByteArray)(n:Nat)(ro:Bool):ai:=⟨[(4,.bool false)],iH b ro⟩
theorem YF(b)(n:Nat)(ro:Bool){Q:bo}(hq:Q (.ret (.bool false)) (iH b ro)):aJ aoL 83 18 1 Q .ret (Nv b n ro):=aJ.ret (vs:=[.bool false]) (l:=[]) (bs:=[0]) (pl:=[0]) (q:=[af b]) (fun u=>by kernel_rfl) (by kernel_rfl) (aF (aH b) bi) hq
theorem YG(b:ByteArray)(n:Nat)(ro:Bool)(hn:n≤b.size){Q:aY}(l1:Q .ret (Nv b n ro)):an aoL 18 1 (A7.drop 3) (Ns b n ro) Q:=
 aZ bt 1000 (.leaf [4] [0] [0]) (fun u=>by kernel_rfl) (mN (aH b) (mR l1))
abbrev YH:=fun b (n:Nat) (ro:Bool)=>(⟨[(0,ah 0 n),(3,aa 0)],iH b ro⟩:ai)
abbrev YI:=fun b (n:Nat) (ro:Bool)=>(⟨[(0,ah 0 n)],iH b ro⟩:ai)
theorem YJ(b:ByteArray)(n:Nat)(ro:Bool)(hn:n≤b.size){Q:aY}(l1:an aoL 25 1 (A8.drop 2) (YH b n ro) Q):an aoL 25 1 A8 (YI b n ro) Q:=
 aZ bt 2 (.leaf [0,3] [0] [0]) (fun u=>by kernel_rfl) (mN (aH b) (mQ l1))
abbrev YK:=fun b (n:Nat) (i:Int) (ro:Bool)=>(⟨[(0,ah 0 n),(3,aa i)],iH b ro⟩:ai)
noncomputable abbrev YL(b:ByteArray)(n:Nat)(i:Int)(ro:Bool):ai:=⟨[],iH b ro⟩
abbrev Gm:=fun b (n:Nat) (i:Int) (ro:Bool)=>(⟨[(0,ah 0 n),(3,aa i)],iH b ro⟩:ai)
theorem YM(b:ByteArray)(n:Nat)(i:Int)(ro:Bool)(hn:n≤b.size){Q:aY}(l1:(decide (i<(↑n:Int)))=true→an aoL 25 1 (A9.drop 2) (YK b n i ro) Q)(l2:(decide (i<(↑n:Int)))=false→Q (.exit 0) (YL b n i ro)):an aoL 25 1 A9 (Gm b n i ro) Q:=
 aZ bt 2 (.fork 1 (.leaf [0,3] [0] [0]) (.leaf [] [0] [0])) (fun u=>by kernel_rfl) (mF (c:=decide (i<(↑n:Int))) (fun h0=>(mN (aH b) (mQ (l1 h0)))) (fun h0=>(mN (aH b) (mE 0 (l2 h0)))))
abbrev YN:=fun b (n:Nat) (i:Int) (ro:Bool)=>(⟨[(0,ah 0 n),(3,aa i),(4,aa 0)],iH b ro⟩:ai)
theorem YO(b:ByteArray)(n:Nat)(i:Int)(ro:Bool)(hn:n≤b.size){Q:aY}(l1:an aoL 25 1 (Gl.drop 1) (YN b n i ro) Q):an aoL 25 1 Gl (Gm b n i ro) Q:=
 aZ bt 1 (.leaf [0,3,4] [0] [0]) (fun u=>by kernel_rfl) (mN (aH b) (mQ l1))
noncomputable abbrev Nw(b:ByteArray)(n:Nat)(i k:Int)(ro:Bool):ai:=⟨[(2,.bool false)],iH b ro⟩
theorem YP(b)(n:Nat)(i k:Int)(ro:Bool){Q:bo}(hq:Q (.ret (.bool false)) (iH b ro)):aJ aoL 84 25 1 Q .ret (Nw b n i k ro):=aJ.ret (vs:=[.bool false]) (l:=[]) (bs:=[0]) (pl:=[0]) (q:=[af b]) (fun u=>by kernel_rfl) (by kernel_rfl) (aF (aH b) bi) hq
abbrev Nx:=fun b (n:Nat) (i k:Int) (ro:Bool)=>(⟨[(0,ah 0 n),(3,aa i),(4,.int .i64 (aoN .i64 (k+1)))],iH b ro⟩:ai)
abbrev YQ:=fun b (n:Nat) (i k:Int) (ro:Bool)=>(⟨[(0,ah 0 n),(3,aa i)],iH b ro⟩:ai)
abbrev YR:=fun b (n:Nat) (i k:Int) (ro:Bool)=>(⟨[(0,ah 0 n),(3,aa i),(4,aa k)],iH b ro⟩:ai)
theorem YS(b:ByteArray)(n:Nat)(i k:Int)(ro:Bool)(hn:n≤b.size)(h0:0≤k)(h1:0≤i)(h2:i<n){Q:aY}(n0:(decide (k<i))=true→(cH apb (af b) (0+aoO k*1))=true)(n1:(decide (k<i))=true→(cH apb (af b) (0+aoO i*1))=true)(l3:(decide (k<i))=true→(ay (af b) (0+aoO k*1)==ay (af b) (0+aoO i*1))=true→Q .ret (Nw b n i k ro))(l4:(decide (k<i))=true→(ay (af b) (0+aoO k*1)==ay (af b) (0+aoO i*1))=false→Q .normal (Nx b n i k ro))(l5:(decide (k<i))=false→Q (.exit 2) (YQ b n i k ro)):an aoL 25 1 Yx (YR b n i k ro) Q:=
 aZ bt 1000 (.fork 0 (aA [0,1,1,0,1,0,1,1,0,1] (.fork 0 (.leaf [2] [0] [0]) (.leaf [0,3,4] [0] [0]))) (.leaf [0,3] [0] [0])) (fun u=>by kernel_rfl) (mF (c:=decide (k<i)) (fun h0=>(mN (decide_eq_true (by omega):(decide (0≤k))=true) (mN (show(ao9 (aoO k) n)=true by simp at hn h0 h1 h2 h0⊢ <;>omega) (mN (n0 h0) (mN (decide_eq_true (by omega):(decide (0≤i))=true) (mN (show(ao9 (aoO i) n)=true by simp at hn h0 h1 h2 h0⊢ <;>omega) (mN (n1 h0) (mF (c:=ay (af b) (0+aoO k*1)==ay (af b) (0+aoO i*1)) (fun h1=>(mN (aH b) (mR (l3 h0 h1)))) (fun h1=>(mN (aH b) (mQ (an.done (by kernel_rfl) (l4 h0 h1))))))))))))) (fun h0=>(mN (aH b) (mE 2 (l5 h0)))))
abbrev Ny:=fun b (n:Nat) (i:Int) (ro:Bool)=>(⟨[(0,ah 0 n),(3,.int .i64 (aoN .i64 (i+1)))],iH b ro⟩:ai)
theorem YT(b:ByteArray)(n:Nat)(i:Int)(ro:Bool)(hn:n≤b.size){Q:aY}(l1:Q .normal (Ny b n i ro)):an aoL 25 1 (A9.drop 3) (Gm b n i ro) Q:=
 aZ bt 1000 (.leaf [0,3] [0] [0]) (fun u=>by kernel_rfl) (mN (aH b) (mQ (an.done (by kernel_rfl) l1)))
noncomputable abbrev Nz(b:ByteArray)(n:Nat)(ro:Bool):ai:=⟨[(2,.bool true)],iH b ro⟩
theorem YU(b)(n:Nat)(ro:Bool){Q:bo}(hq:Q (.ret (.bool true)) (iH b ro)):aJ aoL 84 25 1 Q .ret (Nz b n ro):=aJ.ret (vs:=[.bool true]) (l:=[]) (bs:=[0]) (pl:=[0]) (q:=[af b]) (fun u=>by kernel_rfl) (by kernel_rfl) (aF (aH b) bi) hq
theorem YV(b:ByteArray)(n:Nat)(ro:Bool)(hn:n≤b.size){Q:aY}(l1:Q .ret (Nz b n ro)):an aoL 25 1 (A8.drop 3) (Ns b n ro) Q:=
 aZ bt 1000 (.leaf [2] [0] [0]) (fun u=>by kernel_rfl) (mN (aH b) (mR l1))
end
end Go.Proofs.YtnlkkgpcikkpoaaGreat
