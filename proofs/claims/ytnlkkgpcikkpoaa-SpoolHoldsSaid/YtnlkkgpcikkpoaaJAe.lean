/- Part of the proof: Vd, Abs, Shut0, Call0, Dkh, Dki, Dka. -/
import Derived.Test.YtnlkkgpcikkpoaaJAd
import Derived.LoopNIn
import Derived.RangeFuncNested
import Derived.RangeFuncCalls
import Derived.RangeFuncLeaves
import Derived.Test.YtnlkkgpcikkpoaaChecked
import Derived.KernelRfl
import Derived.Test.YtnlkkgpcikkpoaaJAc
open Array renaming getD_eq_getD_getElem?→am4,getElem?_eq_some_iff→anq,getElem?_setIfInBounds_ne→anY,getElem?_setIfInBounds_self→an0,getElem?_toList→an5,size_setIfInBounds→aoI
open Bool renaming and_eq_true→amB,not_eq_true'→aos
open Classical renaming propDecidable→amR
open Go renaming Code→am3,Exit→aoF,FuncId→amY,MapEntry→amW,Program→amF,TypeId→amz,Value→amn,World→amC,wpIn_mono→aqB
open Go.IntKind renaming i64→amA,wrap→aml
open Go.Op renaming equal→ao8,equalIn→apg,maxDepth→asi
open Go.Proofs.Try renaming prog→anm,prog→asz
open Go.Region renaming wanted→anZ
open Go.Result renaming andThen_ok→amo
open Go.Sem renaming run→aoN,run_bind→amp
open Go.Value renaming bool→anz,oneCell'→ano
open Int renaming toNat→amm
open List renaming all→amq,all_eq_true→am1,any_eq_false→ao1,append_assoc→amQ,append_nil→anV,eq_nil_of_length_eq_zero→ant,foldl_cons→aom,getElem?_append_left→ane,getElem?_append_right→am5,getElem?_cons_zero→anb,getElem?_drop→anK,getElem?_eq_getElem→amt,getElem?_eq_none→anH,getElem?_eq_none_iff→aob,getElem?_eq_some_iff→amy,getElem?_map→anT,getElem?_mapIdx→arb,getElem?_of_mem→anQ,getElem?_set_ne→ao3,getElem?_set_self→aoP,getElem?_take→anJ,getElem?_toArray→aq6,isEmpty_iff→aoM,length→mM,length_append→amD,length_cons→am9,length_drop→anA,length_map→apl,length_mapIdx→arp,length_set→anU,length_take→anf,map_append→anh,map_cons→ani,map_nil→aqO,mem_append→amU,mem_append_left→anR,mem_append_right→anu,mem_cons→amH,mem_cons_of_mem→amK,mem_cons_self→amN,mem_map→aoq,mem_map_of_mem→aoL,mem_of_getElem?→am8,mem_singleton→ank,nodup_append→ans,nodup_cons→anP,pairwise_iff_getElem→ao4,tail_drop→aqr,take_append_drop→anF
open Nat renaming beq→amE,beq_refl→anw,ble→amO,ble_eq_true_of_le→am2,blt→amG,eq_of_beq_eq_true→amI,eq_zero_or_pos→aqz,le_of_ble_eq_true→amS,le_refl→amX,lt_of_lt_of_le→aoS,mul_pos→asj
open Option renaming getD_some→aoc
open Option.some renaming inj→apE,injEq→amr
open Prod.mk renaming injEq→amv
set_option linter.unusedVariables false
set_option linter.unusedSimpArgs false
namespace Go.Proofs.Ytnlkkgpcikkpoaa.Vm
open Go.RowKit
inductive Tree where
 |leaf (x:bf) (d:aj)
 |fork (c:Bool) (a b:Tree)
 |cD (c:Bool) (v:Bool) (t:Tree)
def Tree.ok(R:bf→aj→Prop):Tree→Prop
 | .leaf x d=>R x d
 | .fork c a b=>(c=true→a.ok R)∧(c=false→b.ok R)
 | .cD c v t=>c=v∧t.ok R
theorem Tree.zY{R R':bf→aj→Prop}(h:∀x d,R x d→R' x d):∀{T:Tree},T.ok R→T.ok R'
 | .leaf x d,ht=>h x d ht
 | .fork c a b,ht=>⟨fun hc=>zY h (ht.1 hc),fun hc=>zY h (ht.2 hc)⟩
 | .cD c v t,ht=>⟨ht.1,zY h ht.2⟩
inductive ST where
 |leaf (sl bs pl:List Nat)
 |fork (n:Nat) (a b:ST)
 |cD (n:Nat) (v:Bool) (a:ST)
def DT.sym{α:Type}(fin:List Nat→List Nat→List Nat→α→Option Tree):DT α→ST→Option Tree
 | .done a,.leaf sl bs pl=>fin sl bs pl a
 | .ask d k,.fork 0 s1 s2=>match(k true).sym fin s1 with
  |some x=>match(k false).sym fin s2 with
   |some y=>some (.fork d x y)
   |none=>none
  |none=>none
 | .ask d k,.cD 0 v s=>match v with
  |true=>match(k true).sym fin s with
   |some x=>some (.cD d true x)
   |none=>none
  |false=>match(k false).sym fin s with
   |some x=>some (.cD d false x)
   |none=>none
 | .ask d k,.fork (n+1) s1 s2=>match d with
  |true=>(k true).sym fin (.fork n s1 s2)
  |false=>(k false).sym fin (.fork n s1 s2)
 | .ask d k,.cD (n+1) v s=>match d with
  |true=>(k true).sym fin (.cD n v s)
  |false=>(k false).sym fin (.cD n v s)
 | .ask d k,.leaf sl bs pl=>match d with
  |true=>(k true).sym fin (.leaf sl bs pl)
  |false=>(k false).sym fin (.leaf sl bs pl)
 | .fm p x y,.cD 0 v s=>match v with
  |true=>x.sym fin s
  |false=>y.sym fin s
 | .fm p x y,.cD (n+1) v s=>match p with
  |true=>x.sym fin (.cD n v s)
  |false=>y.sym fin (.cD n v s)
 | .fm p x y,.fork (n+1) s1 s2=>match p with
  |true=>x.sym fin (.fork n s1 s2)
  |false=>y.sym fin (.fork n s1 s2)
 | .fm p x y,.leaf sl bs pl=>match p with
  |true=>x.sym fin (.leaf sl bs pl)
  |false=>y.sym fin (.leaf sl bs pl)
 |_,_=>none
theorem DT.K9{α:Type}{fin:List Nat→List Nat→List Nat→α→Option Tree}{R:bf→aj→Prop}:∀{x:DT α} {s:ST} {T:Tree},x.sym fin s=some T→T.ok R→∃a sl bs pl T',x.Has a∧fin sl bs pl a=some T'∧T'.ok R:=by
 intro x
 induction x with
 |done a=>
  intro s T h ht
  cases s with
  |leaf sl bs pl=>exact⟨a,sl,bs,pl,T,.done a,h,ht⟩
  |fork n _ _=>cases n<;>cases h
  |cD n _ _=>cases n<;>cases h
 |fail=>
  intro s T h ht
  unfold DT.sym at h
  cases s with
  |leaf=>cases h
  |fork n _ _=>cases n<;>cases h
  |cD n _ _=>cases n<;>cases h
 |ask d k ih=>
  intro s T h ht
  cases s with
  |leaf sl bs pl=>
   unfold DT.sym at h
   cases d with
   |true=>obtain⟨a,sl,bs,pl,T',h1,h2⟩:=ih true h ht;exact⟨a,sl,bs,pl,T',.ask _ _ _ h1,h2⟩
   |false=>obtain⟨a,sl,bs,pl,T',h1,h2⟩:=ih false h ht;exact⟨a,sl,bs,pl,T',.ask _ _ _ h1,h2⟩
  |fork n s1 s2=>
   cases n with
   |zero=>
    unfold DT.sym at h
    split at h
    ·rename_i x hx
     split at h
     ·rename_i y hy
      cases h
      cases d with
      |true=>obtain⟨a,sl,bs,pl,T',h1,h2⟩:=ih true hx (ht.1 rfl);exact⟨a,sl,bs,pl,T',.ask _ _ _ h1,h2⟩
      |false=>obtain⟨a,sl,bs,pl,T',h1,h2⟩:=ih false hy (ht.2 rfl);exact⟨a,sl,bs,pl,T',.ask _ _ _ h1,h2⟩
     ·cases h
    ·cases h
   |succ n=>
    unfold DT.sym at h
    cases d with
    |true=>obtain⟨a,sl,bs,pl,T',h1,h2⟩:=ih true h ht;exact⟨a,sl,bs,pl,T',.ask _ _ _ h1,h2⟩
    |false=>obtain⟨a,sl,bs,pl,T',h1,h2⟩:=ih false h ht;exact⟨a,sl,bs,pl,T',.ask _ _ _ h1,h2⟩
  |cD n v s=>
   cases n with
   |zero=>
    unfold DT.sym at h
    cases v with
    |true=>
     dsimp only at h
     split at h
     ·rename_i x hx
      cases h
      obtain⟨e,ht⟩:=ht
      subst e
      obtain⟨a,sl,bs,pl,T',h1,h2⟩:=ih true hx ht
      exact⟨a,sl,bs,pl,T',.ask _ _ _ h1,h2⟩
     ·cases h
    |false=>
     dsimp only at h
     split at h
     ·rename_i x hx
      cases h
      obtain⟨e,ht⟩:=ht
      subst e
      obtain⟨a,sl,bs,pl,T',h1,h2⟩:=ih false hx ht
      exact⟨a,sl,bs,pl,T',.ask _ _ _ h1,h2⟩
     ·cases h
   |succ n=>
    unfold DT.sym at h
    cases d with
    |true=>obtain⟨a,sl,bs,pl,T',h1,h2⟩:=ih true h ht;exact⟨a,sl,bs,pl,T',.ask _ _ _ h1,h2⟩
    |false=>obtain⟨a,sl,bs,pl,T',h1,h2⟩:=ih false h ht;exact⟨a,sl,bs,pl,T',.ask _ _ _ h1,h2⟩
 |fm p x y pZ p8=>
  intro s T h ht
  have L:∀{s},x.sym fin s=some T→∃a sl bs pl T',(DT.fm p x y).Has a∧fin sl bs pl a=some T'∧T'.ok R:=fun h=>by
   obtain⟨a,sl,bs,pl,T',h1,h2⟩:=pZ h ht;exact⟨a,sl,bs,pl,T',.left _ _ _ _ h1,h2⟩
  have M:∀{s},y.sym fin s=some T→∃a sl bs pl T',(DT.fm p x y).Has a∧fin sl bs pl a=some T'∧T'.ok R:=fun h=>by
   obtain⟨a,sl,bs,pl,T',h1,h2⟩:=p8 h ht;exact⟨a,sl,bs,pl,T',.right _ _ _ _ h1,h2⟩
  cases s with
  |leaf sl bs pl=>
   unfold DT.sym at h
   cases p with
   |true=>exact L h
   |false=>exact M h
  |fork n s1 s2=>
   cases n with
   |zero=>unfold DT.sym at h;cases h
   |succ n=>
    unfold DT.sym at h
    cases p with
    |true=>exact L h
    |false=>exact M h
  |cD n v s=>
   cases n with
   |zero=>
    unfold DT.sym at h
    cases v with
    |true=>exact L h
    |false=>exact M h
   |succ n=>
    unfold DT.sym at h
    cases p with
    |true=>exact L h
    |false=>exact M h
def pb(pl:List Nat)(τ:Nat→Option Nat):List (Nat×ai)→Option (List ai×List (List amn))
 | []=>some ([],[])
 |(b,o)::l=>match pb pl τ l with
  |none=>none
  |some (r,q)=>match o with
   | .cells c el ro=>match pl.any (amE b)with
    |true=>some (.cells c el ro::r,c::q)
    |false=>match lP (gN τ 6) c with
     |some c'=>some (.cells c' el ro::r,q)
     |none=>none
   | .map es clock=>match pl.any (amE b)with
    |true=>some (.map es clock::r,es.map (dM τ)::q)
    |false=>match qT τ es with
     |some cH=>some (.map cH clock::r,q)
     |none=>none
   | .kr s p=>some (.kr s p::r,q)
   | .rows n s f=>some (.rows n s f::r,q)
   | .abs d=>some (.abs d::r,q)
   | .dead=>some (.dead::r,q)
def EE:List (List amn)→Tree→Tree
 | [],t=>t
 |c::l,t=>.cD (c.all af) true (EE l t)
theorem EF{R:bf→aj→Prop}{t:Tree}:∀{l:List (List amn)},(EE l t).ok R→(∀c∈l,c.all af=true)∧t.ok R
 | [],h=>⟨fun c hc=>(by cases hc),h⟩
 |c::l,h=>by
  obtain⟨h1,h2⟩:=h
  obtain⟨h3,h4⟩:=EF h2
  exact⟨fun x hx=>by
   rcases amH.1 hx with rfl|hx
   ·exact h1
   ·exact h3 x hx,h4⟩
theorem ng{pl:List Nat}{τ:Nat→Option Nat}:∀{l:List (Nat×ai)} {l':List ai} {q:List (List amn)},pb pl τ l=some (l',q)→(∀c∈q,c.all af=true)→dD (ON τ) (l.map (·.2)) l'
 | [],l',q,h,_=>by cases h;exact .nil
 |(b,o)::l,l',q,h,hq=>by
  unfold pb at h
  split at h
  ·cases h
  ·rename_i r q' hr
   split at h
   ·split at h
    ·cases h
     exact .cons (.plain _ _ _ (hq _ amN)) (ng hr fun c hc=>hq c (amK _ hc))
    ·split at h
     ·rename_i hc
      cases h
      exact .cons (.cells _ _ _ _ hc) (ng hr hq)
     ·cases h
   ·split at h
    ·cases h
     exact .cons (.map _ _ _ (Ed (hq _ amN))) (ng hr fun c hc=>hq c (amK _ hc))
    ·split at h
     ·rename_i he
      cases h
      exact .cons (.map _ _ _ he) (ng hr hq)
     ·cases h
   ·cases h;exact .cons (.kr _ _) (ng hr hq)
   ·cases h;exact .cons (.rows _ _ _) (ng hr hq)
   ·cases h;exact .cons (.abs _) (ng hr hq)
   ·cases h;exact .cons (.dead _) (ng hr hq)
def uO(n k:Nat)(sl bs pl:List Nat):bf×Fr×VS→Option Tree
 |(x,t,S)=>match o5 bs S with
  |none=>none
  |some bl=>match uC (eI bs) sl (sl.map t.at),pb pl (eI bs) bl with
   |some d,some (objs,q)=>match sL k bs 0&&nodupB bs&&sl.all (fun i=>amG i n)&&amO bs.length 262144&&Vs x&&amE t.n n&&(t.ds.isEmpty&&t.base.isEmpty)with
    |true=>some (EE q (.leaf x ⟨d,objs⟩))
    |false=>none
   |_,_=>none
theorem EG:∀{bs:List Nat} {S:VS} {r:List (Nat×ai)},o5 bs S=some r→r.map (·.1)=bs
 | [],S,r,h=>by simp only[o5,amr]at h;subst h;rfl
 |x::l,S,r,h=>by
  unfold o5 at h
  split at h
  ·rename_i o r' h1 h2
   simp only[amr]at h
   subst h
   simp[EG h2]
  ·cases h
theorem al.tree{P:amF}(hP:hI P=true)(fh:P.follows .mixedOrders=true){cO:fo}(hc:dg P cO){lf n k m:Nat}{l:List am3}{d:aj}{s:ST}{T:Tree}
 (h:∀u,(sO P cO lf (l.take m) (ee n u d.sl) (kE d.objs)).sym (uO n k) s=some T){Q:bf→aj→Prop}
 (hT:T.ok (fun x d'=>match x with
  | .normal=>al P n k (l.drop m) d' Q
  |x=>Q x d')):al P n k l d Q:=by
 intro X hn hk a w hd
 have oT:=hd
 obtain⟨ρ,u,M,hd⟩:=hd
 obtain⟨p,sl,bs,pl,T',h1,h2,h3⟩:=DT.K9 (h u) hT
 obtain⟨x,t1,S1⟩:=p
 dsimp only[uO]at h2
 cases mA:o5 bs S1 with
 |none=>rw[mA]at h2;cases h2
 |some bl=>
  rw[mA]at h2
  dsimp only at h2
  split at h2
  ·rename_i dl objs q hs hr
   split at h2
   ·rename_i ef
    cases h2
    obtain⟨hq,qf⟩:=EF h3
    have kH:=EG mA
    have eO:=ng hr hq
    simp only[amB]at ef
    obtain⟨⟨⟨⟨⟨⟨c1,c2⟩,c3⟩,c4⟩,c5⟩,c6⟩,c7,c8⟩:=ef
    have hlen:objs.length=bs.length:=by rw[←eO.len,←kH];simp
    subst hn hk
    obtain⟨cV,xk,EH⟩:=hc.ex
    have hv:=Ei EH lf h1
    have he:=xc xk lf hv
    have ec:=he.sm (fun x hx=>by rcases hx with hx|hx<;>cases hx)
    have mq:fv (kE d.objs) S1 (cq d.objs):=fun x hx=>by rw[cA (ec x hx),w8 hd.bS]
    rw[←anF m l]
    have nV:=KP hd.quiet
    refine Eh (KO hP fh xk lf (Ej (M.map eh) hv) hd.fr (hd.mem.zp nV) mq fun ρ' e a' w' hle dq cn xl=>?_)
    have cC:=xl.zq hd.mem.env hd.mem.below hd.mem.size nV
    have hh:Holds P X ⟨dl,objs⟩ a' w':=Holds.KM (bl:=bl) (t:=t1.dx (M.map eh)) (M:=M) hd.full hle hd.kept cn (amI c6) (aoM.1 c7) rfl (fun D hD=>(xl.zr hD).trans (hd.quiet D hD)) hd.gp hd.outside cC rfl (fun p hp=>by
     have hg:=Ek mA p hp
     unfold post
     by_cases hx:p.1∈S1.wr
     ·rw[if_pos hx,hg]
     ·rw[if_neg hx,cA (oL hg),←w8 hd.bS,←he.frame p.1 hx,hg]) (by rw[kH];exact c1) (by rw[kH];exact c2) (by rw[kH];exact hs) (by rw[kH];exact eO) c3 (am2 (by rw[hlen];exact amS c4))
    cases x with
    |normal=>cases dq;exact qf X rfl rfl a' w' hh
    |exit id=>cases dq;exact⟨.exit id,_,qf,.exit id,hh⟩
    |ret=>cases dq;exact⟨.ret,_,qf,.ret,hh⟩
    |panic v=>
     cases dq with
     |panic _ v' hv=>
      have:=ml c5 hv
      subst this
      exact⟨.panic v',_,qf,.panic _ _ (mX c5),hh⟩
   ·cases h2
  ·cases h2
theorem Tree.dh{R:bf→aj→Prop}{c:Bool}{a b:Tree}(h1:c=true→a.ok R)(h2:c=false→b.ok R):(Tree.fork c a b).ok R:=⟨h1,h2⟩
theorem Tree.aU{R:bf→aj→Prop}{c v:Bool}{t:Tree}(h1:c=v)(h2:t.ok R):(Tree.cD c v t).ok R:=⟨h1,h2⟩
theorem Tree.fw{R:bf→aj→Prop}{d:aj}(h:R .normal d):(Tree.leaf .normal d).ok R:=h
theorem Tree.dz{R:bf→aj→Prop}{d:aj}(h:R .ret d):(Tree.leaf .ret d).ok R:=h
theorem Tree.fI{R:bf→aj→Prop}(n:Nat){d:aj}(h:R (.exit n) d):(Tree.leaf (.exit n) d).ok R:=h
theorem Tree.eQ{R:bf→aj→Prop}{x:bf}{d:aj}(h:R x d):(Tree.leaf x d).ok R:=h
theorem al.eJ{P:amF}{n k:Nat}{L:List am3}{d:aj}{Q:bf→aj→Prop}(i id:Nat)(hl:El (L.drop i)=some id)
 (h:al P n k (ba (inner (L.drop i))) d (QB id (fun d'=>al P n k (L.drop (i+1)) d' Q) Q)):al P n k (L.drop i) d Q:=
 al.block hl (by rw[aqr];exact h)
theorem al.uP{P:amF}{n k:Nat}{L:List am3}{d:aj}{Q:bf→aj→Prop}(i:Nat){c:Nat}{b:Bool}(hl:zK (L.drop i)=some c)(hi:amG c n=true)(hv:ji d.sl c=some (.bool b))
 (h:al P n k (ba (o6 b (L.drop i))++L.drop (i+1)) d Q):al P n k (L.drop i) d Q:=
 al.cond hl hi hv (by rw[aqr];exact h)
def QL{σ:Type}(I:σ→aj)(μ:σ→Nat)(ok:σ→Prop)(s:σ)(Q:bf→aj→Prop):bf→aj→Prop
 | .normal,d=>∃s',ok s'∧μ s'<μ s∧d=I s'
 |x,d=>Q x d
theorem al.fJ{P:amF}{n k:Nat}{l:List am3}{Q:bf→aj→Prop}{σ:Type}(I:σ→aj)(μ:σ→Nat)(ok:σ→Prop)(s₀:σ)(hl:Em l=true)(h₀:ok s₀)
 (h:∀s,ok s→al P n k (ba (inner l)) (I s) (QL I μ ok s Q)):al P n k l (I s₀) Q:=
 al.loop I μ ok hl (fun s hs=>(h s hs).mono fun x d hx=>by cases x<;>exact hx) s₀ h₀
theorem QL.ret{σ:Type}{I:σ→aj}{μ:σ→Nat}{ok:σ→Prop}{s:σ}{Q:bf→aj→Prop}{d:aj}(h:Q .ret d):QL I μ ok s Q .ret d:=h
theorem QL.exit{σ:Type}{I:σ→aj}{μ:σ→Nat}{ok:σ→Prop}{s:σ}{Q:bf→aj→Prop}{d:aj}{j:Nat}(h:Q (.exit j) d):QL I μ ok s Q (.exit j) d:=h
theorem QL.to{σ:Type}{I:σ→aj}{μ:σ→Nat}{ok:σ→Prop}{s:σ}{Q:bf→aj→Prop}{d:aj}(s':σ)(h:ok s')(hm:μ s'<μ s)(e:d=I s'):QL I μ ok s Q .normal d:=⟨s',h,hm,e⟩
theorem QB.ret{id:Nat}{N:aj→Prop}{Q:bf→aj→Prop}{d:aj}(h:Q .ret d):QB id N Q .ret d:=h
theorem QB.normal{id:Nat}{N:aj→Prop}{Q:bf→aj→Prop}{d:aj}(h:N d):QB id N Q .normal d:=h
theorem QB.ci{id:Nat}{N:aj→Prop}{Q:bf→aj→Prop}{d:aj}(h:N d):QB id N Q (.exit id) d:=by
 unfold QB;dsimp only;rw[anw];exact h
theorem QB.cu{id j:Nat}{N:aj→Prop}{Q:bf→aj→Prop}{d:aj}(hj:amE j id=false)(h:Q (.exit j) d):QB id N Q (.exit j) d:=by
 unfold QB;dsimp only;rw[hj];exact h
noncomputable def dX(a args:List amn)(o objs:List ai):Bool:=@decide (a=args∧o=objs) (amR _)
theorem fe{a args:List amn}{o objs:List ai}(h1:a=args)(h2:o=objs):dX a args o objs=true:=by
 subst h1 h2
 simp[dX]
theorem kh(a:List amn)(o:List ai):dX a a o o=true:=fe rfl rfl
noncomputable def Sum.one(names:List amn→(Nat→Option ai)→Option (List Nat))(args:List amn)(objs:List ai)(r:bL)(out:List ai):Sum where
 names:=names
 spec a o:=.uH (dX a args o objs) (.done (r,out))
theorem bp.one{P:amF}{f:amY}{names:List amn→(Nat→Option ai)→Option (List Nat)}{args:List amn}{objs:List ai}{r:bL}{out:List ai}(h:aG P f args objs fun r' o'=>r'=r∧o'=out):
 bp P f (Sum.one names args objs r out):=by
 intro a o r' o' hr
 obtain⟨h1,h2⟩:=QT.xf hr
 obtain⟨rfl,rfl⟩:=@of_decide_eq_true _ (amR _) h1
 cases h2
 exact h
def re:Nat→amn→List Nat
 |_,.pointer (some ⟨b,_,none⟩)=>[b]
 |_,.slice (some ⟨b,_,none⟩) _ _=>[b]
 |_,.map (some b)=>[b]
 |d+1,.iface _ v=>re d v
 |d+1,.agg c=>(c.toList.map (re d)).flatten
 |d+1,.tuple c=>(c.toList.map (re d)).flatten
 |d+1,.func _ f c=>(f.toList.map (re d)).flatten++(c.toList.map (re d)).flatten
 |_,_=>[]
def xm:List Nat→List Nat→List Nat
 | [],_=>[]
 |x::l,seen=>match seen.any (amE x)with
  |true=>xm l seen
  |false=>x::xm l (x::seen)
def uQ(args:List amn)(_:Nat→Option ai):Option (List Nat):=some (xm ((args.map (re 6)).flatten) [])
theorem bp.closed{P:amF}{f:amY}{v:amn}(h:aG P f [] [] fun r' o'=>r'=.ret v∧o'=[]):bp P f ⟨uQ,fun a o=>match a,o with
 | [],[]=>.done (.ret v,[])
 |_,_=>.fail⟩:=by
 intro a o r' o' hr
 dsimp only at hr
 split at hr
 ·cases hr;exact h
 ·cases hr
theorem WR.VH{P:amF}{B:Nat→Prop}{w₀ w:amC}{ρ:Ren}{m:Nat→Option ai}(gP:Full ρ)(hw:WR P B w₀ ρ m w){bl:List (Nat×ai)}(mA:∀p∈bl,m p.1=some p.2){objs:List ai}{k:Nat}(hk:∀x,x<k→∃r,ρ x=some r)
 (lQ:sL k (bl.map (·.1)) 0=true)(de:nodupB (bl.map (·.1))=true)(eO:dD (ON (eI (bl.map (·.1)))) (bl.map (·.2)) objs)(uD:objs.length≤262144):
 ∃ρ2:Ren,Full ρ2∧(∀x,x<k→ρ2 x=ρ x)∧(∀y i r,eI (bl.map (·.1)) y=some i→ρ y=some r→ρ2 i=some r)∧WR P B w₀ ρ2 (cq objs) w:=by
 let σ:List Nat:=bl.map (·.1)
 let ρ2:Ren:=fun x=>match small x with
  |true=>(σ[x]?).bind ρ
  |false=>ρ x
 have ec:∀x,small x=true→ρ2 x=(σ[x]?).bind ρ:=fun x h=>by show(match small x with|true=>_|false=>_)=_;rw[h]
 have kF:∀x,small x=false→ρ2 x=ρ x:=fun x h=>by show(match small x with|true=>_|false=>_)=_;rw[h]
 have hlen:bl.length=objs.length:=by have:=eO.len;simpa using this
 have oZ:Full ρ2:=fun r=>by
  obtain⟨y,h1,h2⟩:=gP r
  exact⟨y,h1,by rw[kF y h1];exact h2⟩
 have sN:∀i y,σ[i]?=some y→small i=true:=fun i y h=>gW.2 (by
  have:i<σ.length:=(amy.1 h).1
  have e:σ.length=bl.length:=by simp[σ]
  have:(2:Nat)^18=262144:=rfl
  omega)
 have hσ:∀i y r,σ[i]?=some y→ρ y=some r→ρ2 i=some r:=fun i y r h1 h2=>by rw[ec i (sN i y h1),h1];exact h2
 have qU:∀y i r,eI σ y=some i→ρ y=some r→ρ2 i=some r:=fun y i r h1 h2=>hσ i y r (zI h1) h2
 refine⟨ρ2,oZ,fun x hx=>?_,qU,?_⟩
 ·have:=Ef lQ x hx
  rw[Nat.zero_add]at this
  obtain⟨r,hr⟩:=hk x hx
  rw[hσ x x r this hr,hr]
 ·have su:∀(i:Nat) (o:ai),objs[i]?=some o→∃y ob,σ[i]?=some y∧m y=some ob∧ON (eI σ) ob o:=fun i o hi=>by
   obtain⟨ob,h1,h2⟩:=eO.get hi
   rw[anT]at h1
   cases hb:bl[i]?with
   |none=>rw[hb]at h1;cases h1
   |some p=>
    rw[hb]at h1
    simp only[Option.map_some,amr]at h1
    subst h1
    exact⟨p.1,p.2,by simp[σ,hb],mA p (am8 hb),h2⟩
  refine hw.Ee (fun x=>match small x with
   |true=>σ[x]?
   |false=>none) (fun x o hx bt=>?_) (fun x y z hx hy=>?_) fun x hx=>?_
  ·cases hs:small x with
   |false=>rw[iu hs]at hx;cases hx;exact absurd rfl bt
   |true=>
    rw[cA hs]at hx
    obtain⟨y,ob,h1,h2,h3⟩:=su x o hx
    refine⟨y,ob,h1,h2,h3.ne bt,?_,fun r hl=>⟨(h3.live hl).1,(h3.live hl).2,h3.or qU hl⟩,fun n size row e=>?_,fun el ro e=>?_,fun d e=>?_⟩
    ·rw[ec x hs,h1];rfl
    ·subst e;cases h3;rfl
    ·subst e
     cases h3 with
     |plain=>rfl
     |cells c _ _ _ h=>
      cases c with
      |nil=>rfl
      |cons v c=>have:=sK h;simp at this
    ·subst e;cases h3;rfl
  ·have key:∀q,(match small q with|true=>σ[q]? |false=>none)=some z→σ[q]?=some z:=fun q hq=>by
    cases hs:small q with
    |true=>rw[hs]at hq;exact hq
    |false=>rw[hs]at hq;cases hq
   exact sM de (key x hx) (key y hy)
  ·cases hs:small x with
   |false=>rw[iu hs]at hx;cases hx
   |true=>
    rw[cA hs]at hx
    rw[ec x hs]
    have:σ[x]?=none:=by
     rw[aob]at hx⊢
     simp[σ]
     omega
    rw[this]
    rfl
def nW(k:Nat)(bs pl:List Nat)(r:bL)(o:List ai):Option (bL×List ai×List (List amn)):=match getAll (fun x=>o[x]?) bs with
 |none=>none
 |some ob=>match pb pl (eI bs) (bs.zip ob),qc (eI bs) r,sL k bs 0&&nodupB bs&&amO bs.length 262144 with
  |some (o',q),some r',true=>some (r',o',q)
  |_,_,_=>none
theorem aG.trim{P:amF}{f:amY}{args:List amn}{objs:List ai}{Q Q':bL→List ai→Prop}(h:aG P f args objs Q)
 (ht:∀r o,Q r o→∃bs pl r' o' q,nW objs.length bs pl r o=some (r',o',q)∧(∀c∈q,c.all af=true)∧Q' r' o'):aG P f args objs Q':=by
 intro B w₀ ρ w args' h1 h2 h3 h4
 refine(h B w₀ ρ w args' h1 h2 h3 h4).mono fun e w' he=>?_
 obtain⟨r,o,ρ',hq,iK,gP,hw,jw,lQ⟩:=he
 obtain⟨bs,pl,r',o',q,t1,t2,t3⟩:=ht r o hq
 unfold nW at t1
 split at t1
 ·cases t1
 ·rename_i ob eO
  split at t1
  ·rename_i o2 q2 r2 EI eo hc
   simp only[amr,amv]at t1
   obtain⟨rfl,rfl,rfl⟩:=t1
   simp only[amB]at hc
   obtain⟨⟨c1,c2⟩,c3⟩:=hc
   obtain⟨g1,g2⟩:=zQ eO
   have e1:(bs.zip ob).map (·.1)=bs:=by rw[List.map_fst_zip (by omega)]
   have La:=ng EI t2
   have hl:o2.length=bs.length:=by rw[←La.len];simp;omega
   have ec:∀x∈bs,small x=true:=fun x hx=>by
    obtain⟨i,hi⟩:=anQ hx
    obtain⟨oo,_,h⟩:=g2 i x hi
    have:x<o.length:=(amy.1 h).1
    exact gW.2 (by have:(2:Nat)^18=262144:=rfl;omega)
   obtain⟨ρ2,k1,k2,k3,k4⟩:=WR.VH (bl:=bs.zip ob) (objs:=o2) (k:=objs.length) gP hw (fun p hp=>by
    obtain⟨i,hi⟩:=anQ hp
    rw[List.getElem?_zip_eq_some]at hi
    obtain⟨oo,h5,h6⟩:=g2 i p.1 hi.1
    rw[hi.2]at h5
    cases h5
    rw[cA (ec p.1 (am8 hi.1))]
    exact h6) (fun x hx=>by rw[lQ x hx];exact h2 x hx) (by rw[e1];exact c1) (by rw[e1];exact c2) (by rw[e1];exact La) (by rw[hl];exact amS c3)
   rw[e1]at k3
   refine⟨r2,o2,ρ2,t3,?_,k1,k4,by rw[hl];exact amS c3,fun x hx=>(k2 x hx).trans (lQ x hx)⟩
   unfold qc at eo
   split at eo
   ·rename_i v
    split at eo
    ·rename_i u hu
     cases eo
     cases e with
     |returned v'=>exact p9 k3 6 v u v' hu iK
     |panicked chain=>cases iK
     |outgrown=>cases iK
    ·cases eo
   ·rename_i v
    split at eo
    ·rename_i fC
     cases eo
     cases e with
     |returned v'=>cases iK
     |panicked chain=>
      obtain⟨v',h1,h2⟩:=iK
      have:=ml fC h2
      subst this
      exact⟨v',h1,mX fC⟩
     |outgrown=>cases iK
    ·cases eo
  ·cases t1
def aH(P:amF)(f:amY)(n k:Nat)(Q:bL→List ai→Prop):bf→aj→Prop
 | .normal,d=>∃vs l,(∀u,(gG P (ee n u d.sl) (rc P f)).run (gt (kE d.objs).mem)=some (vs,l))∧∃bs pl r' o' q,nW k bs pl (.ret (mg vs)) d.objs=some (r',o',q)∧(∀c∈q,c.all af=true)∧Q r' o'
 | .ret,d=>∃vs l,(∀u,(gG P (ee n u d.sl) (rc P f)).run (gt (kE d.objs).mem)=some (vs,l))∧∃bs pl r' o' q,nW k bs pl (.ret (mg vs)) d.objs=some (r',o',q)∧(∀c∈q,c.all af=true)∧Q r' o'
 |_,_=>False
theorem aG.cM{P:amF}{f:amY}{n:Nat}{args:List amn}{objs:List ai}{Q:bL→List ai→Prop}
 (hf:(((P.funcs[f]?).bind (·.body)).isSome&&amE (ct P f) n&&amO args.length n&&amO n 1024&&amO objs.length 262144)=true)
 (h:al P n objs.length (ba (dy P f)) ⟨uF args 0,objs⟩ (aH P f n objs.length Q)):aG P f args objs Q:=
 aG.trim (Q:=fun r o=>∃bs pl r' o' q,nW objs.length bs pl r o=some (r',o',q)∧(∀c∈q,c.all af=true)∧Q r' o')
  (aG.of hf (h.mono fun x d hx=>by cases x<;>first|exact hx|exact hx.elim)) fun r o h=>h
theorem aH.ret{P:amF}{f n k:Nat}{Q:bL→List ai→Prop}{d:aj}{vs:List amn}{l bs pl:List Nat}{r':bL}{o':List ai}{q:List (List amn)}(h:∀u,(gG P (ee n u d.sl) (rc P f)).run (gt (kE d.objs).mem)=some (vs,l))
 (ht:nW k bs pl (.ret (mg vs)) d.objs=some (r',o',q))(hp:∀c∈q,c.all af=true)(hq:Q r' o'):aH P f n k Q .ret d:=⟨vs,l,h,bs,pl,r',o',q,ht,hp,hq⟩
theorem aH.normal{P:amF}{f n k:Nat}{Q:bL→List ai→Prop}{d:aj}{vs:List amn}{l bs pl:List Nat}{r':bL}{o':List ai}{q:List (List amn)}(h:∀u,(gG P (ee n u d.sl) (rc P f)).run (gt (kE d.objs).mem)=some (vs,l))
 (ht:nW k bs pl (.ret (mg vs)) d.objs=some (r',o',q))(hp:∀c∈q,c.all af=true)(hq:Q r' o'):aH P f n k Q .normal d:=⟨vs,l,h,bs,pl,r',o',q,ht,hp,hq⟩
theorem bd:∀c∈([]:List (List amn)),c.all af=true:=fun c h=>by cases h
theorem aE{c:List amn}{q:List (List amn)}(h:c.all af=true)(hq:∀c∈q,c.all af=true):∀x∈c::q,x.all af=true:=fun x hx=>by
 rcases amH.1 hx with rfl|hx
 ·exact h
 ·exact hq x hx
attribute [simp] aI aN aS aP mB xj EB
@[simp] theorem akW{a b:List amn}{n:Nat}(ha:a.all af=true)(hb:b.all af=true):(amk a n b).all af=true:=aD ha hb n
@[simp] theorem akX{a:List amn}{n:Nat}(ha:a.all af=true):(a.take n).all af=true:=aA ha n
@[simp] theorem akY{a:List amn}{n:Nat}(ha:a.all af=true):(a.drop n).all af=true:=aO ha n
@[simp] theorem EJ(b:ByteArray):(ag b).all ano=true:=sS (aI b)
@[simp] theorem akZ(b:List ByteArray):(ao b).all ano=true:=sS (aN b)
@[simp] theorem ak0(b:List Int):(aq b).all ano=true:=sS (aS b)
@[simp] theorem ak1(k:IntKind)(x:Int):af (.int k x)=true:=rfl
@[simp] theorem ak2(x:ByteArray):af (.string x)=true:=rfl
@[simp] theorem ak3(x:Bool):af (.bool x)=true:=rfl
@[simp] theorem ak4(k:IntKind)(x:Int):ano (.int k x)=true:=rfl
@[simp] theorem ak5(x:ByteArray):ano (.string x)=true:=rfl
@[simp] theorem ak6(x:Bool):ano (.bool x)=true:=rfl
@[simp] theorem ak7{a b:Nat}:amG a b=true↔a<b:=dI
@[simp] theorem ak8{a b:Nat}:amG a b=false↔b≤a:=by
 cases h:amG a b with
 |true=>have:=dI.1 h;simp;omega
 |false=>simp;exact Nat.le_of_not_lt fun h'=>by rw[dI.2 h']at h;cases h
@[simp] theorem ak9{a b:Nat}:amO a b=true↔a≤b:=⟨amS,am2⟩
@[simp] theorem ala{a b:Nat}:amO a b=false↔b<a:=by
 cases h:amO a b with
 |true=>have:=amS h;simp;omega
 |false=>simp;exact Nat.lt_of_not_le fun h'=>by rw[am2 h']at h;cases h
@[simp] theorem alb{a b:Nat}:amE a b=true↔a=b:=⟨amI,fun h=>by subst h;exact anw a⟩
@[simp] theorem alc{a b:Nat}:amE a b=false↔a≠b:=by
 cases h:amE a b with
 |true=>have:=amI h;simp;omega
 |false=>simp;intro e;subst e;rw[anw]at h;cases h
@[simp] theorem VI{n c:Nat}:full n c=true↔c≤n:=by
 unfold full
 cases c with
 |zero=>simp
 |succ c=>simp
@[simp] theorem ald{n c:Nat}:full n c=false↔n<c:=by
 unfold full
 cases c with
 |zero=>simp
 |succ c=>simp
theorem kJ(n:Nat):full n n=true:=VI.2 (amX n)
def dF:List (amY×Sum)→amY→Option Sum
 | [],_=>none
 |p::l,f=>match amE f p.1 with
  |true=>some p.2
  |false=>dF l f
inductive zZ(P:amF):List (amY×Sum)→Prop where
 |nil:zZ P []
 |cons {f:amY} {s:Sum} {l:List (amY×Sum)} (h:bp P f s) (t:zZ P l):zZ P ((f,s)::l)
theorem dQ{P:amF}{l:List (amY×Sum)}(h:zZ P l):∀f s,dF l f=some s→bp P f s:=by
 induction h with
 |nil=>intro f s h;cases h
 |cons h _ ih=>
  intro f s hf
  unfold dF at hf
  split at hf
  ·rename_i hb
   cases hf
   rw[amI hb]
   exact h
  ·exact ih f s hf
def Sum.of(g:List amn→List ai→Option (Bool×bL×List ai)):Sum:=⟨uQ,fun a o=>match g a o with
 |some (c,r,o')=>.uH c (.done (r,o'))
 |none=>.fail⟩
theorem bp.of{P:amF}{f:amY}{g:List amn→List ai→Option (Bool×bL×List ai)}(h:∀a o r o',g a o=some (true,r,o')→aG P f a o fun r' EK=>r'=r∧EK=o'):bp P f (Sum.of g):=by
 intro a o r o' hr
 unfold Sum.of at hr
 dsimp only at hr
 split at hr
 ·rename_i c r1 o1 hg
  obtain⟨h1,h2⟩:=QT.xf hr
  subst h1
  cases h2
  exact h _ _ _ _ hg
 ·cases hr
theorem uR:∀{l:List (Nat×amn)},nodupB (l.map (·.1))=true→∀p∈l,ji l p.1=some p.2
 | [],_,p,hp=>by cases hp
 |q::l,h,p,hp=>by
  simp only[ani,nodupB,amB,aos,ao1]at h
  obtain⟨h1,h2⟩:=h
  unfold ji
  rcases amH.1 hp with rfl|hp
  ·have hn:ji l p.1=none:=by
    have key:∀l:List (Nat×amn),(∀x∈l.map (·.1),¬amE p.1 x=true)→ji l p.1=none:=by
     intro l
     induction l with
     |nil=>intro _;rfl
     |cons q l ih=>
      intro hx
      unfold ji
      rw[ih fun x hm=>hx x (by simp at hm⊢;exact .inr hm)]
      have:=hx q.1 (by simp)
      cases hb:amE q.1 p.1 with
      |false=>rfl
      |true=>exact absurd (by rw[amI hb,anw]) this
    exact key l h1
   rw[hn,anw]
  ·rw[uR h2 p hp]
def z0(i:Nat)(el:amz)(d:aj):aj:=
 ⟨d.sl.map fun p=>bif amE p.1 i then(i,.slice (some ⟨d.objs.length,0,none⟩) 0 0)else p,d.objs++[.cells [] el false]⟩
theorem Holds.z1{P:amF}{X:uB}{d:aj}{a:Act}{w:amC}(i:Nat)(el:amz){s:Nat}(hz:bT P el=some s)(hi:ji d.sl i=some (.slice none 0 0))
 (hc:(nodupB (d.sl.map (·.1))&&d.sl.all (fun p=>amG p.1 X.n)&&amG d.objs.length 262144&&amO X.k d.objs.length)=true)(h:Holds P X d a w):Holds P X (z0 i el d) a w:=by
 obtain⟨ρ,u,M,hd⟩:=h
 simp only[amB]at hc
 obtain⟨⟨⟨c1,c2⟩,c3⟩,c4⟩:=hc
 have c3:=dI.1 c3
 have c4:=amS c4
 have xn:small d.objs.length=true:=gW.2 (by have:(2:Nat)^18=262144:=rfl;omega)
 have oX:cq d.objs d.objs.length=none:=by rw[cA xn];simp
 let r:bP:=⟨0,0,s,0⟩
 have hle:ρ.le (ρ.put d.objs.length r):=Ren.jH (hd.mem.fresh _ oX) r
 have hw:=hd.mem.wB oX (o:=.cells [] el false) (r:=r) rfl (fun m sz row e=>by cases e) (fun bR ro e k hk=>by
  cases e
  rw[hz]at hk
  cases hk
  rfl)
 have hm:cG (cq d.objs) d.objs.length (.cells [] el false)=cq (d.objs++[.cells [] el false]):=by
  funext x
  by_cases hx:x=d.objs.length
  ·subst hx
   rw[fg,cA xn]
   simp
  ·rw[dU _ hx]
   cases hs:small x with
   |false=>rw[iu hs,iu hs]
   |true=>
    rw[cA hs,cA hs]
    by_cases hl:x<d.objs.length
    ·rw[ane hl]
    ·rw[anH (by omega),anH (by simp;omega)]
 rw[hm]at hw
 have zy:((ee X.n u d.sl).dx (M.map eh)).n=X.n:=by show(fU X.n u d.sl).length=_;unfold fU;rw[lg];simp
 have cc:a.tmps.size=X.n:=by rw[hd.fr.size,zy]
 have hn:X.n≤1024:=by have:=hd.fr.small;omega
 have oZ:Full (ρ.put d.objs.length r):=fun q=>by
  obtain⟨y,h1,h2⟩:=hd.full q
  exact⟨y,h1,hle _ _ h2⟩
 obtain⟨u',hu⟩:∃u':Nat→amn,FR (ρ.put d.objs.length r) ((ee X.n u' (z0 i el d).sl).dx (M.map eh)) a:=by
  refine FR.make (b:=M.map eh) cc hn (hd.fr.qN rfl) (fun j=>⟨_,(hd.fr.at_ j).mono hle⟩) fun p hp=>?_
  simp only[z0,aoq]at hp
  obtain⟨p0,EL,rfl⟩:=hp
  have EM:p0.1<X.n:=dI.1 (am1.1 c2 p0 EL)
  have b9:=hd.fr.at_ p0.1
  rw[Fr.wW,uE hn EM (uR c1 p0 EL)]at b9
  cases hb:amE p0.1 i with
  |false=>exact⟨EM,b9.mono hle⟩
  |true=>
   have e:=amI hb
   subst e
   refine⟨EM,?_⟩
   have h2:=uR c1 p0 EL
   rw[hi]at h2
   have h3:p0.2=.slice none 0 0:=(apE h2).symm
   rw[h3]at b9
   show VR _ (.slice (some ⟨d.objs.length,0,none⟩) 0 0) (a.tmps.getD p0.1 undef)
   rw[VR.r7 rfl b9]
   exact .dV _ _
 exact⟨_,u',M,oZ,fun x hx=>by
  rw[←hd.kept x hx]
  show(if x=d.objs.length then some r else ρ x)=ρ x
  rw[if_neg (by omega)],hu,hw,by
  show Nat.le (d.objs++[ai.cells [] el false]).length 262144
  simp;omega,hd.quiet,hd.gp,hd.outside⟩
theorem al.z1{P:amF}{n k:Nat}{l:List am3}{d d':aj}{Q:bf→aj→Prop}(i:Nat)(el:amz){s:Nat}(hz:bT P el=some s)(hi:ji d.sl i=some (.slice none 0 0))
 (hc:(nodupB (d.sl.map (·.1))&&d.sl.all (fun p=>amG p.1 n)&&amG d.objs.length 262144&&amO k d.objs.length)=true)(hd:z0 i el d=d')(h:al P n k l d' Q):al P n k l d Q:=by
 intro X hn hk a w oT
 subst hd
 exact h X hn hk a w (oT.z1 i el hz hi (by rw[hn,hk];exact hc))
theorem WR.Lb{P:amF}{B:Nat→Prop}{w₀ w:amC}{ρ:Ren}{objs:List ai}(h:WR P B w₀ ρ (cq objs) w){el:amz}{s:Nat}(hz:bT P el=some s)(hl:objs.length<262144):
 ∃ρ1,ρ.le ρ1∧WR P B w₀ ρ1 (cq (objs++[.cells [] el false])) w∧(∀x,x≠objs.length→ρ1 x=ρ x)∧∃r,ρ1 objs.length=some r:=by
 have xn:small objs.length=true:=gW.2 (by have:(2:Nat)^18=262144:=rfl;omega)
 have oX:cq objs objs.length=none:=by rw[cA xn];simp
 have hw:=h.wB oX (o:=.cells [] el false) (r:=⟨0,0,s,0⟩) rfl (fun m sz row e=>by cases e) (fun bR ro e k hk=>by
  cases e
  rw[hz]at hk
  cases hk
  rfl)
 have hm:cG (cq objs) objs.length (.cells [] el false)=cq (objs++[.cells [] el false]):=by
  funext x
  by_cases hx:x=objs.length
  ·subst hx
   rw[fg,cA xn]
   simp
  ·rw[dU _ hx]
   cases hs:small x with
   |false=>rw[iu hs,iu hs]
   |true=>
    rw[cA hs,cA hs]
    by_cases hl:x<objs.length
    ·rw[ane hl]
    ·rw[anH (by omega),anH (by simp;omega)]
 rw[hm]at hw
 exact⟨_,Ren.jH (h.fresh _ oX) _,hw,fun x hx=>Ren.r9 ρ _ hx,_,Ren.ky ρ _ _⟩
def mD(i k:Nat)(el:amz)(d:aj):aj:=
 ⟨d.sl,(match d.objs[i]?with
  |some (.cells c e ro)=>d.objs.set i (.cells (c.set k (.slice (some ⟨d.objs.length,0,none⟩) 0 0)) e ro)
  |_=>d.objs)++[.cells [] el false]⟩
theorem al.mD{P:amF}{n k:Nat}{l:List am3}{d d':aj}{Q:bf→aj→Prop}(i kk:Nat)(el:amz){s:Nat}{c:List amn}{e:amz}(hz:bT P el=some s)(hi:d.objs[i]?=some (.cells c e false))(hc:c[kk]?=some (.slice none 0 0))
 (hb:(amG d.objs.length 262144&&amO k d.objs.length)=true)(hd:Go.Proofs.Ytnlkkgpcikkpoaa.Vm.mD i kk el d=d')(h:al P n k l d' Q):al P n k l d Q:=by
 intro X hn hk a w oT
 subst hd
 refine h X hn hk a w ?_
 obtain⟨ρ,u,M,hd⟩:=oT
 simp only[amB]at hb
 have c3:=dI.1 hb.1
 have c4:=amS hb.2
 obtain⟨ρ1,g1,g2,g3,r0,g4⟩:=hd.mem.Lb hz c3
 have pP:i<d.objs.length:=(amy.1 hi).1
 have xh:small i=true:=gW.2 (by have:(2:Nat)^18=262144:=rfl;omega)
 have ec:∀x,x≤d.objs.length→small x=true:=fun x hx=>gW.2 (by have:(2:Nat)^18=262144:=rfl;omega)
 have gP:Full ρ1:=fun q=>by
  obtain⟨y,a,b⟩:=hd.full q
  exact⟨y,a,g1 _ _ b⟩
 have EN:(Go.Proofs.Ytnlkkgpcikkpoaa.Vm.mD i kk el d).objs=d.objs.set i (.cells (c.set kk (.slice (some ⟨d.objs.length,0,none⟩) 0 0)) e false)++[.cells [] el false]:=by
  unfold Go.Proofs.Ytnlkkgpcikkpoaa.Vm.mD
  rw[hi]
 have bt:c≠[]:=by rintro rfl;simp at hc
 have gI:∀x o,cq (Go.Proofs.Ytnlkkgpcikkpoaa.Vm.mD i kk el d).objs x=some o→(x≠i∧cq (d.objs++[.cells [] el false]) x=some o)∨(x=i∧o=.cells (c.set kk (.slice (some ⟨d.objs.length,0,none⟩) 0 0)) e false):=fun x o hx=>by
  rw[EN]at hx
  cases hs:small x with
  |false=>
   refine .inl ⟨(fun e=>by subst e;rw[xh]at hs;cases hs),?_⟩
   rw[iu hs]at hx⊢
   exact hx
  |true=>
   rw[cA hs]at hx
   by_cases e0:x=i
   ·subst e0
    rw[ane (by simpa using pP),aoP pP]at hx
    exact .inr ⟨rfl,(apE hx).symm⟩
   ·refine .inl ⟨e0,?_⟩
    rw[cA hs]
    by_cases jK:x<d.objs.length
    ·rw[ane (by simpa using jK),ao3 (Ne.symm e0)]at hx
     rw[ane jK]
     exact hx
    ·rw[am5 (by simp;omega)]at hx
     rw[am5 (by omega)]
     simpa using hx
 have uw:cq (d.objs++[.cells [] el false]) i=some (.cells c e false):=by
  rw[cA xh,ane pP];exact hi
 have EP:∀r,Live (.cells c e false) r=true:=fun r=>nD bt
 have cC:WR P X.B X.w₀ ρ1 (cq (Go.Proofs.Ytnlkkgpcikkpoaa.Vm.mD i kk el d).objs) w:=
  {below:=g2.below,env:=g2.env,size:=g2.size
   live:=by
    intro x o r hx hr hl
    rcases gI x o hx with⟨_,h2⟩|⟨rfl,rfl⟩
    ·exact g2.live x o r h2 hr hl
    ·obtain⟨o',q1,q2,q3⟩:=g2.live x _ r uw hr (EP r)
     refine⟨o',q1,?_,fun _=>q3 rfl⟩
     cases q2 with
     |cells _ _ bR _ c' fr hp hs he y3 hf iU=>
      refine .cells _ e bR false c' fr hp (by rw[anU];exact hs) he y3 hf fun j v hv=>?_
      by_cases ej:j=kk
      ·subst ej
       have VJ:j<c.length:=(amy.1 hc).1
       rw[aoP VJ]at hv
       cases hv
       obtain⟨v',q4,q5⟩:=iU j _ hc
       have:=VR.r7 rfl q5
       subst this
       exact⟨_,q4,.dV _ _⟩
      ·rw[ao3 (Ne.symm ej)]at hv
       exact iU j v hv
   inj:=by
    intro x y ox oy rx ry hx hy ke cm kg cT sU he
    have key:∀x o r,cq (Go.Proofs.Ytnlkkgpcikkpoaa.Vm.mD i kk el d).objs x=some o→Live o r=true→∃ob,cq (d.objs++[.cells [] el false]) x=some ob∧Live ob r=true∧ob.ro=o.ro:=fun x o r hx hl=>by
     rcases gI x o hx with⟨_,h2⟩|⟨rfl,rfl⟩
     ·exact⟨o,h2,hl,rfl⟩
     ·exact⟨_,uw,EP r,rfl⟩
    obtain⟨a,a1,a2,a3⟩:=key x ox rx hx kg
    obtain⟨b,b1,b2,b3⟩:=key y oy ry hy cT
    exact g2.inj x y a b rx ry a1 b1 ke cm a2 b2 (sU.imp (fun h=>a3▸h) (fun h=>b3▸h)) he
   fresh:=by
    intro x hx
    refine g2.fresh x ?_
    rw[EN]at hx
    cases hs:small x with
    |false=>rw[iu hs]at hx;cases hx
    |true=>
     rw[cA hs,aob]at hx
     rw[cA hs,aob]
     simp at hx⊢
     omega
   rows:=by
    intro x m size row hx
    rcases gI x _ hx with⟨_,h2⟩|⟨rfl,h2⟩
    ·exact g2.rows x m size row h2
    ·cases h2
   nil:=by
    intro x bR ro r hx hr
    rcases gI x _ hx with⟨_,h2⟩|⟨rfl,h2⟩
    ·exact g2.nil x bR ro r h2 hr
    ·exfalso
     simp only[ai.cells.injEq]at h2
     have:=congrArg mM h2.1
     rw[anU]at this
     exact bt (ant this.symm)
   named:=by
    intro x o hx VK
    rcases gI x o hx with⟨_,h2⟩|⟨rfl,_⟩
    ·exact g2.named x o h2 VK
    ·exact g2.named x _ uw (by intro e;cases e)
   abs:=by
    refine g2.abs.next (fun x d hx=>?_) (fun k _ a b=>⟨rfl,a,fun y o r hy hr hl=>?_⟩) (amX _)
    ·rcases gI x _ hx with⟨_,h2⟩|⟨rfl,h2⟩
     ·exact⟨h2,rfl⟩
     ·cases h2
    ·rcases gI y o hy with⟨_,h2⟩|⟨rfl,rfl⟩
     ·exact b y o r h2 hr hl
     ·exact b _ _ r uw hr (EP r)}
 refine⟨ρ1,u,M,gP,fun x hx=>?_,hd.fr.mono g1,cC,?_,hd.quiet,hd.gp,hd.outside⟩
 ·rw[←hd.kept x hx,g3 x (by omega)]
 ·rw[EN];simp;omega
def Lc(P:amF)(g:Nat→Option ai):Nat→List Nat→List Nat
 |0,l=>l
 |d+1,l=>Lc P g d (xm (l++(l.map fun x=>match g x with
  |some (.cells c el _)=>match KU P el with
   |true=>[]
   |false=>(c.map (re 6)).flatten
  |_=>[]).flatten) [])
def lh(P:amF)(args:List amn)(g:Nat→Option ai):Option (List Nat):=some (Lc P g 6 (xm ((args.map (re 6)).flatten) []))
def Sum.du(P:amF)(g:List amn→List ai→Option (Bool×bL×List ai)):Sum:=⟨lh P,(Sum.of g).spec⟩
theorem bp.du{P:amF}{f:amY}{g:List amn→List ai→Option (Bool×bL×List ai)}(h:∀a o r o',g a o=some (true,r,o')→aG P f a o fun r' EK=>r'=r∧EK=o'):bp P f (Sum.du P g):=
 fun a o r o' hs=>bp.of h a o r o' hs
structure EQ where
 x:Nat
 d1:Nat
 d2:Nat
 ty:amz
def ER:List am3→Option EQ
 | .region _ ops false::_=>match ops.toList with
  | [o1,o2]=>match o1.op,o1.dst,o1.guard,o2.op,o2.dst,o2.guard with
   | .move (.tmp x),some d1,none,.binOp .eql ty (.tmp y) (.const (.slice none 0 0)) _,some d2,none=>match amE y d1&& !Nat.beq d1 d2 with
    |true=>some ⟨x,d1,d2,ty⟩
    |false=>none
   |_,_,_,_,_,_=>none
  |_=>none
 |_=>none
theorem VL{l:List am3}{N:EQ}(h:ER l=some N):∃id o1 o2 rest yt,l=.region id #[o1,o2] false::rest∧o1.op=.move (.tmp N.x)∧o1.dst=some N.d1∧o1.guard=none∧
 o2.op=.binOp .eql N.ty (.tmp N.d1) (.const (.slice none 0 0)) yt∧o2.dst=some N.d2∧o2.guard=none∧N.d1≠N.d2:=by
 unfold ER at h
 split at h
 ·rename_i id ops rest
  split at h
  ·rename_i o1 o2 lL
   split at h
   ·rename_i x d1 ty y yt d2 h1 h2 h3 h4 h5 h6
    split at h
    ·rename_i hb
     cases h
     simp only[amB,aos]at hb
     have hy:=amI hb.1
     subst hy
     refine⟨id,o1,o2,rest,yt,?_,h1,h2,h3,h4,h5,h6,fun e=>?_⟩
     ·rw[show ops= #[o1,o2]by rw[←Array.toArray_toList (xs:=ops),lL]]
     ·dsimp only at e;rw[e,anw]at hb;cases hb.2
    ·cases h
   ·cases h
  ·cases h
 ·cases h
theorem VR.Ld{ρ:Ren}{a:Addr}{v:amn}(h:VR ρ (.slice (some a) 0 0) v):∃a' c',v=.slice a' 0 c':=by
 cases h with
 |bH _ h=>cases h
 |sl b off _ _ bq r h hc=>exact⟨_,_,rfl⟩
 |dV _ a'=>exact⟨_,_,rfl⟩
 |mj=>exact⟨_,_,rfl⟩
theorem VM{P:amF}{ty el:amz}(ht:P.underlying ty=some (.slice el))(a':Option Addr)(c':Nat)(x y:Operand)(w:amC):
 ∃b,((do eqGuard .eql ty x y (.slice a' 0 c') (.slice none 0 0);binOp .eql ty (.slice a' 0 c') (.slice none 0 0)):Sem amn).run P w=.ok (.bool b) w:=by
 cases a' with
 |none=>exact⟨true,by
  show(aoN P (do let r ←ao8 ty (.slice none 0 c') (.slice none 0 0);(pure (anz r):Sem amn)) w)=_
  obtain⟨dd,sU⟩:∃dd,asi=dd+1:=⟨_,rfl⟩
  unfold ao8
  rw[sU]
  unfold apg
  simp only[amp,Vm.run_underlying ht,amo]
  rfl⟩
 |some a=>exact⟨false,by
  show(aoN P (do let r ←ao8 ty (.slice (some a) 0 c') (.slice none 0 0);(pure (anz r):Sem amn)) w)=_
  obtain⟨dd,sU⟩:∃dd,asi=dd+1:=⟨_,rfl⟩
  unfold ao8
  rw[sU]
  unfold apg
  simp only[amp,Vm.run_underlying ht,amo]
  rfl⟩
theorem al.Le{P:amF}{n k:Nat}{l:List am3}{d:aj}{Q:bf→aj→Prop}(N:EQ)(el:amz)(a:Addr)(hl:ER l=some N)(ht:P.underlying N.ty=some (.slice el))
 (hx:ji d.sl N.x=some (.slice (some a) 0 0))(hc:(nodupB (d.sl.map (·.1))&&d.sl.all (fun p=>amG p.1 n&&(!Nat.beq p.1 N.d1&& !Nat.beq p.1 N.d2))&&(amG N.d1 n&&amG N.d2 n))=true)
 (h:∀b,al P n k l.tail ⟨d.sl++[(N.d2,.bool b)],d.objs⟩ Q):al P n k l d Q:=by
 obtain⟨id,o1,o2,rest,yt,rfl,h1,h2,h3,h4,h5,h6,h7⟩:=VL hl
 simp only[amB]at hc
 obtain⟨⟨c1,c2⟩,c3,c4⟩:=hc
 intro X hn hk ac w hd
 subst hn hk
 obtain⟨ρ,u,M,hd⟩:=hd
 have cc:ac.tmps.size=X.n:=by have:=hd.fr.size;rw[this];show(fU X.n u d.sl).length=_;unfold fU;simp[lg]
 have ec:X.n≤1024:=by have h0:(fU X.n u d.sl).length≤1024:=hd.fr.small;unfold fU at h0;simpa[lg]using h0
 have b9:∀p∈d.sl,VR ρ p.2 (ac.tmps.getD p.1 undef):=fun p hp=>by
  have h8:=hd.fr.at_ p.1
  have:=am1.1 c2 p hp
  simp only[amB]at this
  rwa[Fr.wW,uE ec (dI.1 this.1) (uR c1 p hp)]at h8
 have VN:∃p∈d.sl,p.1=N.x∧p.2=.slice (some a) 0 0:=by
  have key:∀(l:List (Nat×amn)) (v:amn),ji l N.x=some v→∃p∈l,p.1=N.x∧p.2=v:=by
   intro l
   induction l with
   |nil=>intro v h;cases h
   |cons p l ih=>
    intro v h
    unfold ji at h
    split at h
    ·rename_i v' hv
     cases h
     obtain⟨q,h1,h2⟩:=ih _ hv
     exact⟨q,amK _ h1,h2⟩
    ·split at h
     ·rename_i hb;cases h;exact⟨p,amN,amI hb,rfl⟩
     ·cases h
  exact key _ _ hx
 obtain⟨p,hp,xo,VO⟩:=VN
 have hv:=b9 p hp
 rw[xo,VO]at hv
 obtain⟨a',c',fG⟩:=hv.Ld
 rw[fG]at hv
 refine wp_region ?_
 show wpOps P #[o1,o2] _ [0,1] ac w
 have w1:∀t,anZ o1 t=true:=fun t=>by unfold anZ;rw[h3]
 have w2:∀t,anZ o2 t=true:=fun t=>by unfold anZ;rw[h6]
 unfold wpOps
 simp only[aq6,anb,w1,if_true]
 left
 unfold Oper.wp
 have e1:(execOp ac.eval o1).run P w=.ok (.value (.slice a' 0 c')) w:=by
  unfold execOp
  rw[h1]
  show aoN P (pure (Next.value (ac.eval (.tmp N.x))):Sem Next) w=_
  rw[show ac.eval (.tmp N.x)=.slice a' 0 c' from fG]
  rfl
 rw[e1]
 show wpOps P #[o1,o2] _ [1] (ac.put o1.dst (.slice a' 0 c')) w
 unfold wpOps
 simp only[aq6,List.getElem?_cons_succ,anb,w2,if_true]
 left
 unfold Oper.wp
 rw[h2]
 obtain⟨b,hb⟩:=VM ht a' c' (.tmp N.d1) (.const (.slice none 0 0)) w
 have kK:N.d1<ac.tmps.size:=by rw[cc];exact dI.1 c3
 have e2:(execOp (ac.put (some N.d1) (.slice a' 0 c')).eval o2).run P w=.ok (.value (.bool b)) w:=by
  unfold execOp
  rw[h4]
  have VP:(ac.put (some N.d1) (.slice a' 0 c')).eval (.tmp N.d1)=.slice a' 0 c':=by
   show(ac.tmps.setIfInBounds N.d1 (.slice a' 0 c')).getD N.d1 undef=_
   simp only[am4,an0,kK,if_true,aoc]
  have VQ:(ac.put (some N.d1) (.slice a' 0 c')).eval (.const (.slice none 0 0))=.slice none 0 0:=rfl
  simp only[VP,VQ]
  rw[amp,hb]
  rfl
 rw[e2]
 have key:Holds P X ⟨d.sl++[(N.d2,.bool b)],d.objs⟩ ((ac.put (some N.d1) (.slice a' 0 c')).put o2.dst (.bool b)) w:=?_
 ·exact h b X rfl rfl _ w key
 rw[h5]
 have cn:∃u',FR ρ ((ee X.n u' (d.sl++[(N.d2,.bool b)])).dx (M.map eh)) ((ac.put (some N.d1) (.slice a' 0 c')).put (some N.d2) (.bool b)):=by
  have VT:Vm.put ((ee X.n u d.sl).dx (M.map eh)) (some N.d1) (.slice (some a) 0 0)=some {((ee X.n u d.sl).dx (M.map eh))with t:=(ee X.n u d.sl).t.set 10 N.d1 (.slice (some a) 0 0)}:=by
   simp only[Vm.put,Fr.qy]
   have:amG N.d1 ((ee X.n u d.sl).dx (M.map eh)).n=true:=by
    have:((ee X.n u d.sl).dx (M.map eh)).n=X.n:=by show(fU X.n u d.sl).length=_;unfold fU;simp[lg]
    rw[this];exact c3
   rw[this]
   rfl
  have f1:=hd.fr.put hv VT
  have VU:Vm.put {((ee X.n u d.sl).dx (M.map eh))with t:=(ee X.n u d.sl).t.set 10 N.d1 (.slice (some a) 0 0)} (some N.d2) (.bool b)=some {((ee X.n u d.sl).dx (M.map eh))with t:=((ee X.n u d.sl).t.set 10 N.d1 (.slice (some a) 0 0)).set 10 N.d2 (.bool b)}:=by
   simp only[Vm.put,Fr.qy]
   have:amG N.d2 ((ee X.n u d.sl).dx (M.map eh)).n=true:=by
    have:((ee X.n u d.sl).dx (M.map eh)).n=X.n:=by show(fU X.n u d.sl).length=_;unfold fU;simp[lg]
    rw[this];exact c4
   simp only[this]
  have f2:=f1.put (VR.bH (.bool b) rfl) VU
  refine FR.make (b:=M.map eh) (by rw[f2.size];show(fU X.n u d.sl).length=_;unfold fU;simp[lg]) ec (f2.qN rfl) (fun i=>⟨_,f2.at_ i⟩) fun q hq=>?_
  rcases amU.1 hq with hq|hq
  ·have il:=am1.1 c2 q hq
   simp only[amB,aos]at il
   obtain⟨q1,q2,q3⟩:=il
   refine⟨dI.1 q1,?_⟩
   have n1:q.1≠N.d1:=fun e=>by rw[e,anw]at q2;cases q2
   have n2:q.1≠N.d2:=fun e=>by rw[e,anw]at q3;cases q3
   have:((ac.put (some N.d1) (.slice a' 0 c')).put (some N.d2) (.bool b)).tmps.getD q.1 undef=ac.tmps.getD q.1 undef:=by
    show((ac.tmps.setIfInBounds N.d1 _).setIfInBounds N.d2 _).getD q.1 undef=_
    rw[am4,anY (Ne.symm n2),anY (Ne.symm n1),←am4]
   rw[this]
   exact b9 q hq
  ·simp only[ank]at hq
   subst hq
   refine⟨dI.1 c4,?_⟩
   have:((ac.put (some N.d1) (.slice a' 0 c')).put (some N.d2) (.bool b)).tmps.getD N.d2 undef=.bool b:=by
    show((ac.tmps.setIfInBounds N.d1 _).setIfInBounds N.d2 _).getD N.d2 undef=_
    have li:N.d2<(ac.tmps.setIfInBounds N.d1 (.slice a' 0 c')).size:=by rw[aoI,cc];exact dI.1 c4
    simp only[am4,an0,li,if_true,aoc]
   rw[this]
   exact .bH _ rfl
 obtain⟨u',qM⟩:=cn
 exact⟨ρ,u',M,hd.full,hd.kept,qM,hd.mem,hd.bS,hd.quiet,hd.gp,hd.outside⟩
structure ale where
 args:List amn
 objs:List ai
 r:bL
 out:List ai
def lj(P:amF)(r:Option Nat):List am3→(aoF→Act→amC→Prop)→Act→amC→Prop
 | [],Q,a,w=>Q .normal a w
 |c::l,Q,a,w=>c.wpIn (FF r) 0 P (Exit.then (lj P r l Q) Q) a w
theorem Lf{P:amF}{r:Option Nat}:∀{l:List am3} {Q Q':aoF→Act→amC→Prop} {a:Act} {w:amC},lj P r l Q a w→(∀e a w,Q e a w→Q' e a w)→lj P r l Q' a w
 | [],Q,Q',a,w,h,hq=>hq _ _ _ h
 |c::l,Q,Q',a,w,h,hq=>aqB h fun e a w he=>by
  cases e with
  |normal=>exact Lf he hq
  |_=>exact hq _ _ _ he
theorem Lg{P:amF}{r:Option Nat}:∀{l l':List am3} {Q:aoF→Act→amC→Prop} {a:Act} {w:amC},lj P r l (Exit.then (lj P r l' Q) Q) a w→lj P r (l++l') Q a w
 | [],l',Q,a,w,h=>h
 |c::l,l',Q,a,w,h=>aqB h fun e a w he=>by
  cases e with
  |normal=>exact Lg he
  |_=>exact he
theorem Lh{P:amF}{r:Option Nat}:∀{c:am3} {Q:aoF→Act→amC→Prop} {a:Act} {w:amC},lj P r (ba c) Q a w→c.wpIn (FF r) 0 P Q a w:=by
 intro c
 induction c with
 |seq a b ir kC=>
  intro Q t w h
  have h:lj P r (ba a++ba b) Q t w:=h
  refine wpIn_seq (ir ?_)
  -- take apart what stands one behind the other
  have key:∀(l l':List am3) (Q:aoF→Act→amC→Prop) (t:Act) (w:amC),lj P r (l++l') Q t w→lj P r l (Exit.then (lj P r l' Q) Q) t w:=by
   intro l
   induction l with
   |nil=>intro l' Q t w h;exact h
   |cons c l ih=>
    intro l' Q t w h
    refine aqB (show c.wpIn (FF r) 0 P (Exit.then (lj P r (l++l') Q) Q) t w from h) fun e t w he=>?_
    cases e with
    |normal=>exact ih l' Q t w he
    |_=>exact he
  refine Lf (key _ _ _ _ _ h) fun e t w he=>?_
  cases e with
  |normal=>exact kC he
  |_=>exact he
 |_=>
  intro Q t w h
  refine aqB (show Code.wpIn (FF r) 0 P _ (Exit.then (lj P r [] Q) Q) t w from h) fun e t w he=>?_
  cases e<;>exact he
theorem Li{P:amF}{r:Option Nat}(hP:hI P=true)(fh:P.follows .mixedOrders=true){call:cx}(hc:gJ P call)(lf:Nat):∀{l:List am3} {t t1:Fr} {S S1:VS} {x:bf},kG P call lf l t S=some (x,t1,S1)→
 ∀{B:Nat→Prop} {w₀:amC} {ρ:Ren} {m:Nat→Option ai} {w:amC} {a:Act},FR ρ t a→WR P B w₀ ρ m w→fv S S1 m→
 ∀{Q:aoF→Act→amC→Prop},(∀(ρ':Ren) (e:aoF) (a':Act) (w':amC),ρ.le ρ'→XR ρ' x e→FR ρ' t1 a'→WR P B w₀ ρ' (post m S1) w'→Q e a' w')→lj P r l Q a w
 | [],t,t1,S,S1,x,h,B,w₀,ρ,m,w,a,ht,hw,hm,Q,hQ=>by
  simp only[kG,amr,amv]at h
  obtain⟨rfl,rfl,rfl⟩:=h
  exact hQ ρ _ a w (Ren.le_refl ρ) .normal ht (by rw[nO hm];exact hw)
 |c::l,t,t1,S,S1,x,h,B,w₀,ρ,m,w,a,ht,hw,hm,Q,hQ=>by
  unfold kG at h
  split at h
  ·rename_i t2 S2 hx
   have e2:=xc hc lf h
   refine(sG hP fh hc lf (r:=r) (fun h=>by cases h) c hx ht hw (hm.first e2) fun ρ' e a' w' hle dq cn cC=>?_)
   cases dq
   refine Li hP fh hc lf h cn cC (hm.next (m9 hc lf hx)) fun ρ2 pY a2 w2 jN ju k9 gL=>?_
   rw[nN e2]at gL
   exact hQ ρ2 pY a2 w2 (Ren.le_trans hle jN) ju k9 gL
  ·rename_i bt
   refine(sG hP fh hc lf (r:=r) (fun h=>by cases h) c h ht hw hm fun ρ' e a' w' hle dq cn cC=>?_)
   cases dq with
   |normal=>exact absurd h (bt _ _)
   |_=>exact hQ ρ' _ a' w' hle (by constructor<;>assumption) cn cC
def jx(P:amF)(n k:Nat)(l:List am3)(d:aj)(Q:bf→aj→Prop):Prop:=
 ∀(X:uB),X.n=n→X.k=k→∀(r:Option Nat) (a:Act) (w:amC),Holds P X d a w→lj P r l (fun e a' w'=>∃x d',Q x d'∧XR (fun _=>none) x e∧Holds P X d' a' w') a w
theorem jx.nil{P:amF}{n k:Nat}{d:aj}{Q:bf→aj→Prop}(h:Q .normal d):jx P n k [] d Q:=fun X hn hk r a w hd=>⟨.normal,d,h,.normal,hd⟩
theorem jx.tree{P:amF}(hP:hI P=true)(fh:P.follows .mixedOrders=true){cO:fo}(hc:dg P cO){lf n k m:Nat}{l:List am3}{d:aj}{s:ST}{T:Tree}
 (h:∀u,(sO P cO lf (l.take m) (ee n u d.sl) (kE d.objs)).sym (uO n k) s=some T){Q:bf→aj→Prop}
 (hT:T.ok (fun x d'=>match x with
  | .normal=>jx P n k (l.drop m) d' Q
  |x=>Q x d')):jx P n k l d Q:=by
 intro X hn hk r a w hd
 have oT:=hd
 obtain⟨ρ,u,M,hd⟩:=hd
 obtain⟨p,sl,bs,pl,T',h1,h2,h3⟩:=DT.K9 (h u) hT
 obtain⟨x,t1,S1⟩:=p
 dsimp only[uO]at h2
 cases mA:o5 bs S1 with
 |none=>rw[mA]at h2;cases h2
 |some bl=>
  rw[mA]at h2
  dsimp only at h2
  split at h2
  ·rename_i dl objs q hs hr
   split at h2
   ·rename_i ef
    cases h2
    obtain⟨hq,qf⟩:=EF h3
    have kH:=EG mA
    have eO:=ng hr hq
    simp only[amB]at ef
    obtain⟨⟨⟨⟨⟨⟨c1,c2⟩,c3⟩,c4⟩,c5⟩,c6⟩,c7,c8⟩:=ef
    have hlen:objs.length=bs.length:=by rw[←eO.len,←kH];simp
    subst hn hk
    obtain⟨cV,xk,EH⟩:=hc.ex
    have hv:=Ei EH lf h1
    have he:=xc xk lf hv
    have ec:=he.sm (fun x hx=>by rcases hx with hx|hx<;>cases hx)
    have mq:fv (kE d.objs) S1 (cq d.objs):=fun x hx=>by rw[cA (ec x hx),w8 hd.bS]
    rw[←anF m l]
    have nV:=KP hd.quiet
    refine Lg (Li hP fh xk lf (Ej (M.map eh) hv) hd.fr (hd.mem.zp nV) mq fun ρ' e a' w' hle dq cn xl=>?_)
    have cC:=xl.zq hd.mem.env hd.mem.below hd.mem.size nV
    have hh:Holds P X ⟨dl,objs⟩ a' w':=Holds.KM (bl:=bl) (t:=t1.dx (M.map eh)) (M:=M) hd.full hle hd.kept cn (amI c6) (aoM.1 c7) rfl (fun D hD=>(xl.zr hD).trans (hd.quiet D hD)) hd.gp hd.outside cC rfl (fun p hp=>by
     have hg:=Ek mA p hp
     unfold post
     by_cases hx:p.1∈S1.wr
     ·rw[if_pos hx,hg]
     ·rw[if_neg hx,cA (oL hg),←w8 hd.bS,←he.frame p.1 hx,hg]) (by rw[kH];exact c1) (by rw[kH];exact c2) (by rw[kH];exact hs) (by rw[kH];exact eO) c3 (am2 (by rw[hlen];exact amS c4))
    cases x with
    |normal=>cases dq;exact qf X rfl rfl r a' w' hh
    |exit id=>cases dq;exact⟨.exit id,_,qf,.exit id,hh⟩
    |ret=>cases dq;exact⟨.ret,_,qf,.ret,hh⟩
    |panic v=>
     cases dq with
     |panic _ v' hv=>
      have:=ml c5 hv
      subst this
      exact⟨.panic v',_,qf,.panic _ _ (mX c5),hh⟩
   ·cases h2
  ·cases h2
theorem jx.done{P:amF}{n k:Nat}{l:List am3}{d:aj}{Q:bf→aj→Prop}(hl:l.isEmpty=true)(h:Q .normal d):jx P n k l d Q:=by
 cases l with
 |nil=>exact jx.nil h
 |cons c l=>cases hl
def St(P:amF)(B:Nat→Prop)(w₀:amC)(ρ:Ren)(K:Nat)(O:List ai)(W:amC):Prop:=∃ρ':Ren,Full ρ'∧(∀x,x<K→ρ' x=ρ x)∧WR P B w₀ ρ' (cq O) W
def Lj:List am3→Option (Nat×List Nat)
 | .rangeFunc (.tmp g) ps _ _::_=>some (g,ps.toList)
 |_=>none
def Lk:List am3→am3
 | .rangeFunc _ _ a _::_=>a
 |_=>.skip
def ES:List am3→am3
 | .rangeFunc _ _ _ b::_=>b
 |_=>.skip
def ET(K:Nat)(x:Nat):Option Nat:=match amG x K with
 |true=>some x
 |false=>none
def VV:ai→Bool
 | .dead=>false
 |_=>true
theorem Ll:∀(l:List (Nat×amn)) (t:Array amn),(l.foldl (fun t p=>t.setIfInBounds p.1 p.2) t).size=t.size
 | [],t=>rfl
 |p::l,t=>by rw[aom,Ll l,aoI]
theorem EU{i:Nat}:∀(l:List (Nat×amn)) (t:Array amn),(∀p∈l,p.1≠i)→(l.foldl (fun t p=>t.setIfInBounds p.1 p.2) t).getD i undef=t.getD i undef
 | [],t,_=>rfl
 |p::l,t,h=>by
  rw[aom,EU l _ fun q hq=>h q (amK _ hq)]
  rw[am4,anY (h p amN),←am4]
theorem Lm{ρ:Ren}:∀(l:List (Nat×amn)) (t:Array amn),(∀p∈l,∃u,VR ρ u p.2)→(∀i,∃u,VR ρ u (t.getD i undef))→∀i,∃u,VR ρ u ((l.foldl (fun t p=>t.setIfInBounds p.1 p.2) t).getD i undef)
 | [],t,_,h,i=>h i
 |p::l,t,hl,h,i=>by
  rw[aom]
  refine Lm l _ (fun q hq=>hl q (amK _ hq)) (fun j=>?_) i
  rw[am4]
  by_cases e:p.1=j
  ·subst e
   by_cases hj:p.1<t.size
   ·rw[an0,if_pos hj];exact hl p amN
   ·rw[Array.getElem?_eq_none (by rw[aoI];omega)];exact⟨_,VR.undef ρ⟩
  ·rw[anY e,←am4];exact h j
theorem Ln:∀(ps:List Nat) (xs:List amn) (t:Array amn),nodupB ps=true→ps.length=xs.length→∀(j i:Nat) (v:amn),ps[j]?=some i→xs[j]?=some v→i<t.size→((ps.zip xs).foldl (fun t p=>t.setIfInBounds p.1 p.2) t).getD i undef=v
 | [],_,t,_,_,j,i,v,h,_,_=>by simp at h
 |p::ps,[],t,_,hl,j,i,v,_,_,_=>by simp at hl
 |p::ps,x::xs,t,hn,hl,j,i,v,hi,hv,hs=>by
  rw[List.zip_cons_cons,aom]
  simp only[nodupB,amB,aos,ao1]at hn
  cases j with
  |zero=>
   simp only[anb,amr]at hi hv
   subst hi hv
   rw[EU _ _ fun q hq e=>?_]
   ·rw[am4,an0,if_pos hs];rfl
   ·have:=hn.1 q.1 (List.of_mem_zip hq).1
    rw[e,anw]at this
    exact this rfl
  |succ j=>exact Ln ps xs _ hn.2 (by simpa using hl) j i v (by simpa using hi) (by simpa using hv) (by rw[aoI];exact hs)
theorem Lo{P:amF}{r:Option Nat}{n m:Nat}{c:am3}{Q:aoF→Act→amC→Prop}{a:Act}{w:amC}(h:c.wpIn (FF r) n P Q a w):c.wpIn (FF r) m P Q a w:=
 fun b k cs h1 h2 _=>h b k cs h1 h2 fun d hd=>by cases hd
theorem WR.EV{P:amF}{B:Nat→Prop}{w₀ w w':amC}{ρ:Ren}{g:Nat→Option ai}(h:WR P B w₀ ρ g w)(hb:w.grownBy w' none):WR P B w₀ ρ g w' where
 env:=h.env
 below:=h.below.trans ⟨hb.os,hb.tape,hb.output,hb.size,fun k hk=>hb.block k (h.size k hk) (by intro e;cases e)⟩
 size:=fun k hk=>aoS (h.size k hk) hb.size
 live:=fun x o r hx hr hl=>by
  obtain⟨o',h1,h2⟩:=h.live x o r hx hr hl
  exact⟨o',(hb.block _ (anq.1 h1).1 (by intro e;cases e)).trans h1,h2⟩
 inj:=h.inj
 fresh:=h.fresh
 rows:=h.rows
 nil:=h.nil
 named:=h.named
 abs:=h.abs.next (fun x d hx=>⟨hx,rfl⟩) (fun k k1 a b=>⟨hb.block k k1 (by intro e;cases e),a,b⟩) hb.size
theorem uS{w w':amC}(h:w.grownBy w' none){D:Nat}{o:Obj}(hD:w.heap[D]?=some o):w'.heap[D]?=some o:=
 (h.block D (anq.1 hD).1 (by intro e;cases e)).trans hD
noncomputable abbrev an(b:Nat):amn:=.pointer (some ⟨b,0,none⟩)
noncomputable abbrev aa(x:Int):amn:=.int .i64 x
noncomputable abbrev di(b o n c:Nat):amn:=.slice (some ⟨b,o,none⟩) n c
noncomputable abbrev ah(b n:Nat):amn:=.slice (some ⟨b,0,none⟩) n n
noncomputable abbrev cd:amn:=.slice none 0 0
noncomputable abbrev ab(c:List amn)(t:amz):ai:=.cells c t false
abbrev aV:=bf→aj→Prop
noncomputable abbrev bk:=bL→List ai→Prop
def av:List Nat→ST→ST
 | [],s=>s
 |k::l,s=>.cD (k/2) (amE (k%2) 1) (av l s)
structure Lp(P:amF)(w:amC)(ρ:Ren)(g:Nat→Option ai)(x:Nat)(r:bP)(L:List (Nat×CO))(Z:Nat→Option (bP×ai)):Prop where
 root:∃o,Z x=some (r,o)
 new:∀y p,y≠x→Z y=some p→g y=none
 own:∀y q o,Z y=some (q,o)→o.ro=false∧(∀d,o≠ .abs d)
 nil:∀y q el ro,Z y=some (q,.cells [] el ro)→∀n,bT P el=some n→q.sz=n
 live:∀y q o,Z y=some (q,o)→Live o q=true→q.aJ∈L.map (·.1)∧∃o',w.heap[q.aJ]?=some o'∧OR P (fun y=>match Z y with|some p=>some p.1|none=>ρ y) q o o'
 inj:∀y z q s o u,Z y=some (q,o)→Z z=some (s,u)→Live o q=true→Live u s=true→q.aJ=s.aJ→y=z
def dY(ρ:Ren)(Z:Nat→Option (bP×ai)):Ren:=fun y=>match Z y with|some p=>some p.1|none=>ρ y
def rf(g:Nat→Option ai)(Z:Nat→Option (bP×ai)):Nat→Option ai:=fun y=>match Z y with|some p=>some p.2|none=>g y
def xp(B:Nat→Prop)(L:List (Nat×CO))(Z:Nat→Option (bP×ai)):Nat→Prop:=fun k=>B k∨k∈L.map (·.1)∧∀y q o,Z y=some (q,o)→Live o q=true→q.aJ≠k
theorem nX{ρ:Ren}{Z:Nat→Option (bP×ai)}{y:Nat}{p:bP×ai}(h:Z y=some p):dY ρ Z y=some p.1:=by unfold dY;rw[h]
theorem mG{ρ:Ren}{Z:Nat→Option (bP×ai)}{y:Nat}(h:Z y=none):dY ρ Z y=ρ y:=by unfold dY;rw[h]
theorem pc{g:Nat→Option ai}{Z:Nat→Option (bP×ai)}{y:Nat}{p:bP×ai}(h:Z y=some p):rf g Z y=some p.2:=by unfold rf;rw[h]
theorem nY{g:Nat→Option ai}{Z:Nat→Option (bP×ai)}{y:Nat}(h:Z y=none):rf g Z y=g y:=by unfold rf;rw[h]
theorem WR.uT{P:amF}{B:Nat→Prop}{w₀ w:amC}{ρ:Ren}{g:Nat→Option ai}(h:WR P B w₀ ρ g w){x:Nat}{d:kU}(hx:g x=some (.abs d)):
 ∃r S L,ρ x=some r∧BO d r.aJ r.sh r.sz r.dn L∧pB w r.aJ S L∧(∀k,S k→k<w.heap.size∧¬B k∧∀y o q,g y=some o→ρ y=some q→Live o q=true→q.aJ≠k)∧
  ∀Z,Lp P w ρ g x r L Z→WR P (xp B L Z) w (dY ρ Z) (rf g Z) w:=by
 obtain⟨F,fa,fb,fc⟩:=h.abs
 obtain⟨r,S,hr,⟨L,jf,hL⟩,hf⟩:=fa x d hx
 refine⟨r,S,L,hr,jf,hL,fun k hk=>(fb x k (hf k hk)).2,fun Z hZ=>?_⟩
 have xq:∀k,k∈L.map (·.1)→F x k:=fun k hk=>hf k ((hL.all k).2 hk)
 have EW:∀y o q k,g y=some o→ρ y=some q→Live o q=true→k∈L.map (·.1)→q.aJ≠k:=fun y o q k a b c e=>(fb x k (xq k e)).2.2.2 y o q a b c
 have hle:ρ.le (dY ρ Z):=fun y q hy=>by
  cases hz:Z y with
  |none=>rw[mG hz];exact hy
  |some p=>
   rw[nX hz]
   by_cases e:y=x
   ·subst e
    obtain⟨o,ho⟩:=hZ.root
    rw[ho]at hz;cases hz
    rw[hr]at hy;cases hy;rfl
   ·rw[h.fresh y (hZ.new y p e hz)]at hy;cases hy
 have Ey:∀b,B b→xp B L Z b∧w.heap[b]?=w₀.heap[b]? :=fun b hb=>⟨.inl hb,h.below.block b hb⟩
 exact
 {below:=fQ.refl _ _
  env:=h.env.next h.below fun k hk=>.inl hk
  size:=fun k hk=>by
   rcases hk with hk|hk
   ·exact h.size k hk
   ·exact(fb x k (xq k hk.1)).2.1
  live:=by
   intro y o q hy hq hl
   cases hz:Z y with
   |some p=>
    rw[pc hz]at hy;rw[nX hz]at hq
    cases hy;cases hq
    obtain⟨a,o',b,c⟩:=hZ.live y p.1 p.2 hz hl
    exact⟨o',b,c,fun _ hk=>by
     rcases hk with hk|hk
     ·exact(fb x _ (xq _ a)).2.2.1 hk
     ·exact hk.2 y p.1 p.2 hz hl rfl⟩
   |none=>
    rw[nY hz]at hy;rw[mG hz]at hq
    obtain⟨o',a,b,c⟩:=h.live y o q hy hq hl
    exact⟨o',a,b.mono hle,fun db hk=>by
     rcases hk with hk|hk
     ·exact c db hk
     ·exact EW y o q _ hy hq hl hk.1 rfl⟩
  inj:=by
   intro y z oy oz ry rz hy hz cm gX cT jG hd e
   cases uU:Z y with
   |some p=>
    rw[pc uU]at hy;rw[nX uU]at cm
    cases hy;cases cm
    cases kj:Z z with
    |some q=>
     rw[pc kj]at hz;rw[nX kj]at gX
     cases hz;cases gX
     exact hZ.inj y z p.1 q.1 p.2 q.2 uU kj cT jG e
    |none=>
     rw[nY kj]at hz;rw[mG kj]at gX
     exact absurd e.symm (EW z oz rz _ hz gX jG (hZ.live y p.1 p.2 uU cT).1)
   |none=>
    rw[nY uU]at hy;rw[mG uU]at cm
    cases kj:Z z with
    |some q=>
     rw[pc kj]at hz;rw[nX kj]at gX
     cases hz;cases gX
     exact absurd e (EW y oy ry _ hy cm cT (hZ.live z q.1 q.2 kj jG).1)
    |none=>
     rw[nY kj]at hz;rw[mG kj]at gX
     exact h.inj y z oy oz ry rz hy hz cm gX cT jG hd e
  fresh:=by
   intro y hy
   cases hz:Z y with
   |some p=>rw[pc hz]at hy;cases hy
   |none=>rw[nY hz]at hy;rw[mG hz];exact h.fresh y hy
  rows:=by
   intro y n size row hy
   cases hz:Z y with
   |some p=>rw[pc hz]at hy;obtain⟨p1,p2⟩:=p;cases hy;cases(hZ.own y p1 _ hz).1
   |none=>
    rw[nY hz]at hy;rw[mG hz]
    obtain⟨q,a,b⟩:=h.rows y n size row hy
    exact⟨q,a,fun hn=>(b hn).mono Ey⟩
  nil:=by
   intro y el ro q hy hq
   cases hz:Z y with
   |some p=>rw[pc hz]at hy;rw[nX hz]at hq;cases hq;obtain⟨p1,p2⟩:=p;cases hy;exact hZ.nil y p1 el ro hz
   |none=>rw[nY hz]at hy;rw[mG hz]at hq;exact h.nil y el ro q hy hq
  named:=by
   intro y o hy bt
   cases hz:Z y with
   |some p=>exact⟨_,nX hz⟩
   |none=>rw[nY hz]at hy;rw[mG hz];exact h.named y o hy bt
  abs:=by
   have old:∀y d',rf g Z y=some (.abs d')→y≠x∧Z y=none∧g y=some (.abs d'):=fun y d' hy=>by
    cases hz:Z y with
    |some p=>rw[pc hz]at hy;obtain⟨p1,p2⟩:=p;cases hy;exact absurd rfl ((hZ.own y p1 _ hz).2 d')
    |none=>
     refine⟨fun e=>?_,rfl,by rw[nY hz]at hy;exact hy⟩
     subst e
     obtain⟨o,ho⟩:=hZ.root
     rw[ho]at hz;cases hz
   refine⟨fun y k=>F y k∧∃d',rf g Z y=some (.abs d'),fun y d' hy=>?_,fun y k hk=>?_,fun y z k a b=>fc y z k a.1 b.1⟩
   ·obtain⟨_,hz,hg⟩:=old y d' hy
    obtain⟨q,S',a,b,c⟩:=fa y d' hg
    exact⟨q,S',by rw[mG hz];exact a,b,fun k hk=>⟨c k hk,d',hy⟩⟩
   ·obtain⟨hF,d',hy⟩:=hk
    obtain⟨bt,hz,hg⟩:=old y d' hy
    obtain⟨_,b2,b3,b4⟩:=fb y k hF
    refine⟨⟨d',hy⟩,b2,fun hk=>?_,fun z o q pF hq hl=>?_⟩
    ·rcases hk with hk|hk
     ·exact b3 hk
     ·exact bt (fc y x k hF (xq k hk.1))
    ·cases kj:Z z with
     |some p=>
      rw[pc kj]at pF;rw[nX kj]at hq
      cases pF;cases hq
      intro e
      exact bt (fc y x k hF (xq k (e▸(hZ.live z p.1 p.2 kj hl).1)))
     |none=>
      rw[nY kj]at pF;rw[mG kj]at hq
      exact b4 z o q pF hq hl}
theorem WR.Lq{P:amF}{B B':Nat→Prop}{w₀ w w2:amC}{ρ ρ2:Ren}{g g2:Nat→Option ai}(h:WR P B w₀ ρ g w)(h2:WR P B' w ρ2 g2 w2)(pa:∀k,B k→B' k)
 (VW:∀k,B' k→¬B k→∀y o q,g y=some o→ρ y=some q→Live o q=true→q.aJ≠k)
 {x:Nat}{r:bP}(hr:ρ2 x=some r){d:kU}{S:Nat→Prop}(b9:nE w2 r d S)(C:Nat→Bool)(hx:C x=true)
 (hS:∀k,S k→(B' k∧¬B k)∨∃y o q,C y=true∧g2 y=some o∧ρ2 y=some q∧Live o q=true∧q.aJ=k∧o.ro=false)
 (db:∀y o,C y=false→g2 y=some o→o.ro=true→g y=some o∧ρ2 y=ρ y):
 WR P B w₀ ρ2 (fun y=>if y=x then some (.abs d)else match C y with|true=>(g2 y).map fun _=>.dead|false=>g2 y) w2:=by
 obtain⟨F,fa,fb,fc⟩:=h2.abs
 let g3:Nat→Option ai:=fun y=>if y=x then some (.abs d)else match C y with|true=>(g2 y).map fun _=>.dead|false=>g2 y
 have old:∀y o,g3 y=some o→(∀d',o≠ .abs d')→o≠ .dead→C y=false∧g2 y=some o:=fun y o hy hd bt=>by
  have hy:(if y=x then some (.abs d)else match C y with|true=>(g2 y).map fun _=>ai.dead|false=>g2 y)=some o:=hy
  split at hy
  ·cases hy;exact absurd rfl (hd d)
  ·cases hc:C y with
   |true=>
    rw[hc]at hy
    cases hg:g2 y with
    |none=>rw[hg]at hy;cases hy
    |some o'=>rw[hg]at hy;cases hy;exact absurd rfl bt
   |false=>rw[hc]at hy;exact⟨rfl,hy⟩
 have uV:∀y o q,g3 y=some o→Live o q=true→C y=false∧g2 y=some o:=fun y o q hy hl=>old y o hy (fun d' e=>by subst e;cases hl) (fun e=>by subst e;cases hl)
 have Ls:∀y d',y≠x→g3 y=some (.abs d')→C y=false∧g2 y=some (.abs d'):=fun y d' bt hy=>by
  have hy:(if y=x then some (.abs d)else match C y with|true=>(g2 y).map fun _=>ai.dead|false=>g2 y)=some (.abs d'):=hy
  rw[if_neg bt]at hy
  cases hc:C y with
  |true=>
   rw[hc]at hy
   cases hg:g2 y with
   |none=>rw[hg]at hy;cases hy
   |some o'=>rw[hg]at hy;cases hy
  |false=>rw[hc]at hy;exact⟨rfl,hy⟩
 have uW:∀k,S k→k<w2.heap.size∧¬B k∧(∀y o q,g3 y=some o→ρ2 y=some q→Live o q=true→q.aJ≠k)∧∀y,F y k→False:=fun k hk=>by
  rcases hS k hk with⟨a,b⟩|⟨y,o,q,a,b,c,e,rfl,f⟩
  ·refine⟨h2.size k a,b,fun y o q hy hq hl=>?_,fun y hF=>(fb y k hF).2.2.1 a⟩
   obtain⟨c1,c2⟩:=uV y o q hy hl
   cases zP:o.ro with
   |false=>
    obtain⟨_,_,_,c3⟩:=h2.live y o q c2 hq hl
    intro e
    exact c3 zP (e▸a)
   |true=>
    obtain⟨c3,c4⟩:=db y o c1 c2 zP
    exact VW k a b y o q c3 (c4▸hq) hl
  ·obtain⟨o',l1,l2,l3⟩:=h2.live y o q b c e
   refine⟨(anq.1 l1).1,fun hk=>l3 f (pa _ hk),fun z u s hz hs hl he=>?_,fun z hF=>(fb z _ hF).2.2.2 y o q b c e rfl⟩
   obtain⟨c1,c2⟩:=uV z u s hz hl
   have:=h2.inj z y u o s q c2 b hs c hl e (.inr f) he
   subst this
   rw[a]at c1;cases c1
 exact
 {below:=h.below.trans ⟨h2.below.os,h2.below.tape,h2.below.output,h2.below.size,fun k hk=>h2.below.block k (pa k hk)⟩
  env:=h.env
  size:=fun k hk=>aoS (h.size k hk) h2.below.size
  live:=by
   intro y o q hy hq hl
   obtain⟨_,c2⟩:=uV y o q hy hl
   obtain⟨o',l1,l2,l3⟩:=h2.live y o q c2 hq hl
   exact⟨o',l1,l2,fun e hk=>l3 e (pa _ hk)⟩
  inj:=by
   intro y z oy oz ry rz hy hz cm gX cT jG
   exact h2.inj y z oy oz ry rz (uV y oy ry hy cT).2 (uV z oz rz hz jG).2 cm gX cT jG
  fresh:=by
   intro y hy
   have hy:(if y=x then some (.abs d)else match C y with|true=>(g2 y).map fun _=>ai.dead|false=>g2 y)=none:=hy
   split at hy
   ·cases hy
   ·refine h2.fresh y ?_
    cases hc:C y with
    |true=>rw[hc]at hy;simpa using hy
    |false=>rw[hc]at hy;exact hy
  rows:=by
   intro y n size row hy
   obtain⟨c1,c2⟩:=old y _ hy (fun d' e=>by cases e) (fun e=>by cases e)
   obtain⟨c3,c4⟩:=db y _ c1 c2 rfl
   obtain⟨q,a,b⟩:=h.rows y n size row c3
   exact⟨q,by rw[c4];exact a,b⟩
  nil:=by
   intro y el ro q hy hq
   exact h2.nil y el ro q (old y _ hy (fun d' e=>by cases e) (fun e=>by cases e)).2 hq
  named:=by
   intro y o hy bt
   by_cases e:y=x
   ·subst e;exact⟨r,hr⟩
   ·cases hd:o with
    |abs d'=>subst hd;exact h2.named y _ (Ls y d' e hy).2 bt
    |_=>subst hd;exact h2.named y _ (old y _ hy (fun d' e=>by cases e) bt).2 bt
  abs:=by
   refine⟨fun y k=>(y=x∧S k)∨(y≠x∧F y k∧∃d',g3 y=some (.abs d')),fun y d' hy=>?_,fun y k hk=>?_,fun y z k a b=>?_⟩
   ·by_cases e:y=x
    ·subst e
     have:d'=d:=by
      have hy:(if y=y then some (.abs d)else match C y with|true=>(g2 y).map fun _=>ai.dead|false=>g2 y)=some (.abs d'):=hy
      rw[if_pos rfl]at hy;cases hy;rfl
     subst this
     exact⟨r,S,hr,b9,fun k hk=>.inl ⟨rfl,hk⟩⟩
    ·obtain⟨q,T,a,b,c⟩:=fa y d' (Ls y d' e hy).2
     exact⟨q,T,a,b,fun k hk=>.inr ⟨e,c k hk,d',hy⟩⟩
   ·rcases hk with⟨rfl,hk⟩|⟨e,hF,d',hy⟩
    ·obtain⟨a,b,c,_⟩:=uW k hk
     exact⟨⟨d,if_pos rfl⟩,a,b,c⟩
    ·obtain⟨_,b2,b3,b4⟩:=fb y k hF
     exact⟨⟨d',hy⟩,b2,fun hk=>b3 (pa k hk),fun z o q hz hq hl=>b4 z o q (uV z o q hz hl).2 hq hl⟩
   ·rcases a with⟨rfl,a⟩|⟨e,a,_⟩<;>rcases b with⟨rfl,b⟩|⟨e',b,_⟩
    ·rfl
    ·exact((uW k a).2.2.2 z b).elim
    ·exact((uW k b).2.2.2 y a).elim
    ·exact fc y z k a b}
theorem WR.xr{P:amF}{B:Nat→Prop}{w₀ w:amC}{ρ:Ren}{g:Nat→Option ai}(h:WR P B w₀ ρ g w){x:Nat}{c:List amn}{el:amz}(hx:g x=some (.cells c el false)){q:bP}(hq:ρ x=some q)(hl:Live (.cells c el false) q=true):
 ∃c',LR ρ c c'∧eH w q.aJ (.cells c' el q.sh q.dn):=by
 obtain⟨o',h1,h2,_⟩:=h.live x _ q hx hq hl
 cases h2 with
 |cells _ _ bR _ a fr hp hs he hz hf hc=>
  have Lt:a.toList.length=q.dn:=by rw[Array.length_toList];exact hp
  refine⟨(a.toList.drop q.sh).take c.length,⟨?_,fun i v v' h3 h4=>?_⟩,a,fr,?_,hp,?_,hf rfl,fun i v hi=>?_⟩
  ·rw[anf,anA,Lt];omega
  ·obtain⟨u,h5,h6⟩:=hc i v h3
   rw[anJ,anK]at h4
   split at h4
   ·rw[an5,h5]at h4;cases h4;exact h6
   ·cases h4
  ·rw[h1,he rfl]
  ·rw[anf,anA,Lt];omega
  ·rw[anJ,anK]at hi
   split at hi
   ·rw[an5]at hi;exact hi
   ·cases hi
theorem WR.Lu{P:amF}{B:Nat→Prop}{w₀ w:amC}{ρ:Ren}{g:Nat→Option ai}(h:WR P B w₀ ρ g w){x:Nat}{es:List amW}{clock:Nat}(hx:g x=some (.map es clock)){q:bP}(hq:ρ x=some q):
 ∃cH,dD (mn ρ) es cH∧eH w q.aJ (.map cH clock):=by
 obtain⟨o',h1,h2,_⟩:=h.live x _ q hx hq rfl
 cases h2 with
 |map _ a _ h3 h4=>
  refine⟨a.toList,?_,h1⟩
  have key:∀(l:List amW) (l':List amW),l.length=l'.length→(∀(i:Nat) (e e':amW),l[i]?=some e→l'[i]?=some e'→mn ρ e e')→dD (mn ρ) l l':=by
   intro l
   induction l with
   |nil=>intro l' hl _;cases l' with|nil=>exact .nil|cons _ _=>simp at hl
   |cons e l ih=>
    intro l' hl hr
    cases l' with
    |nil=>simp at hl
    |cons e' l'=>exact .cons (hr 0 e e' rfl rfl) (ih l' (by simpa using hl) fun i a b ha hb=>hr (i+1) a b (by simpa using ha) (by simpa using hb))
  exact key _ _ h3 h4
theorem eH.or{P:amF}{w:amC}{ρ:Ren}{q:bP}{c c':List amn}{el:amz}(h:eH w q.aJ (.cells c' el q.sh q.dn))(hz:∀n,bT P el=some n→q.sz=n)(hl:LR ρ c c'):∃o',w.heap[q.aJ]?=some o'∧OR P ρ q (.cells c el false) o':=by
 obtain⟨a,fr,h1,h2,h3,h4,h5⟩:=h
 refine⟨_,h1,.cells c el el false a fr h2 (by rw[hl.len];exact h3) (fun _=>rfl) hz (fun _=>h4) fun i v hi=>?_⟩
 obtain⟨v',h6,h7⟩:=hl.get hi
 exact⟨v',h5 i v' h6,h7⟩
theorem eH.z2{P:amF}{w:amC}{ρ:Ren}{q:bP}{es cH:List amW}{clock:Nat}(h:eH w q.aJ (.map cH clock))(hl:dD (mn ρ) es cH):∃o',w.heap[q.aJ]?=some o'∧OR P ρ q (.map es clock) o':=by
 refine⟨_,h,.map es _ clock (by rw[hl.len]) fun i e e' h1 h2=>?_⟩
 obtain⟨e2,h3,h4⟩:=hl.get (i:=i) (b:=e') (by simpa using h2)
 rw[h1]at h3;cases h3;exact h4
def zF(r:bP)(o0:ai)(n:Nat)(zs:List (bP×ai)):Nat→Option (bP×ai):=fun y=>if y=0 then some (r,o0)else if y<n then none else zs[y-n]?
def closed(d:kU)(C:List Nat)(o:List ai):List ai:=o.mapIdx fun i ob=>if i=0 then .abs d else if C.contains i then .dead else ob
structure VX(P:amF)(w:amC)(L:List (Nat×CO))(r:bP)(o0:ai)(n:Nat)(zs:List (bP×ai)):Prop where
 own:∀p∈(r,o0)::zs,p.2.ro=false∧(∀d,p.2≠ .abs d)
 nil:∀p∈(r,o0)::zs,∀el ro,p.2=.cells [] el ro→∀n,bT P el=some n→p.1.sz=n
 live:∀ρ:Ren,ρ 0=some r→(∀i p,zs[i]?=some p→ρ (n+i)=some p.1)→∀p∈(r,o0)::zs,Live p.2 p.1=true→p.1.aJ∈L.map (·.1)∧∃o',w.heap[p.1.aJ]?=some o'∧OR P ρ p.1 p.2 o'
 inj:((r,o0)::zs).Pairwise fun p q=>Live p.2 p.1=true→Live q.2 q.1=true→p.1.aJ≠q.1.aJ
theorem VY{α:Type}{R:α→α→Prop}{l:List α}(h:l.Pairwise R){i j:Nat}{a b:α}(ha:l[i]?=some a)(hb:l[j]?=some b)(h1:¬R a b)(h2:¬R b a):i=j:=by
 obtain⟨hi,rfl⟩:=amy.1 ha
 obtain⟨hj,rfl⟩:=amy.1 hb
 rcases Nat.lt_trichotomy i j with hlt|rfl|hlt
 ·exact absurd (ao4.1 h i j hi hj hlt) h1
 ·rfl
 ·exact absurd (ao4.1 h j i hj hi hlt) h2
theorem sV{r:bP}{o0:ai}{n:Nat}{zs:List (bP×ai)}(hn:0<n){y:Nat}{p:bP×ai}(h:zF r o0 n zs y=some p):(y=0∧p=(r,o0))∨(y≠0∧n≤y∧zs[y-n]?=some p):=by
 unfold zF at h
 split at h
 ·rename_i e;cases h;exact .inl ⟨e,rfl⟩
 ·rename_i e
  split at h
  ·cases h
  ·exact .inr ⟨e,by omega,h⟩
theorem sW{r:bP}{o0:ai}{n:Nat}{zs:List (bP×ai)}(hn:0<n){y:Nat}{p:bP×ai}(h:zF r o0 n zs y=some p):((r,o0)::zs)[if y=0 then 0 else y-n+1]?=some p:=by
 rcases sV hn h with⟨rfl,rfl⟩|⟨h1,h2,h3⟩
 ·rfl
 ·rw[if_neg h1];exact h3
theorem aG.uT{P:amF}{f:amY}{args:List amn}{d:kU}{rest:List ai}{Q:bL→List ai→Prop}
 (h:∀(w:amC) (r:bP) (S:Nat→Prop) (L:List (Nat×CO)),II w→BO d r.aJ r.sh r.sz r.dn L→pB w r.aJ S L→∃(o0:ai) (zs:List (bP×ai)) (Q1:bL→List ai→Prop),
   VX P w L r o0 (1+rest.length) zs∧1+rest.length+zs.length≤262144∧aG P f args (o0::rest++zs.map (·.2)) Q1∧
   ∀(v:bL) (o':List ai),Q1 v o'→∀(B:Nat→Prop) (ρ:Ren) (w':amC),WR P B w ρ (cq o') w'→ρ 0=some r→(∀i p,zs[i]?=some p→ρ (1+rest.length+i)=some p.1)→
    (∀k∈L.map (·.1),(∀p∈(r,o0)::zs,Live p.2 p.1=true→p.1.aJ≠k)→B k∧w'.heap[k]?=w.heap[k]?)→
    ∃(d':kU) (S':Nat→Prop) (C:List Nat),nE w' r d' S'∧
     (∀k,S' k→(k∈L.map (·.1)∧∀p∈(r,o0)::zs,Live p.2 p.1=true→p.1.aJ≠k)∨∃y o q,(y=0∨C.contains y=true)∧o'[y]?=some o∧ρ y=some q∧Live o q=true∧q.aJ=k∧o.ro=false)∧
     (∀y o,y≠0→C.contains y=false→o'[y]?=some o→o.ro=true→1≤y∧rest[y-1]?=some o)∧Q v (closed d' C o')):
 aG P f args (.abs d::rest) Q:=by
 intro B w₀ ρ w args' gP EX ha hw
 obtain⟨r,S,L,hr,jf,hL,uW,xu⟩:=hw.uT (x:=0) (d:=d) rfl
 obtain⟨o0,zs,Q1,hZ,jw,hf,VZ⟩:=h w r S L (hw.env w hw.below) jf hL
 have hn:0<1+rest.length:=by omega
 let Z:=zF r o0 (1+rest.length) zs
 have alf:∀y,small y=true→cq (.abs d::rest) y=(ai.abs d::rest)[y]? :=fun y hy=>cA hy
 have ec:∀y,y<1+rest.length+zs.length→small y=true:=fun y hy=>gW.2 (by have:(2:Nat)^18=262144:=rfl;omega)
 have Lv:∀y p,Z y=some p→y<1+rest.length+zs.length:=fun y p hy=>by
  rcases sV hn hy with⟨rfl,_⟩|⟨_,h2,h3⟩
  ·omega
  ·have:=(amy.1 h3).1;omega
 have sX:dY ρ Z 0=some r:=nX (p:=(r,o0)) (by show zF r o0 _ zs 0=_;unfold zF;rw[if_pos rfl])
 have EY:∀i p,zs[i]?=some p→dY ρ Z (1+rest.length+i)=some p.1:=fun i p hi=>nX (by
  show zF r o0 _ zs _=_
  unfold zF
  rw[if_neg (by omega),if_neg (by omega),show 1+rest.length+i-(1+rest.length)=i by omega];exact hi)
 have cJ:Lp P w ρ (cq (.abs d::rest)) 0 r L Z:=
 {root:=⟨o0,by show zF r o0 _ zs 0=_;unfold zF;rw[if_pos rfl]⟩
  new:=fun y p hy hz=>by
   rcases sV hn hz with⟨e,_⟩|⟨_,h2,h3⟩
   ·exact absurd e hy
   ·rw[cA (ec y (Lv y p hz)),anH]
    rw[am9];omega
  own:=fun y q o hz=>hZ.own (q,o) (am8 (sW hn hz))
  nil:=fun y q el ro hz=>hZ.nil _ (am8 (sW hn hz)) el ro rfl
  live:=fun y q o hz hl=>hZ.live (dY ρ Z) sX EY (q,o) (am8 (sW hn hz)) hl
  inj:=fun y z q s o u hy hz hl pQ e=>by
   have:=VY hZ.inj (sW hn hy) (sW hn hz) (fun h=>h hl pQ e) (fun h=>h pQ hl e.symm)
   rcases sV hn hy with⟨e1,_⟩|⟨e1,h2,h3⟩<;>rcases sV hn hz with⟨e2,_⟩|⟨e2,Jj,alg⟩
   ·omega
   ·rw[if_pos e1,if_neg e2]at this;omega
   ·rw[if_neg e1,if_pos e2]at this;omega
   ·rw[if_neg e1,if_neg e2]at this;omega}
 have gy:=xu Z cJ
 have hle:ρ.le (dY ρ Z):=fun y q hy=>by
  cases hz:Z y with
  |none=>rw[mG hz];exact hy
  |some p=>
   rcases sV hn hz with⟨rfl,rfl⟩|⟨e,_,_⟩
   ·rw[nX hz];rw[hr]at hy;cases hy;rfl
   ·rw[hw.fresh y (cJ.new y p e hz)]at hy;cases hy
 have V0:rf (cq (.abs d::rest)) Z=cq (o0::rest++zs.map (·.2)):=by
  funext y
  cases hz:Z y with
  |some p=>
   rw[pc hz,cA (ec y (Lv y p hz))]
   rcases sV hn hz with⟨rfl,rfl⟩|⟨e,h2,h3⟩
   ·rfl
   ·rw[am5 (by rw[am9];omega),anT,am9,show y-(rest.length+1)=y-(1+rest.length)by omega,h3];rfl
  |none=>
   rw[nY hz]
   have hz:zF r o0 (1+rest.length) zs y=none:=hz
   unfold zF at hz
   split at hz
   ·cases hz
   ·rename_i e
    cases hs:small y with
    |false=>rw[iu hs,iu hs]
    |true=>
     rw[cA hs,cA hs]
     by_cases hlt:y<1+rest.length
     ·rw[ane (by rw[am9];omega)]
      obtain⟨k,rfl⟩:∃k,y=k+1:=⟨y-1,by omega⟩
      rfl
     ·rw[if_neg hlt,aob]at hz
      rw[anH (by rw[am9];omega),anH (by rw[amD,am9,apl];omega)]
 rw[V0]at gy
 have hlen:(o0::rest++zs.map (·.2)).length=1+rest.length+zs.length:=by rw[amD,am9,apl];omega
 refine(hf (xp B L Z) w (dY ρ Z) w args' ?_ ?_ (ha.mono hle) gy).mono fun e w' he=>?_
 ·intro q
  obtain⟨y,h1,h2⟩:=gP q
  exact⟨y,h1,hle _ _ h2⟩
 ·intro x hx
  rw[hlen]at hx
  by_cases h1:x<1+rest.length
  ·obtain⟨q,hq⟩:=EX x (by rw[am9];omega)
   exact⟨q,hle _ _ hq⟩
  ·have h2:x-(1+rest.length)<zs.length:=by omega
   have:=EY (x-(1+rest.length)) _ (amt h2)
   rw[show 1+rest.length+(x-(1+rest.length))=x by omega]at this
   exact⟨_,this⟩
 obtain⟨v,o',ρ',hq,iK,EZ,gE,uD,lQ⟩:=he
 have gZ:ρ' 0=some r:=by rw[lQ 0 (by rw[hlen];omega)];exact sX
 have Lw:∀x,x<1+rest.length→ρ' x=ρ x:=fun x hx=>by
  rw[lQ x (by rw[hlen];omega)]
  by_cases e:x=0
  ·subst e;rw[sX,hr]
  ·refine mG ?_
   show zF r o0 _ zs x=none
   unfold zF
   rw[if_neg e,if_pos hx]
 obtain⟨d',S',C,b9,V1,db,hQ⟩:=VZ v o' hq (xp B L Z) ρ' w' gE gZ (fun i p hi=>by rw[lQ _ (by rw[hlen];have:=(amy.1 hi).1;omega)];exact EY i p hi) (fun k hk yL=>have hB:xp B L Z k:=.inr ⟨hk,fun y q o hz hl=>yL (q,o) (am8 (sW hn hz)) hl⟩;⟨hB,gE.below.block k hB⟩)
 have ef:=hw.Lq gE (fun k hk=>.inl hk) (fun k hk hB=>by
  rcases hk with hk|hk
  ·exact absurd hk hB
  ·exact(uW k ((hL.all k).2 hk.1)).2.2) gZ b9 (fun y=>y==0||C.contains y) rfl (fun k hk=>by
   rcases V1 k hk with⟨a,b⟩|⟨y,o,q,a,b,c,e,f,g⟩
   ·exact .inl ⟨.inr ⟨a,fun y q o hz hl=>b (q,o) (am8 (sW hn hz)) hl⟩,(uW k ((hL.all k).2 a)).2.1⟩
   ·refine .inr ⟨y,o,q,?_,?_,c,e,f,g⟩
    ·rcases a with rfl|a
     ·rfl
     ·rw[a,Bool.or_true]
    ·rw[cA]
     ·exact b
     ·exact gW.2 (by have:=(amy.1 b).1;have:(2:Nat)^18=262144:=rfl;omega)) (fun y o hC hy uv=>by
   rw[Bool.or_eq_false_iff]at hC
   have qg:y≠0:=by intro e;subst e;cases hC.1
   cases hs:small y with
   |false=>rw[iu hs]at hy;cases hy;cases uv
   |true=>
    rw[cA hs]at hy
    obtain⟨a,b⟩:=db y o qg hC.2 hy uv
    have hlt:=(amy.1 b).1
    refine⟨?_,Lw y (by omega)⟩
    rw[cA hs]
    obtain⟨k,rfl⟩:∃k,y=k+1:=⟨y-1,by omega⟩
    exact b)
 refine⟨v,closed d' C o',ρ',hQ,iK,EZ,?_,by unfold closed;rw[arp];exact uD,fun x hx=>Lw x (by rw[am9]at hx;omega)⟩
 have:cq (closed d' C o')=(fun y=>if y=0 then some (.abs d')else match(y==0||C.contains y)with|true=>(cq o' y).map fun _=>.dead|false=>cq o' y):=by
  funext y
  cases hs:small y with
  |false=>
   have qg:y≠0:=by intro e;subst e;cases hs
   rw[iu hs,if_neg qg,iu hs]
   cases(y==0||C.contains y)<;>rfl
  |true=>
   rw[cA hs,cA hs]
   unfold closed
   rw[arb]
   by_cases qg:y=0
   ·subst qg
    rw[if_pos rfl]
    cases o' with
    |nil=>
     exfalso
     have:=gE.fresh 0 (by rw[cA hs];rfl)
     rw[gZ]at this;cases this
    |cons a l=>rfl
   ·rw[if_neg qg]
    have:(y==0)=false:=by simpa using qg
    rw[this,Bool.false_or]
    cases hc:C.contains y with
    |true=>cases o'[y]? <;>simp[qg,hc];
    |false=>cases o'[y]? <;>simp[qg,hc]
 rw[this]
 exact ef
def xv(x:Nat)(d:kU)(C:List Nat)(o:List ai):List ai:=o.mapIdx fun i ob=>if i=x then .abs d else if C.contains i then .dead else ob
theorem aG.V2{P:amF}{f:amY}{args:List amn}{objs:List ai}{Q1 Q:bL→List ai→Prop}(h:aG P f args objs Q1)
 (hc:∀v o',Q1 v o'→∀(B:Nat→Prop) (w₀:amC) (ρ:Ren) (w':amC),WR P B w₀ ρ (cq o') w'→∃(x:Nat) (r:bP) (d:kU) (S:Nat→Prop) (C:List Nat),x<o'.length∧ρ x=some r∧nE w' r d S∧C.contains x=true∧
   (∀k,S k→∃y o q,C.contains y=true∧o'[y]?=some o∧ρ y=some q∧Live o q=true∧q.aJ=k∧o.ro=false)∧Q v (xv x d C o')):aG P f args objs Q:=by
 intro B w₀ ρ w args' gP EX ha hw
 refine(h B w₀ ρ w args' gP EX ha hw).mono fun e w' he=>?_
 obtain⟨v,o',ρ',hq,iK,EZ,gE,uD,lQ⟩:=he
 obtain⟨x,r,d,S,C,jK,hr,b9,V3,hS,hQ⟩:=hc v o' hq B w₀ ρ' w' gE
 have CW:WR P B w' ρ' (cq o') w':=
 {below:=fQ.refl _ _
  env:=gE.env.next gE.below fun k hk=>hk
  size:=gE.size
  live:=gE.live
  inj:=gE.inj
  fresh:=gE.fresh
  rows:=fun y n size row hy=>by
   obtain⟨q,a,b⟩:=gE.rows y n size row hy
   exact⟨q,a,fun hn=>(b hn).mono fun k hk=>⟨hk,gE.below.block k hk⟩⟩
  nil:=gE.nil
  named:=gE.named
  abs:=gE.abs}
 have ec:∀{y o},o'[y]?=some o→small y=true:=fun{y o} hy=>gW.2 (by have:=(amy.1 hy).1;have:(2:Nat)^18=262144:=rfl;omega)
 have ef:=gE.Lq CW (fun k hk=>hk) (fun k hk hB=>absurd hk hB) hr b9 (fun y=>C.contains y) V3 (fun k hk=>by
  obtain⟨y,o,q,a,b,c⟩:=hS k hk
  exact .inr ⟨y,o,q,a,by rw[cA (ec b)];exact b,c⟩) (fun y o _ hy _=>⟨hy,rfl⟩)
 refine⟨v,xv x d C o',ρ',hQ,iK,EZ,?_,by unfold xv;rw[arp];exact uD,lQ⟩
 have:cq (xv x d C o')=(fun y=>if y=x then some (.abs d)else match C.contains y with|true=>(cq o' y).map fun _=>.dead|false=>cq o' y):=by
  funext y
  cases hs:small y with
  |false=>
   have qh:y≠x:=by rintro rfl;rw[ec (amt jK)]at hs;cases hs
   rw[iu hs,if_neg qh,iu hs]
   cases C.contains y<;>rfl
  |true=>
   rw[cA hs,cA hs]
   unfold xv
   rw[arb]
   by_cases qh:y=x
   ·subst qh
    rw[if_pos rfl,amt jK]
    simp
   ·rw[if_neg qh]
    cases hc:C.contains y with
    |true=>cases o'[y]? <;>simp[qh,hc]
    |false=>cases o'[y]? <;>simp[qh,hc]
 rw[this]
 exact ef
end Go.Proofs.Ytnlkkgpcikkpoaa.Vm
namespace Go.Proofs.Ytnlkkgpcikkpoaa
theorem cZ:Vm.hI asz=true:=by kernel_rfl
theorem mixed:asz.follows .mixedOrders=true:=by kernel_rfl
end Go.Proofs.Ytnlkkgpcikkpoaa
namespace Go.Proofs.Ytnlkkgpcikkpoaa
open Go Vm Go.RowKit
def Lx:amY→Option Sum:=fun _=>none
theorem bo:dg asz (dE asz Lx 50 40):=dJ cZ mixed (fun f s h=>by cases h) 50 40
theorem V4(lf:Nat):dg asz (dE asz Lx lf 40):=dJ cZ mixed (fun f s h=>by cases h) lf 40
theorem aZ{cO:fo}(hc:dg asz cO)(m:Nat)(s:ST){n k:Nat}{l:List am3}{d:aj}{T:Tree}(h:∀u,(sO asz cO 50 (l.take m) (ee n u d.sl) (kE d.objs)).sym (uO n k) s=some T){Q:bf→aj→Prop}(hT:T.ok (fun x d'=>match x with
 | .normal=>al asz n k (l.drop m) d' Q
 |x=>Q x d')):al asz n k l d Q:=al.tree cZ mixed hc h hT
end Go.Proofs.Ytnlkkgpcikkpoaa
namespace Go.Proofs.Ytnlkkgpcikkpoaa
open Go Vm Go.RowKit
set_option maxRecDepth 100000
def V5:amn→amn
 | .pointer (some ⟨b,o,none⟩)=>.pointer (some ⟨b,o,some 0⟩)
 |v=>v
def bU(es:List amW):List amW:=es.map fun e=>{e with val:=V5 e.val}
theorem qi:bT asz 5=some 1:=by kernel_rfl
theorem pd:bT asz 67=some 2:=by kernel_rfl
theorem z3:bT asz 174=some 1:=by kernel_rfl
theorem xw:bT asz 70=some 5:=by kernel_rfl
theorem z4(b:ByteArray):IJ b=ag b:=rfl
theorem LR.plain{ρ:Ren}:∀{c c':List amn},c.all af=true→LR ρ c c'→c'=c:=fun hc h=>
 yK h.len fun i v v' h1 h2=>VR.r7 (am1.1 hc v (am8 h1)) (h.at_ i v v' h1 h2)
theorem uX:∀{A C:List (Nat×ByteArray)} {es:List amW} {L:List (Nat×CO)},fA (A++C) es L→∃eA eC LA LC,es=eA++eC∧L=LA++LC∧fA A eA LA∧fA C eC LC
 | [],C,es,L,h=>⟨[],es,[],L,rfl,rfl,.nil,h⟩
 |p::A,C,es,L,h=>by
  cases h with
  |cons _ k sh born _ qb L1 L2 hf ht=>
   obtain⟨eA,eC,LA,LC,rfl,rfl,h1,h2⟩:=uX ht
   exact⟨_::eA,eC,L1++LA,LC,rfl,by rw[amQ],.cons p k sh born A eA L1 LA hf h1,h2⟩
theorem Ly{A C:List (Nat×ByteArray)}{eA eC:List amW}{LA LC:List (Nat×CO)}(h:fA A eA LA)(hC:fA C eC LC):fA (A++C) (eA++eC) (LA++LC):=by
 induction h with
 |nil=>exact hC
 |cons p k sh born l es L L' hf ht ih=>rw[amQ];exact .cons p k sh born _ _ L _ hf ih
theorem Lz{ρ:Ren}{A:List (Nat×ByteArray)}{eA:List amW}{LA:List (Nat×CO)}(h:fA A eA LA):∀{e':List amW},dD (mn ρ) (bU eA) e'→e'=eA:=by
 induction h with
 |nil=>intro e' h';cases h';rfl
 |cons p k sh born l es L L' hf ht ih=>
  intro e' h'
  cases h' with
  |cons h1 h2=>
   rename_i b l'
   rw[ih h2]
   congr 1
   obtain⟨k1,k2,k3⟩:=h1
   have e1:=k1.jo
   cases b with
   |mk key val LB=>
    dsimp only at e1 k2 k3⊢
    subst e1
    have:val=.pointer (some ⟨k,sh,none⟩):=by
     have k2:VR ρ (.pointer (some ⟨k,sh,some 0⟩)) val:=k2
     cases k2 with
     |bH _ h=>cases h
     |lI=>rfl
    subst this
    cases k3
    rfl
theorem dD.uY{ρ:Ren}{A:List (Nat×ByteArray)}{eA:List amW}{LA:List (Nat×CO)}(h:fA A eA LA):dD (mn ρ) (bU eA) eA:=by
 induction h with
 |nil=>exact .nil
 |cons p k sh born l es L L' hf ht ih=>exact .cons ⟨.bH _ rfl,.lI _ _ _,rfl⟩ ih
theorem dD.lJ{α β:Type}{R:α→β→Prop}:∀{a:List α} {b:List β} {a':List α} {b':List β},dD R a b→dD R a' b'→dD R (a++a') (b++b')
 |_,_,_,_,.nil,h=>h
 |_,_,_,_,.cons h t,h'=>.cons h (dD.lJ t h')
theorem dD.E0{α β:Type}{R:α→β→Prop}:∀{a a':List α} {l:List β},dD R (a++a') l→∃b b',l=b++b'∧dD R a b∧dD R a' b'
 | [],a',l,h=>⟨[],l,rfl,.nil,h⟩
 |x::a,a',l,h=>by
  cases h with
  |cons h1 h2=>
   obtain⟨b,b',rfl,h3,h4⟩:=dD.E0 h2
   exact⟨_::b,b',rfl,.cons h1 h3,h4⟩
theorem E1{B:Nat→Prop}{w₀ w:amC}{ρ:Ren}{g:Nat→Option ai}(h:WR asz B w₀ ρ g w){z n size:Nat}{c:List amn}{el:amz}(hz:g z=some (.cells c el false))(hc:c.all af=true)(hl:c.length=n*size)(hs:bT asz el=some size)(sw:0<size){v:amn}(hv:VR ρ (.slice (some ⟨z,0,none⟩) n n) v):
 ∃L,Vm.rowAt n size c el v L∧(L=[]∨∃q,ρ z=some q∧Live (.cells c el false) q=true∧L=[(q.aJ,.cells c el q.sh q.dn)]∧eH w q.aJ (.cells c el q.sh q.dn)):=by
 cases hv with
 |bH _ h=>cases h
 |dV _ a'=>exact⟨[],.inl ⟨rfl,rfl,a',rfl⟩,.inl rfl⟩
 |sl _ _ _ _ bq q hq gD=>
  by_cases kX:Live (.cells c el false) q=true
  ·obtain⟨c',h1,h2⟩:=h.xr hz hq kX
   have:=LR.plain hc h1
   subst this
   obtain⟨o',h3,h4,_⟩:=h.live z _ q hz hq kX
   have cc:q.sz=size:=h4.wo _ hs
   refine⟨_,.inr ⟨q.aJ,q.sh,bq,q.dn,rfl,?_,?_,rfl⟩,.inr ⟨q,hq,kX,rfl,h2⟩⟩
   ·rcases gD with h|h
    ·omega
    ·exact h.1
   ·obtain⟨_,_,_,_,h5,_⟩:=h2
    rcases gD with h|h
    ·rw[h,←hl];exact h5
    ·have:=h.2;rw[cc]at this;omega
  ·have kX:Live (.cells c el false) q=false:=by simpa using kX
   obtain⟨h1,h2⟩:=Cj kX
   subst h1
   have cc:q.sz=size:=h.nil z el false q hz hq _ hs
   have hn:n=0:=by
    rcases aqz n with h|h
    ·exact h
    ·have:=asj h sw;simp at hl;omega
   subst hn
   have V6:bq=0:=by
    rcases gD with h|h
    ·exact h
    ·have h3:=h.2
     rw[cc,h2]at h3
     rcases aqz bq with h|h
     ·exact h
     ·have:=asj h sw;omega
   subst V6
   exact⟨[],.inl ⟨rfl,rfl,_,rfl⟩,.inl rfl⟩
def gA(ρ:Ren)(o':List ai)(k y:Nat):Prop:=∃o q,o'[y]?=some o∧ρ y=some q∧Live o q=true∧q.aJ=k∧o.ro=false
theorem gA.row{ρ:Ren}{o':List ai}{y:Nat}{c:List amn}{el:amz}{q:bP}(h:o'[y]?=some (.cells c el false))(hq:ρ y=some q)(hl:Live (.cells c el false) q=true):gA ρ o' q.aJ y:=⟨_,q,h,hq,hl,rfl,rfl⟩
theorem gA.inj{P:amF}{B:Nat→Prop}{w₀ w:amC}{ρ:Ren}{o':List ai}(h:WR P B w₀ ρ (cq o') w)(hlen:o'.length≤262144){k y z:Nat}(h1:gA ρ o' k y)(h2:gA ρ o' k z):y=z:=by
 obtain⟨o,q,a,b,c,d,e⟩:=h1
 obtain⟨u,s,a',b',c',d',e'⟩:=h2
 have sm:∀{y o},o'[y]?=some o→cq o' y=some o:=fun{y o} hy=>by
  rw[cA];exact hy
  exact gW.2 (by have:=(amy.1 hy).1;have:(2:Nat)^18=262144:=rfl;omega)
 exact h.inj y z o u q s (sm a) (sm a') b b' c c' (.inl e) (d.trans d'.symm)
theorem gA.V7{P:amF}{B:Nat→Prop}{w₀ w:amC}{ρ:Ren}{o':List ai}(h:WR P B w₀ ρ (cq o') w)(hlen:o'.length≤262144){k y:Nat}(h1:gA ρ o' k y):¬B k:=by
 obtain⟨o,q,a,b,c,rfl,e⟩:=h1
 have sm:cq o' y=some o:=by
  rw[cA];exact a
  exact gW.2 (by have:=(amy.1 a).1;have:(2:Nat)^18=262144:=rfl;omega)
 obtain⟨_,_,_,d⟩:=h.live y o q sm b c
 exact d e
inductive rh(o':List ai)(K:List Nat):List (Nat×ByteArray)→List amW→Prop where
 |none:rh o' K [] []
 |empty (p:Nat×ByteArray) (y born:Nat) (hy:o'[y]?=some (.cells [.slice none 0 0] 174 false)) (h0:p.2.size=0) (hd:3<y∧K.contains y=true):rh o' K [p] [{key:=.int .i64 p.1,val:=.pointer (some ⟨y,0,none⟩),born}]
 |full (p:Nat×ByteArray) (y z born:Nat) (hy:o'[y]?=some (.cells [.slice (some ⟨z,0,none⟩) p.2.size p.2.size] 174 false)) (hz:o'[z]?=some (.cells (ag p.2) 5 false)) (hd:3<y∧K.contains y=true) (li:3<z∧K.contains z=true) (bt:y≠z):
  rh o' K [p] [{key:=.int .i64 p.1,val:=.pointer (some ⟨y,0,none⟩),born}]
theorem V8{B:Nat→Prop}{w₀ w:amC}{ρ:Ren}{o':List ai}(h:WR asz B w₀ ρ (cq o') w)(hlen:o'.length≤262144){F:List (Nat×ByteArray)}{eF e':List amW}{K:List Nat}(hF:rh o' K F eF)(he:dD (mn ρ) eF e'):
 ∃LF,fA F e' LF∧(∀p∈LF,eH w p.1 p.2∧∃y,(3<y∧K.contains y=true)∧gA ρ o' p.1 y)∧(LF.map (·.1)).Nodup:=by
 have sm:∀{y o},o'[y]?=some o→cq o' y=some o:=fun{y o} hy=>by
  rw[cA];exact hy
  exact gW.2 (by have:=(amy.1 hy).1;have:(2:Nat)^18=262144:=rfl;omega)
 cases hF with
 |none=>cases he;exact⟨[],.nil,(fun p hp=>by cases hp),.nil⟩
 |empty p y born hy h0 hd=>
  cases he with
  |cons h1 h2=>
   cases h2
   rename_i b
   obtain⟨k1,k2,k3⟩:=h1
   obtain⟨q,hq,hv⟩:=VR.kx k2
   have e1:=k1.jo
   obtain⟨c',h3,h4⟩:=h.xr (sm hy) hq rfl
   obtain⟨v,l',rfl,h5,h6⟩:=h3.gq
   have:=h6.kw;subst this
   have fG:v=.slice none 0 0:=VR.r7 rfl h5
   subst fG
   refine⟨[(q.aJ,.cells [.slice none 0 0] 174 q.sh q.dn)],?_,?_,by simp⟩
   ·cases b with
    |mk key val LB=>
     dsimp only at e1 hv k3
     subst e1 hv k3
     exact .cons p q.aJ (q.sh+0) born [] [] [(q.aJ,.cells [.slice none 0 0] 174 q.sh q.dn)] [] ⟨_,q.dn,[],.inl ⟨h0,rfl,none,rfl⟩,rfl⟩ .nil
   ·intro p hp
    rw[ank]at hp;subst hp
    exact⟨h4,y,hd,gA.row hy hq rfl⟩
 |full p y z born hy hz hd li bt=>
  cases he with
  |cons h1 h2=>
   cases h2
   rename_i b
   obtain⟨k1,k2,k3⟩:=h1
   obtain⟨q,hq,hv⟩:=VR.kx k2
   have e1:=k1.jo
   obtain⟨c',h3,h4⟩:=h.xr (sm hy) hq rfl
   obtain⟨v,l',rfl,h5,h6⟩:=h3.gq
   have:=h6.kw;subst this
   obtain⟨L,r1,r2⟩:=E1 h (sm hz) (by simp) (by rw[mB,Nat.mul_one]) qi (by omega) h5
   refine⟨(q.aJ,.cells [v] 174 q.sh q.dn)::L,?_,?_,?_⟩
   ·cases b with
    |mk key val LB=>
     dsimp only at e1 hv k3
     subst e1 hv k3
     have:=fA.cons p q.aJ (q.sh+0) born [] [] ((q.aJ,.cells [v] 174 q.sh q.dn)::L) [] ⟨v,q.dn,L,r1,rfl⟩ .nil
     rw[anV]at this
     exact this
   ·intro p hp
    rcases amH.1 hp with rfl|hp
    ·exact⟨h4,y,hd,gA.row hy hq rfl⟩
    ·rcases r2 with rfl|⟨s,s1,s2,rfl,s4⟩
     ·cases hp
     ·rw[ank]at hp;subst hp
      exact⟨s4,z,li,gA.row hz s1 s2⟩
   ·rcases r2 with rfl|⟨s,s1,s2,rfl,s4⟩
    ·simp
    ·simp only[ani,aqO,anP,ank,List.not_mem_nil,not_false_eq_true,List.nodup_nil,and_true]
     intro e
     exact bt ((gA.row hy hq rfl).inj h hlen (e▸gA.row hz s1 s2))
theorem uZ{w:amC}{n size:Nat}{c:List amn}{el:amz}{v:amn}{L:List (Nat×CO)}(h:Vm.rowAt n size c el v L)(b9:∀p∈L,eH w p.1 p.2)(hl:c.length=n*size):
 ∃q:bP,q.sz=size∧(Live (.cells c el false) q=true→q.aJ∈L.map (·.1)∧eH w q.aJ (.cells c el q.sh q.dn))∧∀(ρ:Ren) (z:Nat),ρ z=some q→VR ρ (.slice (some ⟨z,0,none⟩) n n) v:=by
 rcases h with⟨rfl,rfl,a,rfl⟩|⟨k,sh,cap,room,rfl,h1,h2,rfl⟩
 ·have:c=[]:=ant (by rw[hl,Nat.zero_mul])
  subst this
  exact⟨⟨0,0,size,0⟩,rfl,(fun h=>by cases h),fun ρ z _=>.dV _ _⟩
 ·refine⟨⟨k,sh,size,room⟩,rfl,fun _=>⟨by simp,b9 _ (ank.2 rfl)⟩,fun ρ z hz=>?_⟩
  exact .sl z 0 n n cap ⟨k,sh,size,room⟩ hz (.inr ⟨h1,by simpa using h2⟩)
theorem z5{B:Nat→Prop}{w w':amC}{ρ:Ren}{o':List ai}{r:bP}{S:Nat→Prop}{L:List (Nat×CO)}(hL:pB w r.aJ S L)(eo:r.sz=5)
 {sc:List (Int×Int)}{A F C:List (Nat×ByteArray)}{eA eF eC:List amW}{LA LM LC L1:List (Nat×CO)}{x1 x2:Nat×CO}(da:L=x1::x2::(L1++(LA++(LM++LC))))(hA:fA A eA LA)(hC:fA C eC LC)
 (h:WR asz B w ρ (cq o') w')(hlen:o'.length≤262144)(h0:ρ 0=some r)(hid:∀k,k∈LA.map (·.1)∨k∈LC.map (·.1)→B k∧w'.heap[k]?=w.heap[k]?){made:Nat}{calls raw:Int}{ck:Nat}
 (o0:o'[0]?=some (.cells [.slice (some ⟨2,0,none⟩) sc.length sc.length,.map (some 3),.int .i64 made,.int .i64 calls,.int .i64 raw] 70 false))
 (o2:o'[2]?=some (.cells (aF sc) 67 false))(oP:(aF sc).all af=true)(E2:(aF sc).length=sc.length*2)
 (o3:o'[3]?=some (.map (bU eA++(eF++bU eC)) ck)){K:List Nat}(hF:rh o' K F eF)(V9:K.contains 2=true)(Wa:K.contains 3=true):
 ∃S',nE w' r ⟨sc,A++(F++C),made,calls,raw⟩ S'∧∀k,S' k→(k∈LA.map (·.1)∨k∈LC.map (·.1))∨∃y,(y=0∨K.contains y=true)∧gA ρ o' k y:=by
 have m0:=(cA (objs:=o') (x:=0) rfl).trans o0
 have m2:=(cA (objs:=o') (x:=2) rfl).trans o2
 have m3:=(cA (objs:=o') (x:=3) rfl).trans o3
 obtain⟨c',h1,h2⟩:=h.xr m0 h0 rfl
 obtain⟨v,l,rfl,hv,bx⟩:=h1.gq
 obtain⟨vm,l,rfl,E3,bg⟩:=bx.gq
 obtain⟨q3,ri,rfl⟩:=E3.pE
 have:=LR.plain (by rfl) bg
 subst this
 obtain⟨sY,r1,r2⟩:=E1 h m2 oP E2 pd (by omega) hv
 obtain⟨es,h3,h4⟩:=h.Lu m3 ri
 obtain⟨bA,b',rfl,g1,g2⟩:=dD.E0 h3
 obtain⟨bF,bC,rfl,g3,g4⟩:=dD.E0 g2
 have:=Lz hA g1
 subst this
 have:=Lz hC g4
 subst this
 obtain⟨LF,f1,f2,f3⟩:=V8 h hlen hF g3
 let L':List (Nat×CO):=(r.aJ,.cells [v,.map (some q3.aJ),.int .i64 made,.int .i64 calls,.int .i64 raw] 70 r.sh r.dn)::(q3.aJ,.map (bA++(bF++bC)) ck)::(sY++(LA++(LF++LC)))
 have jl:gA ρ o' r.aJ 0:=gA.row o0 h0 rfl
 have pe:gA ρ o' q3.aJ 3:=⟨_,q3,o3,ri,rfl,rfl,rfl⟩
 have lk:∀k∈sY.map (·.1),gA ρ o' k 2:=fun k hk=>by
  rcases r2 with rfl|⟨q,a,b,rfl,c⟩
  ·cases hk
  ·simp only[ani,aqO,ank]at hk;subst hk;exact gA.row o2 a b
 have u0:∀k∈LF.map (·.1),∃y,(3<y∧K.contains y=true)∧gA ρ o' k y:=fun k hk=>by
  obtain⟨p,hp,rfl⟩:=aoq.1 hk
  exact(f2 p hp).2
 have rj:∀k,k∈LA.map (·.1)∨k∈LC.map (·.1)→∀y,gA ρ o' k y→False:=fun k hk y hy=>hy.V7 h hlen (hid k hk).1
 have E4:=hL.gp
 rw[da]at E4
 simp only[ani,anh,anP]at E4
 have ka:=(ans.1 E4.2.2).2.1
 obtain⟨nA,lH,dA⟩:=ans.1 ka
 obtain⟨_,nC,_⟩:=ans.1 lH
 have Wb:∀a∈LA.map (·.1),∀b∈LC.map (·.1),a≠b:=fun a ha b hb=>dA a ha b (anu _ hb)
 have nd:(L'.map (·.1)).Nodup:=by
  simp only[L',ani,anh,anP,amH,amU,not_or]
  refine⟨⟨?_,?_,?_,?_,?_⟩,⟨?_,?_,?_,?_⟩,?_⟩
  ·intro e;have:=jl.inj h hlen (e▸pe);omega
  ·intro hk;have:=jl.inj h hlen (lk _ hk);omega
  ·intro hk;exact rj _ (.inl hk) 0 jl
  ·intro hk;obtain⟨y,⟨hy,_⟩,j4⟩:=u0 _ hk;have:=jl.inj h hlen j4;omega
  ·intro hk;exact rj _ (.inr hk) 0 jl
  ·intro hk;have:=pe.inj h hlen (lk _ hk);omega
  ·intro hk;exact rj _ (.inl hk) 3 pe
  ·intro hk;obtain⟨y,⟨hy,_⟩,j4⟩:=u0 _ hk;have:=pe.inj h hlen j4;omega
  ·intro hk;exact rj _ (.inr hk) 3 pe
  ·refine ans.2 ⟨?_,ans.2 ⟨nA,ans.2 ⟨f3,nC,?_⟩,?_⟩,?_⟩
   ·rcases r2 with rfl|⟨q,a,b,rfl,c⟩<;>simp
   ·intro a ha b hb e;subst e;obtain⟨y,_,hy⟩:=u0 _ ha;exact rj _ (.inr hb) y hy
   ·intro a ha b hb e
    subst e
    rcases amU.1 hb with hb|hb
    ·obtain⟨y,_,hy⟩:=u0 _ hb;exact rj _ (.inl ha) y hy
    ·exact Wb _ ha _ hb rfl
   ·intro a ha b hb e
    subst e
    rcases amU.1 hb with hb|hb
    ·exact rj _ (.inl hb) 2 (lk _ ha)
    ·rcases amU.1 hb with hb|hb
     ·obtain⟨y,⟨hy,_⟩,j4⟩:=u0 _ hb;have:=(lk _ ha).inj h hlen j4;omega
     ·exact rj _ (.inr hb) 2 (lk _ ha)
 refine⟨fun k=>k∈L'.map (·.1),⟨L',⟨eo,v,q3.aJ,_,ck,sY,LA++(LF++LC),r1,Ly hA (Ly f1 hC),rfl⟩,⟨?_,nd,amN,fun k=>Iff.rfl⟩⟩,?_⟩
 ·intro p hp
  rcases amH.1 hp with rfl|hp
  ·exact h2
  rcases amH.1 hp with rfl|hp
  ·exact h4
  rcases amU.1 hp with hp|hp
  ·rcases r2 with rfl|⟨q,a,b,rfl,c⟩
   ·cases hp
   ·rw[ank]at hp;subst hp;exact c
  have old:∀p∈LA++LC,eH w' p.1 p.2:=fun p hp=>by
   refine(hL.at_ p ?_).frame (hid p.1 ?_).2
   ·rw[da]
    refine amK _ (amK _ (anu _ ?_))
    rcases amU.1 hp with hp|hp
    ·exact anR _ hp
    ·exact anu _ (anu _ hp)
   ·rcases amU.1 hp with hp|hp
    ·exact .inl (aoL hp)
    ·exact .inr (aoL hp)
  rcases amU.1 hp with hp|hp
  ·exact old p (anR _ hp)
  rcases amU.1 hp with hp|hp
  ·exact(f2 p hp).1
  ·exact old p (anu _ hp)
 ·intro k hk
  have hk:k∈L'.map (·.1):=hk
  simp only[L',ani,anh,amH,amU]at hk
  rcases hk with rfl|rfl|hk|hk|hk|hk
  ·exact .inr ⟨0,.inl rfl,jl⟩
  ·exact .inr ⟨3,.inr Wa,pe⟩
  ·exact .inr ⟨2,.inr V9,lk k hk⟩
  ·exact .inl (.inl hk)
  ·obtain⟨y,hy,j4⟩:=u0 k hk;exact .inr ⟨y,.inr hy.2,j4⟩
  ·exact .inl (.inr hk)
theorem Wc{B:Nat→Prop}{w₀ w':amC}{ρ:Ren}{o':List ai}{sc:List (Int×Int)}(h:WR asz B w₀ ρ (cq o') w')(hlen:o'.length≤262144)
 (o1:o'[1]?=some (.cells [.slice (some ⟨2,0,none⟩) sc.length sc.length,.map (some 3),.int .i64 0,.int .i64 0,.int .i64 0] 70 false))
 (o2:o'[2]?=some (.cells (aF sc) 67 false))(oP:(aF sc).all af=true)(E2:(aF sc).length=sc.length*2)(o3:o'[3]?=some (.map [] 0)):
 ∃r S,ρ 1=some r∧nE w' r ⟨sc,[],0,0,0⟩ S∧∀k,S k→∃y,(y=1∨y=2∨y=3)∧gA ρ o' k y:=by
 have m1:=(cA (objs:=o') (x:=1) rfl).trans o1
 have m2:=(cA (objs:=o') (x:=2) rfl).trans o2
 have m3:=(cA (objs:=o') (x:=3) rfl).trans o3
 obtain⟨r,hr⟩:=h.named 1 _ m1 (by intro e;cases e)
 obtain⟨c',h1,h2⟩:=h.xr m1 hr rfl
 obtain⟨oo,_,Wd,_⟩:=h.live 1 _ r m1 hr rfl
 have cc:r.sz=5:=Wd.wo _ xw
 obtain⟨v,l,rfl,hv,bx⟩:=h1.gq
 obtain⟨vm,l,rfl,E3,bg⟩:=bx.gq
 obtain⟨q3,ri,rfl⟩:=E3.pE
 have:=LR.plain (by rfl) bg
 subst this
 obtain⟨sY,r1,r2⟩:=E1 h m2 oP E2 pd (by omega) hv
 obtain⟨es,h3,h4⟩:=h.Lu m3 ri
 cases h3
 let L':List (Nat×CO):=(r.aJ,.cells [v,.map (some q3.aJ),.int .i64 0,.int .i64 0,.int .i64 0] 70 r.sh r.dn)::(q3.aJ,.map [] 0)::(sY++[])
 have jl:gA ρ o' r.aJ 1:=gA.row o1 hr rfl
 have pe:gA ρ o' q3.aJ 3:=⟨_,q3,o3,ri,rfl,rfl,rfl⟩
 have lk:∀k∈sY.map (·.1),gA ρ o' k 2:=fun k hk=>by
  rcases r2 with rfl|⟨q,a,b,rfl,c⟩
  ·cases hk
  ·simp only[ani,aqO,ank]at hk;subst hk;exact gA.row o2 a b
 have nd:(L'.map (·.1)).Nodup:=by
  simp only[L',anV,ani,anP,amH,not_or]
  refine⟨⟨?_,?_⟩,?_,?_⟩
  ·intro e;have:=jl.inj h hlen (e▸pe);omega
  ·intro hk;have:=jl.inj h hlen (lk _ hk);omega
  ·intro hk;have:=pe.inj h hlen (lk _ hk);omega
  ·rcases r2 with rfl|⟨q,a,b,rfl,c⟩<;>simp
 refine⟨r,fun k=>k∈L'.map (·.1),hr,⟨L',⟨cc,v,q3.aJ,[],0,sY,[],r1,.nil,rfl⟩,⟨?_,nd,amN,fun k=>Iff.rfl⟩⟩,?_⟩
 ·intro p hp
  rcases amH.1 hp with rfl|hp
  ·exact h2
  rcases amH.1 hp with rfl|hp
  ·exact h4
  rw[anV]at hp
  rcases r2 with rfl|⟨q,a,b,rfl,c⟩
  ·cases hp
  ·rw[ank]at hp;subst hp;exact c
 ·intro k hk
  have hk:k∈L'.map (·.1):=hk
  simp only[L',anV,ani,amH]at hk
  rcases hk with rfl|rfl|hk
  ·exact⟨1,.inl rfl,jl⟩
  ·exact⟨3,.inr (.inr rfl),pe⟩
  ·exact⟨2,.inr (.inl rfl),lk k hk⟩
end Go.Proofs.Ytnlkkgpcikkpoaa
namespace Go.Proofs.Ytnlkkgpcikkpoaa
noncomputable section
open Go Vm Go.RowKit
set_option maxRecDepth 100000
noncomputable def rk:List am3:=ba (dy asz 114)
abbrev sZ:=fun(sc:List (Int×Int)) x0 es (ck nb:Nat) f5 (dm dc dr:Int)=>([ab ([ah 2 (mM sc),.map (some 3),aa dm,aa dc,aa dr]) 70,ab x0 5,ab (aF sc) 67,.map es ck,ab [ah 5 nb] 174,ab f5 5,ab [an 0] 33]:List ai)
abbrev We:=fun(sc:List (Int×Int)) x0 es (ck nb:Nat) f5 (dm dc dr:Int)=>(⟨[(0,ah 2 (mM sc)),(1,.func (.func 115) #[] #[an 6]),(7,aa (mM sc)),(8,aa 0)],sZ sc x0 es ck nb f5 dm dc dr⟩:aj)
theorem Wg(sc:List (Int×Int))(x0 es)(ck nb:Nat)(f5)(dm dc dr:Int){Q:aV}(aW:amq x0 af=true)(be:amq (aF sc) af=true)(bB:amq (bu [0,1,2,3,4,5,6] es) af=true)(br:amq f5 af=true)(l4:al anm 19 7 (rk.drop 2) (We sc x0 es ck nb f5 dm dc dr) Q):al anm 19 7 rk ⟨[(0,ah 2 (mM sc)),(1,.func (.func 115) #[] #[an 6])],[ab [ah 2 (mM sc),.map (some 3),aa dm,aa dc,aa dr] 70,ab x0 5,ab (aF sc) 67,.map es ck,ab [ah 5 nb] 174,ab f5 5,ab [an 0] 33]⟩ Q:=
 aZ bo 2 (.leaf [0,1,7,8] [0,1,2,3,4,5,6] [1,2,3,5]) (fun u=>by kernel_rfl) (Tree.aU aW (Tree.aU be (Tree.aU bB (Tree.aU br (Tree.fw (l4))))))
abbrev LD:=fun(sc:List (Int×Int)) x0 es (ck nb:Nat) f5 (dm dc dr j:Int)=>(⟨[(4,aa j)],sZ sc x0 es ck nb f5 dm dc dr⟩:aj)
theorem Wh(sc:List (Int×Int))(x0 es)(ck nb:Nat)(f5)(dm dc dr j:Int){Q:bk}(aW:amq x0 af=true)(be:amq (aF sc) af=true)(cj:amq (bu [0,1,2,3,4,5,6] es) af=true)(br:amq f5 af=true)(hq:Q (.ret (aa j)) (sZ sc x0 es ck nb f5 dm dc dr)):aH anm 114 19 7 Q .ret (LD sc x0 es ck nb f5 dm dc dr j):=aH.ret (vs:=[aa j]) (l:=[]) (bs:=[0,1,2,3,4,5,6]) (pl:=[1,2,3,5]) (q:=[x0,aF sc,bu [0,1,2,3,4,5,6] es,f5]) (fun u=>by kernel_rfl) (by kernel_rfl) (aE aW (aE be (aE cj (aE br bd)))) hq
abbrev LG:=fun(sc:List (Int×Int)) x0 es (ck nb:Nat) f5 (dm dc dr j:Int)=>(⟨[(0,ah 2 (mM sc)),(1,.func (.func 115) #[] #[an 6]),(7,aa (mM sc)),(8,.int .i64 (aml amA (j+1)))],sZ sc x0 es ck nb f5 dm dc dr⟩:aj)
abbrev Wi:=fun(sc:List (Int×Int)) x0 es (ck nb:Nat) f5 (dm dc dr j:Int)=>(⟨[],sZ sc x0 es ck nb f5 dm dc dr⟩:aj)
theorem Wj(sc:List (Int×Int))(x0 es)(ck nb:Nat)(f5)(dm dc dr j:Int)(h0:0≤j){Q:aV}(n0:(decide (j<(↑(mM sc):Int)))=true→(amO (0+amm j*2+2) (mM (aF sc)))=true)(n1:(decide (j<(↑(mM sc):Int)))=true→(cy amA (aF sc) (0+amm j*2))=true)(n2:(decide (j<(↑(mM sc):Int)))=true→(cy amA (aF sc) (0+amm j*2+1))=true)(aW:amq x0 af=true)(be:amq (aF sc) af=true)(bB:amq (bu [0,1,2,3,4,5,6] es) af=true)(br:amq f5 af=true)(l7:(decide (j<(↑(mM sc):Int)))=true→(au (aF sc) (0+amm j*2)==dc)=true→Q .ret (LD sc x0 es ck nb f5 dm dc dr j))(l8:(decide (j<(↑(mM sc):Int)))=true→(au (aF sc) (0+amm j*2)==dc)=false→Q .normal (LG sc x0 es ck nb f5 dm dc dr j))(l9:(decide (j<(↑(mM sc):Int)))=false→Q (.exit 0) (Wi sc x0 es ck nb f5 dm dc dr j)):al anm 19 7 (ba (inner (ba (inner (rk.drop 2))))) ⟨[(0,ah 2 (mM sc)),(1,.func (.func 115) #[] #[an 6]),(7,aa (mM sc)),(8,aa j)],[ab [ah 2 (mM sc),.map (some 3),aa dm,aa dc,aa dr] 70,ab x0 5,ab (aF sc) 67,.map es ck,ab [ah 5 nb] 174,ab f5 5,ab [an 0] 33]⟩ Q:=
 aZ bo 1000 (.fork 0 (av [0,1,1,0,1,1,1] (.fork 4 (.leaf [4] [0,1,2,3,4,5,6] [1,2,3,5]) (.leaf [0,1,7,8] [0,1,2,3,4,5,6] [1,2,3,5]))) (.leaf [] [0,1,2,3,4,5,6] [1,2,3,5])) (fun u=>by kernel_rfl) (Tree.dh (c:=decide (j<(↑(mM sc):Int))) (fun h0=>(Tree.aU (decide_eq_true (by omega):(decide (0≤j))=true) (Tree.aU (show(amG (amm j) (mM sc))=true by simp at h0 h0⊢ <;>omega) (Tree.aU (n0 h0) (Tree.aU (n1 h0) (Tree.aU (n2 h0) (Tree.dh (c:=au (aF sc) (0+amm j*2)==dc) (fun h1=>(Tree.aU aW (Tree.aU be (Tree.aU bB (Tree.aU br (Tree.dz (l7 h0 h1))))))) (fun h1=>(Tree.aU aW (Tree.aU be (Tree.aU bB (Tree.aU br (Tree.fw (al.done (by kernel_rfl) (l8 h0 h1))))))))))))))) (fun h0=>(Tree.aU aW (Tree.aU be (Tree.aU bB (Tree.aU br (Tree.fI 0 (l9 h0))))))))
abbrev LH:=fun(sc:List (Int×Int)) x0 es (ck nb:Nat) f5 (dm dc dr:Int)=>(⟨[(4,aa (-1))],sZ sc x0 es ck nb f5 dm dc dr⟩:aj)
theorem Wk(sc:List (Int×Int))(x0 es)(ck nb:Nat)(f5)(dm dc dr:Int){Q:bk}(aW:amq x0 af=true)(be:amq (aF sc) af=true)(cj:amq (bu [0,1,2,3,4,5,6] es) af=true)(br:amq f5 af=true)(hq:Q (.ret (aa (-1))) (sZ sc x0 es ck nb f5 dm dc dr)):aH anm 114 19 7 Q .ret (LH sc x0 es ck nb f5 dm dc dr):=aH.ret (vs:=[aa (-1)]) (l:=[]) (bs:=[0,1,2,3,4,5,6]) (pl:=[1,2,3,5]) (q:=[x0,aF sc,bu [0,1,2,3,4,5,6] es,f5]) (fun u=>by kernel_rfl) (by kernel_rfl) (aE aW (aE be (aE cj (aE br bd)))) hq
theorem Wl(sc:List (Int×Int))(x0 es)(ck nb:Nat)(f5)(dm dc dr:Int){Q:aV}(aW:amq x0 af=true)(be:amq (aF sc) af=true)(bB:amq (bu [0,1,2,3,4,5,6] es) af=true)(br:amq f5 af=true)(l4:Q .ret (LH sc x0 es ck nb f5 dm dc dr)):al anm 19 7 (rk.drop 3) ⟨[],[ab [ah 2 (mM sc),.map (some 3),aa dm,aa dc,aa dr] 70,ab x0 5,ab (aF sc) 67,.map es ck,ab [ah 5 nb] 174,ab f5 5,ab [an 0] 33]⟩ Q:=
 aZ bo 1000 (.leaf [4] [0,1,2,3,4,5,6] [1,2,3,5]) (fun u=>by kernel_rfl) (Tree.aU aW (Tree.aU be (Tree.aU bB (Tree.aU br (Tree.dz (l4))))))
abbrev ta:=fun(sc:List (Int×Int)) x0 es (ck:Nat) f5 (dm dc dr:Int)=>([ab ([ah 2 (mM sc),.map (some 3),aa dm,aa dc,aa dr]) 70,ab x0 5,ab (aF sc) 67,.map es ck,ab [] 174,ab f5 5,ab [an 0] 33]:List ai)
abbrev Wn:=fun(sc:List (Int×Int)) x0 es (ck nb:Nat) f5 (dm dc dr:Int)=>(⟨[(0,ah 2 (mM sc)),(1,.func (.func 115) #[] #[an 6]),(7,aa (mM sc)),(8,aa 0)],ta sc x0 es ck f5 dm dc dr⟩:aj)
theorem Wo(sc:List (Int×Int))(x0 es)(ck nb:Nat)(f5)(dm dc dr:Int){Q:aV}(aW:amq x0 af=true)(be:amq (aF sc) af=true)(bB:amq (bu [0,1,2,3,4,5,6] es) af=true)(br:amq f5 af=true)(l4:al anm 19 7 (rk.drop 2) (Wn sc x0 es ck nb f5 dm dc dr) Q):al anm 19 7 rk ⟨[(0,ah 2 (mM sc)),(1,.func (.func 115) #[] #[an 6])],[ab [ah 2 (mM sc),.map (some 3),aa dm,aa dc,aa dr] 70,ab x0 5,ab (aF sc) 67,.map es ck,ab [] 174,ab f5 5,ab [an 0] 33]⟩ Q:=
 aZ bo 2 (.leaf [0,1,7,8] [0,1,2,3,4,5,6] [1,2,3,5]) (fun u=>by kernel_rfl) (Tree.aU aW (Tree.aU be (Tree.aU bB (Tree.aU br (Tree.fw (l4))))))
abbrev LI:=fun(sc:List (Int×Int)) x0 es (ck nb:Nat) f5 (dm dc dr j:Int)=>(⟨[(4,aa j)],ta sc x0 es ck f5 dm dc dr⟩:aj)
theorem Wp(sc:List (Int×Int))(x0 es)(ck nb:Nat)(f5)(dm dc dr j:Int){Q:bk}(aW:amq x0 af=true)(be:amq (aF sc) af=true)(cj:amq (bu [0,1,2,3,4,5,6] es) af=true)(br:amq f5 af=true)(hq:Q (.ret (aa j)) (ta sc x0 es ck f5 dm dc dr)):aH anm 114 19 7 Q .ret (LI sc x0 es ck nb f5 dm dc dr j):=aH.ret (vs:=[aa j]) (l:=[]) (bs:=[0,1,2,3,4,5,6]) (pl:=[1,2,3,5]) (q:=[x0,aF sc,bu [0,1,2,3,4,5,6] es,f5]) (fun u=>by kernel_rfl) (by kernel_rfl) (aE aW (aE be (aE cj (aE br bd)))) hq
abbrev LJ:=fun(sc:List (Int×Int)) x0 es (ck nb:Nat) f5 (dm dc dr j:Int)=>(⟨[(0,ah 2 (mM sc)),(1,.func (.func 115) #[] #[an 6]),(7,aa (mM sc)),(8,.int .i64 (aml amA (j+1)))],ta sc x0 es ck f5 dm dc dr⟩:aj)
abbrev Wq:=fun(sc:List (Int×Int)) x0 es (ck nb:Nat) f5 (dm dc dr j:Int)=>(⟨[],ta sc x0 es ck f5 dm dc dr⟩:aj)
theorem Wr(sc:List (Int×Int))(x0 es)(ck nb:Nat)(f5)(dm dc dr j:Int)(h0:0≤j){Q:aV}(n0:(decide (j<(↑(mM sc):Int)))=true→(amO (0+amm j*2+2) (mM (aF sc)))=true)(n1:(decide (j<(↑(mM sc):Int)))=true→(cy amA (aF sc) (0+amm j*2))=true)(n2:(decide (j<(↑(mM sc):Int)))=true→(cy amA (aF sc) (0+amm j*2+1))=true)(aW:amq x0 af=true)(be:amq (aF sc) af=true)(bB:amq (bu [0,1,2,3,4,5,6] es) af=true)(br:amq f5 af=true)(l7:(decide (j<(↑(mM sc):Int)))=true→(au (aF sc) (0+amm j*2)==dc)=true→Q .ret (LI sc x0 es ck nb f5 dm dc dr j))(l8:(decide (j<(↑(mM sc):Int)))=true→(au (aF sc) (0+amm j*2)==dc)=false→Q .normal (LJ sc x0 es ck nb f5 dm dc dr j))(l9:(decide (j<(↑(mM sc):Int)))=false→Q (.exit 0) (Wq sc x0 es ck nb f5 dm dc dr j)):al anm 19 7 (ba (inner (ba (inner (rk.drop 2))))) ⟨[(0,ah 2 (mM sc)),(1,.func (.func 115) #[] #[an 6]),(7,aa (mM sc)),(8,aa j)],[ab [ah 2 (mM sc),.map (some 3),aa dm,aa dc,aa dr] 70,ab x0 5,ab (aF sc) 67,.map es ck,ab [] 174,ab f5 5,ab [an 0] 33]⟩ Q:=
 aZ bo 1000 (.fork 0 (av [0,1,1,0,1,1,1] (.fork 4 (.leaf [4] [0,1,2,3,4,5,6] [1,2,3,5]) (.leaf [0,1,7,8] [0,1,2,3,4,5,6] [1,2,3,5]))) (.leaf [] [0,1,2,3,4,5,6] [1,2,3,5])) (fun u=>by kernel_rfl) (Tree.dh (c:=decide (j<(↑(mM sc):Int))) (fun h0=>(Tree.aU (decide_eq_true (by omega):(decide (0≤j))=true) (Tree.aU (show(amG (amm j) (mM sc))=true by simp at h0 h0⊢ <;>omega) (Tree.aU (n0 h0) (Tree.aU (n1 h0) (Tree.aU (n2 h0) (Tree.dh (c:=au (aF sc) (0+amm j*2)==dc) (fun h1=>(Tree.aU aW (Tree.aU be (Tree.aU bB (Tree.aU br (Tree.dz (l7 h0 h1))))))) (fun h1=>(Tree.aU aW (Tree.aU be (Tree.aU bB (Tree.aU br (Tree.fw (al.done (by kernel_rfl) (l8 h0 h1))))))))))))))) (fun h0=>(Tree.aU aW (Tree.aU be (Tree.aU bB (Tree.aU br (Tree.fI 0 (l9 h0))))))))
abbrev LK:=fun(sc:List (Int×Int)) x0 es (ck nb:Nat) f5 (dm dc dr:Int)=>(⟨[(4,aa (-1))],ta sc x0 es ck f5 dm dc dr⟩:aj)
theorem Wt(sc:List (Int×Int))(x0 es)(ck nb:Nat)(f5)(dm dc dr:Int){Q:bk}(aW:amq x0 af=true)(be:amq (aF sc) af=true)(cj:amq (bu [0,1,2,3,4,5,6] es) af=true)(br:amq f5 af=true)(hq:Q (.ret (aa (-1))) (ta sc x0 es ck f5 dm dc dr)):aH anm 114 19 7 Q .ret (LK sc x0 es ck nb f5 dm dc dr):=aH.ret (vs:=[aa (-1)]) (l:=[]) (bs:=[0,1,2,3,4,5,6]) (pl:=[1,2,3,5]) (q:=[x0,aF sc,bu [0,1,2,3,4,5,6] es,f5]) (fun u=>by kernel_rfl) (by kernel_rfl) (aE aW (aE be (aE cj (aE br bd)))) hq
theorem Wu(sc:List (Int×Int))(x0 es)(ck nb:Nat)(f5)(dm dc dr:Int){Q:aV}(aW:amq x0 af=true)(be:amq (aF sc) af=true)(bB:amq (bu [0,1,2,3,4,5,6] es) af=true)(br:amq f5 af=true)(l4:Q .ret (LK sc x0 es ck nb f5 dm dc dr)):al anm 19 7 (rk.drop 3) ⟨[],[ab [ah 2 (mM sc),.map (some 3),aa dm,aa dc,aa dr] 70,ab x0 5,ab (aF sc) 67,.map es ck,ab [] 174,ab f5 5,ab [an 0] 33]⟩ Q:=
 aZ bo 1000 (.leaf [4] [0,1,2,3,4,5,6] [1,2,3,5]) (fun u=>by kernel_rfl) (Tree.aU aW (Tree.aU be (Tree.aU bB (Tree.aU br (Tree.dz (l4))))))
end
end Go.Proofs.Ytnlkkgpcikkpoaa
