/- Part of the proof: Zok, Zps, Zpt, Zpu, Zpw, Zpv, Zpx, Zpy, Zqa, Zqb, Zqc, Zqd, Zqe, Zqf, Zqg, Zqh, Zqi, Zqj, Zqk. -/
import Derived.Test.YtnlkkgpcikkpoaaGreatJAg
import Derived.KernelRfl
open Array renaming toList→app
open ByteArray renaming data→aph,data_extract→arV,empty→aoZ,mk→apB,size→aoT
open Decidable renaming not_not→aqD
open Go renaming Code→apw,FuncId→apr,Value→aoP
open Go.Addr renaming mk→asq
open Go.IntKind renaming i64→ao2,u8→apb,wrap→aoN
open Go.Proofs.Tryz renaming prog→aoL
open Go.Value renaming int→aoW,oneCell'→apR,pointer→apZ
open Int renaming tmod→aqj,tmod_lt_of_pos→asi,toNat→aoO
open List renaming all→aoS,drop_drop→ap2,drop_eq_getElem_cons→aqF,drop_of_length_le→aqq,drop_zero→as9,eq_nil_of_length_eq_zero→apL,getD_eq_getElem?_getD→aqB,getElem?_eq_getElem→aoV,length→aoM,length_append→ao5,length_cons→apC,length_set→aql,map→apv,mem_append→apo,mem_cons→ao8,mem_cons_of_mem→apc,mem_cons_self→ape,mem_singleton→apP,nil_append→aqw,take→apd,take_length→asC,toArray→apJ
open Nat renaming add_assoc→aqP,beq→ao6,beq_refl→apY,ble→apf,blt→ao9,le_refl→apn,mul_one→arh,zero_le→apN
open Option renaming bind→apO,getD→apg,isSome→arQ
open Option.some renaming inj→asc
open UInt8 renaming toNat→apt
set_option linter.unusedVariables false
set_option linter.unusedSimpArgs false
set_option maxRecDepth 100000
namespace Go.Proofs.YtnlkkgpcikkpoaaGreat
open Go Vm Go.RowKit
theorem agO{b:ByteArray}{i:Nat}(h:i<b.size):∃x,b.data.toList[i]?=some x∧ay (af b) (0+aoO (i:Int)*1)=(x.toNat:Int)∧cH .u8 (af b) (0+aoO (i:Int)*1)=true∧b.data.toList.drop i=x::b.data.toList.drop (i+1):=by
 have hl:i<b.data.toList.length:=by simpa using h
 refine⟨b.data.toList[i],aoV hl,?_,?_,aqF hl⟩
 ·rw[show 0+aoO (i:Int)*1=i by simp,MD h];rfl
 ·rw[show 0+aoO (i:Int)*1=i by simp];exact ME h
theorem Ix(x:UInt8):((x.toNat:Int)==10)=true↔x=10:=by
 rw[beq_iff_eq]
 constructor
 ·intro h
  apply UInt8.toNat_inj.1
  show x.toNat=10
  omega
 ·intro h;subst h;rfl
def Cj(L:List ByteArray)(R:List Int)(H:List aq)(d:au)(b:ByteArray)(s:Nat×ad×List ByteArray):ai:=
 ⟨[(0,.pointer (some ⟨0,3,none⟩)),(6,.slice (some ⟨6,0,none⟩) s.2.2.length s.2.2.length),(17,.slice (some ⟨5,0,none⟩) b.size b.size),(18,.int .i64 (b.size:Int)),(19,iZ s.1)],aO s.2.1 L R H d++[.cells (af b) 5 false,.cells (ao s.2.2) 9 false]⟩
structure agP(b:ByteArray)(S0:ad)(s:Nat×ad×List ByteArray):Prop where
 i:s.1≤b.size
 e:dS (b.data.toList.drop s.1) s.2.1 s.2.2=dS b.data.toList S0 []
 ok:jD s.2.1
 bW:s.2.2.length≤s.1
theorem agQ(S:ad)(L:List ByteArray)(R:List Int)(H:List aq)(d:au)(b:ByteArray)(hS:jD S)(hf:S.failed=false)(hb:b.size≤100000):
 aI aoL 46 [.pointer (some ⟨0,3,none⟩),.slice (some ⟨5,0,none⟩) b.size b.size] (aO S L R H d++[.cells (af b) 5 false]) fun r q=>
  r=.ret (.tuple #[.slice (some ⟨6,0,none⟩) (dS b.data.toList S []).2.2.length (dS b.data.toList S []).2.2.length,.int .i64 (dS b.data.toList S []).1])∧q=aO (dS b.data.toList S []).2.1 L R H d++[.cells (af b) 5 false,.cells (ao (dS b.data.toList S []).2.2) 9 false]:=by
 have pH:=a7 H
 refine aI.cY (n:=cp aoL 46) (by kernel_rfl) ?_
 apply agF S L R H d b pH
 case l4=>intro g;rw[hf]at g;cases g
 case l5=>
  intro _
  refine an.AZ 6 9 (s:=1) PD (by rfl) (by rfl) (by rfl:_=Cj L R H d b (0,S,[])) ?_
  refine an.eO 5 0 (by kernel_rfl) ?_
  refine an.fL (Cj L R H d b) (fun t=>b.size-t.1) (agP b S) (0,S,[]) (by kernel_rfl) ⟨apN _,by simp,hS,apn _⟩ ?_
  rintro⟨i,S1,M⟩ ⟨h1,h2,h3,h4⟩
  dsimp only at h1 h2 h3 h4
  apply agI S1 L R H d b M i pH
  case l6=>
   intro g
   have g:=of_decide_eq_false g
   have cd:b.data.toList.length=b.size:=by simp
   rw[aqq (by omega)]at h2
   have h2:(0,S1,M)=dS b.data.toList S []:=h2
   rw[←h2]
   with_reducible (repeat first|refine QL.ret ?_|refine QL.exit ?_|refine QB.ret ?_|refine QB.cx ?_|refine QB.normal ?_|refine QB.cG (by rfl) ?_)
   apply agN S1 L R H d b M pH
   ·exact agL S1 L R H d b M ⟨rfl,rfl⟩
  case l5=>
   intro g
   have g:=of_decide_eq_true g
   obtain⟨x,x1,x2,x3,x4⟩:=agO (b:=b) (i:=i) (by omega)
   rw[x4]at h2
   have pJ:=h3.n0
   have kJ:=h3.n1
   have Rm:=Ir S1 1 2 3 4 (aoO S1.n-0) (by omega)
   apply agK S1 L R H d b M i pH (by omega) g (by omega) (bL (by omega) (by omega)) pJ kJ (by omega) (bL (by omega) (by omega))
   case aX=>simp
   case bh=>simp
   case bD=>exact pH
   case bx=>simp
   case lj=>simp
   case n0=>exact x3
   case n1=>intro _;rw[Rm];rfl
   case l6=>
    intro gx
    rw[x2,Ix]at gx
    have h2:(if x=10 then dS (b.data.toList.drop (i+1)) {S1 with n:=0} (M++[iU S1])else _)=dS b.data.toList S []:=h2
    rw[if_pos gx]at h2
    refine QL.to (i+1,{S1 with n:=0},M++[iU S1]) ⟨by dsimp only;omega,h2,jD.zero S1,by dsimp only;rw[ao5];show M.length+1≤_;omega⟩ (by dsimp only;omega) ?_
    unfold Rk Cj
    rw[Rm,ff (by omega)]
    show ai.mk _ _=ai.mk _ _
    rw[show(M++[iU S1]).length=M.length+1 by simp]
    unfold iU
    rw[show ao (M++[apB (qZ S1.B S1.n.toNat).toArray])=ao M++[Value.string (apB (qZ S1.B S1.n.toNat).toArray)]by unfold ao;rw[List.map_append];rfl]
    rfl
   case l8=>
    intro gx sI
    rw[x2]at gx
    have gx:¬x=10:=fun h=>by rw[(Ix x).2 h]at gx;cases gx
    have sI:S1.n=64:=by simpa using sI
    have h2:(if x=10 then _ else if S1.n=64 then(20,{S1 with failed:=true,n:=0},M)else _)=dS b.data.toList S []:=h2
    rw[if_neg gx,if_pos sI]at h2
    rw[←h2]
    with_reducible (repeat first|refine QL.ret ?_|refine QL.exit ?_|refine QB.ret ?_|refine QB.cx ?_|refine QB.normal ?_|refine QB.cG (by rfl) ?_)
    exact agJ S1 L R H d b M i ⟨rfl,rfl⟩
   case l9=>
    intro gx sI
    rw[x2]at gx
    have gx:¬x=10:=fun h=>by rw[(Ix x).2 h]at gx;cases gx
    have sI:¬S1.n=64:=by simpa using sI
    have h2:(if x=10 then _ else if S1.n=64 then _ else dS (b.data.toList.drop (i+1)) (sH S1 x) M)=dS b.data.toList S []:=h2
    rw[if_neg gx,if_neg sI]at h2
    refine QL.to (i+1,sH S1 x,M) ⟨by dsimp only;omega,h2,h3.add sI x,by dsimp only;omega⟩ (by dsimp only;omega) ?_
    have hB:(fun j=>bif ao6 (3+aoO S1.n*1) (3+j)then ay (af b) (0+aoO (i:Int)*1)else S1.B j)=(sH S1 x).B:=by
     funext j
     unfold sH
     dsimp only
     rw[x2]
     by_cases e:j=S1.n.toNat
     ·subst e
      rw[if_pos rfl,show ao6 (3+aoO S1.n*1) (3+aoO S1.n)=true by rw[arh];exact apY _];rfl
     ·rw[if_neg e,show ao6 (3+aoO S1.n*1) (3+j)=false from Bool.eq_false_iff.2 fun h=>e (by have:=Nat.eq_of_beq_eq_true h;omega)];rfl
    unfold Rl Cj
    rw[hB,ff (by omega),bL (z:=S1.n+1) (by omega) (by omega)]
    rfl
noncomputable section
noncomputable def agR:List (apr×Sum):=[(73,Sum.dp aoL BI)]
theorem agS:dk aoL (dB aoL (dE agR) 50 40):=dI de mixed (dR (.cons Pq .nil)) 50 40
def agT(S:ad)(L:List ByteArray)(R:List Int)(H:List aq)(d:au)(T:ad)(K:List ByteArray)(Rr:List Int)(dd:au)(e:Int)(x:ByteArray):List (apr×Sum):=[(47,Sum.one (fun _ _=>some [0,1,5,6,7,8]) [al 0,ah 5 1] (aO S.z L R H d++[ab (ao [x]) 9]) (.ret (aa e)) (nY (ab (ao [x]) 9) T.z K Rr H dd))]
theorem agU(S:ad)(L:List ByteArray)(R:List Int)(H:List aq)(d:au)(T:ad)(K:List ByteArray)(Rr:List Int)(dd:au)(e:Int)(x:ByteArray)(nZ:aI aoL 47 [al 0,ah 5 1] (aO S.z L R H d++[ab (ao [x]) 9]) fun r q=>r=.ret (aa e)∧q=nY (ab (ao [x]) 9) T.z K Rr H dd):dk aoL (dB aoL (dE (agT S L R H d T K Rr dd e x)) 50 40):=dI de mixed (dR (.cons (bB.one nZ) .nil)) 50 40
def agV(S:ad)(L:List ByteArray)(R:List Int)(H:List aq)(d:au)(T:ad)(K:List ByteArray)(Rr:List Int)(dd:au)(e:Int):List (apr×Sum):=[(70,Sum.one (fun _ _=>some [0,1,5,6,7]) [al 0] (aO S.z L R H d) (.ret (aa e)) (jh T.z K Rr H dd))]
theorem agW(S:ad)(L:List ByteArray)(R:List Int)(H:List aq)(d:au)(T:ad)(K:List ByteArray)(Rr:List Int)(dd:au)(e:Int)(dq:aI aoL 70 [al 0] (aO S.z L R H d) fun r q=>r=.ret (aa e)∧q=jh T.z K Rr H dd):dk aoL (dB aoL (dE (agV S L R H d T K Rr dd e)) 50 40):=dI de mixed (dR (.cons (bB.one dq) .nil)) 50 40
def agX(S:ad)(L:List ByteArray)(R:List Int)(H:List aq)(d:au)(T:ad)(K:List ByteArray)(Rr:List Int)(dd:au)(e:Int):List (apr×Sum):=[(75,Sum.one (fun _ _=>some [0,1,5,6,7]) [al 0] (aO S.z L R H d) (.ret (aa e)) (wx T.z L Rr H dd))]
theorem agY(S:ad)(L:List ByteArray)(R:List Int)(H:List aq)(d:au)(T:ad)(K:List ByteArray)(Rr:List Int)(dd:au)(e:Int)(jI:aI aoL 75 [al 0] (aO S.z L R H d) fun r q=>r=.ret (aa e)∧q=wx T.z L Rr H dd):dk aoL (dB aoL (dE (agX S L R H d T K Rr dd e)) 50 40):=dI de mixed (dR (.cons (bB.one jI) .nil)) 50 40
noncomputable def agZ(S:ad)(L:List ByteArray)(R:List Int)(H:List aq)(d:au)(l:List aq)(dd:au)(e:Int):List (apr×Sum):=[(76,⟨fun _ _=>some [0,1,5,6,7],(yU S.z L R H d 0 S.sn (e,l,dd)).spec⟩)]
theorem ag0(S:ad)(L:List ByteArray)(R:List Int)(H:List aq)(d:au)(l:List aq)(dd:au)(e:Int)(cX:aI aoL 76 [al 0,ah 3 S.sn] (aO S.z L R H d) (pY S.z L R H (e,l,dd))):dk aoL (dB aoL (dE (agZ S L R H d l dd e)) 50 40):=dI de mixed (dR (.cons (agw cX _) .nil)) 50 40
def ag1(S:ad)(L:List ByteArray)(R:List Int)(H:List aq)(d:au)(k:Int)(dd:au)(e:Int):List (apr×Sum):=[(53,Sum.one (fun _ _=>some [0,1,2,3,4]) [al 0,ah 4 S.hn] (aO S L R H d) (.ret (aa k)) (aO S L R H d)),(78,Sum.one (fun _ _=>some [0,1,2,3,4]) [al 0,ah 3 S.sn] (aO S L R H d) (.ret (aa e)) (aO S L R H dd))]
theorem ag2(S:ad)(L:List ByteArray)(R:List Int)(H:List aq)(d:au)(k:Int)(dd:au)(e:Int)(hle:aI aoL 53 [al 0,ah 4 S.hn] (aO S L R H d) fun r q=>r=.ret (aa k)∧q=aO S L R H d)(iv:aI aoL 78 [al 0,ah 3 S.sn] (aO S L R H d) fun r q=>r=.ret (aa e)∧q=aO S L R H dd):dk aoL (dB aoL (dE (ag1 S L R H d k dd e)) 50 40):=dI de mixed (dR (.cons (bB.one hle) (.cons (bB.one iv) .nil))) 50 40
noncomputable def mf:List apw:=bd (dC aoL 50)
noncomputable def ag3:List apw:=bd (dC aoL 51)
open Tree renaming aW→mN,dn→mF,eS→mL,fA→mQ,dD→mR,fK→mE
noncomputable abbrev Iy:List apw:=(bd (inner (bd (inner (mf.drop 9)))))
noncomputable abbrev ag4:List apw:=(bd (pE true (mf.drop 3)))
def Rn:Nat→Bool→Bool→Tree→Tree
 |0,_,_,t=>t
 |n+1,d,b,t=>.cM d b (Rn n d b t)
theorem Iz{R:bj→ai→Prop}{c v:Bool}{t:Tree}(n:Nat)(h1:c=v)(h2:t.ok R):(Rn n c v t).ok R:=by
 induction n with
 |zero=>exact h2
 |succ n ih=>exact⟨h1,ih⟩
abbrev yY:=fun S L R H d=>([ab (aM (ad.z S) 1 5 6 7) 89,.abs d,.dead,.dead,.dead,ab (ao L) 9,ab (ap R) 3,ab (aj H) 114]:List ak)
abbrev ag5:=fun S L R H d=>(⟨[(0,al 0),(3,.string (apB #[])),(17,.bool false)],yY S L R H d⟩:ai)
abbrev Ro:=fun S L R H d=>(⟨[(0,al 0),(3,.string (apB (apJ (apg (apO (cut (aM (ad.mk (ad.at_ S) (ad.more S) (ad.bE S) (ad.B (ad.z S)) 0 (ad.failed S) (ad.aD S) 0 (ad.rn S) (ad.bN S) (ad.sn S) (ad.hn S) (ad.dX S) (ad.raw S) (ad.closed S)) 1 5 6 7) 3 (aoO (ad.n S)-0)) bytesOf) [])))),(17,.bool true)],[ab (aM (ad.mk (ad.at_ S) (ad.more S) (ad.bE S) (ad.B (ad.z S)) 0 (ad.failed S) (ad.aD S) 0 (ad.rn S) (ad.bN S) (ad.sn S) (ad.hn S) (ad.dX S) (ad.raw S) (ad.closed S)) 1 5 6 7) 89,.abs d,.dead,.dead,.dead,ab (ao L) 9,ab (ap R) 3,ab (aj H) 114]⟩:ai)
abbrev yZ:=fun(S:ad) L R H d=>([ab (aM S.z 1 5 6 7) 89,.abs d,.dead,.dead,.dead,ab (ao L) 9,ab (ap R) 3,ab (aj H) 114]:List ak)
abbrev IA:=fun S L R H d=>(⟨[(0,al 0)],yZ S L R H d⟩:ai)
theorem ag6(S:ad)(L R H d)(pH:(aj H).all ag=true)(hL:(aoM L)=S.rn)(hR:(aoM R)=S.sn)(hH:(aoM H)=S.hn)(h0:0≤S.n)(h1:S.n≤64){Q:aY}(l3:(ad.n S==0)=true→an aoL 77 5 (mf.drop 3) (ag5 S L R H d) Q)(n4:(ad.n S==0)=false→(arQ (apO (cut (aM (ad.mk (ad.at_ S) (ad.more S) (ad.bE S) (ad.B (ad.z S)) 0 (ad.failed S) (ad.aD S) 0 (ad.rn S) (ad.bN S) (ad.sn S) (ad.hn S) (ad.dX S) (ad.raw S) (ad.closed S)) 1 5 6 7) 3 (aoO (ad.n S)-0)) bytesOf))=true)(l5:(ad.n S==0)=false→an aoL 77 5 (mf.drop 3) (Ro S L R H d) Q):an aoL 77 5 mf (IA S L R H d) Q:=
 aZ bt 3 (.fork 4 (.leaf [0,3,17] [0,1,2,3,4,5,6,7] [5,6,7]) (aA [4,1,3,0,1] (.leaf [0,3,17] [0,1,2,3,4,5,6,7] [5,6,7]))) (fun u=>by kernel_rfl) (mF (c:=ad.n S==0) (fun h0=>(aL L R H (mQ (l3 h0)))) (fun h0=>(mN (decide_eq_true (by omega):(decide (0≤ad.n S))=true) (mN (show(apf (aoO (ad.n S)) 64)=true by simp at pH hL hR hH h0 h1 h0⊢ <;>omega) (mN (n4 h0) (aL L R H (mQ (l5 h0))))))))
abbrev Ck:=fun H T K Rr dd=>([ab (aM (ad.z T) 1 5 6 7) 89,.abs dd,.dead,.dead,.dead,ab (ao K) 9,ab (ap Rr) 3,ab (aj H) 114]:List ak)
abbrev IB:=fun(S:ad) (L:List ByteArray) (R:List Int) H (d:au) T K Rr dd (e:Int) (x:ByteArray)=>(⟨[(2,aa e)],Ck H T K Rr dd⟩:ai)
theorem ag7(S L R H d T K Rr dd)(e:Int)(x){Q:bo}(aX:aoS (aj H) ag=true)(hq:Q (.ret (aa e)) (IB S L R H d T K Rr dd e x).objs):aJ aoL 50 77 5 Q .ret (IB S L R H d T K Rr dd e x):=aJ.ret (vs:=[aa e]) (l:=[]) (bs:=[0,1,2,3,4,5,6,7]) (pl:=[5,6,7]) (q:=[ao K,ap Rr,aj H]) (fun u=>by kernel_rfl) (by kernel_rfl) (aF (by simp) (aF (by simp) (aF aX bi))) hq
abbrev ag8:=fun(S:ad) (L:List ByteArray) (R:List Int) H (d:au) T K Rr dd (e:Int) (x:ByteArray)=>(⟨[(0,al 0)],Ck H T K Rr dd⟩:ai)
abbrev ag9:=fun S L R H d (T:ad) (K:List ByteArray) (Rr:List Int) (dd:au) (e:Int) x=>(⟨[(0,al 0),(3,.string x)],yZ S L R H d⟩:ai)
theorem aha(S:ad)(L R H d)(T:ad)(K Rr dd)(e:Int)(x)(pH:(aj H).all ag=true)(hL:(aoM L)=S.rn)(hR:(aoM R)=S.sn)(hH:(aoM H)=S.hn)(nZ:aI aoL 47 [al 0,ah 5 1] (aO S.z L R H d++[ab (ao [x]) 9]) fun r q=>r=.ret (aa e)∧q=nY (ab (ao [x]) 9) T.z K Rr H dd){Q:aY}(l2:(e != 0)=true→Q .ret (IB S L R H d T K Rr dd e x))(l3:(e != 0)=false→Q .normal (ag8 S L R H d T K Rr dd e x)):an aoL 77 5 ag4 (ag9 S L R H d T K Rr dd e x) Q:=
 aZ (agU S L R H d T K Rr dd e x nZ) 1000 (aA [3,1,1,3,3,1,1] (.fork 0 (.leaf [2] [0,1,2,3,4,9,10,11] [9,10,11]) (.leaf [0] [0,1,2,3,4,9,10,11] [9,10,11]))) (fun u=>by kernel_rfl) (aL L R H (mN (kM [al 0,ah 5 1] (aO (ad.z S) L R H d++[ab (ao [x]) 9])) (mN (aV K) (mN (aQ Rr) (mN (a7 H) (mF (c:=e != 0) (fun h0=>(mN (aV K) (mN (aQ Rr) (mN (a7 H) (mR (l2 h0)))))) (fun h0=>(mN (aV K) (mN (aQ Rr) (mN (a7 H) (mQ (an.done (by kernel_rfl) (l3 h0)))))))))))))
abbrev Rp:=fun S L R H d=>(⟨[(2,aa 0)],[ab (aM (ad.mk (ad.at_ S) (ad.more S) (ad.bE S) (ad.B (ad.z S)) (ad.n S) (ad.failed S) (ad.aD S) 0 (ad.rn S) (ad.bN S) (ad.sn S) (ad.hn S) true (ad.raw S) (ad.closed S)) 1 5 6 7) 89,.abs d,.dead,.dead,.dead,ab (ao (bK (ba (ad.aD S)) (cZ (ao L)))) 9,ab (ap R) 3,ab (aj H) 114]⟩:ai)
theorem ahb(S L R H d){Q:bo}(aX:aoS (ap R) ag=true)(bh:aoS (aj H) ag=true)(hq:Q (.ret (aa 0)) [ab (aM (ad.mk (ad.at_ S) (ad.more S) (ad.bE S) (ad.B (ad.z S)) (ad.n S) (ad.failed S) (ad.aD S) 0 (ad.rn S) (ad.bN S) (ad.sn S) (ad.hn S) true (ad.raw S) (ad.closed S)) 1 5 6 7) 89,.abs d,.dead,.dead,.dead,ab (ao (bK (ba (ad.aD S)) (cZ (ao L)))) 9,ab (ap R) 3,ab (aj H) 114]):aJ aoL 50 77 5 Q .ret (Rp S L R H d):=aJ.ret (vs:=[aa 0]) (l:=[]) (bs:=[0,1,2,3,4,5,6,7]) (pl:=[5,6,7]) (q:=[ao (bK (ba (ad.aD S)) (cZ (ao L))),ap R,aj H]) (fun u=>by kernel_rfl) (by kernel_rfl) (aF (by simp) (aF aX (aF bh bi))) hq
abbrev ahc:=fun S L R H d=>(⟨[(0,al 0)],[ab (aM (ad.mk (ad.at_ S) (ad.more S) (ad.bE S) (ad.B (ad.z S)) (ad.n S) (ad.failed S) (ad.aD S) 0 (ad.rn S) (ad.bN S) (ad.sn S) (ad.hn S) true (ad.raw S) (ad.closed S)) 1 5 6 7) 89,.abs d,.dead,.dead,.dead,ab (ao L) 9,ab (ap R) 3,ab (aj H) 114]⟩:ai)
theorem ahd(S:ad)(L R H d)(pH:(aj H).all ag=true)(hL:(aoM L)=S.rn)(hR:(aoM R)=S.sn)(hH:(aoM H)=S.hn){Q:aY}(n0:((↑(ad.sn S):Int)==0)=true→(iJ [ab (ao L) 9,ab (aM (ad.mk (ad.at_ S) (ad.more S) (ad.bE S) (ad.B (ad.z S)) (ad.n S) (ad.failed S) (ad.aD S) 0 (ad.rn S) (ad.bN S) (ad.sn S) (ad.hn S) true (ad.raw S) (ad.closed S)) 2 0 3 4) 89,ak.abs d,ab (ap R) 3,ab (aj H) 114] (ad.rn S)&&(ao6 (ad.rn S) (ad.rn S)&&ao6 74 74))=true)(l3:((↑(ad.sn S):Int)==0)=true→Q .ret (Rp S L R H d))(l5:((↑(ad.sn S):Int)==0)=false→an aoL 77 5 ((mf.drop 4).drop 3) (ahc S L R H d) Q):an aoL 77 5 (mf.drop 4) (IA S L R H d) Q:=
 aZ agS 3 (.fork 3 (aA [5,1,1,1,1,1,1] (.leaf [2] [0,1,2,3,4,5,6,7] [5,6,7])) (.leaf [0] [0,1,2,3,4,5,6,7] [5,6,7])) (fun u=>by kernel_rfl) (mF (c:=(↑(ad.sn S):Int)==0) (fun h0=>(aL L R H (mN (n0 h0) (mN (aV (bK (ba (ad.aD S)) (cZ (ao L)))) (mN (aQ R) (mN (a7 H) (mN (aV (bK (ba (ad.aD S)) (cZ (ao L)))) (mN (aQ R) (mN (a7 H) (mR (l3 h0))))))))))) (fun h0=>(aL L R H (mQ (l5 h0)))))
abbrev IC:=fun(S:ad) (L:List ByteArray) (R:List Int) H (d:au) T K Rr dd (e:Int)=>(⟨[(2,aa e)],Ck H T K Rr dd⟩:ai)
theorem ahe(S L R H d T K Rr dd)(e:Int){Q:bo}(aX:aoS (aj H) ag=true)(hq:Q (.ret (aa e)) (IC S L R H d T K Rr dd e).objs):aJ aoL 50 77 5 Q .ret (IC S L R H d T K Rr dd e):=aJ.ret (vs:=[aa e]) (l:=[]) (bs:=[0,1,2,3,4,5,6,7]) (pl:=[5,6,7]) (q:=[ao K,ap Rr,aj H]) (fun u=>by kernel_rfl) (by kernel_rfl) (aF (by simp) (aF (by simp) (aF aX bi))) hq
abbrev ahf:=fun(S:ad) (L:List ByteArray) (R:List Int) H (d:au) T K Rr dd (e:Int)=>(⟨[(0,al 0)],Ck H T K Rr dd⟩:ai)
abbrev ahg:=fun S L R H d (T:ad) (K:List ByteArray) (Rr:List Int) (dd:au) (e:Int)=>(⟨[(0,al 0)],yY S L R H d⟩:ai)
abbrev Rq:=fun S L R H d (T:ad) (K:List ByteArray) (Rr:List Int) (dd:au) (e:Int)=>(⟨[(0,al 0)],yZ S L R H d⟩:ai)
theorem ahh(S:ad)(L R H d)(T:ad)(K Rr dd)(e:Int)(pH:(aj H).all ag=true)(hL:(aoM L)=S.rn)(hR:(aoM R)=S.sn)(hH:(aoM H)=S.hn)(dq:aI aoL 70 [al 0] (aO S.z L R H d) fun r q=>r=.ret (aa e)∧q=jh T.z K Rr H dd){Q:aY}(l2:(decide ((↑(ad.rn S):Int)>0))=true→(e != 0)=true→Q .ret (IC S L R H d T K Rr dd e))(l3:(decide ((↑(ad.rn S):Int)>0))=true→(e != 0)=false→an aoL 77 5 ((mf.drop 7).drop 2) (ahf S L R H d T K Rr dd e) Q)(l6:(decide ((↑(ad.rn S):Int)>0))=false→an aoL 77 5 ((mf.drop 7).drop 2) (ahg S L R H d T K Rr dd e) Q):an aoL 77 5 (mf.drop 7) (Rq S L R H d T K Rr dd e) Q:=
 aZ (agW S L R H d T K Rr dd e dq) 2 (.fork 2 (aA [3,1,1,1,1,1,1] (.fork 0 (.leaf [2] [0,1,2,3,4,8,9,10] [8,9,10]) (.leaf [0] [0,1,2,3,4,8,9,10] [8,9,10]))) (.leaf [0] [0,1,2,3,4,5,6,7] [5,6,7])) (fun u=>by kernel_rfl) (mF (c:=decide ((↑(ad.rn S):Int)>0)) (fun h0=>(aL L R H (mN (kM [al 0] (aO (ad.z S) L R H d)) (mN (aV K) (mN (aQ Rr) (mN (a7 H) (mF (c:=e != 0) (fun h1=>(mN (aV K) (mN (aQ Rr) (mN (a7 H) (mR (l2 h0 h1)))))) (fun h1=>(mN (aV K) (mN (aQ Rr) (mN (a7 H) (mQ (l3 h0 h1))))))))))))) (fun h0=>(aL L R H (mQ (l6 h0)))))
abbrev ahi:=fun S L R H d=>(⟨[(0,al 0)],yY S L R H d⟩:ai)
abbrev ahj:=fun S L R H d=>(⟨[(0,al 0)],yY S L R H d⟩:ai)
theorem ahk(S:ad)(L R H d)(pH:(aj H).all ag=true)(hL:(aoM L)=S.rn)(hR:(aoM R)=S.sn)(hH:(aoM H)=S.hn){Q:aY}(l3:(decide ((↑(ad.sn S):Int)>3))=true→an aoL 77 5 (Iy.drop 2) (ahi S L R H d) Q)(l4:(decide ((↑(ad.sn S):Int)>3))=false→Q (.exit 0) (ahj S L R H d)):an aoL 77 5 Iy (IA S L R H d) Q:=
 aZ bt 2 (.fork 2 (.leaf [0] [0,1,2,3,4,5,6,7] [5,6,7]) (.leaf [0] [0,1,2,3,4,5,6,7] [5,6,7])) (fun u=>by kernel_rfl) (mF (c:=decide ((↑(ad.sn S):Int)>3)) (fun h0=>(aL L R H (mQ (l3 h0)))) (fun h0=>(aL L R H (mE 0 (l4 h0)))))
abbrev IE:=fun(S:ad) L (R:List Int) H (d:au) T (K:List ByteArray) Rr dd (e:Int)=>(⟨[(2,aa e)],[ab (aM (ad.z T) 1 5 6 7) 89,.abs dd,.dead,.dead,.dead,ab (ao L) 9,ab (ap Rr) 3,ab (aj H) 114]⟩:ai)
theorem ahl(S L R H d T K Rr dd)(e:Int){Q:bo}(aX:aoS (ao L) ag=true)(bh:aoS (aj H) ag=true)(hq:Q (.ret (aa e)) (IE S L R H d T K Rr dd e).objs):aJ aoL 50 77 5 Q .ret (IE S L R H d T K Rr dd e):=aJ.ret (vs:=[aa e]) (l:=[]) (bs:=[0,1,2,3,4,5,6,7]) (pl:=[5,6,7]) (q:=[ao L,ap Rr,aj H]) (fun u=>by kernel_rfl) (by kernel_rfl) (aF aX (aF (by simp) (aF bh bi))) hq
abbrev ahm:=fun(S:ad) L (R:List Int) H (d:au) T (K:List ByteArray) Rr dd (e:Int)=>(⟨[(0,al 0)],[ab (aM (ad.z T) 1 5 6 7) 89,.abs dd,.dead,.dead,.dead,ab (ao L) 9,ab (ap Rr) 3,ab (aj H) 114]⟩:ai)
theorem Rs(S:ad)(L R H d)(T:ad)(K Rr dd)(e:Int)(pH:(aj H).all ag=true)(hL:(aoM L)=S.rn)(hR:(aoM R)=S.sn)(hH:(aoM H)=S.hn)(jI:aI aoL 75 [al 0] (aO S.z L R H d) fun r q=>r=.ret (aa e)∧q=wx T.z L Rr H dd){Q:aY}(l3:(e != 0)=true→Q .ret (IE S L R H d T K Rr dd e))(l4:(e != 0)=false→Q .normal (ahm S L R H d T K Rr dd e)):an aoL 77 5 (Iy.drop 2) (Rq S L R H d T K Rr dd e) Q:=
 aZ (agY S L R H d T K Rr dd e jI) 1000 (aA [3,1,1,1,1,1,1] (.fork 0 (.leaf [2] [0,1,2,3,4,5,8,7] [5,8,7]) (.leaf [0] [0,1,2,3,4,5,8,7] [5,8,7]))) (fun u=>by kernel_rfl) (aL L R H (mN (kM [al 0] (aO (ad.z S) L R H d)) (mN (aV L) (mN (a7 H) (mN (aQ Rr) (mF (c:=e != 0) (fun h0=>(mN (aV L) (mN (aQ Rr) (mN (a7 H) (mR (l3 h0)))))) (fun h0=>(mN (aV L) (mN (aQ Rr) (mN (a7 H) (mQ (an.done (by kernel_rfl) (l4 h0)))))))))))))
abbrev ahn:=fun S L R (H:List aq) (d:au) l dd (e:Int)=>(⟨[(9,aa 0)],[ab (aM (ad.mk (ad.at_ S) (ad.more S) (ad.bE S) (ad.B (ad.z S)) (ad.n S) (ad.failed S) (ad.aD S) 0 (ad.rn S) (ad.bN S) (ad.sn S) (aoM l) (ad.dX S) (ad.raw S) (ad.closed S)) 1 5 6 7) 89,.abs dd,.dead,.dead,.dead,ab (ao L) 9,ab (ap R) 3,ab (aj l) 114]⟩:ai)
abbrev aho:=fun S L R (H:List aq) (d:au) (l:List aq) dd (e:Int)=>(⟨[(9,aa e)],[ab (Hz (ad.z S) 1 (ah 5 (ad.rn S)) (ah 6 (ad.sn S)) (cm)) 89,.abs dd,.dead,.dead,.dead,ab (ao L) 9,ab (ap R) 3]⟩:ai)
abbrev ahp:=fun S L R H d (l:List aq) (dd:au) (e:Int)=>(⟨[(0,al 0)],yZ S L R H d⟩:ai)
theorem ahq(S:ad)(L R H d l dd)(e:Int)(pH:(aj H).all ag=true)(hL:(aoM L)=S.rn)(hR:(aoM R)=S.sn)(hH:(aoM H)=S.hn)(pL:(aj l).all ag=true)(cX:aI aoL 76 [al 0,ah 3 S.sn] (aO S.z L R H d) (pY S.z L R H (e,l,dd))){Q:aY}(l3:(e==0)=true→an aoL 77 5 ((mf.drop 10).drop 2) (ahn S L R H d l dd e) Q)(l4:(e==0)=false→an aoL 77 5 ((mf.drop 10).drop 2) (aho S L R H d l dd e) Q):an aoL 77 5 (mf.drop 10) (ahp S L R H d l dd e) Q:=
 aZ (ag0 S L R H d l dd e cX) 2 (aA [5,1,1,1] (.fork 0 (aA [1,1,1,1] (.leaf [9] [0,1,2,3,4,5,6,8] [5,6,8])) (aA [1,1,1] (.leaf [9] [0,1,2,3,4,5,6] [5,6])))) (fun u=>by kernel_rfl) (aL L R H (mN (kM [al 0,ah 3 (ad.sn S)] (aO (ad.z S) L R H d)) (mF (c:=e==0) (fun h0=>(aL L R H (mN (a7 l) (mN (aV L) (mN (aQ R) (mN (a7 l) (mQ (l3 h0)))))))) (fun h0=>(aL L R H (mN (aV L) (mN (aQ R) (mQ (l4 h0)))))))))
abbrev IG:=fun S L R H d (e:Int)=>(⟨[(2,aa e)],yY S L R H d⟩:ai)
theorem Rt(S L R H d)(e:Int){Q:bo}(hq:Q (.ret (aa e)) (IG S L R H d e).objs):aJ aoL 50 77 5 Q .ret (IG S L R H d e):=aJ.ret (vs:=[aa e]) (l:=[]) (bs:=[0,1,2,3,4,5,6,7]) (pl:=[5,6,7]) (q:=[ao L,ap R,aj H]) (fun u=>by kernel_rfl) (by kernel_rfl) (fY L R H bi) hq
abbrev ahr:=fun S L R H d (e:Int)=>(⟨[(9,aa e)],yZ S L R H d⟩:ai)
theorem Ru(S:ad)(L R H d)(e:Int)(pH:(aj H).all ag=true)(hL:(aoM L)=S.rn)(hR:(aoM R)=S.sn)(hH:(aoM H)=S.hn){Q:aY}(l3:Q .ret (IG S L R H d e)):an aoL 77 5 (mf.drop 12) (ahr S L R H d e) Q:=
 aZ bt 1000 (.leaf [2] [0,1,2,3,4,5,6,7] [5,6,7]) (fun u=>by kernel_rfl) (aL L R H (mR l3))
abbrev Rv:=fun S L R H d=>([ab (aM (ad.mk (ad.at_ S) true (ad.bE S) (ad.B S) (ad.n S) (ad.failed S) (ad.aD S) (ad.ro S) (ad.rn S) (ad.bN S) (ad.sn S) (ad.hn S) (ad.dX S) (ad.raw S) (ad.closed S)) 1 2 3 4) 89,.abs d,ab (ao L) 9,ab (ap R) 3,ab (aj H) 114]:List ak)
abbrev IH:=fun S L R H d (k:Int) (dd:au) (e:Int)=>(⟨[(2,aa 0)],Rv S L R H d⟩:ai)
theorem ahs(S L R H d)(k:Int)(dd)(e:Int){Q:bo}(hq:Q (.ret (aa 0)) (IH S L R H d k dd e).objs):aJ aoL 51 34 5 Q .ret (IH S L R H d k dd e):=aJ.ret (vs:=[aa 0]) (l:=[]) (bs:=[0,1,2,3,4]) (pl:=[2,3,4]) (q:=[ao L,ap R,aj H]) (fun u=>by kernel_rfl) (by kernel_rfl) (fY L R H bi) hq
abbrev II:=fun S L R H d (k:Int) (dd:au) (e:Int)=>(⟨[(2,aa 0)],Rv S L R H d⟩:ai)
theorem aht(S L R H d)(k:Int)(dd)(e:Int){Q:bo}(hq:Q (.ret (aa 0)) (II S L R H d k dd e).objs):aJ aoL 51 34 5 Q .ret (II S L R H d k dd e):=aJ.ret (vs:=[aa 0]) (l:=[]) (bs:=[0,1,2,3,4]) (pl:=[2,3,4]) (q:=[ao L,ap R,aj H]) (fun u=>by kernel_rfl) (by kernel_rfl) (fY L R H bi) hq
abbrev IJ:=fun S L R H (d:au) (k:Int) dd (e:Int)=>(⟨[(2,aa e)],[ab (aM (ad.mk (ad.at_ S) (ad.more S) true (ad.B S) (ad.n S) (ad.failed S) (ad.aD S) (ad.ro S) (ad.rn S) (ad.bN S) (ad.sn S) (ad.hn S) (ad.dX S) (ad.raw S) (ad.closed S)) 1 2 3 4) 89,.abs dd,ab (ao L) 9,ab (ap R) 3,ab (aj H) 114]⟩:ai)
theorem ahu(S L R H d)(k:Int)(dd)(e:Int){Q:bo}(hq:Q (.ret (aa e)) (IJ S L R H d k dd e).objs):aJ aoL 51 34 5 Q .ret (IJ S L R H d k dd e):=aJ.ret (vs:=[aa e]) (l:=[]) (bs:=[0,1,2,3,4]) (pl:=[2,3,4]) (q:=[ao L,ap R,aj H]) (fun u=>by kernel_rfl) (by kernel_rfl) (fY L R H bi) hq
abbrev ahv:=fun S L R H d (k:Int) (dd:au) (e:Int)=>(⟨[(0,al 0)],[ab (aM S 1 2 3 4) 89,.abs d,ab (ao L) 9,ab (ap R) 3,ab (aj H) 114]⟩:ai)
theorem ahw(S:ad)(L R H d)(k:Int)(dd)(e:Int)(pH:(aj H).all ag=true)(hR:(aoM R)=S.sn)(hH:(aoM H)=S.hn)(hle:aI aoL 53 [al 0,ah 4 S.hn] (aO S L R H d) fun r q=>r=.ret (aa k)∧q=aO S L R H d)(iv:aI aoL 78 [al 0,ah 3 S.sn] (aO S L R H d) fun r q=>r=.ret (aa e)∧q=aO S L R H dd){Q:aY}(l3:(decide ((↑(ad.rn S):Int)>0))=true→Q .ret (IH S L R H d k dd e))(l5:(decide ((↑(ad.rn S):Int)>0))=false→(decide (k ≥ 0))=true→Q .ret (II S L R H d k dd e))(l7:(decide ((↑(ad.rn S):Int)>0))=false→(decide (k ≥ 0))=false→Q .ret (IJ S L R H d k dd e)):an aoL 34 5 ag3 (ahv S L R H d k dd e) Q:=
 aZ (ag2 S L R H d k dd e hle iv) 1000 (.fork 2 (aA [1,1,1,1,1,1,1] (.leaf [2] [0,1,2,3,4] [2,3,4])) (aA [0,0,0,0,2,3,1,1,1,1,1,1,0,0] (.fork 0 (.leaf [2] [0,1,2,3,4] [2,3,4]) (aA [5,1,1,1,1,1,1] (.leaf [2] [0,1,2,3,4] [2,3,4]))))) (fun u=>by kernel_rfl) (mF (c:=decide ((↑(ad.rn S):Int)>0)) (fun h0=>(Iz 7 h0 (aL L R H (mR (l3 h0))))) (fun h0=>(Iz 5 h0 (aL L R H (mN (kM [al 0,ah 4 (ad.hn S)] (aO S L R H d)) (aL L R H (Iz 2 h0 (mF (c:=decide (k ≥ 0)) (fun h1=>(aL L R H (mR (l5 h0 h1)))) (fun h1=>(aL L R H (mN (kM [al 0,ah 3 (ad.sn S)] (aO S L R H d)) (aL L R H (aL L R H (mR (l7 h0 h1)))))))))))))))
end
theorem Rw(no:Int):∀(l:List ByteArray) (d:au),cq (iT no l d).2 no≤cq d no+bV l∧∀m,m≠no→cq (iT no l d).2 m=cq d m
 | [],d=>⟨apn _,fun _ _=>rfl⟩
 |x::l,d=>by
  have h1:=PW d no (cj x)
  rw[lW]at h1
  have h2:∀m,m≠no→cq (bU d no (cj x)).2 m=cq d m:=fun m h=>HR d _ h
  unfold iT
  split
  ·exact⟨by show _≤cq d no+(x.size+1+bV l);omega,h2⟩
  ·obtain⟨a,b⟩:=Rw no l (bU d no (cj x)).2
   exact⟨by show _≤cq d no+(x.size+1+bV l);omega,fun m h=>(b m h).trans (h2 m h)⟩
def nu(s:cJ):Nat:=eZ s.2.2.2 s.2.2.1+bV s.2.1
structure Good(F:Nat)(s:cJ):Prop where
 ok:jq s
 old:∀r∈s.2.2.1,r≤s.2.2.2.made
 bW:nu s≤F
theorem Good.runs{F:Nat}{s:cJ}(h:Good F s)(hF:F≤1000000):jC s.2.2.2 s.2.2.1:=⟨h.ok.db,h.old,by have:=h.bW;unfold nu at this;omega⟩
theorem ahx{d d':au}{l:List Int}(h:∀r∈l,cq d' r=cq d r):eZ d' l=eZ d l:=by
 induction l with
 |nil=>rfl
 |cons x l ih=>unfold eZ;rw[h x ape,ih fun y hy=>h y (apc _ hy)]
theorem Good.nt{F:Nat}{s:cJ}(h:Good F s)(he:(dZ s.1 s.2.1 s.2.2.1 s.2.2.2).1=0):Good F (dZ s.1 s.2.1 s.2.2.1 s.2.2.2).2:=by
 obtain⟨h1,h2⟩:=h.ok.nt
 refine⟨h1,?_,?_⟩
 ·obtain⟨S,L,R,d⟩:=s
  have hold:∀r∈R,r≤d.made:=h.old
  have nN:=HJ (d:=d)
  have gh:=B6 (d:=d)
  have hok:jq (S,L,R,d):=h.ok
  dsimp only at*
  unfold dZ at he⊢
  split at he
  ·rename_i g;exact absurd he g
  rename_i g
  have g:(bH d).2.1=0:=aqD.1 g
  rw[if_neg (fun h=>h g)]
  split at he
  ·rename_i g2;exact absurd he g2
  rename_i g2
  rw[if_neg g2]
  rw[if_pos g]at nN
  have cy:=(HI (bH d).1 (bK (ba S.aD) L) (bH d).2.2 (hok.db.uu) fun f hf=>by
   rw[BN hok.db g]at hf
   cases hf
   show 0+_≤_
   rw[wj (kQ L)]
   have:=hok.bW
   show 0+bV L≤_
   have:bV L≤400:=this
   omega).2
  intro r hr
  dsimp only at hr⊢
  rcases apo.1 hr with hr|hr
  ·have:=hold r hr;omega
  ·have e1:=apP.1 hr
   have e2:=gh g
   omega
 ·obtain⟨S,L,R,d⟩:=s
  have hold:∀r∈R,r≤d.made:=h.old
  have jb:eZ d R+bV L≤F:=h.bW
  have gh:=B6 (d:=d)
  have hok:jq (S,L,R,d):=h.ok
  dsimp only at*
  unfold dZ at he⊢
  split at he
  ·rename_i g;exact absurd he g
  rename_i g
  have g:(bH d).2.1=0:=aqD.1 g
  rw[if_neg (fun h=>h g)]
  split at he
  ·rename_i g2;exact absurd he g2
  rename_i g2
  rw[if_neg g2]
  obtain⟨w1,w2⟩:=Rw (bH d).1 (bK (ba S.aD) L) (bH d).2.2
  rw[Qc hok.db g,wj (kQ L)]at w1
  have e1:eZ (iT (bH d).1 (bK (ba S.aD) L) (bH d).2.2).2 R=eZ d R:=ahx fun r hr=>by
   have h3:=hold r hr
   rw[w2 r (by rw[gh g];omega),HW d r h3]
  unfold nu
  dsimp only
  rw[wm,e1]
  show eZ d R+(cq _ _+0)+0≤F
  omega
theorem Good.put{F:Nat}{s:cJ}(h:Good F s)(x:ByteArray)(hx:bV s.2.1+(x.size+1)≤400):Good (F+(x.size+1)) (lY x s):=by
 refine⟨h.ok.put x hx,h.old,?_⟩
 have:=h.bW
 unfold nu lY at*
 dsimp only at*
 rw[yO]
 show _+(bV s.2.1+(x.size+1+0))≤_
 omega
theorem y0:∀(l:List ByteArray) (F:Nat) (s:cJ),Good F s→(∀x∈l,x.size≤64)→jq (eY l s).2∧((eY l s).1=0→Good (F+bV l) (eY l s).2)
 | [],F,s,h,hx=>⟨h.ok,fun _=>h⟩
 |x::l,F,s,h,hx=>by
  have fR:=hx x ape
  have jM:∀y∈l,y.size≤64:=fun y hy=>hx y (apc _ hy)
  have hw:=h.ok.bN
  have hlen:=h.ok.len
  unfold eY
  by_cases hc:0<s.1.rn∧s.1.bN+x.size+1>256
  ·rw[if_pos hc]
   by_cases he:(dZ s.1 s.2.1 s.2.2.1 s.2.2.2).1=0
   ·rw[if_neg (fun h=>h he)]
    have h1:=h.nt he
    have qk:=(h.ok.nt).2 he
    have hp:=h1.put x (by rw[qk];show 0+(x.size+1)≤400;omega)
    obtain⟨a,b⟩:=y0 l _ _ hp jM
    exact⟨a,fun e=>by have:=b e;show Good (F+(x.size+1+bV l)) _;rw[←aqP];exact this⟩
   ·rw[if_pos he]
    exact⟨h.ok.nt.1,fun e=>absurd e he⟩
  ·rw[if_neg hc]
   have hp:=h.put x (by
    by_cases h0:0<s.1.rn
    ·have:¬s.1.bN+x.size+1>256:=fun h=>hc ⟨h0,h⟩
     omega
    ·have:s.2.1=[]:=apL (by omega)
     rw[this];show 0+(x.size+1)≤400;omega)
   obtain⟨a,b⟩:=y0 l _ _ hp jM
   exact⟨a,fun e=>by have:=b e;show Good (F+(x.size+1+bV l)) _;rw[←aqP];exact this⟩
noncomputable def e9(f:Bool):Nat→List Int→au→Int×List Int×au
 |0,R,d=>(0,R,d)
 |m+1,R,d=>if R.length≤3 then(0,R,d)else if(gj f R d).1≠0 then((gj f R d).1,R,(gj f R d).2.2)else e9 f m (gj f R d).2.1 (gj f R d).2.2
def gB(s:cJ):Int×cJ:=if s.1.n=0 then(0,s)else eY [iU s.1] ({s.1 with n:=0},s.2)
def mg(s:cJ):cJ:=({s.1 with dX:=true},s.2)
def im(s:cJ):Int×cJ:=if 0<s.1.rn then dZ s.1 s.2.1 s.2.2.1 s.2.2.2 else(0,s)
noncomputable def mK(s:cJ)(H:List aq):Int×cJ×List aq:=
 if(e9 s.1.aD s.2.2.1.length s.2.2.1 s.2.2.2).1≠0 then((e9 s.1.aD s.2.2.1.length s.2.2.1 s.2.2.2).1,({s.1 with sn:=(e9 s.1.aD s.2.2.1.length s.2.2.1 s.2.2.2).2.1.length},s.2.1,(e9 s.1.aD s.2.2.1.length s.2.2.1 s.2.2.2).2),H)
 else match e9 s.1.aD s.2.2.1.length s.2.2.1 s.2.2.2 with
  |(_,R,d)=>match eB R [] d with
   |(e,l,dd)=>if e=0 then(0,({s.1 with sn:=R.length,hn:=l.length},s.2.1,R,dd),l)else(e,({s.1 with sn:=R.length,hn:=0},s.2.1,R,dd),[])
noncomputable def sJ(s:cJ)(H:List aq):Int×cJ×List aq:=if(im s).1≠0 then((im s).1,(im s).2,H)else mK (im s).2 H
noncomputable def uC(s:cJ)(H:List aq):Int×cJ×List aq:=if s.1.sn=0 then(0,(s.1,bK (ba s.1.aD) s.2.1,s.2.2),H)else sJ s H
noncomputable def jE(s:cJ)(H:List aq):Int×cJ×List aq:=if(gB s).1≠0 then((gB s).1,(gB s).2,H)else uC (mg (gB s).2) H
theorem wy(S:ad):(iU S).size=S.n.toNat:=by
 show(qZ S.B S.n.toNat).toArray.size=_
 rw[List.size_toArray,agz]
theorem IK{F:Nat}{s:cJ}(h:Good F s)(hc:jD s.1):jq (gB s).2∧((gB s).1=0→Good (F+(s.1.n.toNat+1)) (gB s).2):=by
 unfold gB
 split
 ·exact⟨h.ok,fun _=>⟨h.ok,h.old,by have:=h.bW;dsimp only;omega⟩⟩
 ·have h1:Good F ({s.1 with n:=0},s.2):=⟨⟨h.ok.len,h.ok.runs,h.ok.db,h.ok.made,h.ok.bN,h.ok.bW⟩,h.old,h.bW⟩
  have hn:=hc.n1
  obtain⟨a,b⟩:=y0 [iU s.1] F _ h1 fun x hx=>by rw[apP.1 hx,wy];omega
  refine⟨a,fun e=>?_⟩
  have:=b e
  rw[show bV [iU s.1]=s.1.n.toNat+1 by show(iU s.1).size+1+0=_;rw[wy]]at this
  exact this
theorem IL{F:Nat}{s:cJ}(h:Good F s):Good F (mg s):=⟨⟨h.ok.len,h.ok.runs,h.ok.db,h.ok.made,h.ok.bN,h.ok.bW⟩,h.old,h.bW⟩
theorem IM(f:Bool):∀(m:Nat) (R:List Int) (d:au),jC d R→ca (e9 f m R d).2.2∧((e9 f m R d).1=0→jC (e9 f m R d).2.2 (e9 f m R d).2.1∧(R.length≤m→(e9 f m R d).2.1.length≤3))∧(e9 f m R d).2.1.length≤R.length
 |0,R,d,h=>⟨h.db,fun _=>⟨h,fun hl=>by show R.length≤3;omega⟩,apn _⟩
 |m+1,R,d,h=>by
  unfold e9
  by_cases h3:R.length≤3
  ·rw[if_pos h3];exact⟨h.db,fun _=>⟨h,fun _=>h3⟩,apn _⟩
  rw[if_neg h3]
  obtain⟨p1,p2⟩:=Re f h
  by_cases he:(gj f R d).1=0
  ·rw[if_neg (fun h=>h he)]
   obtain⟨q1,q2,q3⟩:=p2 he
   obtain⟨a,b,c⟩:=IM f m _ _ q1
   exact⟨a,fun e=>⟨(b e).1,fun hl=>(b e).2 (by omega)⟩,by omega⟩
  ·rw[if_pos he]
   exact⟨p1,fun e=>absurd e he,apn _⟩
theorem an.less{P:Program}{n k:Nat}{l:List apw}{d:ai}{Q:bj→ai→Prop}(IP:List (Nat×aoP))(hc:(iG (d.sl.map (·.1))&&d.sl.all (fun p=>ao9 p.1 n)&&apf n 1024)=true)(hs:∀p∈IP,p∈d.sl)(h:an P n k l ⟨IP,d.objs⟩ Q):an P n k l d Q:=by
 intro X hn hk a w hd
 subst hn hk
 obtain⟨ρ,u,M,hd⟩:=hd
 simp only[Bool.and_eq_true]at hc
 obtain⟨⟨c1,c2⟩,c3⟩:=hc
 have c3:=Nat.le_of_ble_eq_true c3
 have cd:a.tmps.size=X.n:=by have:=hd.fr.size;rw[this];show(gz X.n u d.sl).length=_;unfold gz;simp[lJ]
 have tx:a.defers=M.map eN:=hd.fr.rH rfl
 obtain⟨u',hu⟩:=FR.make (ρ:=ρ) (a:=a) (l:=IP) cd c3 tx (fun i=>⟨_,hd.fr.at_ i⟩) fun p hp=>by
  have hp:=hs p hp
  have hn:=dV.1 (List.all_eq_true.1 c2 p hp)
  have h8:=hd.fr.at_ p.1
  rw[Fr.xR,vw c3 hn (vI c1 p hp)]at h8
  exact⟨hn,h8⟩
 exact h X rfl rfl a w ⟨ρ,u',M,hd.full,hd.kept,hu,hd.mem,hd.bW,hd.quiet,hd.fH,hd.outside⟩
def Rx(x:Int×cJ×List aq)(r:bO)(q:List ak):Prop:=r=.ret (.int .i64 x.1)∧q=jh x.2.1.1.z x.2.1.2.1 x.2.1.2.2.1 x.2.2 x.2.1.2.2.2
abbrev IQ(i:Nat)(s:cJ)(H:List aq)(x:Int×cJ×List aq):Prop:=
 an aoL (cp aoL 50) 5 (mf.drop i) ⟨[(0,.pointer (some ⟨0,0,none⟩))],jh s.1.z s.2.1 s.2.2.1 H s.2.2.2⟩ (aJ aoL 50 (cp aoL 50) 5 (Rx x))
structure ahy(f:Bool)(v:Int×List Int×au)(s:List Int×au×Nat):Prop where
 e:e9 f s.2.2 s.1 s.2.1=v
 ok:jC s.2.1 s.1
 m:s.1.length≤s.2.2
theorem ahz{f:Bool}{m:Nat}{R:List Int}{d:au}(h:R.length≤3):e9 f m R d=(0,R,d):=by
 cases m with
 |zero=>rfl
 |succ m=>unfold e9;rw[if_pos h]
theorem ahA{f:Bool}{m:Nat}{R:List Int}{d:au}(h:¬R.length≤3):e9 f (m+1) R d=if(gj f R d).1≠0 then((gj f R d).1,R,(gj f R d).2.2)else e9 f m (gj f R d).2.1 (gj f R d).2.2:=by
 conv=>lhs;unfold e9
 rw[if_neg h]
theorem Ry(S:ad)(L:List ByteArray)(R:List Int)(H:List aq)(d:au)(hL:L.length=S.rn)(hR:R.length=S.sn)(hH:H.length=S.hn)(Rz:R.length≤900000)(hr:jC d R):IQ 9 (S,L,R,d) H (mK (S,L,R,d) H):=by
 have pH:=a7 H
 have hv:mK (S,L,R,d) H=if(e9 S.aD R.length R d).1≠0 then((e9 S.aD R.length R d).1,({S with sn:=(e9 S.aD R.length R d).2.1.length},L,(e9 S.aD R.length R d).2),H)
  else match e9 S.aD R.length R d with
   |(_,R,d)=>match eB R [] d with
    |(e,l,dd)=>if e=0 then(0,({S with sn:=R.length,hn:=l.length},L,R,dd),l)else(e,({S with sn:=R.length,hn:=0},L,R,dd),[]):=rfl
 rw[hv]
 clear hv
 obtain⟨v,hv⟩:∃v,v=e9 S.aD R.length R d:=⟨_,rfl⟩
 rw[←hv]
 refine an.eO 9 0 (by kernel_rfl) ?_
 have hS:S={S with sn:=R.length}:=by rw[hR]
 rw[hS]
 clear hS
 refine an.fL (fun t:List Int×au×Nat=>⟨[(0,.pointer (some ⟨0,0,none⟩))],jh (ad.z {S with sn:=t.1.length}) L t.1 H t.2.1⟩) (fun t=>t.2.2) (fun t=>ahy S.aD v t∧t.1.length≤900000) (R,d,R.length) (by kernel_rfl) ⟨⟨hv.symm,hr,apn _⟩,Rz⟩ ?_
 clear hv hr hR Rz
 rintro⟨R,d,m⟩ ⟨⟨h1,h2,h3⟩,h4⟩
 dsimp only at h1 h2 h3 h4
 apply ahk {S with sn:=R.length} L R H d pH hL rfl hH
 case l4=>
  intro g
  have g:=of_decide_eq_false g
  have g:¬((R.length:Nat):Int)>3:=g
  have g3:R.length≤3:=by omega
  rw[ahz g3]at h1
  rw[←h1,if_neg (fun h=>h rfl)]
  dsimp only
  with_reducible (repeat first|refine QL.ret ?_|refine QL.exit ?_|refine QB.ret ?_|refine QB.cx ?_|refine QB.normal ?_|refine QB.cG (by rfl) ?_)
  have cX:=QJ (ad.z {S with sn:=R.length}) L R H d 0 R.length (by omega) h4 h2.db
  rw[as9,asC]at cX
  generalize eB R [] d=o at*
  obtain⟨e,l,dd⟩:=o
  dsimp only
  apply ahq {S with sn:=R.length} L R H d l dd e pH hL rfl hH (a7 l) cX
  case l3=>
   intro ge
   have ge:e=0:=by simpa using ge
   rw[if_pos ge]
   apply Ru {S with sn:=R.length,hn:=l.length} L R l dd 0 (a7 l) hL rfl rfl
   ·exact Rt {S with sn:=R.length,hn:=l.length} L R l dd 0 ⟨rfl,rfl⟩
  case l4=>
   intro ge
   have ge:¬e=0:=by simpa using ge
   rw[if_neg ge]
   refine an.nh 0 74 114 QG rfl rfl (by kernel_rfl) (d':=⟨[(9,.int .i64 e)],jh (ad.z {S with sn:=R.length,hn:=0}) L R [] dd⟩) rfl ?_
   apply Ru {S with sn:=R.length,hn:=0} L R [] dd e rfl hL rfl rfl
   ·exact Rt {S with sn:=R.length,hn:=0} L R [] dd e ⟨rfl,rfl⟩
 case l3=>
  intro g
  have g:=of_decide_eq_true g
  have g:((R.length:Nat):Int)>3:=g
  have g3:¬R.length≤3:=by omega
  cases m with
  |zero=>omega
  |succ m=>
  rw[ahA g3]at h1
  have jI:=agy (ad.z {S with sn:=R.length}) L R H d rfl (by omega) h4 h2
  obtain⟨p1,p2⟩:=Re S.aD h2
  rw[show(ad.z {S with sn:=R.length}).aD=S.aD from rfl]at jI
  generalize gj S.aD R d=o at*
  obtain⟨e,R2,dd⟩:=o
  dsimp only at*
  by_cases ge:e=0
  ·obtain⟨q1,q2,q3⟩:=p2 ge
   rw[if_neg (fun h=>h ge)]at h1
   rw[show sG (ad.z {S with sn:=R.length}) R (e,R2,dd)=(ad.z {S with sn:=R2.length},R2)by unfold sG;rw[if_pos ge];rfl]at jI
   apply Rs {S with sn:=R.length} L R H d {S with sn:=R2.length} [] R2 dd e pH hL rfl hH jI
   case l3=>intro g5;rw[ge]at g5;cases g5
   case l4=>intro _;exact QL.to (R2,dd,m) ⟨⟨h1,q1,by dsimp only;omega⟩,by dsimp only;omega⟩ (by dsimp only;omega) rfl
  ·rw[if_pos ge]at h1
   rw[show sG (ad.z {S with sn:=R.length}) R (e,R2,dd)=(ad.z {S with sn:=R.length},R)by unfold sG;rw[if_neg ge]]at jI
   apply Rs {S with sn:=R.length} L R H d {S with sn:=R.length} [] R dd e pH hL rfl hH jI
   case l3=>
    intro g5
    rw[←h1,if_pos ge]
    with_reducible (repeat first|refine QL.ret ?_|refine QL.exit ?_|refine QB.ret ?_|refine QB.cx ?_|refine QB.normal ?_|refine QB.cG (by rfl) ?_)
    exact ahl {S with sn:=R.length} L R H d {S with sn:=R.length} [] R dd e (by simp) pH ⟨rfl,rfl⟩
   case l4=>intro g5;exact absurd (by simpa using g5) ge
theorem ahB(F:Nat)(S:ad)(L:List ByteArray)(R:List Int)(H:List aq)(d:au)(hF:F≤900000)(hg:Good F (S,L,R,d))(hH:H.length=S.hn):IQ 7 (S,L,R,d) H (sJ (S,L,R,d) H):=by
 have pH:=a7 H
 have hL:L.length=S.rn:=hg.ok.len
 have hR:R.length=S.sn:=hg.ok.runs
 have fJ:ca d:=hg.ok.db
 have iE:R.length≤d.made:=hg.ok.made
 have an9:=fJ.made
 have hw:bV L≤400:=hg.ok.bW
 have dq:=PE S L R H d hL hR fJ (by omega) (by omega)
 have pz:=hg.nt
 have ahC:=hg.ok.nt
 have hv:sJ (S,L,R,d) H=if 0<S.rn then(if(dZ S L R d).1≠0 then((dZ S L R d).1,(dZ S L R d).2,H)else mK (dZ S L R d).2 H)else mK (S,L,R,d) H:=by
  unfold sJ im
  by_cases h:0<S.rn
  ·rw[if_pos h,if_pos h]
  ·rw[if_neg h,if_neg h]
   exact if_neg (fun h=>h rfl)
 rw[hv]
 clear hv
 dsimp only at pz ahC
 have IR:(dZ S L R d).2.1.hn=S.hn:=by unfold dZ;split;rfl;split;rfl;rfl
 generalize dZ S L R d=o at*
 obtain⟨e,T,K,Rr,dd⟩:=o
 dsimp only at*
 apply ahh S L R H d T K Rr dd e pH hL hR hH dq
 case l2=>
  intro g ge
  have g:=of_decide_eq_true g
  have ge:e≠0:=by simpa using ge
  rw[if_pos (by omega),if_pos ge]
  exact ahe S L R H d T K Rr dd e pH ⟨rfl,rfl⟩
 case l3=>
  intro g ge
  have g:=of_decide_eq_true g
  have ge:e=0:=by simpa using ge
  rw[if_pos (by omega),if_neg (fun h=>h ge)]
  have h2:=pz ge
  have LB:Rr.length≤dd.made:=h2.ok.made
  have cy:=h2.ok.db.made
  exact Ry T K Rr H dd h2.ok.len h2.ok.runs (hH.trans IR.symm) (by have:dd.made≤64:=cy;omega) (h2.runs (by omega))
 case l6=>
  intro g
  have g:=of_decide_eq_false g
  rw[if_neg (by omega)]
  exact Ry S L R H d hL hR hH (by omega) (hg.runs (by omega))
theorem RA(F:Nat)(S:ad)(L:List ByteArray)(R:List Int)(H:List aq)(d:au)(hF:F≤900000)(hg:Good F (S,L,R,d))(hH:H.length=S.hn):IQ 4 (S,L,R,d) H (uC (mg (S,L,R,d)) H):=by
 have pH:=a7 H
 have hL:L.length=S.rn:=hg.ok.len
 have hR:R.length=S.sn:=hg.ok.runs
 have hw:bV L≤400:=hg.ok.bW
 have PF:=yN L
 have hv:uC (mg (S,L,R,d)) H=if S.sn=0 then(0,({S with dX:=true},bK (ba S.aD) L,R,d),H)else sJ (mg (S,L,R,d)) H:=rfl
 rw[hv]
 clear hv
 apply ahd S L R H d pH hL hR hH
 case n0=>
  intro _
  have hO:=wa (S:=ad.z {S with dX:=true}) (R:=R) (H:=H) (d:=d) (L:=L) rfl hL (by omega)
  unfold cU at hO
  rw[show(aM (ad.mk (ad.at_ S) (ad.more S) (ad.bE S) (ad.B (ad.z S)) (ad.n S) (ad.failed S) (ad.aD S) (0) (ad.rn S) (ad.bN S) (ad.sn S) (ad.hn S) (true) (ad.raw S) (ad.closed S)) 2 0 3 4)=aM (ad.z {S with dX:=true}) 2 0 3 4 from rfl,hO]
  simp only[apY,Bool.and_self]
 case l3=>
  intro g
  have g:S.sn=0:=by have:((S.sn:Nat):Int)=0:=by simpa using g
                    omega
  rw[if_pos g]
  refine ahb S L R H d (by simp) pH ⟨rfl,?_⟩
  rw[iI]
  rfl
 case l5=>
  intro g
  have g:¬S.sn=0:=fun h=>by rw[h]at g;cases g
  rw[if_neg g]
  rw[ap2]
  exact ahB F {S with dX:=true} L R H d hF (IL hg) hH
theorem ahD(F:Nat)(S:ad)(L:List ByteArray)(R:List Int)(H:List aq)(d:au)(hF:F≤800000)(hg:Good F (S,L,R,d))(hc:jD S)(hH:H.length=S.hn):
 aI aoL 50 [.pointer (some ⟨0,0,none⟩)] (aO S.z L R H d) (Rx (jE (S,L,R,d) H)):=by
 have pH:=a7 H
 have hL:L.length=S.rn:=hg.ok.len
 have hR:R.length=S.sn:=hg.ok.runs
 have pJ:=hc.n0
 have kJ:=hc.n1
 refine aI.cY (n:=cp aoL 50) (by kernel_rfl) ?_
 refine an.move (d':=⟨[(0,.pointer (some ⟨0,0,none⟩))],jh S.z L R H d⟩) [some 0,some 1,none,none,none,some 2,some 3,some 4] [2,3,4] (q:=[ao L,ap R,aj H]) (by kernel_rfl) (aF (by simp) (aF (by simp) (aF pH bi))) (by kernel_rfl) (by kernel_rfl) ?_
 apply ag6 S L R H d pH hL hR hH pJ kJ
 case l3=>
  intro g
  have g:S.n=0:=by simpa using g
  have hb:gB (S,L,R,d)=(0,(S,L,R,d)):=by unfold gB;exact if_pos g
  have hv:jE (S,L,R,d) H=uC (mg (S,L,R,d)) H:=by unfold jE;rw[hb];exact if_neg (fun h=>h rfl)
  rw[hv]
  refine an.Pd 3 (c:=17) (by kernel_rfl) (by rfl) (by rfl) (by kernel_rfl) ?_
  refine an.less [(0,.pointer (some ⟨0,0,none⟩))] (by kernel_rfl) (by intro p hp;rw[apP.1 hp];exact ape) ?_
  exact RA F S L R H d (by omega) hg hH
 case n4=>
  intro _
  rw[show(aM (ad.mk (ad.at_ S) (ad.more S) (ad.bE S) (ad.B (ad.z S)) (0) (ad.failed S) (ad.aD S) (0) (ad.rn S) (ad.bN S) (ad.sn S) (ad.hn S) (ad.dX S) (ad.raw S) (ad.closed S)) 1 5 6 7)=aM (ad.z {S with n:=0}) 1 5 6 7 from rfl,Ir _ _ _ _ _ _ (by omega)]
  rfl
 case l5=>
  intro g
  have g:¬S.n=0:=by simpa using g
  have hx:apg (apO (cut (aM (ad.mk (ad.at_ S) (ad.more S) (ad.bE S) (ad.B (ad.z S)) (0) (ad.failed S) (ad.aD S) (0) (ad.rn S) (ad.bN S) (ad.sn S) (ad.hn S) (ad.dX S) (ad.raw S) (ad.closed S)) 1 5 6 7) 3 (aoO (ad.n S)-0)) bytesOf) []=qZ S.B S.n.toNat:=by
   rw[show(aM (ad.mk (ad.at_ S) (ad.more S) (ad.bE S) (ad.B (ad.z S)) (0) (ad.failed S) (ad.aD S) (0) (ad.rn S) (ad.bN S) (ad.sn S) (ad.hn S) (ad.dX S) (ad.raw S) (ad.closed S)) 1 5 6 7)=aM (ad.z {S with n:=0}) 1 5 6 7 from rfl,Ir _ _ _ _ _ _ (by omega)]
   rfl
  refine an.vG 3 (c:=17) (b:=true) (by kernel_rfl) (by rfl) (by rfl) ?_
  refine an.join ?_
  unfold Ro
  rw[hx,show apB (qZ S.B S.n.toNat).toArray=iU S from rfl]
  refine an.less [(0,.pointer (some ⟨0,0,none⟩)),(3,.string (iU S))] (by kernel_rfl) (by intro p hp;rcases ao8.1 hp with rfl|hp;exact ape;rw[apP.1 hp];exact apc _ ape) ?_
  have ahE:Good F ({S with n:=0},L,R,d):=⟨⟨hg.ok.len,hg.ok.runs,hg.ok.db,hg.ok.made,hg.ok.bN,hg.ok.bW⟩,hg.old,hg.bW⟩
  have nZ:=PM [iU S] false 1 rfl (by omega) (fun x hx=>by rw[apP.1 hx,wy];omega) H ({S with n:=0},L,R,d) ahE.ok
  obtain⟨r1,r2⟩:=IK hg hc
  have hb:gB (S,L,R,d)=eY [iU S] ({S with n:=0},L,R,d):=by unfold gB;exact if_neg g
  have IR:(eY [iU S] ({S with n:=0},L,R,d)).2.1.hn=S.hn:=by
   unfold eY
   split
   ·split
    ·unfold dZ;split;rfl;split;rfl;rfl
    ·show(dZ _ _ _ _).2.1.hn=_;unfold dZ;split;rfl;split;rfl;rfl
   ·rfl
  unfold jE
  rw[hb]at r1 r2⊢
  generalize eY [iU S] ({S with n:=0},L,R,d)=o at*
  obtain⟨e,T,K,Rr,dd⟩:=o
  dsimp only at*
  apply aha {S with n:=0} L R H d T K Rr dd e (iU S) pH hL hR hH nZ
  case l2=>
   intro ge
   have ge:e≠0:=by simpa using ge
   rw[if_pos ge]
   refine QA.ret ?_
   exact ag7 {S with n:=0} L R H d T K Rr dd e (iU S) pH ⟨rfl,rfl⟩
  case l3=>
   intro ge
   have ge:e=0:=by simpa using ge
   rw[if_neg (fun h=>h ge)]
   refine QA.normal ?_
   exact RA (F+(S.n.toNat+1)) T K Rr H dd (by omega) (r2 ge) (hH.trans IR.symm)
@[simp] theorem aoa(l:List aq):(aj l).all ag=true:=a7 l
def ad.pop(S:ad):ad:={S with ro:=S.ro+1,rn:=S.rn-1}
def mM(S:ad)(H:List aq):Bool:=decide (0<S.rn)||(eU S.aD H).isSome
def dy(S:ad)(R:List Int)(H:List aq)(d:au):Int×ad×au:=
 if mM S H then(0,{S with more:=true},d)else((gi R d).1,{S with bE:=true},(gi R d).2)
theorem RB(S:ad)(L:List ByteArray)(R:List Int)(H:List aq)(d:au)(hR:R.length=S.sn)(hH:H.length=S.hn)(hl:H.length≤1000000)(hr:R.length≤1000000)(hd:ca d):
 aI aoL 51 [.pointer (some ⟨0,0,none⟩)] (aO S L R H d) fun r q=>r=.ret (.int .i64 (dy S R H d).1)∧q=aO (dy S R H d).2.1 L R H (dy S R H d).2.2:=by
 have pH:=a7 H
 have hle:=ae5 S L R d H hl
 rw[hH]at hle
 have iv:=Qt S L R H d 0 R.length (by omega) hr hd
 rw[as9,asC,hR]at iv
 refine aI.cY (n:=cp aoL 51) (by kernel_rfl) ?_
 apply ahw S L R H d (kI (eU S.aD H)) (gi R d).2 (gi R d).1 pH hR hH hle iv
 case l3=>
  intro g
  have g:=of_decide_eq_true g
  have hm:mM S H=true:=by unfold mM;rw[decide_eq_true (by omega)];rfl
  unfold dy
  rw[if_pos hm]
  exact ahs S L R H d (kI (eU S.aD H)) (gi R d).2 (gi R d).1 ⟨rfl,rfl⟩
 case l5=>
  intro g gk
  have gk:=of_decide_eq_true gk
  have hm:mM S H=true:=by
   unfold mM
   cases hk:eU S.aD H with
   |none=>rw[hk]at gk;exact absurd gk (by show¬(0:Int)≤-1;omega)
   |some k=>rw[Bool.or_comm];rfl
  unfold dy
  rw[if_pos hm]
  exact aht S L R H d (kI (eU S.aD H)) (gi R d).2 (gi R d).1 ⟨rfl,rfl⟩
 case l7=>
  intro g gk
  have g:=of_decide_eq_false g
  have gk:=of_decide_eq_false gk
  have hm:mM S H=false:=by
   unfold mM
   rw[decide_eq_false (by omega)]
   cases hk:eU S.aD H with
   |none=>rfl
   |some k=>rw[hk]at gk;exact absurd (show(0:Int)≤(k:Int)by omega) gk
  unfold dy
  rw[if_neg (by rw[hm];simp)]
  exact ahu S L R H d (kI (eU S.aD H)) (gi R d).2 (gi R d).1 ⟨rfl,rfl⟩
noncomputable section
def ahF(S:ad)(L:List ByteArray)(R:List Int)(H:List aq)(d:au)(b:ByteArray)(S1:ad)(M:List ByteArray)(e:Int)(T:ad)(K:List ByteArray)(Rr:List Int)(dd:au)(f:Int):List (apr×Sum):=[(46,Sum.one (fun _ _=>some [0,1,6,7,8,5]) [.pointer (some ⟨0,3,none⟩),ah 5 b.size] (aO S.z L R H d++[ab (af b) 5]) (.ret (.tuple #[ah 6 M.length,aa e])) (aO S1.z L R H d++[ab (af b) 5,ab (ao M) 9])),(47,Sum.one (fun _ _=>some [0,1,6,7,8,9]) [al 0,ah 5 M.length] (aO S1.z L R H d++[ab (ao M) 9]) (.ret (aa f)) (nY (ab (ao M) 9) T.z K Rr H dd)),(71,Sum.dp aoL yK)]
theorem ahG(S:ad)(L:List ByteArray)(R:List Int)(H:List aq)(d:au)(b:ByteArray)(S1:ad)(M:List ByteArray)(e:Int)(T:ad)(K:List ByteArray)(Rr:List Int)(dd:au)(f:Int)(sK:aI aoL 46 [.pointer (some ⟨0,3,none⟩),ah 5 b.size] (aO S.z L R H d++[ab (af b) 5]) fun r q=>r=.ret (.tuple #[ah 6 (aoM M),aa e])∧q=aO S1.z L R H d++[ab (af b) 5,ab (ao M) 9])(nZ:aI aoL 47 [al 0,ah 5 (aoM M)] (aO S1.z L R H d++[ab (ao M) 9]) fun r q=>r=.ret (aa f)∧q=nY (ab (ao M) 9) T.z K Rr H dd):dk aoL (dB aoL (dE (ahF S L R H d b S1 M e T K Rr dd f)) 50 40):=dI de mixed (dR (.cons (bB.one sK) (.cons (bB.one nZ) (.cons Hv .nil)))) 50 40
def ahH(S:ad)(L:List ByteArray)(R:List Int)(H:List aq)(d:au)(T:ad)(K:List ByteArray)(Rr:List Int)(G:List aq)(dd:au)(e:Int)(U:ad)(d3:au)(f:Int):List (apr×Sum):=[(50,Sum.one (fun _ _=>some [0,1,2,3,4]) [al 0] (aO S.z L R H d) (.ret (aa e)) (jh T.z K Rr G dd)),(51,Sum.one (fun _ _=>some [0,1,5,6,7]) [al 0] (aO T.z K Rr G dd) (.ret (aa f)) (aO U.z K Rr G d3)),(71,Sum.dp aoL yK)]
theorem ahI(S:ad)(L:List ByteArray)(R:List Int)(H:List aq)(d:au)(T:ad)(K:List ByteArray)(Rr:List Int)(G:List aq)(dd:au)(e:Int)(U:ad)(d3:au)(f:Int)(lF:aI aoL 50 [al 0] (aO S.z L R H d) fun r q=>r=.ret (aa e)∧q=jh T.z K Rr G dd)(iq:aI aoL 51 [al 0] (aO T.z K Rr G dd) fun r q=>r=.ret (aa f)∧q=aO U.z K Rr G d3):dk aoL (dB aoL (dE (ahH S L R H d T K Rr G dd e U d3 f)) 50 40):=dI de mixed (dR (.cons (bB.one lF) (.cons (bB.one iq) (.cons Hv .nil)))) 50 40
def ahJ(S:ad)(L:List ByteArray)(R:List Int)(H:List aq)(d:au)(k:Nat)(e:Int)(G:List aq)(dd:au):List (apr×Sum):=[(54,Sum.one (fun _ _=>some [0,1,2,3,4]) [al 0,.pointer (some ⟨4,k*4,none⟩)] (aO S L R H d) (.ret (aa e)) (aO S L R G dd))]
theorem ahK(S:ad)(L:List ByteArray)(R:List Int)(H:List aq)(d:au)(k:Nat)(e:Int)(G:List aq)(dd:au)(fX:aI aoL 54 [al 0,.pointer (some ⟨4,k*4,none⟩)] (aO S L R H d) fun r q=>r=.ret (aa e)∧q=aO S L R G dd):dk aoL (dB aoL (dE (ahJ S L R H d k e G dd)) 50 40):=dI de mixed (dR (.cons (bB.one fX) .nil)) 50 40
def ahL(S:ad)(L:List ByteArray)(R:List Int)(H:List aq)(d:au)(U:ad)(d3:au)(f:Int):List (apr×Sum):=[(51,Sum.one (fun _ _=>some [0,1,2,3,4]) [al 0] (aO S L R H d) (.ret (aa f)) (aO U L R H d3)),(71,Sum.dp aoL yK)]
theorem ahM(S:ad)(L:List ByteArray)(R:List Int)(H:List aq)(d:au)(U:ad)(d3:au)(f:Int)(iq:aI aoL 51 [al 0] (aO S L R H d) fun r q=>r=.ret (aa f)∧q=aO U L R H d3):dk aoL (dB aoL (dE (ahL S L R H d U d3 f)) 50 40):=dI de mixed (dR (.cons (bB.one iq) (.cons Hv .nil))) 50 40
noncomputable def ahN:List apw:=bd (dC aoL 27)
noncomputable def ahO:List apw:=bd (dC aoL 28)
noncomputable def sL:List apw:=bd (dC aoL 29)
open Tree renaming aW→mN,dn→mF,eS→mL,fA→mQ,dD→mR,fK→mE
noncomputable abbrev fk:List apw:=(bd (pE false (sL.drop 9)))
noncomputable abbrev ahP:List apw:=(bd (pE true (sL.drop 9)))
def RC:Nat→Bool→Bool→Tree→Tree
 |0,_,_,t=>t
 |n+1,d,b,t=>.cM d b (RC n d b t)
theorem eV{R:bj→ai→Prop}{c v:Bool}{t:Tree}(n:Nat)(h1:c=v)(h2:t.ok R):(RC n c v t).ok R:=by
 induction n with
 |zero=>exact h2
 |succ n ih=>exact⟨h1,ih⟩
abbrev Cm:=fun H b T K Rr dd=>([ab (aM (ad.mk (ad.at_ T) (ad.more T) true (ad.B (ad.z T)) (ad.n T) (ad.failed T) (ad.aD T) 0 (ad.rn T) (ad.bN T) (ad.sn T) (ad.hn T) (ad.dX T) (au.raw dd) (ad.closed T)) 1 6 7 8) 89,.abs dd,.dead,.dead,.dead,ab (af b) 5,ab (ao K) 9,ab (ap Rr) 3,ab (aj H) 114]:List ak)
abbrev RD:=fun(S:ad) (L:List ByteArray) (R:List Int) H (d:au) b (S1:ad) (M:List ByteArray) (e:Int) T K Rr dd (f:Int)=>(⟨[(6,cm),(7,aa f)],Cm H b T K Rr dd⟩:ai)
theorem ahQ(S L R H d b S1 M)(e:Int)(T K Rr dd)(f:Int){Q:bo}(aX:aoS (af b) ag=true)(bh:aoS (aj H) ag=true)(hq:Q (.ret (.tuple #[cm,aa f])) (Cm H b T K Rr dd)):aJ aoL 27 44 6 Q .ret (RD S L R H d b S1 M e T K Rr dd f):=aJ.ret (vs:=[cm,aa f]) (l:=[]) (bs:=[0,1,2,3,4,5,6,7,8]) (pl:=[5,6,7,8]) (q:=[af b,ao K,ap Rr,aj H]) (fun u=>by kernel_rfl) (by kernel_rfl) (aF aX (aF (by simp) (aF (by simp) (aF bh bi)))) hq
abbrev Cn:=fun H b T K Rr dd=>([ab (aM (ad.mk (ad.at_ T) (ad.more T) true (ad.B (ad.z T)) (ad.n T) (ad.failed T) (ad.aD T) 0 (ad.rn T) (ad.bN T) (ad.sn T) (ad.hn T) (ad.dX T) (ad.raw T) (ad.closed T)) 1 6 7 8) 89,.abs dd,.dead,.dead,.dead,ab (af b) 5,ab (ao K) 9,ab (ap Rr) 3,ab (aj H) 114]:List ak)
abbrev RE:=fun(S:ad) (L:List ByteArray) (R:List Int) H (d:au) b (S1:ad) (M:List ByteArray) (e:Int) T K Rr dd (f:Int)=>(⟨[(6,cm),(7,aa f)],Cn H b T K Rr dd⟩:ai)
theorem ahR(S L R H d b S1 M)(e:Int)(T K Rr dd)(f:Int){Q:bo}(aX:aoS (af b) ag=true)(bh:aoS (aj H) ag=true)(hq:Q (.ret (.tuple #[cm,aa f])) (Cn H b T K Rr dd)):aJ aoL 27 44 6 Q .ret (RE S L R H d b S1 M e T K Rr dd f):=aJ.ret (vs:=[cm,aa f]) (l:=[]) (bs:=[0,1,2,3,4,5,6,7,8]) (pl:=[5,6,7,8]) (q:=[af b,ao K,ap Rr,aj H]) (fun u=>by kernel_rfl) (by kernel_rfl) (aF aX (aF (by simp) (aF (by simp) (aF bh bi)))) hq
abbrev RF:=fun(S:ad) (L:List ByteArray) (R:List Int) H (d:au) b (S1:ad) (M:List ByteArray) (e:Int) T K Rr dd (f:Int)=>(⟨[(6,cm),(7,aa e)],Cm H b T K Rr dd⟩:ai)
theorem ahS(S L R H d b S1 M)(e:Int)(T K Rr dd)(f:Int){Q:bo}(aX:aoS (af b) ag=true)(bh:aoS (aj H) ag=true)(hq:Q (.ret (.tuple #[cm,aa e])) (Cm H b T K Rr dd)):aJ aoL 27 44 6 Q .ret (RF S L R H d b S1 M e T K Rr dd f):=aJ.ret (vs:=[cm,aa e]) (l:=[]) (bs:=[0,1,2,3,4,5,6,7,8]) (pl:=[5,6,7,8]) (q:=[af b,ao K,ap Rr,aj H]) (fun u=>by kernel_rfl) (by kernel_rfl) (aF aX (aF (by simp) (aF (by simp) (aF bh bi)))) hq
abbrev RG:=fun(S:ad) (L:List ByteArray) (R:List Int) H (d:au) b (S1:ad) (M:List ByteArray) (e:Int) T K Rr dd (f:Int)=>(⟨[(6,cm),(7,aa e)],Cn H b T K Rr dd⟩:ai)
theorem ahT(S L R H d b S1 M)(e:Int)(T K Rr dd)(f:Int){Q:bo}(aX:aoS (af b) ag=true)(bh:aoS (aj H) ag=true)(hq:Q (.ret (.tuple #[cm,aa e])) (Cn H b T K Rr dd)):aJ aoL 27 44 6 Q .ret (RG S L R H d b S1 M e T K Rr dd f):=aJ.ret (vs:=[cm,aa e]) (l:=[]) (bs:=[0,1,2,3,4,5,6,7,8]) (pl:=[5,6,7,8]) (q:=[af b,ao K,ap Rr,aj H]) (fun u=>by kernel_rfl) (by kernel_rfl) (aF aX (aF (by simp) (aF (by simp) (aF bh bi)))) hq
abbrev IT:=fun(S:ad) (L:List ByteArray) (R:List Int) H (d:au) b (S1:ad) (M:List ByteArray) (e:Int) T K Rr dd (f:Int)=>(⟨[(6,cm),(7,aa 0)],[ab (aM (ad.z T) 1 6 7 8) 89,.abs dd,.dead,.dead,.dead,ab (af b) 5,ab (ao K) 9,ab (ap Rr) 3,ab (aj H) 114]⟩:ai)
theorem ahU(S L R H d b S1 M)(e:Int)(T K Rr dd)(f:Int){Q:bo}(aX:aoS (af b) ag=true)(bh:aoS (aj H) ag=true)(hq:Q (.ret (.tuple #[cm,aa 0])) (IT S L R H d b S1 M e T K Rr dd f).objs):aJ aoL 27 44 6 Q .ret (IT S L R H d b S1 M e T K Rr dd f):=aJ.ret (vs:=[cm,aa 0]) (l:=[]) (bs:=[0,1,2,3,4,5,6,7,8]) (pl:=[5,6,7,8]) (q:=[af b,ao K,ap Rr,aj H]) (fun u=>by kernel_rfl) (by kernel_rfl) (aF aX (aF (by simp) (aF (by simp) (aF bh bi)))) hq
abbrev ahV:=fun(S:ad) L R H d (b:ByteArray) (S1:ad) (M:List ByteArray) (e:Int) (T:ad) (K:List ByteArray) (Rr:List Int) (dd:au) (f:Int)=>(⟨[(0,al 0),(1,aa 0),(2,ah 5 b.size)],[ab (aM S.z 1 6 7 8) 89,.abs d,.dead,.dead,.dead,ab (af b) 5,ab (ao L) 9,ab (ap R) 3,ab (aj H) 114]⟩:ai)
theorem ahW(S:ad)(L R H d)(b:ByteArray)(S1:ad)(M)(e:Int)(T:ad)(K Rr dd)(f:Int)(pH:(aj H).all ag=true)(sK:aI aoL 46 [.pointer (some ⟨0,3,none⟩),ah 5 b.size] (aO S.z L R H d++[ab (af b) 5]) fun r q=>r=.ret (.tuple #[ah 6 (aoM M),aa e])∧q=aO S1.z L R H d++[ab (af b) 5,ab (ao M) 9])(nZ:aI aoL 47 [al 0,ah 5 (aoM M)] (aO S1.z L R H d++[ab (ao M) 9]) fun r q=>r=.ret (aa f)∧q=nY (ab (ao M) 9) T.z K Rr H dd)(h0:S.bE=false)(h1:S.more=false)(h2:S.at_=0)(h3:0<b.size)(h4:b.size≤32){Q:aY}(n0:(dW [apZ (some (asq 0 3 none)),ah 5 b.size] [apZ (some (asq 0 3 none)),ah 5 b.size] [ab (aM (ad.z S) 1 2 3 4) 89,ak.abs d,ab (ao L) 9,ab (ap R) 3,ab (aj H) 114,ab (af b) 5] (aO (ad.z S) L R H d++[ab (af b) 5]))=true)(n1:(dW [al 0,ah 5 (aoM M)] [al 0,ah 5 (aoM M)] [ab (aM (ad.z S1) 1 2 3 4) 89,ak.abs d,ab (ao L) 9,ab (ap R) 3,ab (aj H) 114,ab (ao M) 9] (aO (ad.z S1) L R H d++[ab (ao M) 9]))=true)(aX:aoS (af b) ag=true)(bh:aoS (aj H) ag=true)(l4:(f != 0)=true→(f==25)=true→Q .ret (RD S L R H d b S1 M e T K Rr dd f))(l5:(f != 0)=true→(f==25)=false→Q .ret (RE S L R H d b S1 M e T K Rr dd f))(l6:(f != 0)=false→(e != 0)=true→(e==25)=true→Q .ret (RF S L R H d b S1 M e T K Rr dd f))(l7:(f != 0)=false→(e != 0)=true→(e==25)=false→Q .ret (RG S L R H d b S1 M e T K Rr dd f))(l8:(f != 0)=false→(e != 0)=false→Q .ret (IT S L R H d b S1 M e T K Rr dd f)):an aoL 44 6 ahN (ahV S L R H d b S1 M e T K Rr dd f) Q:=
 aZ (ahG S L R H d b S1 M e T K Rr dd f sK nZ) 1000 (aA [8,2,0,0,0,0,2,0,0,4,0,2,0,0,5,1,1,1,1,1,1,1,1,1,3,1,1,1,1,1,1,1,1] (.fork 0 (.fork 1 (.leaf [6,7] [0,1,2,3,4,5,10,11,12] [5,10,11,12]) (.leaf [6,7] [0,1,2,3,4,5,10,11,12] [5,10,11,12])) (.fork 0 (.fork 1 (.leaf [6,7] [0,1,2,3,4,5,10,11,12] [5,10,11,12]) (.leaf [6,7] [0,1,2,3,4,5,10,11,12] [5,10,11,12])) (.leaf [6,7] [0,1,2,3,4,5,10,11,12] [5,10,11,12])))) (fun u=>by kernel_rfl) (mN (show(ad.bE S)=false by assumption) (eV 7 (show(ad.more S)=false by assumption) (mN (show(0 != ad.at_ S)=false by simp at pH sK nZ h0 h1 h2 h3 h4⊢ <;>omega) (eV 4 (decide_eq_false (by omega):((b.size:Int)==0)=false) (mN (decide_eq_false (by omega):(decide ((b.size:Int)>32))=false) (aL L R H (mN (aH b) (mN n0 (aL L R H (mN (aH b) (mN (aV M) (aL L R H (mN (aV M) (mN n1 (mN (aV M) (mN (aV K) (mN (aQ Rr) (mN (a7 H) (mF (c:=f != 0) (fun h0=>(mF (c:=f==25) (fun h1=>(mN (aH b) (mN (aV K) (mN (aQ Rr) (mN (a7 H) (mR (l4 h0 h1))))))) (fun h1=>(mN (aH b) (mN (aV K) (mN (aQ Rr) (mN (a7 H) (mR (l5 h0 h1))))))))) (fun h0=>(mF (c:=e != 0) (fun h1=>(mF (c:=e==25) (fun h2=>(mN (aH b) (mN (aV K) (mN (aQ Rr) (mN (a7 H) (mR (l6 h0 h1 h2))))))) (fun h2=>(mN (aH b) (mN (aV K) (mN (aQ Rr) (mN (a7 H) (mR (l7 h0 h1 h2))))))))) (fun h1=>(mN (aH b) (mN (aV K) (mN (aQ Rr) (mN (a7 H) (mR (l8 h0 h1))))))))))))))))))))))))))))
abbrev RH:=fun T K Rr G dd=>([ab (aM (ad.mk (ad.at_ T) (ad.more T) true (ad.B (ad.z T)) (ad.n T) (ad.failed T) (ad.aD T) 0 (ad.rn T) (ad.bN T) (ad.sn T) (ad.hn T) (ad.dX T) (au.raw dd) (ad.closed T)) 1 5 6 7) 89,.abs dd,.dead,.dead,.dead,ab (ao K) 9,ab (ap Rr) 3,ab (aj G) 114]:List ak)
abbrev RI:=fun(S:ad) (L:List ByteArray) (R:List Int) (H:List aq) (d:au) T K Rr G dd (e:Int) (U:ad) (d3:au) (f:Int)=>(⟨[(4,cm),(5,aa e)],RH T K Rr G dd⟩:ai)
theorem ahX(S L R H d T K Rr G dd)(e:Int)(U d3)(f:Int){Q:bo}(hq:Q (.ret (.tuple #[cm,aa e])) (RH T K Rr G dd)):aJ aoL 28 33 5 Q .ret (RI S L R H d T K Rr G dd e U d3 f):=aJ.ret (vs:=[cm,aa e]) (l:=[]) (bs:=[0,1,2,3,4,5,6,7]) (pl:=[5,6,7]) (q:=[ao K,ap Rr,aj G]) (fun u=>by kernel_rfl) (by kernel_rfl) (aF (by simp) (aF (by simp) (aF (by simp) bi))) hq
abbrev RJ:=fun T K Rr G dd=>([ab (aM (ad.mk (ad.at_ T) (ad.more T) true (ad.B (ad.z T)) (ad.n T) (ad.failed T) (ad.aD T) 0 (ad.rn T) (ad.bN T) (ad.sn T) (ad.hn T) (ad.dX T) (ad.raw T) (ad.closed T)) 1 5 6 7) 89,.abs dd,.dead,.dead,.dead,ab (ao K) 9,ab (ap Rr) 3,ab (aj G) 114]:List ak)
abbrev RK:=fun(S:ad) (L:List ByteArray) (R:List Int) (H:List aq) (d:au) T K Rr G dd (e:Int) (U:ad) (d3:au) (f:Int)=>(⟨[(4,cm),(5,aa e)],RJ T K Rr G dd⟩:ai)
theorem ahY(S L R H d T K Rr G dd)(e:Int)(U d3)(f:Int){Q:bo}(hq:Q (.ret (.tuple #[cm,aa e])) (RJ T K Rr G dd)):aJ aoL 28 33 5 Q .ret (RK S L R H d T K Rr G dd e U d3 f):=aJ.ret (vs:=[cm,aa e]) (l:=[]) (bs:=[0,1,2,3,4,5,6,7]) (pl:=[5,6,7]) (q:=[ao K,ap Rr,aj G]) (fun u=>by kernel_rfl) (by kernel_rfl) (aF (by simp) (aF (by simp) (aF (by simp) bi))) hq
abbrev RL:=fun K Rr G U d3=>([ab (aM (ad.mk (ad.at_ U) (ad.more U) true (ad.B (ad.z U)) (ad.n U) (ad.failed U) (ad.aD U) 0 (ad.rn U) (ad.bN U) (ad.sn U) (ad.hn U) (ad.dX U) (au.raw d3) (ad.closed U)) 1 5 6 7) 89,.abs d3,.dead,.dead,.dead,ab (ao K) 9,ab (ap Rr) 3,ab (aj G) 114]:List ak)
abbrev RM:=fun(S:ad) (L:List ByteArray) (R:List Int) (H:List aq) (d:au) (T:ad) K Rr G (dd:au) (e:Int) U d3 (f:Int)=>(⟨[(4,cm),(5,aa f)],RL K Rr G U d3⟩:ai)
theorem ahZ(S L R H d T K Rr G dd)(e:Int)(U d3)(f:Int){Q:bo}(hq:Q (.ret (.tuple #[cm,aa f])) (RL K Rr G U d3)):aJ aoL 28 33 5 Q .ret (RM S L R H d T K Rr G dd e U d3 f):=aJ.ret (vs:=[cm,aa f]) (l:=[]) (bs:=[0,1,2,3,4,5,6,7]) (pl:=[5,6,7]) (q:=[ao K,ap Rr,aj G]) (fun u=>by kernel_rfl) (by kernel_rfl) (aF (by simp) (aF (by simp) (aF (by simp) bi))) hq
abbrev RN:=fun K Rr G U d3=>([ab (aM (ad.mk (ad.at_ U) (ad.more U) true (ad.B (ad.z U)) (ad.n U) (ad.failed U) (ad.aD U) 0 (ad.rn U) (ad.bN U) (ad.sn U) (ad.hn U) (ad.dX U) (ad.raw U) (ad.closed U)) 1 5 6 7) 89,.abs d3,.dead,.dead,.dead,ab (ao K) 9,ab (ap Rr) 3,ab (aj G) 114]:List ak)
abbrev RO:=fun(S:ad) (L:List ByteArray) (R:List Int) (H:List aq) (d:au) (T:ad) K Rr G (dd:au) (e:Int) U d3 (f:Int)=>(⟨[(4,cm),(5,aa f)],RN K Rr G U d3⟩:ai)
theorem ah0(S L R H d T K Rr G dd)(e:Int)(U d3)(f:Int){Q:bo}(hq:Q (.ret (.tuple #[cm,aa f])) (RN K Rr G U d3)):aJ aoL 28 33 5 Q .ret (RO S L R H d T K Rr G dd e U d3 f):=aJ.ret (vs:=[cm,aa f]) (l:=[]) (bs:=[0,1,2,3,4,5,6,7]) (pl:=[5,6,7]) (q:=[ao K,ap Rr,aj G]) (fun u=>by kernel_rfl) (by kernel_rfl) (aF (by simp) (aF (by simp) (aF (by simp) bi))) hq
abbrev IU:=fun(S:ad) (L:List ByteArray) (R:List Int) (H:List aq) (d:au) (T:ad) K Rr G (dd:au) (e:Int) U d3 (f:Int)=>(⟨[(4,cm),(5,aa 0)],[ab (aM (ad.z U) 1 5 6 7) 89,.abs d3,.dead,.dead,.dead,ab (ao K) 9,ab (ap Rr) 3,ab (aj G) 114]⟩:ai)
theorem ah1(S L R H d T K Rr G dd)(e:Int)(U d3)(f:Int){Q:bo}(hq:Q (.ret (.tuple #[cm,aa 0])) (IU S L R H d T K Rr G dd e U d3 f).objs):aJ aoL 28 33 5 Q .ret (IU S L R H d T K Rr G dd e U d3 f):=aJ.ret (vs:=[cm,aa 0]) (l:=[]) (bs:=[0,1,2,3,4,5,6,7]) (pl:=[5,6,7]) (q:=[ao K,ap Rr,aj G]) (fun u=>by kernel_rfl) (by kernel_rfl) (aF (by simp) (aF (by simp) (aF (by simp) bi))) hq
abbrev ah2:=fun(S:ad) L R H d (T:ad) (K:List ByteArray) (Rr:List Int) (G:List aq) (dd:au) (e:Int) (U:ad) (d3:au) (f:Int)=>(⟨[(0,al 0),(1,aa 0)],[ab (aM S.z 1 2 3 4) 89,.abs d,ab (ao L) 9,ab (ap R) 3,ab (aj H) 114]⟩:ai)
theorem ah3(S:ad)(L R H d)(T:ad)(K Rr G dd)(e:Int)(U:ad)(d3)(f:Int)(pH:(aj H).all ag=true)(pG:(aj G).all ag=true)(lF:aI aoL 50 [al 0] (aO S.z L R H d) fun r q=>r=.ret (aa e)∧q=jh T.z K Rr G dd)(iq:aI aoL 51 [al 0] (aO T.z K Rr G dd) fun r q=>r=.ret (aa f)∧q=aO U.z K Rr G d3)(h0:S.bE=false)(h1:S.more=false)(h2:S.at_=0){Q:aY}(n0:(dW [al 0] [al 0] [ab (aM (ad.z S) 1 2 3 4) 89,ak.abs d,ab (ao L) 9,ab (ap R) 3,ab (aj H) 114] (aO (ad.z S) L R H d))=true)(l1:(e != 0)=true→(e==25)=true→Q .ret (RI S L R H d T K Rr G dd e U d3 f))(l2:(e != 0)=true→(e==25)=false→Q .ret (RK S L R H d T K Rr G dd e U d3 f))(n3:(e != 0)=false→(dW [al 0] [al 0] [ab (aM (ad.z T) 1 2 3 4) 89,ak.abs dd,ab (ao K) 9,ab (ap Rr) 3,ab (aj G) 114] (aO (ad.z T) K Rr G dd))=true)(l4:(e != 0)=false→(f != 0)=true→(f==25)=true→Q .ret (RM S L R H d T K Rr G dd e U d3 f))(l5:(e != 0)=false→(f != 0)=true→(f==25)=false→Q .ret (RO S L R H d T K Rr G dd e U d3 f))(l6:(e != 0)=false→(f != 0)=false→Q .ret (IU S L R H d T K Rr G dd e U d3 f)):an aoL 33 5 ahO (ah2 S L R H d T K Rr G dd e U d3 f) Q:=
 aZ (ahI S L R H d T K Rr G dd e U d3 f lF iq) 1000 (aA [6,2,0,0,0,0,2,0,0,5,1,1,1,1,1,1] (.fork 0 (.fork 1 (.leaf [4,5] [0,1,2,3,4,5,6,7] [5,6,7]) (.leaf [4,5] [0,1,2,3,4,5,6,7] [5,6,7])) (aA [3,1,1,1,1,1,1] (.fork 0 (.fork 1 (.leaf [4,5] [0,1,2,3,4,5,6,7] [5,6,7]) (.leaf [4,5] [0,1,2,3,4,5,6,7] [5,6,7])) (.leaf [4,5] [0,1,2,3,4,5,6,7] [5,6,7]))))) (fun u=>by kernel_rfl) (mN (show(ad.bE S)=false by assumption) (eV 7 (show(ad.more S)=false by assumption) (mN (show(0 != ad.at_ S)=false by simp at pH pG lF iq h0 h1 h2⊢ <;>omega) (aL L R H (mN n0 (mN (aV K) (mN (aQ Rr) (mN (a7 G) (mF (c:=e != 0) (fun h0=>(mF (c:=e==25) (fun h1=>(mN (aV K) (mN (aQ Rr) (mN (a7 G) (mR (l1 h0 h1)))))) (fun h1=>(mN (aV K) (mN (aQ Rr) (mN (a7 G) (mR (l2 h0 h1)))))))) (fun h0=>(mN (aV K) (mN (aQ Rr) (mN (a7 G) (mN (n3 h0) (mN (aV K) (mN (aQ Rr) (mN (a7 G) (mF (c:=f != 0) (fun h1=>(mF (c:=f==25) (fun h2=>(mN (aV K) (mN (aQ Rr) (mN (a7 G) (mR (l4 h0 h1 h2)))))) (fun h2=>(mN (aV K) (mN (aQ Rr) (mN (a7 G) (mR (l5 h0 h1 h2)))))))) (fun h1=>(mN (aV K) (mN (aQ Rr) (mN (a7 G) (mR (l6 h0 h1))))))))))))))))))))))))
abbrev wz:=fun S L R H d=>([ab (aM S 1 2 3 4) 89,.abs d,ab (ao L) 9,ab (ap R) 3,ab (aj H) 114]:List ak)
abbrev ah4:=fun S L R H d=>(⟨[(0,al 0),(6,aa 0),(22,.bool (decide ((↑(ad.rn S):Int)>0)))],wz S L R H d⟩:ai)
abbrev RP:=fun S L R H d=>(⟨[(0,al 0)],wz S L R H d⟩:ai)
theorem ah5(S:ad)(L R H d)(pH:(aj H).all ag=true)(h0:S.bE=false)(h1:S.more=true)(h2:0<S.rn){Q:aY}(aX:aoS (ao L) ag=true)(bh:aoS (ap R) ag=true)(bD:aoS (aj H) ag=true)(l3:an aoL 68 5 (sL.drop 9) (ah4 S L R H d) Q):an aoL 68 5 sL (RP S L R H d) Q:=
 aZ bt 9 (aA [6,2] (.leaf [0,6,22] [0,1,2,3,4] [2,3,4])) (fun u=>by kernel_rfl) (mN (show(ad.bE S)=false by assumption) (mN (show(!ad.more S)=false by simp at pH h0 h1 h2⊢ <;>omega) (aL L R H (mQ l3))))
abbrev ah6:=fun S L R H d=>(⟨[(0,al 0),(6,aa 0),(22,.bool (decide ((↑(ad.rn S):Int)>0)))],wz S L R H d⟩:ai)
theorem ah7(S:ad)(L R H d)(pH:(aj H).all ag=true)(h0:S.bE=false)(h1:S.more=true)(h2:S.rn=0){Q:aY}(aX:aoS (ao L) ag=true)(bh:aoS (ap R) ag=true)(bD:aoS (aj H) ag=true)(l3:an aoL 68 5 (sL.drop 9) (ah6 S L R H d) Q):an aoL 68 5 sL (RP S L R H d) Q:=
 aZ bt 9 (aA [6,2] (.leaf [0,6,22] [0,1,2,3,4] [2,3,4])) (fun u=>by kernel_rfl) (mN (show(ad.bE S)=false by assumption) (mN (show(!ad.more S)=false by simp at pH h0 h1 h2⊢ <;>omega) (aL L R H (mQ l3))))
abbrev RQ:=fun S L R H d=>(⟨[(0,al 0),(5,.string (bc (ao L) (ad.ro S+0))),(6,aa 0)],[ab (aM (ad.mk (ad.at_ S) (ad.more S) (ad.bE S) (ad.B S) (ad.n S) (ad.failed S) (ad.aD S) (ad.ro S+1) (ad.rn S-1) (ad.bN S) (ad.sn S) (ad.hn S) (ad.dX S) (ad.raw S) (ad.closed S)) 1 2 3 4) 89,.abs d,ab (ao L) 9,ab (ap R) 3,ab (aj H) 114]⟩:ai)
abbrev ah8:=fun S L R H d=>(⟨[(0,al 0),(6,aa 0)],wz S L R H d⟩:ai)
theorem ah9(S:ad)(L R H d)(pH:(aj H).all ag=true)(h0:0<S.rn){Q:aY}(n0:(eQ (ao L) (ad.ro S+0))=true)(l4:Q .normal (RQ S L R H d)):an aoL 68 5 ahP (ah8 S L R H d) Q:=
 aZ bt 1000 (aA [2,3,0,1,2,3,1] (.leaf [0,5,6] [0,1,2,3,4] [2,3,4])) (fun u=>by kernel_rfl) (mN (show(ao9 0 (ad.rn S))=true by simp at pH h0⊢ <;>omega) (mN n0 (mN (show(apf 1 (ad.rn S))=true by simp at pH h0⊢ <;>omega) (mN (show(apf (ad.rn S) (ad.rn S))=true by simp) (aL L R H (mQ (an.done (by kernel_rfl) l4)))))))
abbrev aia:=fun S L R d a=>(⟨[(0,al 0),(7,al 4)],[ab (aM S 1 2 3 4) 89,.abs d,ab (ao L) 9,ab (ap R) 3,ab (aj [a]) 114]⟩:ai)
abbrev aib:=fun S L R d a=>(⟨[(0,al 0)],[ab (aM S 1 2 3 4) 89,.abs d,ab (ao L) 9,ab (ap R) 3,ab (aj [a]) 114]⟩:ai)
theorem aic(S:ad)(L R d a)(h0:S.hn=1){Q:aY}(n0:(aq.there a)=true)(aX:aoS (ao L) ag=true)(bh:aoS (ap R) ag=true)(l3:an aoL 68 5 (fk.drop 1) (aia S L R d a) Q):an aoL 68 5 fk (aib S L R d a) Q:=
 aZ Bj 1 (aA [9,0,3,7,1,1,21,3,2,0,3] (.leaf [0,7] [0,1,2,3,4] [2,3])) (fun u=>by kernel_rfl) (mN (decide_eq_true (by omega):(decide (0<(↑(ad.hn S):Int)))=true) (mN (show(ao9 0 (ad.hn S))=true by simp at h0⊢ <;>omega) (eV 5 n0 (mN (decide_eq_false (by omega):(decide (1<(↑(ad.hn S):Int)))=false) (mN (show(ao9 0 (ad.hn S))=true by simp at h0⊢ <;>omega) (mN (aV L) (mN (aQ R) (mQ l3))))))))
abbrev uD:=fun S L R d a b=>([ab (aM S 1 2 3 4) 89,.abs d,ab (ao L) 9,ab (ap R) 3,ab (aj [a,b]) 114]:List ak)
abbrev aid:=fun S L R d a b=>(⟨[(0,al 0),(7,.pointer (some ⟨4,4,none⟩))],uD S L R d a b⟩:ai)
abbrev aie:=fun S L R d a b=>(⟨[(0,al 0),(7,al 4)],uD S L R d a b⟩:ai)
abbrev aif:=fun S L R d a b=>(⟨[(0,al 0),(7,.pointer (some ⟨4,4,none⟩))],uD S L R d a b⟩:ai)
abbrev aih:=fun S L R d a b=>(⟨[(0,al 0),(7,al 4)],uD S L R d a b⟩:ai)
abbrev aii:=fun S L R d a b=>(⟨[(0,al 0),(7,al 4)],uD S L R d a b⟩:ai)
abbrev aij:=fun S L R d a b=>(⟨[(0,al 0),(7,.pointer (some ⟨4,4,none⟩))],uD S L R d a b⟩:ai)
abbrev aik:=fun S L R d a b=>(⟨[(0,al 0)],uD S L R d a b⟩:ai)
theorem ail(S:ad)(L R d a b)(h0:S.hn=2){Q:aY}(l2:(aq.there a)=true→(aq.there b)=true→(ad.aD S)=true→(decide (cf (aq.line a) (aq.line b)<0))=true→an aoL 68 5 (fk.drop 1) (aid S L R d a b) Q)(l3:(aq.there a)=true→(aq.there b)=true→(ad.aD S)=true→(decide (cf (aq.line a) (aq.line b)<0))=false→an aoL 68 5 (fk.drop 1) (aie S L R d a b) Q)(l4:(aq.there a)=true→(aq.there b)=true→(ad.aD S)=false→(decide (cf (aq.line b) (aq.line a)<0))=true→an aoL 68 5 (fk.drop 1) (aif S L R d a b) Q)(l5:(aq.there a)=true→(aq.there b)=true→(ad.aD S)=false→(decide (cf (aq.line b) (aq.line a)<0))=false→an aoL 68 5 (fk.drop 1) (aih S L R d a b) Q)(l6:(aq.there a)=true→(aq.there b)=false→an aoL 68 5 (fk.drop 1) (aii S L R d a b) Q)(n7:(aq.there a)=false→(aq.there b)=true)(l8:(aq.there a)=false→an aoL 68 5 (fk.drop 1) (aij S L R d a b) Q):an aoL 68 5 fk (aik S L R d a b) Q:=
 aZ Bj 1 (aA [9,0,3] (.fork 3 (aA [1,1,21,3,3,0,3] (.fork 3 (aA [1,1,14,3] (.fork 6 (aA [7,3] (.fork 0 (aA [0,0,3] (.leaf [0,7] [0,1,2,3,4] [2,3])) (aA [0,0,3] (.leaf [0,7] [0,1,2,3,4] [2,3])))) (aA [7,3] (.fork 0 (aA [0,0,3] (.leaf [0,7] [0,1,2,3,4] [2,3])) (aA [0,0,3] (.leaf [0,7] [0,1,2,3,4] [2,3])))))) (aA [0,0,0,0,2,0,3] (.leaf [0,7] [0,1,2,3,4] [2,3])))) (aA [0,0,0,0,3,0,3,7,1,1,21,3,2,0,3] (.leaf [0,7] [0,1,2,3,4] [2,3])))) (fun u=>by kernel_rfl) (mN (decide_eq_true (by omega):(decide (0<(↑(ad.hn S):Int)))=true) (mN (show(ao9 0 (ad.hn S))=true by simp at h0⊢ <;>omega) (mF (c:=aq.there a) (fun h0=>(eV 4 h0 (mN (decide_eq_true (by omega):(decide (1<(↑(ad.hn S):Int)))=true) (mN (show(ao9 1 (ad.hn S))=true by simp at h0 h0⊢ <;>omega) (mF (c:=aq.there b) (fun h1=>(eV 2 h1 (mN (show(ao9 0 (ad.hn S))=true by simp at h0 h0 h1⊢ <;>omega) (mF (c:=ad.aD S) (fun h2=>(eV 2 h1 (mF (c:=decide (cf (aq.line a) (aq.line b)<0)) (fun h3=>(mN (decide_eq_false (by omega):(decide (2<(↑(ad.hn S):Int)))=false) (mN (show(ao9 1 (ad.hn S))=true by simp at h0 h0 h1 h2 h3⊢ <;>omega) (mN (aV L) (mN (aQ R) (mQ (l2 h0 h1 h2 h3))))))) (fun h3=>(mN (decide_eq_false (by omega):(decide (2<(↑(ad.hn S):Int)))=false) (mN (show(ao9 0 (ad.hn S))=true by simp at h0 h0 h1 h2 h3⊢ <;>omega) (mN (aV L) (mN (aQ R) (mQ (l3 h0 h1 h2 h3)))))))))) (fun h2=>(eV 2 h1 (mF (c:=decide (cf (aq.line b) (aq.line a)<0)) (fun h3=>(mN (decide_eq_false (by omega):(decide (2<(↑(ad.hn S):Int)))=false) (mN (show(ao9 1 (ad.hn S))=true by simp at h0 h0 h1 h2 h3⊢ <;>omega) (mN (aV L) (mN (aQ R) (mQ (l4 h0 h1 h2 h3))))))) (fun h3=>(mN (decide_eq_false (by omega):(decide (2<(↑(ad.hn S):Int)))=false) (mN (show(ao9 0 (ad.hn S))=true by simp at h0 h0 h1 h2 h3⊢ <;>omega) (mN (aV L) (mN (aQ R) (mQ (l5 h0 h1 h2 h3)))))))))))))) (fun h1=>(eV 4 h1 (mN (decide_eq_false (by omega):(decide (2<(↑(ad.hn S):Int)))=false) (mN (show(ao9 0 (ad.hn S))=true by simp at h0 h0 h1⊢ <;>omega) (mN (aV L) (mN (aQ R) (mQ (l6 h0 h1))))))))))))) (fun h0=>(eV 4 h0 (mN (decide_eq_true (by omega):(decide (1<(↑(ad.hn S):Int)))=true) (mN (show(ao9 1 (ad.hn S))=true by simp at h0 h0⊢ <;>omega) (eV 5 (n7 h0) (mN (decide_eq_false (by omega):(decide (2<(↑(ad.hn S):Int)))=false) (mN (show(ao9 1 (ad.hn S))=true by simp at h0 h0⊢ <;>omega) (mN (aV L) (mN (aQ R) (mQ (l8 h0))))))))))))))
abbrev iL:=fun S L R d a b c=>([ab (aM S 1 2 3 4) 89,.abs d,ab (ao L) 9,ab (ap R) 3,ab (aj [a,b,c]) 114]:List ak)
abbrev aim:=fun S L R d a b c=>(⟨[(0,al 0),(7,.pointer (some ⟨4,8,none⟩))],iL S L R d a b c⟩:ai)
abbrev ain:=fun S L R d a b c=>(⟨[(0,al 0),(7,.pointer (some ⟨4,4,none⟩))],iL S L R d a b c⟩:ai)
abbrev aio:=fun S L R d a b c=>(⟨[(0,al 0),(7,.pointer (some ⟨4,4,none⟩))],iL S L R d a b c⟩:ai)
abbrev aip:=fun S L R d a b c=>(⟨[(0,al 0),(7,.pointer (some ⟨4,8,none⟩))],iL S L R d a b c⟩:ai)
abbrev aiq:=fun S L R d a b c=>(⟨[(0,al 0),(7,al 4)],iL S L R d a b c⟩:ai)
abbrev air:=fun S L R d a b c=>(⟨[(0,al 0),(7,al 4)],iL S L R d a b c⟩:ai)
abbrev ais:=fun S L R d a b c=>(⟨[(0,al 0),(7,.pointer (some ⟨4,8,none⟩))],iL S L R d a b c⟩:ai)
abbrev ait:=fun S L R d a b c=>(⟨[(0,al 0),(7,.pointer (some ⟨4,4,none⟩))],iL S L R d a b c⟩:ai)
abbrev aiu:=fun S L R d a b c=>(⟨[(0,al 0),(7,.pointer (some ⟨4,4,none⟩))],iL S L R d a b c⟩:ai)
abbrev aiv:=fun S L R d a b c=>(⟨[(0,al 0),(7,.pointer (some ⟨4,8,none⟩))],iL S L R d a b c⟩:ai)
abbrev aiw:=fun S L R d a b c=>(⟨[(0,al 0),(7,al 4)],iL S L R d a b c⟩:ai)
abbrev aix:=fun S L R d a b c=>(⟨[(0,al 0),(7,al 4)],iL S L R d a b c⟩:ai)
abbrev aiy:=fun S L R d a b c=>(⟨[(0,al 0),(7,.pointer (some ⟨4,8,none⟩))],iL S L R d a b c⟩:ai)
abbrev aiz:=fun S L R d a b c=>(⟨[(0,al 0),(7,al 4)],iL S L R d a b c⟩:ai)
abbrev aiA:=fun S L R d a b c=>(⟨[(0,al 0),(7,.pointer (some ⟨4,8,none⟩))],iL S L R d a b c⟩:ai)
abbrev aiB:=fun S L R d a b c=>(⟨[(0,al 0),(7,al 4)],iL S L R d a b c⟩:ai)
abbrev aiC:=fun S L R d a b c=>(⟨[(0,al 0),(7,al 4)],iL S L R d a b c⟩:ai)
abbrev aiD:=fun S L R d a b c=>(⟨[(0,al 0),(7,.pointer (some ⟨4,8,none⟩))],iL S L R d a b c⟩:ai)
abbrev aiE:=fun S L R d a b c=>(⟨[(0,al 0),(7,.pointer (some ⟨4,4,none⟩))],iL S L R d a b c⟩:ai)
abbrev aiF:=fun S L R d a b c=>(⟨[(0,al 0),(7,.pointer (some ⟨4,8,none⟩))],iL S L R d a b c⟩:ai)
abbrev aiG:=fun S L R d a b c=>(⟨[(0,al 0),(7,.pointer (some ⟨4,4,none⟩))],iL S L R d a b c⟩:ai)
abbrev aiH:=fun S L R d a b c=>(⟨[(0,al 0),(7,.pointer (some ⟨4,4,none⟩))],iL S L R d a b c⟩:ai)
abbrev aiI:=fun S L R d a b c=>(⟨[(0,al 0),(7,.pointer (some ⟨4,8,none⟩))],iL S L R d a b c⟩:ai)
abbrev aiJ:=fun S L R d a b c=>(⟨[(0,al 0)],iL S L R d a b c⟩:ai)
theorem aiK(S:ad)(L R d a b c)(h0:S.hn=3){Q:aY}(l2:(aq.there a)=true→(aq.there b)=true→(ad.aD S)=true→(decide (cf (aq.line a) (aq.line b)<0))=true→(aq.there c)=true→(decide (cf (aq.line b) (aq.line c)<0))=true→an aoL 68 5 (fk.drop 1) (aim S L R d a b c) Q)(l3:(aq.there a)=true→(aq.there b)=true→(ad.aD S)=true→(decide (cf (aq.line a) (aq.line b)<0))=true→(aq.there c)=true→(decide (cf (aq.line b) (aq.line c)<0))=false→an aoL 68 5 (fk.drop 1) (ain S L R d a b c) Q)(l4:(aq.there a)=true→(aq.there b)=true→(ad.aD S)=true→(decide (cf (aq.line a) (aq.line b)<0))=true→(aq.there c)=false→an aoL 68 5 (fk.drop 1) (aio S L R d a b c) Q)(l5:(aq.there a)=true→(aq.there b)=true→(ad.aD S)=true→(decide (cf (aq.line a) (aq.line b)<0))=false→(aq.there c)=true→(decide (cf (aq.line a) (aq.line c)<0))=true→an aoL 68 5 (fk.drop 1) (aip S L R d a b c) Q)(l6:(aq.there a)=true→(aq.there b)=true→(ad.aD S)=true→(decide (cf (aq.line a) (aq.line b)<0))=false→(aq.there c)=true→(decide (cf (aq.line a) (aq.line c)<0))=false→an aoL 68 5 (fk.drop 1) (aiq S L R d a b c) Q)(l7:(aq.there a)=true→(aq.there b)=true→(ad.aD S)=true→(decide (cf (aq.line a) (aq.line b)<0))=false→(aq.there c)=false→an aoL 68 5 (fk.drop 1) (air S L R d a b c) Q)(l8:(aq.there a)=true→(aq.there b)=true→(ad.aD S)=false→(decide (cf (aq.line b) (aq.line a)<0))=true→(aq.there c)=true→(decide (cf (aq.line c) (aq.line b)<0))=true→an aoL 68 5 (fk.drop 1) (ais S L R d a b c) Q)(l9:(aq.there a)=true→(aq.there b)=true→(ad.aD S)=false→(decide (cf (aq.line b) (aq.line a)<0))=true→(aq.there c)=true→(decide (cf (aq.line c) (aq.line b)<0))=false→an aoL 68 5 (fk.drop 1) (ait S L R d a b c) Q)(jU:(aq.there a)=true→(aq.there b)=true→(ad.aD S)=false→(decide (cf (aq.line b) (aq.line a)<0))=true→(aq.there c)=false→an aoL 68 5 (fk.drop 1) (aiu S L R d a b c) Q)(gJ:(aq.there a)=true→(aq.there b)=true→(ad.aD S)=false→(decide (cf (aq.line b) (aq.line a)<0))=false→(aq.there c)=true→(decide (cf (aq.line c) (aq.line a)<0))=true→an aoL 68 5 (fk.drop 1) (aiv S L R d a b c) Q)(jS:(aq.there a)=true→(aq.there b)=true→(ad.aD S)=false→(decide (cf (aq.line b) (aq.line a)<0))=false→(aq.there c)=true→(decide (cf (aq.line c) (aq.line a)<0))=false→an aoL 68 5 (fk.drop 1) (aiw S L R d a b c) Q)(lr:(aq.there a)=true→(aq.there b)=true→(ad.aD S)=false→(decide (cf (aq.line b) (aq.line a)<0))=false→(aq.there c)=false→an aoL 68 5 (fk.drop 1) (aix S L R d a b c) Q)(uE:(aq.there a)=true→(aq.there b)=false→(aq.there c)=true→(ad.aD S)=true→(decide (cf (aq.line a) (aq.line c)<0))=true→an aoL 68 5 (fk.drop 1) (aiy S L R d a b c) Q)(Co:(aq.there a)=true→(aq.there b)=false→(aq.there c)=true→(ad.aD S)=true→(decide (cf (aq.line a) (aq.line c)<0))=false→an aoL 68 5 (fk.drop 1) (aiz S L R d a b c) Q)(aiL:(aq.there a)=true→(aq.there b)=false→(aq.there c)=true→(ad.aD S)=false→(decide (cf (aq.line c) (aq.line a)<0))=true→an aoL 68 5 (fk.drop 1) (aiA S L R d a b c) Q)(aiM:(aq.there a)=true→(aq.there b)=false→(aq.there c)=true→(ad.aD S)=false→(decide (cf (aq.line c) (aq.line a)<0))=false→an aoL 68 5 (fk.drop 1) (aiB S L R d a b c) Q)(aiN:(aq.there a)=true→(aq.there b)=false→(aq.there c)=false→an aoL 68 5 (fk.drop 1) (aiC S L R d a b c) Q)(aiO:(aq.there a)=false→(aq.there b)=true→(aq.there c)=true→(ad.aD S)=true→(decide (cf (aq.line b) (aq.line c)<0))=true→an aoL 68 5 (fk.drop 1) (aiD S L R d a b c) Q)(aiP:(aq.there a)=false→(aq.there b)=true→(aq.there c)=true→(ad.aD S)=true→(decide (cf (aq.line b) (aq.line c)<0))=false→an aoL 68 5 (fk.drop 1) (aiE S L R d a b c) Q)(aiQ:(aq.there a)=false→(aq.there b)=true→(aq.there c)=true→(ad.aD S)=false→(decide (cf (aq.line c) (aq.line b)<0))=true→an aoL 68 5 (fk.drop 1) (aiF S L R d a b c) Q)(aiR:(aq.there a)=false→(aq.there b)=true→(aq.there c)=true→(ad.aD S)=false→(decide (cf (aq.line c) (aq.line b)<0))=false→an aoL 68 5 (fk.drop 1) (aiG S L R d a b c) Q)(aiS:(aq.there a)=false→(aq.there b)=true→(aq.there c)=false→an aoL 68 5 (fk.drop 1) (aiH S L R d a b c) Q)(n24:(aq.there a)=false→(aq.there b)=false→(aq.there c)=true)(aiT:(aq.there a)=false→(aq.there b)=false→an aoL 68 5 (fk.drop 1) (aiI S L R d a b c) Q):an aoL 68 5 fk (aiJ S L R d a b c) Q:=
 aZ Bj 1 (aA [9,0,3] (.fork 3 (aA [1,1,21,3,3,0,3] (.fork 3 (aA [1,1,14,3] (.fork 6 (aA [7,3] (.fork 0 (aA [1,0,3] (.fork 3 (aA [1,1,14,3,13,7,3] (.fork 0 (aA [0,0,3] (.leaf [0,7] [0,1,2,3,4] [2,3])) (aA [0,0,3] (.leaf [0,7] [0,1,2,3,4] [2,3])))) (aA [0,0,0,0,2,0,3] (.leaf [0,7] [0,1,2,3,4] [2,3])))) (aA [1,0,3] (.fork 3 (aA [1,1,14,3,13,7,3] (.fork 0 (aA [0,0,3] (.leaf [0,7] [0,1,2,3,4] [2,3])) (aA [0,0,3] (.leaf [0,7] [0,1,2,3,4] [2,3])))) (aA [0,0,0,0,2,0,3] (.leaf [0,7] [0,1,2,3,4] [2,3])))))) (aA [7,3] (.fork 0 (aA [1,0,3] (.fork 3 (aA [1,1,14,3,12,7,3] (.fork 0 (aA [0,0,3] (.leaf [0,7] [0,1,2,3,4] [2,3])) (aA [0,0,3] (.leaf [0,7] [0,1,2,3,4] [2,3])))) (aA [0,0,0,0,2,0,3] (.leaf [0,7] [0,1,2,3,4] [2,3])))) (aA [1,0,3] (.fork 3 (aA [1,1,14,3,12,7,3] (.fork 0 (aA [0,0,3] (.leaf [0,7] [0,1,2,3,4] [2,3])) (aA [0,0,3] (.leaf [0,7] [0,1,2,3,4] [2,3])))) (aA [0,0,0,0,2,0,3] (.leaf [0,7] [0,1,2,3,4] [2,3])))))))) (aA [0,0,0,0,3,0,3] (.fork 3 (aA [1,1,14,3] (.fork 6 (aA [7,3] (.fork 0 (aA [0,0,3] (.leaf [0,7] [0,1,2,3,4] [2,3])) (aA [0,0,3] (.leaf [0,7] [0,1,2,3,4] [2,3])))) (aA [7,3] (.fork 0 (aA [0,0,3] (.leaf [0,7] [0,1,2,3,4] [2,3])) (aA [0,0,3] (.leaf [0,7] [0,1,2,3,4] [2,3])))))) (aA [0,0,0,0,2,0,3] (.leaf [0,7] [0,1,2,3,4] [2,3])))))) (aA [0,0,0,0,3,0,3] (.fork 3 (aA [1,1,21,3,3,0,3] (.fork 3 (aA [1,1,14,3] (.fork 6 (aA [7,3] (.fork 0 (aA [0,0,3] (.leaf [0,7] [0,1,2,3,4] [2,3])) (aA [0,0,3] (.leaf [0,7] [0,1,2,3,4] [2,3])))) (aA [7,3] (.fork 0 (aA [0,0,3] (.leaf [0,7] [0,1,2,3,4] [2,3])) (aA [0,0,3] (.leaf [0,7] [0,1,2,3,4] [2,3])))))) (aA [0,0,0,0,2,0,3] (.leaf [0,7] [0,1,2,3,4] [2,3])))) (aA [0,0,0,0,3,0,3,7,1,1,21,3,2,0,3] (.leaf [0,7] [0,1,2,3,4] [2,3])))))) (fun u=>by kernel_rfl) (mN (decide_eq_true (by omega):(decide (0<(↑(ad.hn S):Int)))=true) (mN (show(ao9 0 (ad.hn S))=true by simp at h0⊢ <;>omega) (mF (c:=aq.there a) (fun h0=>(eV 4 h0 (mN (decide_eq_true (by omega):(decide (1<(↑(ad.hn S):Int)))=true) (mN (show(ao9 1 (ad.hn S))=true by simp at h0 h0⊢ <;>omega) (mF (c:=aq.there b) (fun h1=>(eV 2 h1 (mN (show(ao9 0 (ad.hn S))=true by simp at h0 h0 h1⊢ <;>omega) (mF (c:=ad.aD S) (fun h2=>(eV 2 h1 (mF (c:=decide (cf (aq.line a) (aq.line b)<0)) (fun h3=>(mN (decide_eq_true (by omega):(decide (2<(↑(ad.hn S):Int)))=true) (mN (show(ao9 2 (ad.hn S))=true by simp at h0 h0 h1 h2 h3⊢ <;>omega) (mF (c:=aq.there c) (fun h4=>(eV 2 h4 (mN (show(ao9 1 (ad.hn S))=true by simp at h0 h0 h1 h2 h3 h4⊢ <;>omega) (mN h2 (eV 2 h4 (mF (c:=decide (cf (aq.line b) (aq.line c)<0)) (fun h5=>(mN (decide_eq_false (by omega):(decide (3<(↑(ad.hn S):Int)))=false) (mN (show(ao9 2 (ad.hn S))=true by simp at h0 h0 h1 h2 h3 h4 h5⊢ <;>omega) (mN (aV L) (mN (aQ R) (mQ (l2 h0 h1 h2 h3 h4 h5))))))) (fun h5=>(mN (decide_eq_false (by omega):(decide (3<(↑(ad.hn S):Int)))=false) (mN (show(ao9 1 (ad.hn S))=true by simp at h0 h0 h1 h2 h3 h4 h5⊢ <;>omega) (mN (aV L) (mN (aQ R) (mQ (l3 h0 h1 h2 h3 h4 h5))))))))))))) (fun h4=>(eV 4 h4 (mN (decide_eq_false (by omega):(decide (3<(↑(ad.hn S):Int)))=false) (mN (show(ao9 1 (ad.hn S))=true by simp at h0 h0 h1 h2 h3 h4⊢ <;>omega) (mN (aV L) (mN (aQ R) (mQ (l4 h0 h1 h2 h3 h4)))))))))))) (fun h3=>(mN (decide_eq_true (by omega):(decide (2<(↑(ad.hn S):Int)))=true) (mN (show(ao9 2 (ad.hn S))=true by simp at h0 h0 h1 h2 h3⊢ <;>omega) (mF (c:=aq.there c) (fun h4=>(eV 2 h4 (mN (show(ao9 0 (ad.hn S))=true by simp at h0 h0 h1 h2 h3 h4⊢ <;>omega) (mN h2 (eV 2 h4 (mF (c:=decide (cf (aq.line a) (aq.line c)<0)) (fun h5=>(mN (decide_eq_false (by omega):(decide (3<(↑(ad.hn S):Int)))=false) (mN (show(ao9 2 (ad.hn S))=true by simp at h0 h0 h1 h2 h3 h4 h5⊢ <;>omega) (mN (aV L) (mN (aQ R) (mQ (l5 h0 h1 h2 h3 h4 h5))))))) (fun h5=>(mN (decide_eq_false (by omega):(decide (3<(↑(ad.hn S):Int)))=false) (mN (show(ao9 0 (ad.hn S))=true by simp at h0 h0 h1 h2 h3 h4 h5⊢ <;>omega) (mN (aV L) (mN (aQ R) (mQ (l6 h0 h1 h2 h3 h4 h5))))))))))))) (fun h4=>(eV 4 h4 (mN (decide_eq_false (by omega):(decide (3<(↑(ad.hn S):Int)))=false) (mN (show(ao9 0 (ad.hn S))=true by simp at h0 h0 h1 h2 h3 h4⊢ <;>omega) (mN (aV L) (mN (aQ R) (mQ (l7 h0 h1 h2 h3 h4))))))))))))))) (fun h2=>(eV 2 h1 (mF (c:=decide (cf (aq.line b) (aq.line a)<0)) (fun h3=>(mN (decide_eq_true (by omega):(decide (2<(↑(ad.hn S):Int)))=true) (mN (show(ao9 2 (ad.hn S))=true by simp at h0 h0 h1 h2 h3⊢ <;>omega) (mF (c:=aq.there c) (fun h4=>(eV 2 h4 (mN (show(ao9 1 (ad.hn S))=true by simp at h0 h0 h1 h2 h3 h4⊢ <;>omega) (mN h2 (eV 2 h4 (mF (c:=decide (cf (aq.line c) (aq.line b)<0)) (fun h5=>(mN (decide_eq_false (by omega):(decide (3<(↑(ad.hn S):Int)))=false) (mN (show(ao9 2 (ad.hn S))=true by simp at h0 h0 h1 h2 h3 h4 h5⊢ <;>omega) (mN (aV L) (mN (aQ R) (mQ (l8 h0 h1 h2 h3 h4 h5))))))) (fun h5=>(mN (decide_eq_false (by omega):(decide (3<(↑(ad.hn S):Int)))=false) (mN (show(ao9 1 (ad.hn S))=true by simp at h0 h0 h1 h2 h3 h4 h5⊢ <;>omega) (mN (aV L) (mN (aQ R) (mQ (l9 h0 h1 h2 h3 h4 h5))))))))))))) (fun h4=>(eV 4 h4 (mN (decide_eq_false (by omega):(decide (3<(↑(ad.hn S):Int)))=false) (mN (show(ao9 1 (ad.hn S))=true by simp at h0 h0 h1 h2 h3 h4⊢ <;>omega) (mN (aV L) (mN (aQ R) (mQ (jU h0 h1 h2 h3 h4)))))))))))) (fun h3=>(mN (decide_eq_true (by omega):(decide (2<(↑(ad.hn S):Int)))=true) (mN (show(ao9 2 (ad.hn S))=true by simp at h0 h0 h1 h2 h3⊢ <;>omega) (mF (c:=aq.there c) (fun h4=>(eV 2 h4 (mN (show(ao9 0 (ad.hn S))=true by simp at h0 h0 h1 h2 h3 h4⊢ <;>omega) (mN h2 (eV 2 h4 (mF (c:=decide (cf (aq.line c) (aq.line a)<0)) (fun h5=>(mN (decide_eq_false (by omega):(decide (3<(↑(ad.hn S):Int)))=false) (mN (show(ao9 2 (ad.hn S))=true by simp at h0 h0 h1 h2 h3 h4 h5⊢ <;>omega) (mN (aV L) (mN (aQ R) (mQ (gJ h0 h1 h2 h3 h4 h5))))))) (fun h5=>(mN (decide_eq_false (by omega):(decide (3<(↑(ad.hn S):Int)))=false) (mN (show(ao9 0 (ad.hn S))=true by simp at h0 h0 h1 h2 h3 h4 h5⊢ <;>omega) (mN (aV L) (mN (aQ R) (mQ (jS h0 h1 h2 h3 h4 h5))))))))))))) (fun h4=>(eV 4 h4 (mN (decide_eq_false (by omega):(decide (3<(↑(ad.hn S):Int)))=false) (mN (show(ao9 0 (ad.hn S))=true by simp at h0 h0 h1 h2 h3 h4⊢ <;>omega) (mN (aV L) (mN (aQ R) (mQ (lr h0 h1 h2 h3 h4))))))))))))))))))) (fun h1=>(eV 4 h1 (mN (decide_eq_true (by omega):(decide (2<(↑(ad.hn S):Int)))=true) (mN (show(ao9 2 (ad.hn S))=true by simp at h0 h0 h1⊢ <;>omega) (mF (c:=aq.there c) (fun h2=>(eV 2 h2 (mN (show(ao9 0 (ad.hn S))=true by simp at h0 h0 h1 h2⊢ <;>omega) (mF (c:=ad.aD S) (fun h3=>(eV 2 h2 (mF (c:=decide (cf (aq.line a) (aq.line c)<0)) (fun h4=>(mN (decide_eq_false (by omega):(decide (3<(↑(ad.hn S):Int)))=false) (mN (show(ao9 2 (ad.hn S))=true by simp at h0 h0 h1 h2 h3 h4⊢ <;>omega) (mN (aV L) (mN (aQ R) (mQ (uE h0 h1 h2 h3 h4))))))) (fun h4=>(mN (decide_eq_false (by omega):(decide (3<(↑(ad.hn S):Int)))=false) (mN (show(ao9 0 (ad.hn S))=true by simp at h0 h0 h1 h2 h3 h4⊢ <;>omega) (mN (aV L) (mN (aQ R) (mQ (Co h0 h1 h2 h3 h4)))))))))) (fun h3=>(eV 2 h2 (mF (c:=decide (cf (aq.line c) (aq.line a)<0)) (fun h4=>(mN (decide_eq_false (by omega):(decide (3<(↑(ad.hn S):Int)))=false) (mN (show(ao9 2 (ad.hn S))=true by simp at h0 h0 h1 h2 h3 h4⊢ <;>omega) (mN (aV L) (mN (aQ R) (mQ (aiL h0 h1 h2 h3 h4))))))) (fun h4=>(mN (decide_eq_false (by omega):(decide (3<(↑(ad.hn S):Int)))=false) (mN (show(ao9 0 (ad.hn S))=true by simp at h0 h0 h1 h2 h3 h4⊢ <;>omega) (mN (aV L) (mN (aQ R) (mQ (aiM h0 h1 h2 h3 h4)))))))))))))) (fun h2=>(eV 4 h2 (mN (decide_eq_false (by omega):(decide (3<(↑(ad.hn S):Int)))=false) (mN (show(ao9 0 (ad.hn S))=true by simp at h0 h0 h1 h2⊢ <;>omega) (mN (aV L) (mN (aQ R) (mQ (aiN h0 h1 h2)))))))))))))))))) (fun h0=>(eV 4 h0 (mN (decide_eq_true (by omega):(decide (1<(↑(ad.hn S):Int)))=true) (mN (show(ao9 1 (ad.hn S))=true by simp at h0 h0⊢ <;>omega) (mF (c:=aq.there b) (fun h1=>(eV 4 h1 (mN (decide_eq_true (by omega):(decide (2<(↑(ad.hn S):Int)))=true) (mN (show(ao9 2 (ad.hn S))=true by simp at h0 h0 h1⊢ <;>omega) (mF (c:=aq.there c) (fun h2=>(eV 2 h2 (mN (show(ao9 1 (ad.hn S))=true by simp at h0 h0 h1 h2⊢ <;>omega) (mF (c:=ad.aD S) (fun h3=>(eV 2 h2 (mF (c:=decide (cf (aq.line b) (aq.line c)<0)) (fun h4=>(mN (decide_eq_false (by omega):(decide (3<(↑(ad.hn S):Int)))=false) (mN (show(ao9 2 (ad.hn S))=true by simp at h0 h0 h1 h2 h3 h4⊢ <;>omega) (mN (aV L) (mN (aQ R) (mQ (aiO h0 h1 h2 h3 h4))))))) (fun h4=>(mN (decide_eq_false (by omega):(decide (3<(↑(ad.hn S):Int)))=false) (mN (show(ao9 1 (ad.hn S))=true by simp at h0 h0 h1 h2 h3 h4⊢ <;>omega) (mN (aV L) (mN (aQ R) (mQ (aiP h0 h1 h2 h3 h4)))))))))) (fun h3=>(eV 2 h2 (mF (c:=decide (cf (aq.line c) (aq.line b)<0)) (fun h4=>(mN (decide_eq_false (by omega):(decide (3<(↑(ad.hn S):Int)))=false) (mN (show(ao9 2 (ad.hn S))=true by simp at h0 h0 h1 h2 h3 h4⊢ <;>omega) (mN (aV L) (mN (aQ R) (mQ (aiQ h0 h1 h2 h3 h4))))))) (fun h4=>(mN (decide_eq_false (by omega):(decide (3<(↑(ad.hn S):Int)))=false) (mN (show(ao9 1 (ad.hn S))=true by simp at h0 h0 h1 h2 h3 h4⊢ <;>omega) (mN (aV L) (mN (aQ R) (mQ (aiR h0 h1 h2 h3 h4)))))))))))))) (fun h2=>(eV 4 h2 (mN (decide_eq_false (by omega):(decide (3<(↑(ad.hn S):Int)))=false) (mN (show(ao9 1 (ad.hn S))=true by simp at h0 h0 h1 h2⊢ <;>omega) (mN (aV L) (mN (aQ R) (mQ (aiS h0 h1 h2))))))))))))) (fun h1=>(eV 4 h1 (mN (decide_eq_true (by omega):(decide (2<(↑(ad.hn S):Int)))=true) (mN (show(ao9 2 (ad.hn S))=true by simp at h0 h0 h1⊢ <;>omega) (eV 5 (n24 h0 h1) (mN (decide_eq_false (by omega):(decide (3<(↑(ad.hn S):Int)))=false) (mN (show(ao9 2 (ad.hn S))=true by simp at h0 h0 h1⊢ <;>omega) (mN (aV L) (mN (aQ R) (mQ (aiT h0 h1)))))))))))))))))))
abbrev RS:=fun S L R H (d:au) (k:Nat) (e:Int) G dd=>(⟨[(0,al 0),(5,.string (bc (aj H) (k*4+2))),(6,aa e)],[ab (aM S 1 2 3 4) 89,.abs dd,ab (ao L) 9,ab (ap R) 3,ab (aj G) 114]⟩:ai)
abbrev aiU:=fun S L R H d (k:Nat) (e:Int) (G:List aq) (dd:au)=>(⟨[(0,al 0),(7,.pointer (some ⟨4,k*4,none⟩))],wz S L R H d⟩:ai)
theorem aiV(S L R H d)(k:Nat)(e:Int)(G dd)(pH:(aj H).all ag=true)(pG:(aj G).all ag=true)(fX:aI aoL 54 [al 0,.pointer (some ⟨4,k*4,none⟩)] (aO S L R H d) fun r q=>r=.ret (aa e)∧q=aO S L R G dd)(h0:k<(aoM H))(h1:(aoM H)≤1000){Q:aY}(n0:(eQ (aj H) (k*4+2))=true)(l4:Q .normal (RS S L R H d k e G dd)):an aoL 68 5 (fk.drop 1) (aiU S L R H d k e G dd) Q:=
 aZ (ahK S L R H d k e G dd fX) 1000 (aA [0,1,3,1,1,1,1,1,1] (.leaf [0,5,6] [0,1,2,3,4] [2,3,4])) (fun u=>by kernel_rfl) (mN n0 (aL L R H (mN (kM [al 0,apZ (some (asq 4 (k*4) none))] (aO S L R H d)) (mN (aV L) (mN (aQ R) (mN (a7 G) (mN (aV L) (mN (aQ R) (mN (a7 G) (mQ (an.done (by kernel_rfl) l4)))))))))))
abbrev RU:=fun(S:ad) L R H (d:au) U d3 (f:Int) (x:ByteArray) (e:Int)=>(⟨[(2,ah 5 1),(3,aa f)],[ab (aM (ad.mk (ad.at_ U) (ad.more U) true (ad.B U) (ad.n U) (ad.failed U) (ad.aD U) (ad.ro U) (ad.rn U) (ad.bN U) (ad.sn U) (ad.hn U) (ad.dX U) (au.raw d3) (ad.closed U)) 1 2 3 4) 89,.abs d3,ab (ao L) 9,ab (ap R) 3,ab (aj H) 114,ab ([aa 0,ah 6 (x.size+1)]) 122,ab (apv (fun b=>aoW apb (↑(apt b):Int)) (apd x.size (app (aph x)))++[aoW apb 10]) 5]⟩:ai)
theorem aiW(S L R H d U d3)(f:Int)(x:ByteArray)(e:Int){Q:bo}(aX:aoS (ao L) ag=true)(bh:aoS (ap R) ag=true)(bD:aoS (aj H) ag=true)(hq:Q (.ret (.tuple #[ah 5 1,aa f])) [ab (aM (ad.mk (ad.at_ U) (ad.more U) true (ad.B U) (ad.n U) (ad.failed U) (ad.aD U) (ad.ro U) (ad.rn U) (ad.bN U) (ad.sn U) (ad.hn U) (ad.dX U) (au.raw d3) (ad.closed U)) 1 2 3 4) 89,.abs d3,ab (ao L) 9,ab (ap R) 3,ab (aj H) 114,ab ([aa 0,ah 6 (x.size+1)]) 122,ab (apv (fun b=>aoW apb (↑(apt b):Int)) (apd x.size (app (aph x)))++[aoW apb 10]) 5]):aJ aoL 29 68 5 Q .ret (RU S L R H d U d3 f x e):=aJ.ret (vs:=[ah 5 1,aa f]) (l:=[]) (bs:=[0,1,2,3,4,5,6]) (pl:=[2,3,4,6]) (q:=[ao L,ap R,aj H,apv (fun b=>aoW apb (↑(apt b):Int)) (apd x.size (app (aph x)))++[aoW apb 10]]) (fun u=>by kernel_rfl) (by kernel_rfl) (aF aX (aF bh (aF bD (aF (by exact aC (aU _) rfl) bi)))) hq
abbrev RV:=fun(S:ad) L R H (d:au) U d3 (f:Int) (x:ByteArray) (e:Int)=>(⟨[(2,ah 5 1),(3,aa f)],[ab (aM (ad.mk (ad.at_ U) (ad.more U) true (ad.B U) (ad.n U) (ad.failed U) (ad.aD U) (ad.ro U) (ad.rn U) (ad.bN U) (ad.sn U) (ad.hn U) (ad.dX U) (ad.raw U) (ad.closed U)) 1 2 3 4) 89,.abs d3,ab (ao L) 9,ab (ap R) 3,ab (aj H) 114,ab ([aa 0,ah 6 (x.size+1)]) 122,ab (apv (fun b=>aoW apb (↑(apt b):Int)) (apd x.size (app (aph x)))++[aoW apb 10]) 5]⟩:ai)
theorem aiX(S L R H d U d3)(f:Int)(x:ByteArray)(e:Int){Q:bo}(aX:aoS (ao L) ag=true)(bh:aoS (ap R) ag=true)(bD:aoS (aj H) ag=true)(hq:Q (.ret (.tuple #[ah 5 1,aa f])) [ab (aM (ad.mk (ad.at_ U) (ad.more U) true (ad.B U) (ad.n U) (ad.failed U) (ad.aD U) (ad.ro U) (ad.rn U) (ad.bN U) (ad.sn U) (ad.hn U) (ad.dX U) (ad.raw U) (ad.closed U)) 1 2 3 4) 89,.abs d3,ab (ao L) 9,ab (ap R) 3,ab (aj H) 114,ab ([aa 0,ah 6 (x.size+1)]) 122,ab (apv (fun b=>aoW apb (↑(apt b):Int)) (apd x.size (app (aph x)))++[aoW apb 10]) 5]):aJ aoL 29 68 5 Q .ret (RV S L R H d U d3 f x e):=aJ.ret (vs:=[ah 5 1,aa f]) (l:=[]) (bs:=[0,1,2,3,4,5,6]) (pl:=[2,3,4,6]) (q:=[ao L,ap R,aj H,apv (fun b=>aoW apb (↑(apt b):Int)) (apd x.size (app (aph x)))++[aoW apb 10]]) (fun u=>by kernel_rfl) (by kernel_rfl) (aF aX (aF bh (aF bD (aF (by exact aC (aU _) rfl) bi)))) hq
abbrev RW:=fun(S:ad) L R H (d:au) U d3 (f:Int) (x:ByteArray) (e:Int)=>(⟨[(2,ah 5 1),(3,aa f)],[ab (aM U 1 2 3 4) 89,.abs d3,ab (ao L) 9,ab (ap R) 3,ab (aj H) 114,ab ([aa 0,ah 6 (x.size+1)]) 122,ab (apv (fun b=>aoW apb (↑(apt b):Int)) (apd x.size (app (aph x)))++[aoW apb 10]) 5]⟩:ai)
theorem aiY(S L R H d U d3)(f:Int)(x:ByteArray)(e:Int){Q:bo}(aX:aoS (ao L) ag=true)(bh:aoS (ap R) ag=true)(bD:aoS (aj H) ag=true)(hq:Q (.ret (.tuple #[ah 5 1,aa f])) [ab (aM U 1 2 3 4) 89,.abs d3,ab (ao L) 9,ab (ap R) 3,ab (aj H) 114,ab ([aa 0,ah 6 (x.size+1)]) 122,ab (apv (fun b=>aoW apb (↑(apt b):Int)) (apd x.size (app (aph x)))++[aoW apb 10]) 5]):aJ aoL 29 68 5 Q .ret (RW S L R H d U d3 f x e):=aJ.ret (vs:=[ah 5 1,aa f]) (l:=[]) (bs:=[0,1,2,3,4,5,6]) (pl:=[2,3,4,6]) (q:=[ao L,ap R,aj H,apv (fun b=>aoW apb (↑(apt b):Int)) (apd x.size (app (aph x)))++[aoW apb 10]]) (fun u=>by kernel_rfl) (by kernel_rfl) (aF aX (aF bh (aF bD (aF (by exact aC (aU _) rfl) bi)))) hq
abbrev RX:=fun S L R H d (U:ad) (d3:au) (f:Int) (x:ByteArray) (e:Int)=>(⟨[(2,ah 5 1),(3,aa e)],[ab (aM (ad.mk (ad.at_ S) (ad.more S) true (ad.B S) (ad.n S) (ad.failed S) (ad.aD S) (ad.ro S) (ad.rn S) (ad.bN S) (ad.sn S) (ad.hn S) (ad.dX S) (au.raw d) (ad.closed S)) 1 2 3 4) 89,.abs d,ab (ao L) 9,ab (ap R) 3,ab (aj H) 114,ab ([aa 0,ah 6 (x.size+1)]) 122,ab (apv (fun b=>aoW apb (↑(apt b):Int)) (apd x.size (app (aph x)))++[aoW apb 10]) 5]⟩:ai)
theorem aiZ(S L R H d U d3)(f:Int)(x:ByteArray)(e:Int){Q:bo}(aX:aoS (ao L) ag=true)(bh:aoS (ap R) ag=true)(bD:aoS (aj H) ag=true)(hq:Q (.ret (.tuple #[ah 5 1,aa e])) [ab (aM (ad.mk (ad.at_ S) (ad.more S) true (ad.B S) (ad.n S) (ad.failed S) (ad.aD S) (ad.ro S) (ad.rn S) (ad.bN S) (ad.sn S) (ad.hn S) (ad.dX S) (au.raw d) (ad.closed S)) 1 2 3 4) 89,.abs d,ab (ao L) 9,ab (ap R) 3,ab (aj H) 114,ab ([aa 0,ah 6 (x.size+1)]) 122,ab (apv (fun b=>aoW apb (↑(apt b):Int)) (apd x.size (app (aph x)))++[aoW apb 10]) 5]):aJ aoL 29 68 5 Q .ret (RX S L R H d U d3 f x e):=aJ.ret (vs:=[ah 5 1,aa e]) (l:=[]) (bs:=[0,1,2,3,4,5,6]) (pl:=[2,3,4,6]) (q:=[ao L,ap R,aj H,apv (fun b=>aoW apb (↑(apt b):Int)) (apd x.size (app (aph x)))++[aoW apb 10]]) (fun u=>by kernel_rfl) (by kernel_rfl) (aF aX (aF bh (aF bD (aF (by exact aC (aU _) rfl) bi)))) hq
abbrev RY:=fun S L R H d (U:ad) (d3:au) (f:Int) (x:ByteArray) (e:Int)=>(⟨[(2,ah 5 1),(3,aa e)],[ab (aM (ad.mk (ad.at_ S) (ad.more S) true (ad.B S) (ad.n S) (ad.failed S) (ad.aD S) (ad.ro S) (ad.rn S) (ad.bN S) (ad.sn S) (ad.hn S) (ad.dX S) (ad.raw S) (ad.closed S)) 1 2 3 4) 89,.abs d,ab (ao L) 9,ab (ap R) 3,ab (aj H) 114,ab ([aa 0,ah 6 (x.size+1)]) 122,ab (apv (fun b=>aoW apb (↑(apt b):Int)) (apd x.size (app (aph x)))++[aoW apb 10]) 5]⟩:ai)
theorem ai0(S L R H d U d3)(f:Int)(x:ByteArray)(e:Int){Q:bo}(aX:aoS (ao L) ag=true)(bh:aoS (ap R) ag=true)(bD:aoS (aj H) ag=true)(hq:Q (.ret (.tuple #[ah 5 1,aa e])) [ab (aM (ad.mk (ad.at_ S) (ad.more S) true (ad.B S) (ad.n S) (ad.failed S) (ad.aD S) (ad.ro S) (ad.rn S) (ad.bN S) (ad.sn S) (ad.hn S) (ad.dX S) (ad.raw S) (ad.closed S)) 1 2 3 4) 89,.abs d,ab (ao L) 9,ab (ap R) 3,ab (aj H) 114,ab ([aa 0,ah 6 (x.size+1)]) 122,ab (apv (fun b=>aoW apb (↑(apt b):Int)) (apd x.size (app (aph x)))++[aoW apb 10]) 5]):aJ aoL 29 68 5 Q .ret (RY S L R H d U d3 f x e):=aJ.ret (vs:=[ah 5 1,aa e]) (l:=[]) (bs:=[0,1,2,3,4,5,6]) (pl:=[2,3,4,6]) (q:=[ao L,ap R,aj H,apv (fun b=>aoW apb (↑(apt b):Int)) (apd x.size (app (aph x)))++[aoW apb 10]]) (fun u=>by kernel_rfl) (by kernel_rfl) (aF aX (aF bh (aF bD (aF (by exact aC (aU _) rfl) bi)))) hq
abbrev ai1:=fun S L R H d (U:ad) (d3:au) (f:Int) x (e:Int)=>(⟨[(0,al 0),(5,.string x),(6,aa e)],wz S L R H d⟩:ai)
theorem ai2(S L R H d U d3)(f:Int)(x:ByteArray)(e:Int)(pH:(aj H).all ag=true)(iq:aI aoL 51 [al 0] (aO S L R H d) fun r q=>r=.ret (aa f)∧q=aO U L R H d3)(h0:x.size≤1000){Q:aY}(n0:(e==0)=true→(dW [al 0] [al 0] [ab (aM S 1 2 3 4) 89,ak.abs d,ab (ao L) 9,ab (ap R) 3,ab (aj H) 114] (aO S L R H d))=true)(n1:(e==0)=true→(f != 0)=true→(f==25)=true→(aoS (apv (fun b=>aoW apb (↑(apt b):Int)) (apd x.size (app (aph x)))) apR)=true)(aX:aoS (ao L) ag=true)(bh:aoS (ap R) ag=true)(bD:aoS (aj H) ag=true)(l5:(e==0)=true→(f != 0)=true→(f==25)=true→Q .ret (RU S L R H d U d3 f x e))(n6:(e==0)=true→(f != 0)=true→(f==25)=false→(aoS (apv (fun b=>aoW apb (↑(apt b):Int)) (apd x.size (app (aph x)))) apR)=true)(l7:(e==0)=true→(f != 0)=true→(f==25)=false→Q .ret (RV S L R H d U d3 f x e))(n8:(e==0)=true→(f != 0)=false→(aoS (apv (fun b=>aoW apb (↑(apt b):Int)) (apd x.size (app (aph x)))) apR)=true)(l9:(e==0)=true→(f != 0)=false→Q .ret (RW S L R H d U d3 f x e))(n10:(e==0)=false→(e==25)=true→(aoS (apv (fun b=>aoW apb (↑(apt b):Int)) (apd x.size (app (aph x)))) apR)=true)(gJ:(e==0)=false→(e==25)=true→Q .ret (RX S L R H d U d3 f x e))(n12:(e==0)=false→(e==25)=false→(aoS (apv (fun b=>aoW apb (↑(apt b):Int)) (apd x.size (app (aph x)))) apR)=true)(lr:(e==0)=false→(e==25)=false→Q .ret (RY S L R H d U d3 f x e)):an aoL 68 5 (sL.drop 10) (ai1 S L R H d U d3 f x e) Q:=
 aZ (ahM S L R H d U d3 f iq) 1000 (.fork 0 (aA [3,1,1,1,1,1,1] (.fork 0 (.fork 1 (aA [28,1,1,1,2,3,5,1] (.leaf [2,3] [0,1,2,3,4,9,8] [2,3,4,8])) (aA [20,1,1,1,2,3,5,1] (.leaf [2,3] [0,1,2,3,4,9,8] [2,3,4,8]))) (aA [16,1,1,1,2,3,5,1] (.leaf [2,3] [0,1,2,3,4,9,8] [2,3,4,8])))) (aA [1] (.fork 1 (aA [28,1,1,1,2,3,5,1] (.leaf [2,3] [0,1,2,3,4,9,8] [2,3,4,8])) (aA [20,1,1,1,2,3,5,1] (.leaf [2,3] [0,1,2,3,4,9,8] [2,3,4,8]))))) (fun u=>by kernel_rfl) (mF (c:=e==0) (fun h0=>(aL L R H (mN (n0 h0) (aL L R H (mF (c:=f != 0) (fun h1=>(mF (c:=f==25) (fun h2=>(mN (show(apf (0+x.size) 1000000)=true by simp at pH iq h0 h0 h1 h2⊢ <;>omega) (mN (n1 h0 h1 h2) (mN (show(ao6 (aoM (apv (fun b=>aoW apb (↑(apt b):Int)) (apd x.size (app (aph x))))) (x.size*1))=true by simp) (mN (show(apf (x.size+1) 1000000)=true by simp at pH iq h0 h0 h1 h2⊢ <;>omega) (mN (lh _:(full x.size x.size)=true) (mN (show(ao6 (0+x.size*1) (aoM (apv (fun b=>aoW apb (↑(apt b):Int)) (apd x.size (app (aph x))))))=true by simp) (aL L R H (mN (show(aoS (apv (fun b=>aoW apb (↑(apt b):Int)) (apd x.size (app (aph x)))++[aoW apb 10]) ag)=true by exact aC (aU _) rfl) (mR (l5 h0 h1 h2))))))))))) (fun h2=>(mN (show(apf (0+x.size) 1000000)=true by simp at pH iq h0 h0 h1 h2⊢ <;>omega) (mN (n6 h0 h1 h2) (mN (show(ao6 (aoM (apv (fun b=>aoW apb (↑(apt b):Int)) (apd x.size (app (aph x))))) (x.size*1))=true by simp) (mN (show(apf (x.size+1) 1000000)=true by simp at pH iq h0 h0 h1 h2⊢ <;>omega) (mN (lh _:(full x.size x.size)=true) (mN (show(ao6 (0+x.size*1) (aoM (apv (fun b=>aoW apb (↑(apt b):Int)) (apd x.size (app (aph x))))))=true by simp) (aL L R H (mN (show(aoS (apv (fun b=>aoW apb (↑(apt b):Int)) (apd x.size (app (aph x)))++[aoW apb 10]) ag)=true by exact aC (aU _) rfl) (mR (l7 h0 h1 h2))))))))))))) (fun h1=>(mN (show(apf (0+x.size) 1000000)=true by simp at pH iq h0 h0 h1⊢ <;>omega) (mN (n8 h0 h1) (mN (show(ao6 (aoM (apv (fun b=>aoW apb (↑(apt b):Int)) (apd x.size (app (aph x))))) (x.size*1))=true by simp) (mN (show(apf (x.size+1) 1000000)=true by simp at pH iq h0 h0 h1⊢ <;>omega) (mN (lh _:(full x.size x.size)=true) (mN (show(ao6 (0+x.size*1) (aoM (apv (fun b=>aoW apb (↑(apt b):Int)) (apd x.size (app (aph x))))))=true by simp) (aL L R H (mN (show(aoS (apv (fun b=>aoW apb (↑(apt b):Int)) (apd x.size (app (aph x)))++[aoW apb 10]) ag)=true by exact aC (aU _) rfl) (mR (l9 h0 h1)))))))))))))))) (fun h0=>(mN (show(e != 0)=true by simp at pH iq h0 h0⊢ <;>omega) (mF (c:=e==25) (fun h1=>(mN (show(apf (0+x.size) 1000000)=true by simp at pH iq h0 h0 h1⊢ <;>omega) (mN (n10 h0 h1) (mN (show(ao6 (aoM (apv (fun b=>aoW apb (↑(apt b):Int)) (apd x.size (app (aph x))))) (x.size*1))=true by simp) (mN (show(apf (x.size+1) 1000000)=true by simp at pH iq h0 h0 h1⊢ <;>omega) (mN (lh _:(full x.size x.size)=true) (mN (show(ao6 (0+x.size*1) (aoM (apv (fun b=>aoW apb (↑(apt b):Int)) (apd x.size (app (aph x))))))=true by simp) (aL L R H (mN (show(aoS (apv (fun b=>aoW apb (↑(apt b):Int)) (apd x.size (app (aph x)))++[aoW apb 10]) ag)=true by exact aC (aU _) rfl) (mR (gJ h0 h1))))))))))) (fun h1=>(mN (show(apf (0+x.size) 1000000)=true by simp at pH iq h0 h0 h1⊢ <;>omega) (mN (n12 h0 h1) (mN (show(ao6 (aoM (apv (fun b=>aoW apb (↑(apt b):Int)) (apd x.size (app (aph x))))) (x.size*1))=true by simp) (mN (show(apf (x.size+1) 1000000)=true by simp at pH iq h0 h0 h1⊢ <;>omega) (mN (lh _:(full x.size x.size)=true) (mN (show(ao6 (0+x.size*1) (aoM (apv (fun b=>aoW apb (↑(apt b):Int)) (apd x.size (app (aph x))))))=true by simp) (aL L R H (mN (show(aoS (apv (fun b=>aoW apb (↑(apt b):Int)) (apd x.size (app (aph x)))++[aoW apb 10]) ag)=true by exact aC (aU _) rfl) (mR (lr h0 h1)))))))))))))))
end
structure MS where
 S:ad
 L:List ByteArray
 R:List Int
 H:List aq
 d:au
def MS.z(s:MS):cJ:=(s.S,s.L,s.R,s.d)
def jW(s:cJ)(H:List aq):MS:=⟨s.1,s.2.1,s.2.2.1,H,s.2.2.2⟩
def nv(S:ad)(d:au)(e:Int):ad:={S with raw:=if e=25 then d.raw else S.raw,bE:=true}
def MS.fail(s:MS)(e:Int):MS:={s with S:=nv s.S s.d e}
def iV(s:MS)(b:ByteArray):Int×MS:=
 match dS b.data.toList s.S []with
 |(e,S1,M)=>match eY M (S1,s.L,s.R,s.d)with
  |(f,t)=>if f≠0 then(f,(jW t s.H).fail f)else if e≠0 then(e,(jW t s.H).fail e)else(0,jW t s.H)
noncomputable def iM(s:MS):Int×MS:=
 match jE s.z s.H with
 |(e,t,G)=>if e≠0 then(e,(jW t G).fail e)else match dy t.1 t.2.2.1 G t.2.2.2 with
  |(f,U,d3)=>if f≠0 then(f,(⟨U,t.2.1,t.2.2.1,G,d3⟩:MS).fail f)else(0,⟨U,t.2.1,t.2.2.1,G,d3⟩)
theorem y3:∀(l:List UInt8) (S:ad) (M:List ByteArray),jD S→(∀x∈M,x.size≤64)→jD (dS l S M).2.1∧(∀x∈(dS l S M).2.2,x.size≤64)∧((dS l S M).1=0→bV (dS l S M).2.2+(dS l S M).2.1.n.toNat=bV M+S.n.toNat+l.length)∧(dS l S M).2.2.length≤M.length+l.length
 | [],S,M,h,hM=>⟨h,hM,fun _=>rfl,by show M.length≤_;omega⟩
 |x::l,S,M,h,hM=>by
  have h0:=h.n0
  have h1:=h.n1
  unfold dS
  by_cases hx:x=10
  ·rw[if_pos hx]
   obtain⟨a,b,c,e⟩:=y3 l {S with n:=0} (M++[iU S]) (jD.zero S) fun y hy=>by
    rcases apo.1 hy with hy|hy
    ·exact hM y hy
    ·rw[apP.1 hy,wy];omega
   refine⟨a,b,fun he=>?_,by rw[ao5]at e;rw[apC];simp at e;omega⟩
   have:=c he
   rw[yO,show bV [iU S]=S.n.toNat+1 by show(iU S).size+1+0=_;rw[wy]]at this
   rw[apC,this]
   show bV M+(S.n.toNat+1)+0+l.length=_
   omega
  rw[if_neg hx]
  by_cases Cp:S.n=64
  ·simp only[if_pos Cp]
   exact⟨⟨by show(0:Int)≤0;omega,by show(0:Int)≤64;omega⟩,hM,(fun he=>by cases he),by omega⟩
  ·rw[if_neg Cp]
   obtain⟨a,b,c,e⟩:=y3 l (sH S x) M (h.add Cp x) hM
   refine⟨a,b,fun he=>?_,by rw[apC];omega⟩
   rw[c he,apC]
   show bV M+(S.n+1).toNat+l.length=_
   omega
theorem wA:∀(l:List UInt8) (S:ad) (M:List ByteArray),(dS l S M).2.1.at_=S.at_∧(dS l S M).2.1.more=S.more∧(dS l S M).2.1.bE=S.bE∧(dS l S M).2.1.aD=S.aD∧(dS l S M).2.1.ro=S.ro∧(dS l S M).2.1.rn=S.rn∧(dS l S M).2.1.bN=S.bN∧(dS l S M).2.1.sn=S.sn∧(dS l S M).2.1.hn=S.hn∧(dS l S M).2.1.dX=S.dX∧(dS l S M).2.1.raw=S.raw∧(dS l S M).2.1.closed=S.closed∧((dS l S M).1=0→(dS l S M).2.1.failed=S.failed)
 | [],S,M=>⟨rfl,rfl,rfl,rfl,rfl,rfl,rfl,rfl,rfl,rfl,rfl,rfl,fun _=>rfl⟩
 |x::l,S,M=>by
  unfold dS
  split
  ·exact wA l _ _
  split
  ·exact⟨rfl,rfl,rfl,rfl,rfl,rfl,rfl,rfl,rfl,rfl,rfl,rfl,fun h=>by cases h⟩
  ·exact wA l _ _
structure IV(F:Nat)(s:MS):Prop where
 q9:Good F s.z
 cut:jD s.S
 jX:s.H.length=s.S.hn
 fail:s.S.failed=false
 jB:s.S.at_=0
theorem ai3(F:Nat)(s:MS)(b:ByteArray)(hs:IV F s)(ho:s.S.bE=false)(hm:s.S.more=false)(ai4:0<b.size)(hb:b.size≤32):
 aI aoL 27 [.pointer (some ⟨0,0,none⟩),.int .i64 0,.slice (some ⟨5,0,none⟩) b.size b.size] (aO s.S.z s.L s.R s.H s.d++[.cells (af b) 5 false]) fun r q=>
  r=.ret (.tuple #[.slice none 0 0,.int .i64 (iV s b).1])∧q=nY (.cells (af b) 5 false) (iV s b).2.S.z (iV s b).2.L (iV s b).2.R (iV s b).2.H (iV s b).2.d:=by
 obtain⟨S,L,R,H,d⟩:=s
 obtain⟨hg,hc,hH,hf,cn⟩:=hs
 dsimp only[MS.z]at*
 have pH:=a7 H
 have sK:=agQ S.z L R H d b ⟨hc.n0,hc.n1⟩ hf (by omega)
 obtain⟨c1,c2,c3,c4⟩:=y3 b.data.toList S [] hc fun x hx=>by cases hx
 have cz:∀(l:List UInt8) (S:ad) (M:List ByteArray),dS l S.z M=((dS l S M).1,(dS l S M).2.1.z,(dS l S M).2.2):=by
  intro l
  induction l with
  |nil=>intro S M;rfl
  |cons x l ih=>
   intro S M
   unfold dS
   split
   ·exact ih {S with n:=0} _
   split
   ·rw[if_pos (by assumption)];rfl
   ·rw[if_neg (by assumption)];exact ih (sH S x) M
 rw[cz]at sK
 dsimp only at sK
 have dJ:=wA b.data.toList S []
 unfold iV
 generalize dS b.data.toList S []=o at*
 obtain⟨e,S1,M⟩:=o
 dsimp only at*
 obtain⟨s1,s2,s3,s4,s5,s6,s7,s8,s9,RZ,R1,IW,IX⟩:=dJ
 have gg:M.length≤32:=by
  have:b.data.toList.length=b.size:=by simp
  have h0:([]:List ByteArray).length=0:=rfl
  omega
 have pK:Good F (S1,L,R,d):=⟨⟨by rw[show((S1,L,R,d):cJ).1.rn=S1.rn from rfl,s6];exact hg.ok.len,by rw[show((S1,L,R,d):cJ).1.sn=S1.sn from rfl,s8];exact hg.ok.runs,hg.ok.db,hg.ok.made,by rw[show((S1,L,R,d):cJ).1.bN=S1.bN from rfl,s7];exact hg.ok.bN,hg.ok.bW⟩,hg.old,hg.bW⟩
 have nZ:=PM M false M.length rfl (by omega) c2 H (S1,L,R,d) pK.ok
 generalize eY M (S1,L,R,d)=o at*
 obtain⟨f,T,K,Rr,dd⟩:=o
 dsimp only at*
 refine aI.cY (n:=cp aoL 27) (by kernel_rfl) ?_
 refine an.move (d':=⟨[(0,.pointer (some ⟨0,0,none⟩)),(1,.int .i64 0),(2,.slice (some ⟨5,0,none⟩) b.size b.size)],nY (.cells (af b) 5 false) S.z L R H d⟩) [some 0,some 1,none,none,none,some 5,some 2,some 3,some 4] [2,3,4,5] (q:=[af b,ao L,ap R,aj H]) (by kernel_rfl) (aF (by simp) (aF (by simp) (aF (by simp) (aF pH bi)))) (by kernel_rfl) (by kernel_rfl) ?_
 apply ahW S L R H d b S1 M e T K Rr dd f pH sK nZ ho hm cn ai4 hb
 case n0=>exact e8 rfl rfl
 case n1=>exact e8 rfl rfl
 case aX=>simp
 case bh=>exact pH
 case l4=>
  intro g1 g2
  have g1:f≠0:=by simpa using g1
  have g2:f=25:=by simpa using g2
  rw[if_pos g1]
  refine ahQ S L R H d b S1 M e T K Rr dd f (by simp) pH ⟨rfl,?_⟩
  unfold MS.fail nv jW
  rw[if_pos g2]
  rfl
 case l5=>
  intro g1 g2
  have g1:f≠0:=by simpa using g1
  have g2:¬f=25:=by simpa using g2
  rw[if_pos g1]
  refine ahR S L R H d b S1 M e T K Rr dd f (by simp) pH ⟨rfl,?_⟩
  unfold MS.fail nv jW
  rw[if_neg g2]
  rfl
 case l6=>
  intro g1 g2 g3
  have g1:¬f≠0:=by simpa using g1
  have g2:e≠0:=by simpa using g2
  have g3:e=25:=by simpa using g3
  rw[if_neg g1,if_pos g2]
  refine ahS S L R H d b S1 M e T K Rr dd f (by simp) pH ⟨rfl,?_⟩
  unfold MS.fail nv jW
  rw[if_pos g3]
  rfl
 case l7=>
  intro g1 g2 g3
  have g1:¬f≠0:=by simpa using g1
  have g2:e≠0:=by simpa using g2
  have g3:¬e=25:=by simpa using g3
  rw[if_neg g1,if_pos g2]
  refine ahT S L R H d b S1 M e T K Rr dd f (by simp) pH ⟨rfl,?_⟩
  unfold MS.fail nv jW
  rw[if_neg g3]
  rfl
 case l8=>
  intro g1 g2
  have g1:¬f≠0:=by simpa using g1
  have g2:¬e≠0:=by simpa using g2
  rw[if_neg g1,if_neg g2]
  exact ahU S L R H d b S1 M e T K Rr dd f (by simp) pH ⟨rfl,rfl⟩
structure Cq(x:MS):Prop where
 run:x.L.length=x.S.rn
 runs:x.R.length=x.S.sn
 jX:x.H.length=x.S.hn
 db:ca x.d
 Cr:x.R.length≤900000
theorem jq.lens{s:cJ}{H:List aq}(h:jq s)(hH:H.length=s.1.hn):Cq (jW s H):=
 ⟨h.len,h.runs,hH,h.db,by have:=h.made;have:=h.db.made;show s.2.2.1.length≤_;omega⟩
theorem IY(S:ad)(L:List ByteArray)(R:List Int)(d:au):(dZ S L R d).2.1.hn=S.hn:=by unfold dZ;split;rfl;split;rfl;rfl
theorem IZ:∀(l:List ByteArray) (s:cJ),(eY l s).2.1.hn=s.1.hn
 | [],s=>rfl
 |x::l,s=>by
  unfold eY
  split
  ·split
   ·exact IY _ _ _ _
   ·rw[IZ];exact IY _ _ _ _
  ·rw[IZ];rfl
theorem R3(s:cJ):(gB s).2.1.hn=s.1.hn:=by
 unfold gB
 split
 ·rfl
 ·rw[IZ]
theorem ai5(s:cJ)(H:List aq)(hL:s.2.1.length=s.1.rn)(hH:H.length=s.1.hn)(hR:s.2.2.1.length≤900000)(hr:jC s.2.2.2 s.2.2.1):Cq (jW (mK s H).2.1 (mK s H).2.2):=by
 obtain⟨S,L,R,d⟩:=s
 dsimp only at*
 obtain⟨p1,p2,p3⟩:=IM S.aD R.length R d hr
 have hv:mK (S,L,R,d) H=if(e9 S.aD R.length R d).1≠0 then((e9 S.aD R.length R d).1,({S with sn:=(e9 S.aD R.length R d).2.1.length},L,(e9 S.aD R.length R d).2),H)
  else match e9 S.aD R.length R d with
   |(_,R,d)=>match eB R [] d with
    |(e,l,dd)=>if e=0 then(0,({S with sn:=R.length,hn:=l.length},L,R,dd),l)else(e,({S with sn:=R.length,hn:=0},L,R,dd),[]):=rfl
 rw[hv]
 clear hv
 generalize e9 S.aD R.length R d=o at*
 obtain⟨e,R2,d2⟩:=o
 dsimp only at*
 by_cases he:e=0
 ·rw[if_neg (fun h=>h he)]
  obtain⟨o1,o2,o3,o4⟩:=yR R2 [] d2 p1
  generalize eB R2 [] d2=o at*
  obtain⟨e2,l,d3⟩:=o
  dsimp only at*
  split
  ·exact⟨hL,rfl,rfl,o1,by show R2.length≤_;omega⟩
  ·exact⟨hL,rfl,rfl,o1,by show R2.length≤_;omega⟩
 ·rw[if_pos he]
  exact⟨hL,rfl,hH,p1,by show R2.length≤_;omega⟩
theorem I0{F:Nat}{s:cJ}{H:List aq}(h:Good F s)(hc:jD s.1)(hF:F≤800000)(hH:H.length=s.1.hn):Cq (jW (jE s H).2.1 (jE s H).2.2):=by
 obtain⟨r1,r2⟩:=IK h hc
 have r3:=R3 s
 have kJ:=hc.n1
 unfold jE
 split
 ·exact r1.lens (hH.trans r3.symm)
 rename_i he
 have g:=IL (r2 (aqD.1 he))
 have I1:H.length=(mg (gB s).2).1.hn:=hH.trans r3.symm
 generalize mg (gB s).2=t at*
 unfold uC
 split
 ·refine⟨?_,g.ok.runs,I1,g.ok.db,?_⟩
  ·show(bK _ _).length=_;rw[nU];exact g.ok.len
  ·have:=g.ok.made;have:=g.ok.db.made;show t.2.2.1.length≤_;omega
 unfold sJ
 have dq:jq (im t).2:=by unfold im;split;exact g.ok.nt.1;exact g.ok
 have iW:(im t).2.1.hn=t.1.hn:=by unfold im;split;exact IY _ _ _ _;rfl
 split
 ·exact dq.lens (I1.trans iW.symm)
 rename_i eT
 have g2:Good (F+(s.1.n.toNat+1)) (im t).2:=by
  have eT:=aqD.1 eT
  unfold im at eT⊢
  split
  ·rename_i h1;rw[if_pos h1]at eT;exact g.nt eT
  ·exact g
 exact ai5 _ H dq.len (I1.trans iW.symm) (by have:=dq.made;have:=dq.db.made;omega) (g2.runs (by omega))
theorem ai6(F:Nat)(s:MS)(hF:F≤800000)(hs:IV F s)(hh:s.H.length≤900000)(ho:s.S.bE=false)(hm:s.S.more=false)(aob:(jE s.z s.H).2.2.length≤900000):
 aI aoL 28 [.pointer (some ⟨0,0,none⟩),.int .i64 0] (aO s.S.z s.L s.R s.H s.d) fun r q=>
  r=.ret (.tuple #[.slice none 0 0,.int .i64 (iM s).1])∧q=jh (iM s).2.S.z (iM s).2.L (iM s).2.R (iM s).2.H (iM s).2.d:=by
 obtain⟨S,L,R,H,d⟩:=s
 obtain⟨hg,hc,hH,hf,cn⟩:=hs
 dsimp only[MS.z]at*
 have pH:=a7 H
 have lF:=ahD F S L R H d hF hg hc hH
 have xv:=I0 hg hc hF hH
 unfold iM
 dsimp only[MS.z]
 generalize jE (S,L,R,d) H=o at*
 obtain⟨e,⟨T,K,Rr,dd⟩,G⟩:=o
 dsimp only[jW]at*
 obtain⟨l1,l2,l3,l4,l5⟩:=xv
 dsimp only at*
 have iq:=RB T.z K Rr G dd l2 l3 (by omega) (by omega) l4
 have iu:dy T.z Rr G dd=((dy T Rr G dd).1,(dy T Rr G dd).2.1.z,(dy T Rr G dd).2.2):=by
  unfold dy
  rw[show mM T.z G=mM T G from rfl]
  split<;>rfl
 rw[iu]at iq
 dsimp only at iq
 generalize dy T Rr G dd=o at*
 obtain⟨f,U,d3⟩:=o
 dsimp only at*
 refine aI.cY (n:=cp aoL 28) (by kernel_rfl) ?_
 apply ah3 S L R H d T K Rr G dd e U d3 f pH (a7 G) lF iq ho hm cn
 case n0=>exact e8 rfl rfl
 case n3=>intro _;exact e8 rfl rfl
 case l1=>
  intro g1 g2
  have g1:e≠0:=by simpa using g1
  have g2:e=25:=by simpa using g2
  rw[if_pos g1]
  refine ahX S L R H d T K Rr G dd e U d3 f ⟨rfl,?_⟩
  unfold MS.fail nv
  rw[if_pos g2]
  rfl
 case l2=>
  intro g1 g2
  have g1:e≠0:=by simpa using g1
  have g2:¬e=25:=by simpa using g2
  rw[if_pos g1]
  refine ahY S L R H d T K Rr G dd e U d3 f ⟨rfl,?_⟩
  unfold MS.fail nv
  rw[if_neg g2]
  rfl
 case l4=>
  intro g1 g2 g3
  have g1:¬e≠0:=by simpa using g1
  have g2:f≠0:=by simpa using g2
  have g3:f=25:=by simpa using g3
  rw[if_neg g1,if_pos g2]
  refine ahZ S L R H d T K Rr G dd e U d3 f ⟨rfl,?_⟩
  unfold MS.fail nv
  rw[if_pos g3]
  rfl
 case l5=>
  intro g1 g2 g3
  have g1:¬e≠0:=by simpa using g1
  have g2:f≠0:=by simpa using g2
  have g3:¬f=25:=by simpa using g3
  rw[if_neg g1,if_pos g2]
  refine ah0 S L R H d T K Rr G dd e U d3 f ⟨rfl,?_⟩
  unfold MS.fail nv
  rw[if_neg g3]
  rfl
 case l6=>
  intro g1 g2
  have g1:¬e≠0:=by simpa using g1
  have g2:¬f≠0:=by simpa using g2
  rw[if_neg g1,if_neg g2]
  exact ah1 S L R H d T K Rr G dd e U d3 f ⟨rfl,rfl⟩
theorem ai7(S:ad)(L:List ByteArray)(R:List Int)(H:List aq)(d:au)(hH:H.length=S.hn)(h3:H.length≤3)(k:Nat)(hk:eU S.aD H=some k){n kk:Nat}{Q:bj→ai→Prop}(hn:n=68)(dU:kk=5)
 (h:an aoL n kk (fk.drop 1) ⟨[(0,.pointer (some ⟨0,0,none⟩)),(7,.pointer (some ⟨4,k*4,none⟩))],aO S L R H d⟩ Q):an aoL n kk fk ⟨[(0,.pointer (some ⟨0,0,none⟩))],aO S L R H d⟩ Q:=by
 subst hn dU
 match H,hH,h3,hk,h with
 | [],_,_,hk,_=>cases hk
 | [a],hH,_,hk,h=>
   have h1:a.there=true:=by
    unfold eU kn kn ji at hk
    cases ht:a.there with
    |true=>rfl
    |false=>rw[ht]at hk;cases hk
   have h2:eU S.aD [a]=some 0:=by simp[eU,kn,ji,h1]
   rw[h2]at hk
   cases hk
   exact aic S L R d a hH.symm h1 (by simp) (by simp) h
 | [a,b],hH,_,hk,h=>
   have e0:a8 [a,b] 0=a:=rfl
   have e1:a8 [a,b] 1=b:=rfl
   apply ail S L R d a b hH.symm
   all_goals
    intros
    first
     |(have kh:=hk
       simp[eU,kn,ji,ba, *]at kh
       subst kh
       exact h)
     |(have kh:=hk
       simp[eU,kn,ji,ba, *]at kh
       obtain⟨_,I2⟩:=kh
       subst I2
       exact h)
     |(cases hb:b.there with
       |true=>rfl
       |false=>
        exfalso
        have kh:=hk
        simp[eU,kn,ji,ba, *]at kh)
 | [a,b,c],hH,_,hk,h=>
   have e0:a8 [a,b,c] 0=a:=rfl
   have e1:a8 [a,b,c] 1=b:=rfl
   have e2:a8 [a,b,c] 2=c:=rfl
   apply aiK S L R d a b c hH.symm
   all_goals
    intros
    first
     |(have kh:=hk
       simp[eU,kn,ji,ba, *]at kh
       subst kh
       exact h)
     |(have kh:=hk
       simp[eU,kn,ji,ba, *]at kh
       obtain⟨_,I2⟩:=kh
       subst I2
       exact h)
     |(cases hb:c.there with
       |true=>rfl
       |false=>
        exfalso
        have kh:=hk
        simp[eU,kn,ji,ba, *]at kh)
def wB(L:List ByteArray)(i:Nat):ByteArray:=L.getD i aoZ
noncomputable def js(s:MS):Int×ByteArray×MS:=
 if 0<s.S.rn then match dy s.S.pop s.R s.H s.d with
  |(f,U,d3)=>if f≠0 then(f,wB s.L s.S.ro,(⟨U,s.L,s.R,s.H,d3⟩:MS).fail f)else(0,wB s.L s.S.ro,⟨U,s.L,s.R,s.H,d3⟩)
 else match eU s.S.aD s.H with
  |none=>(0,aoZ,s)
  |some k=>match cc (a8 s.H k) s.d with
   |(e,y,dd)=>if e≠0 then(e,(a8 s.H k).line,(⟨s.S,s.L,s.R,s.H.set k y,dd⟩:MS).fail e)else match dy s.S s.R (s.H.set k y) dd with
    |(f,U,d3)=>if f≠0 then(f,(a8 s.H k).line,(⟨U,s.L,s.R,s.H.set k y,d3⟩:MS).fail f)else(0,(a8 s.H k).line,⟨U,s.L,s.R,s.H.set k y,d3⟩)
def Cs(x:ByteArray):List ak:=[.cells [.int .i64 0,.slice (some ⟨6,0,none⟩) (x.size+1) (x.size+1)] 122 false,.cells (af (cj x)) 5 false]
def R4(x:Int×ByteArray×MS)(r:bO)(q:List ak):Prop:=r=.ret (.tuple #[.slice (some ⟨5,0,none⟩) 1 1,.int .i64 x.1])∧q=aO x.2.2.S x.2.2.L x.2.2.R x.2.2.H x.2.2.d++Cs x.2.1
theorem R5(S:ad)(L:List ByteArray)(R:List Int)(H:List aq)(d:au)(x:ByteArray)(e:Int)(hx:x.size≤1000)(hR:R.length=S.sn)(hH:H.length=S.hn)(hl:H.length≤1000000)(hr:R.length≤1000000)(hd:ca d):
 an aoL 68 5 (sL.drop 10) ⟨[(0,.pointer (some ⟨0,0,none⟩)),(5,.string x),(6,.int .i64 e)],aO S L R H d⟩
  (aJ aoL 29 68 5 (R4 (if e≠0 then(e,x,(⟨S,L,R,H,d⟩:MS).fail e)else match dy S R H d with
   |(f,U,d3)=>if f≠0 then(f,x,(⟨U,L,R,H,d3⟩:MS).fail f)else(0,x,⟨U,L,R,H,d3⟩)))):=by
 have pH:=a7 H
 have iq:=RB S L R H d hR hH hl hr hd
 generalize dy S R H d=o at*
 obtain⟨f,U,d3⟩:=o
 dsimp only at*
 have one:(apv (fun b:UInt8=>aoW apb (↑(apt b):Int)) (apd x.size (app (aph x)))).all apR=true:=by
  rw[List.take_of_length_le (by exact apn _)];exact FO _
 apply ai2 S L R H d U d3 f x e pH iq hx
 case n0=>intro _;exact e8 rfl rfl
 case n1=>intros;exact one
 case n6=>intros;exact one
 case n8=>intros;exact one
 case n10=>intros;exact one
 case n12=>intros;exact one
 case aX=>simp
 case bh=>simp
 case bD=>exact pH
 case l5=>
  intro g1 g2 g3
  have g1:e=0:=by simpa using g1
  have g2:f≠0:=by simpa using g2
  have g3:f=25:=by simpa using g3
  rw[if_neg (fun h=>h g1),if_pos g2]
  refine aiW S L R H d U d3 f x e (by simp) (by simp) pH ⟨rfl,?_⟩
  unfold MS.fail nv
  rw[join_eq,if_pos g3]
  rfl
 case l7=>
  intro g1 g2 g3
  have g1:e=0:=by simpa using g1
  have g2:f≠0:=by simpa using g2
  have g3:¬f=25:=by simpa using g3
  rw[if_neg (fun h=>h g1),if_pos g2]
  refine aiX S L R H d U d3 f x e (by simp) (by simp) pH ⟨rfl,?_⟩
  unfold MS.fail nv
  rw[join_eq,if_neg g3]
  rfl
 case l9=>
  intro g1 g2
  have g1:e=0:=by simpa using g1
  have g2:f=0:=by simpa using g2
  rw[if_neg (fun h=>h g1),if_neg (fun h=>h g2)]
  refine aiY S L R H d U d3 f x e (by simp) (by simp) pH ⟨by rw[g2],?_⟩
  rw[join_eq]
  rfl
 case gJ=>
  intro g1 g3
  have g1:e≠0:=by simpa using g1
  have g3:e=25:=by simpa using g3
  rw[if_pos g1]
  refine aiZ S L R H d U d3 f x e (by simp) (by simp) pH ⟨rfl,?_⟩
  unfold MS.fail nv
  rw[join_eq,if_pos g3]
  rfl
 case lr=>
  intro g1 g3
  have g1:e≠0:=by simpa using g1
  have g3:¬e=25:=by simpa using g3
  rw[if_pos g1]
  refine ai0 S L R H d U d3 f x e (by simp) (by simp) pH ⟨rfl,?_⟩
  unfold MS.fail nv
  rw[join_eq,if_neg g3]
  rfl
structure sM(s:MS):Prop where
 runs:s.R.length=s.S.sn
 jX:s.H.length=s.S.hn
 db:ca s.d
 Cr:s.R.length≤900000
 bW:s.H.length≤3
 ok:∀h∈s.H,o7 h
 run:s.S.ro+s.S.rn≤s.L.length
 small:∀x∈s.L,x.size≤64
 some:mM s.S s.H=true
theorem R6{L:List ByteArray}{i:Nat}(h:i<L.length):bc (ao L) (i+0)=wB L i∧eQ (ao L) (i+0)=true∧wB L i∈L:=by
 have h0:i+0=i:=rfl
 rw[h0,MB h,MC h]
 unfold wB
 rw[aqB,aoV h]
 exact⟨rfl,rfl,List.getElem_mem h⟩
theorem ai8(s:MS)(hs:sM s)(ho:s.S.bE=false)(hm:s.S.more=true):
 aI aoL 29 [.pointer (some ⟨0,0,none⟩)] (aO s.S s.L s.R s.H s.d) (R4 (js s)):=by
 obtain⟨S,L,R,H,d⟩:=s
 obtain⟨h1,h2,h3,h4,h5,h6,h7,h8,h9⟩:=hs
 dsimp only at*
 have pH:=a7 H
 refine aI.cY (n:=cp aoL 29) (by kernel_rfl) ?_
 by_cases ln:0<S.rn
 ·apply ah5 S L R H d pH ho hm ln
  case aX=>simp
  case bh=>simp
  case bD=>exact pH
  case l3=>
   refine an.vG 9 (c:=22) (b:=decide (((S.rn:Nat):Int)>0)) (by kernel_rfl) (by rfl) (by rfl) ?_
   rw[decide_eq_true (show((S.rn:Nat):Int)>0 by omega)]
   refine an.join ?_
   refine an.less [(0,.pointer (some ⟨0,0,none⟩)),(6,.int .i64 0)] (by kernel_rfl) (by intro p hp;rcases ao8.1 hp with rfl|hp;exact ape;rw[apP.1 hp];exact apc _ ape) ?_
   obtain⟨r1,r2,r3⟩:=R6 (L:=L) (i:=S.ro) (by omega)
   apply ah9 S L R H d pH ln
   case n0=>exact r2
   case l4=>
    refine QA.normal ?_
    unfold RQ
    rw[r1]
    have:=R5 S.pop L R H d (wB L S.ro) 0 (by have:=h8 _ r3;omega) h1 h2 (by omega) (by omega) h3
    rw[if_neg (fun h=>h rfl)]at this
    unfold js
    dsimp only
    rw[if_pos ln]
    exact this
 ·have ln:S.rn=0:=by omega
  obtain⟨k,hk⟩:∃k,eU S.aD H=some k:=by
   unfold mM at h9
   rw[decide_eq_false (by omega)]at h9
   cases hk:eU S.aD H with
   |none=>rw[hk]at h9;cases h9
   |some k=>exact⟨k,rfl⟩
  obtain⟨k1,k2⟩:=B2 hk
  have hok:=h6 _ (yS k1)
  have fX:=ae0 S L R H d k k1 hok h3
  have fJ:=h3.cc (a8 H k)
  have dw:=BX (h:=a8 H k) h3
  unfold js
  dsimp only
  rw[if_neg (by omega),hk]
  dsimp only
  generalize cc (a8 H k) d=o at*
  obtain⟨e,y,dd⟩:=o
  dsimp only at*
  apply ah7 S L R H d pH ho hm ln
  case aX=>simp
  case bh=>simp
  case bD=>exact pH
  case l3=>
   refine an.vG 9 (c:=22) (b:=decide (((S.rn:Nat):Int)>0)) (by kernel_rfl) (by rfl) (by rfl) ?_
   rw[decide_eq_false (show¬((S.rn:Nat):Int)>0 by omega)]
   refine an.join ?_
   refine an.less [(0,.pointer (some ⟨0,0,none⟩))] (by kernel_rfl) (by intro p hp;rw[apP.1 hp];exact ape) ?_
   refine ai7 S L R H d h2 h5 k hk rfl rfl ?_
   apply aiV S L R H d k e (H.set k y) dd pH (a7 _) fX k1 (by omega)
   case n0=>have:=(rowAt k1).n5;rw[show 0+aoO (k:Int)*4+2=k*4+2 by simp]at this;exact this
   case l4=>
    refine QA.normal ?_
    unfold RS
    have rT:=(rowAt k1).s2
    rw[show 0+aoO (k:Int)*4+2=k*4+2 by simp]at rT
    rw[rT]
    exact R5 S L R (H.set k y) dd (a8 H k).line e (by have:=hok.line;omega) h1 (by rw[aql];exact h2) (by rw[aql];omega) (by omega) fJ
noncomputable section
noncomputable def uF:List apw:=bd (dC aoL 30)
open Tree renaming aW→mN,dn→mF,eS→mL,fA→mQ,dD→mR,fK→mE
noncomputable abbrev I3:List apw:=(bd (inner (bd (inner (uF.drop 7)))))
noncomputable abbrev I4:List apw:=(bd (inner (bd (inner (uF.drop 5)))))
abbrev ls:=fun S L R H d=>([ab (aM S 1 2 3 4) 89,.abs d,ab (ao L) 9,ab (ap R) 3,ab (aj H) 114]:List ak)
abbrev ai9:=fun S L R H d=>(⟨[(0,al 0),(3,aa (ad.n S)),(17,ct 2 (ad.ro S) (ad.rn S) (ad.rn S)),(18,aa (ad.rn S)),(19,aa 0)],ls S L R H d⟩:ai)
abbrev aja:=fun S L R H d=>(⟨[(0,al 0)],ls S L R H d⟩:ai)
theorem ajb(S L R H d)(pH:(aj H).all ag=true){Q:aY}(l3:an aoL 46 5 (uF.drop 5) (ai9 S L R H d) Q):an aoL 46 5 uF (aja S L R H d) Q:=
 aZ bt 5 (.leaf [0,3,17,18,19] [0,1,2,3,4] [2,3,4]) (fun u=>by kernel_rfl) (aL L R H (mQ l3))
abbrev ajc:=fun S L R H d (z i:Int)=>(⟨[(0,al 0),(3,aa z),(17,ct 2 (ad.ro S) (ad.rn S) (ad.rn S)),(18,aa (ad.rn S)),(19,aa i)],ls S L R H d⟩:ai)
abbrev ajd:=fun S L R H d (z i:Int)=>(⟨[(0,al 0),(3,aa z)],ls S L R H d⟩:ai)
abbrev R7:=fun(S:ad) L R H d (z i:Int)=>(⟨[(0,al 0),(3,aa z),(17,ct 2 S.ro S.rn S.rn),(18,aa S.rn),(19,aa i)],ls S L R H d⟩:ai)
theorem aje(S L R H d)(z i:Int)(pH:(aj H).all ag=true){Q:aY}(l3:(decide (i<(↑(ad.rn S):Int)))=true→an aoL 46 5 (I4.drop 2) (ajc S L R H d z i) Q)(l4:(decide (i<(↑(ad.rn S):Int)))=false→Q (.exit 0) (ajd S L R H d z i)):an aoL 46 5 I4 (R7 S L R H d z i) Q:=
 aZ bt 2 (.fork 0 (.leaf [0,3,17,18,19] [0,1,2,3,4] [2,3,4]) (.leaf [0,3] [0,1,2,3,4] [2,3,4])) (fun u=>by kernel_rfl) (mF (c:=decide (i<(↑(ad.rn S):Int))) (fun h0=>(aL L R H (mQ (l3 h0)))) (fun h0=>(aL L R H (mE 0 (l4 h0)))))
abbrev R8:=fun S L R H d (z i:Int)=>(⟨[(0,al 0),(3,.int .i64 (aoN .i64 (z+(↑(aoT (bc (ao L) (ad.ro S+aoO i*1))):Int)))),(17,ct 2 (ad.ro S) (ad.rn S) (ad.rn S)),(18,aa (ad.rn S)),(19,.int .i64 (aoN .i64 (i+1)))],ls S L R H d⟩:ai)
theorem ajf(S:ad)(L R H d)(z i:Int)(pH:(aj H).all ag=true)(h0:0≤i)(h1:i<S.rn)(h2:S.rn≤1000000)(h3:aoN .i64 (i+1)=i+1){Q:aY}(n0:(eQ (ao L) (ad.ro S+aoO i*1))=true)(l4:Q .normal (R8 S L R H d z i)):an aoL 46 5 (I4.drop 2) (R7 S L R H d z i) Q:=
 aZ bt 1000 (aA [0,1,1,0,1] (.leaf [0,3,17,18,19] [0,1,2,3,4] [2,3,4])) (fun u=>by kernel_rfl) (mN (decide_eq_true (by omega):(decide (0≤i))=true) (mN (show(ao9 (aoO i) (ad.rn S))=true by simp at pH h0 h1 h2 h3⊢ <;>omega) (mN n0 (aL L R H (mQ (an.done (by kernel_rfl) l4))))))
abbrev ajg:=fun S L R H d (z:Int)=>(⟨[(3,aa z),(31,ah 4 (ad.hn S)),(32,aa (ad.hn S)),(33,aa 0)],ls S L R H d⟩:ai)
abbrev ajh:=fun S L R H d (z:Int)=>(⟨[(0,al 0),(3,aa z)],ls S L R H d⟩:ai)
theorem aji(S L R H d)(z:Int)(pH:(aj H).all ag=true){Q:aY}(l3:an aoL 46 5 ((uF.drop 6).drop 1) (ajg S L R H d z) Q):an aoL 46 5 (uF.drop 6) (ajh S L R H d z) Q:=
 aZ bt 1 (.leaf [3,31,32,33] [0,1,2,3,4] [2,3,4]) (fun u=>by kernel_rfl) (aL L R H (mQ l3))
abbrev ajj:=fun S L R H d (z i:Int)=>(⟨[(3,aa z),(31,ah 4 (ad.hn S)),(32,aa (ad.hn S)),(33,aa i)],ls S L R H d⟩:ai)
abbrev ajk:=fun S L R H d (z i:Int)=>(⟨[(3,aa z)],ls S L R H d⟩:ai)
abbrev R9:=fun(S:ad) L R H d (z i:Int)=>(⟨[(3,aa z),(31,ah 4 S.hn),(32,aa S.hn),(33,aa i)],ls S L R H d⟩:ai)
theorem ajl(S L R H d)(z i:Int)(pH:(aj H).all ag=true){Q:aY}(l3:(decide (i<(↑(ad.hn S):Int)))=true→an aoL 46 5 (I3.drop 2) (ajj S L R H d z i) Q)(l4:(decide (i<(↑(ad.hn S):Int)))=false→Q (.exit 2) (ajk S L R H d z i)):an aoL 46 5 I3 (R9 S L R H d z i) Q:=
 aZ bt 2 (.fork 0 (.leaf [3,31,32,33] [0,1,2,3,4] [2,3,4]) (.leaf [3] [0,1,2,3,4] [2,3,4])) (fun u=>by kernel_rfl) (mF (c:=decide (i<(↑(ad.hn S):Int))) (fun h0=>(aL L R H (mQ (l3 h0)))) (fun h0=>(aL L R H (mE 2 (l4 h0)))))
abbrev Sa:=fun S L R H d (z i:Int)=>(⟨[(3,.int .i64 (aoN .i64 (z+(↑(aoT (bc (aj H) (0+aoO i*4+1+1))):Int)))),(31,ah 4 (ad.hn S)),(32,aa (ad.hn S)),(33,.int .i64 (aoN .i64 (i+1)))],ls S L R H d⟩:ai)
abbrev Sb:=fun S L R H d (z i:Int)=>(⟨[(3,aa z),(31,ah 4 (ad.hn S)),(32,aa (ad.hn S)),(33,.int .i64 (aoN .i64 (i+1)))],ls S L R H d⟩:ai)
theorem ajm(S:ad)(L R H d)(z i:Int)(pH:(aj H).all ag=true)(hH:(aoM H)=S.hn)(h0:0≤i)(h1:i<S.hn)(h2:S.hn≤1000000)(h3:aoN .i64 (i+1)=i+1){Q:aY}(n0:(apf (0+aoO i*4+4) (aoM (aj H)))=true)(n1:(cH ao2 (aj H) (0+aoO i*4))=true)(n2:(cH ao2 (aj H) (0+aoO i*4+1))=true)(n3:(eQ (aj H) (0+aoO i*4+1+1))=true)(n4:(oN (aj H) (0+aoO i*4+1+1+1))=true)(l8:(gQ (aj H) (0+aoO i*4+1+1+1))=true→Q .normal (Sa S L R H d z i))(l9:(gQ (aj H) (0+aoO i*4+1+1+1))=false→Q .normal (Sb S L R H d z i)):an aoL 46 5 (I3.drop 2) (R9 S L R H d z i) Q:=
 aZ bt 1000 (aA [0,1,1,0,1,1,1,1,1] (.fork 2 (.leaf [3,31,32,33] [0,1,2,3,4] [2,3,4]) (.leaf [3,31,32,33] [0,1,2,3,4] [2,3,4]))) (fun u=>by kernel_rfl) (mN (decide_eq_true (by omega):(decide (0≤i))=true) (mN (show(ao9 (aoO i) (ad.hn S))=true by simp at pH hH h0 h1 h2 h3⊢ <;>omega) (mN n0 (mN n1 (mN n2 (mN n3 (mN n4 (mF (c:=gQ (aj H) (0+aoO i*4+1+1+1)) (fun h0=>(aL L R H (mQ (an.done (by kernel_rfl) (l8 h0))))) (fun h0=>(aL L R H (mQ (an.done (by kernel_rfl) (l9 h0)))))))))))))
abbrev Sc:=fun S L R H d (z:Int)=>(⟨[(2,aa z)],ls S L R H d⟩:ai)
theorem ajn(S L R H d)(z:Int){Q:bo}(hq:Q (.ret (aa z)) (ls S L R H d)):aJ aoL 30 46 5 Q .ret (Sc S L R H d z):=aJ.ret (vs:=[aa z]) (l:=[]) (bs:=[0,1,2,3,4]) (pl:=[2,3,4]) (q:=[ao L,ap R,aj H]) (fun u=>by kernel_rfl) (by kernel_rfl) (fY L R H bi) hq
abbrev ajo:=fun S L R H d (z:Int)=>(⟨[(3,aa z)],ls S L R H d⟩:ai)
theorem ajp(S L R H d)(z:Int)(pH:(aj H).all ag=true){Q:aY}(l3:Q .ret (Sc S L R H d z)):an aoL 46 5 (uF.drop 8) (ajo S L R H d z) Q:=
 aZ bt 1000 (.leaf [2] [0,1,2,3,4] [2,3,4]) (fun u=>by kernel_rfl) (aL L R H (mR l3))
end
def kR:List ByteArray→Nat
 | []=>0
 |x::l=>x.size+kR l
def o8:List aq→Nat
 | []=>0
 |h::l=>(if h.there then h.line.size else 0)+o8 l
def MS.run(s:MS):List ByteArray:=(s.L.drop s.S.ro).take s.S.rn
def jY(s:MS):Nat:=s.S.n.toNat+kR s.run+o8 s.H
theorem ajq{l:List ByteArray}{m:Nat}(h:∀x∈l,x.size≤m):kR l≤m*l.length:=by
 induction l with
 |nil=>exact apN _
 |cons x l ih=>
  have h1:=h x ape
  have h2:=ih fun y hy=>h y (apc _ hy)
  show x.size+kR l≤m*(l.length+1)
  rw[Nat.mul_add]
  omega
theorem Sd{l:List aq}(h:∀x∈l,o7 x):o8 l≤64*l.length:=by
 induction l with
 |nil=>exact apN _
 |cons x l ih=>
  have h1:=(h x ape).line
  have h2:=ih fun y hy=>h y (apc _ hy)
  show(if x.there then x.line.size else 0)+o8 l≤64*(l.length+1)
  split<;>omega
structure Se(s:MS):Prop where
 cut:jD s.S
 jX:s.H.length=s.S.hn
 bW:s.H.length≤3
 ok:∀h∈s.H,o7 h
 run:s.S.ro+s.S.rn≤s.L.length
 aoc:s.S.rn≤1000
 small:∀x∈s.L,x.size≤64
def Sf(s:MS)(t:Nat×Int):ai:=⟨[(0,.pointer (some ⟨0,0,none⟩)),(3,.int .i64 t.2),(17,.slice (some ⟨2,s.S.ro,none⟩) s.S.rn s.S.rn),(18,.int .i64 s.S.rn),(19,iZ t.1)],aO s.S s.L s.R s.H s.d⟩
def I5(s:MS)(t:Nat×Int):ai:=⟨[(3,.int .i64 t.2),(31,.slice (some ⟨4,0,none⟩) s.S.hn s.S.hn),(32,.int .i64 s.S.hn),(33,iZ t.1)],aO s.S s.L s.R s.H s.d⟩
theorem I6(s:MS)(hs:Se s):aI aoL 30 [.pointer (some ⟨0,0,none⟩)] (aO s.S s.L s.R s.H s.d) fun r q=>r=.ret (.int .i64 (jY s))∧q=aO s.S s.L s.R s.H s.d:=by
 obtain⟨S,L,R,H,d⟩:=s
 obtain⟨hc,hH,h3,hok,ln,fQ,eE⟩:=hs
 dsimp only at*
 have pH:=a7 H
 have pJ:=hc.n0
 have kJ:=hc.n1
 obtain⟨l,hl⟩:∃l,l=(L.drop S.ro).take S.rn:=⟨_,rfl⟩
 have nJ:l.length=S.rn:=by rw[hl,List.length_take,List.length_drop];omega
 have ajr:∀x∈l,x.size≤64:=fun x hx=>eE x (List.mem_of_mem_drop (List.mem_of_mem_take (hl▸hx)))
 have tA:=ajq ajr
 have iW:=Sd hok
 have hv:jY ⟨S,L,R,H,d⟩=S.n.toNat+kR l+o8 H:=by rw[hl];rfl
 rw[hv]
 refine aI.cY (n:=cp aoL 30) (by kernel_rfl) ?_
 apply ajb S L R H d pH
 ·
  refine an.eO 5 0 (by kernel_rfl) ?_
  refine an.fL (Sf ⟨S,L,R,H,d⟩) (fun t=>S.rn-t.1) (fun t=>t.1≤S.rn∧0≤t.2∧t.2+kR (l.drop t.1)=S.n+kR l) (0,S.n) (by kernel_rfl) ⟨apN _,pJ,by simp⟩ ?_
  rintro⟨i,z⟩ ⟨h1,h2,h4⟩
  dsimp only at h1 h2 h4
  apply aje S L R H d z i pH
  case l3=>
   intro g
   have g:=of_decide_eq_true g
   have hi:i<S.rn:=by omega
   have qu:i<l.length:=by omega
   have hd:l.drop i=l[i]::l.drop (i+1):=aqF qu
   have hx:L[S.ro+i]?=some l[i]:=by
    have:l[i]?=some l[i]:=aoV qu
    rw[←this,hl,List.getElem?_take,if_pos hi,List.getElem?_drop]
   have I7:S.ro+i<L.length:=by omega
   have he:bc (ao L) (S.ro+aoO (i:Int)*1)=l[i]:=by
    rw[show S.ro+aoO (i:Int)*1=S.ro+i by simp,MB I7]
    rw[aoV I7]at hx
    exact asc hx
   rw[hd]at h4
   have h4:z+((l[i].size+kR (l.drop (i+1)):Nat):Int)=S.n+kR l:=h4
   apply ajf S L R H d z i pH (by omega) g (by omega) (bL (by omega) (by omega))
   case n0=>rw[show S.ro+aoO (i:Int)*1=S.ro+i by simp];exact MC I7
   case l4=>
    refine QL.to (i+1,z+l[i].size) ⟨hi,by dsimp only;omega,by dsimp only;omega⟩ (by dsimp only;omega) ?_
    unfold R8 Sf
    rw[he,bL (z:=z+(l[i].size:Int)) (by omega) (by omega),ff (by omega)]
    rfl
  case l4=>
   intro g
   have g:=of_decide_eq_false g
   rw[aqq (by omega)]at h4
   have h4:z+((0:Nat):Int)=S.n+kR l:=h4
   with_reducible (repeat first|refine QL.ret ?_|refine QL.exit ?_|refine QB.ret ?_|refine QB.cx ?_|refine QB.normal ?_|refine QB.cG (by rfl) ?_)
   apply aji S L R H d z pH
   ·
    rw[ap2]
    refine an.eO 7 2 (by kernel_rfl) ?_
    refine an.fL (I5 ⟨S,L,R,H,d⟩) (fun t=>S.hn-t.1) (fun t=>t.1≤S.hn∧0≤t.2∧t.2+o8 (H.drop t.1)=S.n+kR l+o8 H) (0,z) (by kernel_rfl) ⟨apN _,h2,by simp;omega⟩ ?_
    clear h4 h2 g h1
    rintro⟨j,y⟩ ⟨h1,h2,h4⟩
    dsimp only at h1 h2 h4
    apply ajl S L R H d y j pH
    case l4=>
     intro g
     have g:=of_decide_eq_false g
     rw[aqq (by omega)]at h4
     have h4:y+((0:Nat):Int)=S.n+kR l+o8 H:=h4
     with_reducible (repeat first|refine QL.ret ?_|refine QL.exit ?_|refine QB.ret ?_|refine QB.cx ?_|refine QB.normal ?_|refine QB.cG (by rfl) ?_)
     apply ajp S L R H d y pH
     ·exact ajn S L R H d y ⟨by rw[show y=((S.n.toNat+kR l+o8 H:Nat):Int)by omega],rfl⟩
    case l3=>
     intro g
     have g:=of_decide_eq_true g
     have hj:j<H.length:=by omega
     obtain⟨n0,n1,n2,n3,n4,xb,xs,QM,n5⟩:=rowAt hj
     rw[H6 hj]at h4
     have h4:y+(((if(a8 H j).there then(a8 H j).line.size else 0)+o8 (H.drop (j+1)):Nat):Int)=S.n+kR l+o8 H:=h4
     apply ajm S L R H d y j pH hH (by omega) g (by omega) (bL (by omega) (by omega)) n0 n1 n2 n3 n4
     case l8=>
      intro gb
      rw[xb]at gb
      rw[if_pos gb]at h4
      refine QL.to (j+1,y+(a8 H j).line.size) ⟨by dsimp only;omega,by dsimp only;omega,by dsimp only;omega⟩ (by dsimp only;omega) ?_
      unfold Sa I5
      rw[xs,bL (z:=y+((a8 H j).line.size:Int)) (by omega) (by omega),ff (by omega)]
      rfl
     case l9=>
      intro gb
      rw[xb]at gb
      rw[if_neg (by rw[gb];simp)]at h4
      refine QL.to (j+1,y) ⟨by dsimp only;omega,h2,by dsimp only;omega⟩ (by dsimp only;omega) ?_
      unfold Sb I5
      rw[ff (by omega)]
      rfl
structure aK where
 bytes:ByteArray
 ended:Bool
 code:Int
 ir:Int
 id:Int
def y4(s:aK):List SV:=[.cells s.bytes.size (af s.bytes) 5,.val (.bool s.ended),.val (.int .i64 s.code),.val (.int .i64 s.ir),.val (.int .i64 s.id)]
def dM:aK:=⟨aoZ,false,0,0,0⟩
def gL(l:List aK):ak:=.rows l.length 5 fun i=>y4 (l[i]?.getD dM)
def mh(o:ByteArray)(nd er hd t:Int):List aoP:=[.string o,.string aoZ,.string aoZ,.string aoZ,.int .i64 nd,.int .i64 er,.int .i64 hd,.int .i64 t,.int .i64 0,.int .i64 0,.int .i64 0,.bool false]
def lv(w:Bool):List aoP:=[.bool w,.bool false,.bool false,.bool false]
def jj:List aoP:=mh aoZ 0 0 0 0
def jk(S:ad):Int:=if S.bE then -1 else if S.more then -2 else S.at_
noncomputable section
noncomputable def y5:List apw:=bd (dC aoL 13)
open Tree renaming aW→mN,dn→mF,eS→mL
end
noncomputable section
noncomputable def Sg:List apw:=bd (dC aoL 35)
open Tree renaming aW→mN,dn→mF,eS→mL,fA→mQ,dD→mR,fK→mE
abbrev wC:=fun C=>([.cells (ap C) 3 true]:List ak)
abbrev I8:=fun C (k:Int)=>(⟨[(4,aa 32)],wC C⟩:ai)
theorem ajs(C)(k:Int){Q:bo}(hq:Q (.ret (aa 32)) (I8 C k).objs):aJ aoL 35 23 1 Q .ret (I8 C k):=aJ.ret (vs:=[aa 32]) (l:=[]) (bs:=[0]) (pl:=[0]) (q:=[ap C]) (fun u=>by kernel_rfl) (by kernel_rfl) (aF (aQ C) bi) hq
abbrev Sh:=fun C (k:Int)=>(⟨[(0,ah 0 (aoM C)),(1,aa k)],wC C⟩:ai)
theorem ajt(C)(k:Int)(h0:(aoM C)=0){Q:aY}(aX:aoS (ap C) ag=true)(l1:Q .ret (I8 C k)):an aoL 23 1 Sg (Sh C k) Q:=
 aZ bt 1000 (aA [3] (.leaf [4] [0] [0])) (fun u=>by kernel_rfl) (mN (decide_eq_true (by omega):((↑(aoM C):Int)==0)=true) (mN (aQ C) (mR l1)))
noncomputable abbrev Si(C:List Int)(k:Int):ai:=⟨[(4,.int .i64 (aoN .i64 (aoN .i64 (0-aqj (ay (ap C) (0+aoO (aqj k (↑(aoM C):Int))*1)) 32)+1)))],wC C⟩
theorem aju(C)(k:Int){Q:bo}(hq:Q (.ret (.int .i64 (aoN .i64 (aoN .i64 (0-aqj (ay (ap C) (0+aoO (aqj k (↑(aoM C):Int))*1)) 32)+1)))) (wC C)):aJ aoL 35 23 1 Q .ret (Si C k):=aJ.ret (vs:=[.int .i64 (aoN .i64 (aoN .i64 (0-aqj (ay (ap C) (0+aoO (aqj k (↑(aoM C):Int))*1)) 32)+1))]) (l:=[]) (bs:=[0]) (pl:=[0]) (q:=[ap C]) (fun u=>by kernel_rfl) (by kernel_rfl) (aF (aQ C) bi) hq
noncomputable abbrev Sj(C:List Int)(k:Int):ai:=⟨[(4,.int .i64 (aoN .i64 (aqj (ay (ap C) (0+aoO (aqj k (↑(aoM C):Int))*1)) 32+1)))],wC C⟩
theorem ajv(C)(k:Int){Q:bo}(hq:Q (.ret (.int .i64 (aoN .i64 (aqj (ay (ap C) (0+aoO (aqj k (↑(aoM C):Int))*1)) 32+1)))) (wC C)):aJ aoL 35 23 1 Q .ret (Sj C k):=aJ.ret (vs:=[.int .i64 (aoN .i64 (aqj (ay (ap C) (0+aoO (aqj k (↑(aoM C):Int))*1)) 32+1))]) (l:=[]) (bs:=[0]) (pl:=[0]) (q:=[ap C]) (fun u=>by kernel_rfl) (by kernel_rfl) (aF (aQ C) bi) hq
theorem ajw(C)(k:Int)(h0:0<(aoM C))(h1:(aoM C)≤3000)(h2:0≤k)(h3:k<100000){Q:aY}(n0:(!decide ((↑(aoM C):Int)=0))=true)(n1:(decide (0≤aqj k (↑(aoM C):Int)))=true)(n2:(ao9 (aoO (aqj k (↑(aoM C):Int))) (aoM C))=true)(n3:(cH ao2 (ap C) (0+aoO (aqj k (↑(aoM C):Int))*1))=true)(l5:(decide (aqj (ay (ap C) (0+aoO (aqj k (↑(aoM C):Int))*1)) 32<0))=true→Q .ret (Si C k))(l6:(decide (aqj (ay (ap C) (0+aoO (aqj k (↑(aoM C):Int))*1)) 32<0))=false→Q .ret (Sj C k)):an aoL 23 1 Sg (Sh C k) Q:=
 aZ bt 1000 (aA [2,2,1,0,1,1,0,1] (.fork 1 (.leaf [4] [0] [0]) (.leaf [4] [0] [0]))) (fun u=>by kernel_rfl) (mN (decide_eq_false (by omega):((↑(aoM C):Int)==0)=false) (mN n0 (mN n1 (mN n2 (mN n3 (mF (c:=decide (aqj (ay (ap C) (0+aoO (aqj k (↑(aoM C):Int))*1)) 32<0)) (fun h0=>(mN (aQ C) (mR (l5 h0)))) (fun h0=>(mN (aQ C) (mR (l6 h0))))))))))
end
structure Small(L:List ByteArray):Prop where
 each:∀x∈L,x.size≤64
 all:bV L≤256
structure Inv(x:MS):Prop where
 cut:jD x.S
 jX:x.H.length=x.S.hn
 sm:Small x.L
 fC:x.H=[]∨(x.L=[]∧x.S.n=0)
 bW:x.H.length≤3
 ok:∀h∈x.H,o7 h
 run:x.S.ro+x.S.rn≤x.L.length
theorem ajx(L:List ByteArray):kR L+L.length=bV L:=by
 induction L with
 |nil=>rfl
 |cons x l ih=>show x.size+kR l+(l.length+1)=x.size+1+bV l;omega
theorem ajy(L:List ByteArray)(n:Nat):bV (L.take n)≤bV L:=by
 induction L generalizing n with
 |nil=>simp
 |cons x l ih=>cases n with
  |zero=>exact apN _
  |succ n=>have:=ih n;show x.size+1+bV (l.take n)≤x.size+1+bV l;omega
theorem ajz(L:List ByteArray)(n:Nat):bV (L.drop n)≤bV L:=by
 induction L generalizing n with
 |nil=>simp
 |cons x l ih=>cases n with
  |zero=>exact apn _
  |succ n=>have:=ih n;show bV (l.drop n)≤x.size+1+bV l;omega
theorem Inv.held{x:MS}(h:Inv x):Se x∧jY x≤320:=by
 have h1:=yN x.L
 have h2:=h.sm.all
 have h3:=h.run
 refine⟨⟨h.cut,h.jX,h.bW,h.ok,h.run,by omega,h.sm.each⟩,?_⟩
 have hn:=h.cut.n1
 have pJ:=h.cut.n0
 have a:=ajx x.run
 have b:=ajy (x.L.drop x.S.ro) x.S.rn
 have c:=ajz x.L x.S.ro
 have e:=Sd h.ok
 have hf:=h.bW
 unfold jY
 have a:kR x.run+x.run.length=bV ((x.L.drop x.S.ro).take x.S.rn):=a
 rcases h.fC with hH|⟨hL,hz⟩
 ·rw[hH]
  show _+0≤320
  omega
 ·have:bV x.L=0:=by rw[hL];rfl
  rw[hz]
  show 0+_+_≤320
  omega
theorem I9{S:ad}{L:List ByteArray}{R:List Int}{d:au}(h:Small L):Small (dZ S L R d).2.2.1:=by
 have hs:Small (bK (ba S.aD) L):=⟨fun x hx=>h.each x ((kQ L).mem_iff.1 hx),by rw[wj (kQ L)];exact h.all⟩
 unfold dZ
 split
 ·exact hs
 split
 ·exact hs
 ·exact⟨(fun x hx=>by cases hx),apN _⟩
structure mO(S T:ad):Prop where
 at_:T.at_=S.at_
 more:T.more=S.more
 bE:T.bE=S.bE
 B:T.B=S.B
 n:T.n=S.n
 failed:T.failed=S.failed
 aD:T.aD=S.aD
 ro:T.ro=S.ro
 hn:T.hn=S.hn
theorem mO.refl(S:ad):mO S S:=⟨rfl,rfl,rfl,rfl,rfl,rfl,rfl,rfl,rfl⟩
theorem mO.trans{S T U:ad}(h:mO S T)(k:mO T U):mO S U:=⟨k.at_.trans h.at_,k.more.trans h.more,k.bE.trans h.bE,k.B.trans h.B,k.n.trans h.n,k.failed.trans h.failed,k.aD.trans h.aD,k.ro.trans h.ro,k.hn.trans h.hn⟩
theorem Ja(S:ad)(L:List ByteArray)(R:List Int)(d:au):mO S (dZ S L R d).2.1:=by
 unfold dZ
 split
 ·exact mO.refl S
 split
 ·exact⟨rfl,rfl,rfl,rfl,rfl,rfl,rfl,rfl,rfl⟩
 ·exact⟨rfl,rfl,rfl,rfl,rfl,rfl,rfl,rfl,rfl⟩
theorem y6:∀(l:List ByteArray) (s:cJ),mO s.1 (eY l s).2.1
 | [],s=>mO.refl _
 |x::l,s=>by
  unfold eY
  split
  ·split
   ·exact Ja _ _ _ _
   ·have h1:=y6 l (lY x (dZ s.1 s.2.1 s.2.2.1 s.2.2.2).2)
    have h0:mO (dZ s.1 s.2.1 s.2.2.1 s.2.2.2).2.1 (lY x (dZ s.1 s.2.1 s.2.2.1 s.2.2.2).2).1:=⟨rfl,rfl,rfl,rfl,rfl,rfl,rfl,rfl,rfl⟩
    exact(Ja s.1 s.2.1 s.2.2.1 s.2.2.2).trans (h0.trans h1)
  ·have h1:=y6 l (lY x s)
   have h0:mO s.1 (lY x s).1:=⟨rfl,rfl,rfl,rfl,rfl,rfl,rfl,rfl,rfl⟩
   exact h0.trans h1
theorem Ct:∀(l:List ByteArray) (s:cJ),jq s→Small s.2.1→(∀x∈l,x.size≤64)→Small (eY l s).2.2.1
 | [],s,h,hs,hx=>hs
 |x::l,s,h,hs,hx=>by
  have fR:=hx x ape
  have jM:∀y∈l,y.size≤64:=fun y hy=>hx y (apc _ hy)
  have hw:=h.bN
  have hlen:=h.len
  have put:∀t:cJ,Small t.2.1→bV t.2.1+(x.size+1)≤256→Small (lY x t).2.1:=fun t ht hw=>by
   refine⟨fun y hy=>?_,?_⟩
   ·rcases apo.1 hy with hy|hy
    ·exact ht.each y hy
    ·rw[apP.1 hy];exact fR
   ·show bV (t.2.1++[x])≤256
    rw[yO]
    show bV t.2.1+(x.size+1+0)≤256
    omega
  unfold eY
  by_cases hc:0<s.1.rn∧s.1.bN+x.size+1>256
  ·rw[if_pos hc]
   by_cases he:(dZ s.1 s.2.1 s.2.2.1 s.2.2.2).1=0
   ·rw[if_neg (fun h=>h he)]
    obtain⟨s1,s2⟩:=h.nt
    have qk:=s2 he
    have h0:bV (dZ s.1 s.2.1 s.2.2.1 s.2.2.2).2.2.1=0:=by rw[qk];rfl
    exact Ct l _ (s1.put x (by omega)) (put _ (I9 hs) (by omega)) jM
   ·rw[if_pos he]
    exact I9 hs
  ·rw[if_neg hc]
   have dK:bV s.2.1+(x.size+1)≤256:=by
    by_cases h0:0<s.1.rn
    ·have:¬s.1.bN+x.size+1>256:=fun h=>hc ⟨h0,h⟩
     omega
    ·have:s.2.1=[]:=apL (by omega)
     rw[this];show 0+(x.size+1)≤256;omega
   exact Ct l _ (h.put x (by omega)) (put s hs dK) jM
structure ny(F:Nat)(x:MS):Prop where
 ok:IV F x
 sm:Small x.L
 none:x.H=[]
 ro:x.S.ro=0
 more:x.S.more=false
 bE:x.S.bE=false
theorem ny.inv{F:Nat}{x:MS}(h:ny F x):Inv x:=⟨h.ok.cut,h.ok.jX,h.sm,.inl h.none,by rw[h.none];exact apN _,by rw[h.none];exact fun _ hh=>(by cases hh),by rw[h.ro];have:=h.ok.q9.ok.len;show 0+x.S.rn≤x.L.length;have:x.L.length=x.S.rn:=this;omega⟩
theorem uG{x:MS}(h:Inv x)(e:Int):Inv (x.fail e):=⟨⟨h.cut.n0,h.cut.n1⟩,h.jX,h.sm,h.fC,h.bW,h.ok,h.run⟩
theorem Sk{F:Nat}{x:MS}(h:ny F x)(b:ByteArray):Inv (iV x b).2∧((iV x b).1=0→∃F',ny F' (iV x b).2∧F'+(iV x b).2.S.n.toNat=F+x.S.n.toNat+b.size):=by
 obtain⟨S,L,R,H,d⟩:=x
 obtain⟨⟨hg,hc,hH,hf,cn⟩,eE,gh,dw,sN,Sl⟩:=h
 dsimp only[MS.z]at*
 obtain⟨c1,c2,c3,c4⟩:=y3 b.data.toList S [] hc fun x hx=>by cases hx
 obtain⟨s1,s2,s3,s4,s5,s6,s7,s8,s9,RZ,R1,IW,IX⟩:=wA b.data.toList S []
 unfold iV
 dsimp only
 generalize dS b.data.toList S []=o at*
 obtain⟨e,S1,M⟩:=o
 dsimp only at*
 have pK:Good F (S1,L,R,d):=⟨⟨by rw[show((S1,L,R,d):cJ).1.rn=S1.rn from rfl,s6];exact hg.ok.len,by rw[show((S1,L,R,d):cJ).1.sn=S1.sn from rfl,s8];exact hg.ok.runs,hg.ok.db,hg.ok.made,by rw[show((S1,L,R,d):cJ).1.bN=S1.bN from rfl,s7];exact hg.ok.bN,hg.ok.bW⟩,hg.old,hg.bW⟩
 obtain⟨t1,t2⟩:=y0 M F (S1,L,R,d) pK c2
 have t3:=y6 M (S1,L,R,d)
 have t4:=Ct M (S1,L,R,d) pK.ok eE c2
 generalize eY M (S1,L,R,d)=o at*
 obtain⟨f,T,K,Rr,dd⟩:=o
 dsimp only[jW]at*
 have Sm:jD T:=⟨by rw[t3.n];exact c1.n0,by rw[t3.n];exact c1.n1⟩
 have hi:Inv ⟨T,K,Rr,H,dd⟩:=⟨Sm,hH.trans (s9.symm.trans t3.hn.symm),t4,.inl gh,by rw[gh];exact apN _,by rw[gh];exact fun _ hh=>(by cases hh),by show T.ro+T.rn≤K.length;rw[t3.ro,s5,dw];have:K.length=T.rn:=t1.len;omega⟩
 by_cases oA:f=0
 ·rw[if_neg (fun h=>h oA)]
  by_cases y7:e=0
  ·rw[if_neg (fun h=>h y7)]
   refine⟨hi,fun _=>⟨F+bV M,⟨⟨t2 oA,Sm,hi.jX,by show T.failed=false;rw[t3.failed,IX y7];exact hf,by show T.at_=0;rw[t3.at_,s1];exact cn⟩,t4,gh,by show T.ro=0;rw[t3.ro,s5];exact dw,by show T.more=false;rw[t3.more,s2];exact sN,by show T.bE=false;rw[t3.bE,s3];exact Sl⟩,?_⟩⟩
   have h3:=c3 y7
   have hb:b.data.toList.length=b.size:=by simp
   show F+bV M+T.n.toNat=_
   rw[t3.n]
   have:bV ([]:List ByteArray)=0:=rfl
   omega
  ·rw[if_pos y7]
   exact⟨uG hi e,fun h=>absurd h y7⟩
 ·rw[if_pos oA]
  exact⟨uG hi f,fun h=>absurd h oA⟩
structure y8(S T:ad):Prop where
 more:T.more=S.more
 bE:T.bE=S.bE
 ro:T.ro=S.ro
 aD:T.aD=S.aD
 n:T.n=0
theorem ajA{F:Nat}{s:cJ}(h:Good F s)(hc:jD s.1)(hs:Small s.2.1):y8 s.1 (gB s).2.1∧Small (gB s).2.2.1:=by
 have hn:=hc.n1
 unfold gB
 split
 ·rename_i h0;exact⟨⟨rfl,rfl,rfl,rfl,h0⟩,hs⟩
 ·have h1:=y6 [iU s.1] ({s.1 with n:=0},s.2)
  have hok:jq ({s.1 with n:=0},s.2):=⟨h.ok.len,h.ok.runs,h.ok.db,h.ok.made,h.ok.bN,h.ok.bW⟩
  exact⟨⟨h1.more,h1.bE,h1.ro,h1.aD,h1.n⟩,Ct [iU s.1] ({s.1 with n:=0},s.2) hok hs fun x hx=>by rw[apP.1 hx,wy];omega⟩
theorem Jb{S:ad}(h:S.n=0):jD S:=⟨by omega,by omega⟩
theorem ajB{s:cJ}{H:List aq}(hL:s.2.1=[])(hl:s.2.1.length=s.1.rn)(hH:H=[])(hh:H.length=s.1.hn)(hn:s.1.n=0)(dw:s.1.ro=0)(hr:jC s.2.2.2 s.2.2.1):
 Inv (jW (mK s H).2.1 (mK s H).2.2)∧y8 s.1 (mK s H).2.1.1:=by
 obtain⟨S,L,R,d⟩:=s
 dsimp only at*
 subst hL hH
 obtain⟨p1,p2,p3⟩:=IM S.aD R.length R d hr
 have hv:mK (S,[],R,d) []=if(e9 S.aD R.length R d).1≠0 then((e9 S.aD R.length R d).1,({S with sn:=(e9 S.aD R.length R d).2.1.length},[],(e9 S.aD R.length R d).2),[])
  else match e9 S.aD R.length R d with
   |(_,R,d)=>match eB R [] d with
    |(e,l,dd)=>if e=0 then(0,({S with sn:=R.length,hn:=l.length},[],R,dd),l)else(e,({S with sn:=R.length,hn:=0},[],R,dd),[]):=rfl
 rw[hv]
 clear hv
 generalize e9 S.aD R.length R d=o at*
 obtain⟨e,R2,d2⟩:=o
 dsimp only at*
 have small:Small []:=⟨(fun x hx=>by cases hx),apN _⟩
 have ln:S.rn=0:=hl.symm
 have mk:∀(T:ad) (H:List aq) (R:List Int) (d:au),T.n=0→T.ro=0→T.rn=0→H.length=T.hn→H.length≤3→(∀h∈H,o7 h)→Inv ⟨T,[],R,H,d⟩:=fun T H R d a b c e g k=>⟨Jb a,e,small,.inr ⟨rfl,a⟩,g,k,by show T.ro+T.rn≤0;omega⟩
 by_cases he:e=0
 ·rw[if_neg (fun h=>h he)]
  obtain⟨q1,q2⟩:=p2 he
  have cX:=B0 R2 [] [] d2 d2 p1 rfl ⟨rfl,(fun _ h=>by cases h),apn _⟩
  generalize eB R2 [] d2=o at*
  obtain⟨e2,l,d3⟩:=o
  dsimp only at*
  by_cases eT:e2=0
  ·rw[if_pos eT]
   have ho:=cX eT
   rw[aqw]at ho
   have nJ:l.length=R2.length:=by have:=congrArg aoM ho.BZ;rw[List.length_map]at this;exact this
   exact⟨mk _ l R2 d3 hn dw ln rfl (by have:=q2 (apn _);omega) ho.ok,rfl,rfl,rfl,rfl,hn⟩
  ·rw[if_neg eT]
   exact⟨mk _ [] R2 d3 hn dw ln rfl (apN _) (fun h hh=>by cases hh),rfl,rfl,rfl,rfl,hn⟩
 ·rw[if_pos he]
  exact⟨mk _ [] R2 d2 hn dw ln hh (apN _) (fun h hh=>by cases hh),rfl,rfl,rfl,rfl,hn⟩
theorem Sn{s:cJ}(h:jq s)(hs:Small s.2.1)(hh:([]:List aq).length=s.1.hn)(hn:s.1.n=0)(dw:s.1.ro=0):Inv (jW s []):=
 ⟨Jb hn,hh,hs,.inl rfl,apN _,(fun h hh=>by cases hh),by show s.1.ro+s.1.rn≤s.2.1.length;rw[dw,h.len];omega⟩
theorem Jc{F:Nat}{x:MS}(h:ny F x)(hF:F≤800000):Inv (jW (jE x.z x.H).2.1 (jE x.z x.H).2.2)∧y8 x.S (jE x.z x.H).2.1.1:=by
 obtain⟨r1,r2⟩:=IK h.ok.q9 h.ok.cut
 obtain⟨k1,k2⟩:=ajA h.ok.q9 h.ok.cut h.sm
 have r3:=R3 x.z
 have kJ:=h.ok.cut.n1
 have hH:=h.none
 have hh:([]:List aq).length=x.S.hn:=by rw[←hH];exact h.ok.jX
 have dw:(gB x.z).2.1.ro=0:=k1.ro.trans h.ro
 rw[hH]
 unfold jE
 split
 ·exact⟨Sn r1 k2 (hh.trans r3.symm) k1.n dw,k1⟩
 rename_i he
 have g:=IL (r2 (aqD.1 he))
 have k3:y8 x.S (mg (gB x.z).2).1:=⟨k1.more,k1.bE,k1.ro,k1.aD,k1.n⟩
 have k4:Small (mg (gB x.z).2).2.1:=k2
 have Sp:([]:List aq).length=(mg (gB x.z).2).1.hn:=hh.trans r3.symm
 have Jd:(mg (gB x.z).2).1.ro=0:=dw
 generalize mg (gB x.z).2=t at*
 unfold uC
 split
 ·refine⟨⟨Jb k3.n,Sp,⟨fun y hy=>k4.each y ((kQ t.2.1).mem_iff.1 hy),by show bV (bK _ t.2.1)≤256;rw[wj (kQ t.2.1)];exact k4.all⟩,.inl rfl,apN _,(fun h hh=>by cases hh),?_⟩,k3⟩
  show t.1.ro+t.1.rn≤(bK _ t.2.1).length
  rw[nU,Jd,g.ok.len];omega
 unfold sJ
 have dq:jq (im t).2∧((im t).1=0→(im t).2.2.1=[]):=by
  unfold im
  split
  ·exact g.ok.nt
  ·rename_i h0
   refine⟨g.ok,fun _=>?_⟩
   have:=g.ok.len
   show t.2.1=[]
   exact apL (by omega)
 have dJ:mO t.1 (im t).2.1:=by unfold im;split;exact Ja _ _ _ _;exact mO.refl _
 have vg:Small (im t).2.2.1:=by unfold im;split;exact I9 k4;exact k4
 have k5:y8 x.S (im t).2.1:=⟨dJ.more.trans k3.more,dJ.bE.trans k3.bE,dJ.ro.trans k3.ro,dJ.aD.trans k3.aD,dJ.n.trans k3.n⟩
 have Sq:([]:List aq).length=(im t).2.1.hn:=Sp.trans dJ.hn.symm
 split
 ·exact⟨Sn dq.1 vg Sq k5.n (dJ.ro.trans Jd),k5⟩
 rename_i eT
 have eT:=aqD.1 eT
 have g2:Good (F+(x.S.n.toNat+1)) (im t).2:=by
  unfold im at eT⊢
  split
  ·rename_i h1;rw[if_pos h1]at eT;exact g.nt eT
  ·exact g
 have fR:x.S.n.toNat≤64:=by have:x.S.n≤64:=kJ;omega
 obtain⟨a,b⟩:=ajB (H:=[]) (dq.2 eT) dq.1.len rfl Sq k5.n (dJ.ro.trans Jd) (g2.runs (by omega))
 exact⟨a,b.more.trans k5.more,b.bE.trans k5.bE,b.ro.trans k5.ro,b.aD.trans k5.aD,b.n⟩
theorem ajC{x:MS}(h:Inv x)(hl:Cq x)(ho:x.S.bE=false):Inv ⟨(dy x.S x.R x.H x.d).2.1,x.L,x.R,x.H,(dy x.S x.R x.H x.d).2.2⟩∧
 ((dy x.S x.R x.H x.d).2.1.bE=true∨((dy x.S x.R x.H x.d).2.1.bE=false∧(dy x.S x.R x.H x.d).2.1.more=true∧sM ⟨(dy x.S x.R x.H x.d).2.1,x.L,x.R,x.H,(dy x.S x.R x.H x.d).2.2⟩)):=by
 unfold dy
 cases hm:mM x.S x.H with
 |true=>
  rw[if_pos rfl]
  exact⟨⟨⟨h.cut.n0,h.cut.n1⟩,h.jX,h.sm,h.fC,h.bW,h.ok,h.run⟩,.inr ⟨ho,rfl,hl.runs,h.jX,hl.db,hl.Cr,h.bW,h.ok,h.run,h.sm.each,hm⟩⟩
 |false=>
  rw[if_neg (by simp)]
  exact⟨⟨⟨h.cut.n0,h.cut.n1⟩,h.jX,h.sm,h.fC,h.bW,h.ok,h.run⟩,.inl rfl⟩
theorem Sr{F:Nat}{x:MS}(h:ny F x)(hF:F≤800000):Inv (iM x).2∧((iM x).1=0→(iM x).2.S.bE=true∨((iM x).2.S.bE=false∧(iM x).2.S.more=true∧sM (iM x).2)):=by
 obtain⟨i1,k1⟩:=Jc h hF
 have xv:=I0 h.ok.q9 h.ok.cut hF h.ok.jX
 unfold iM
 generalize jE x.z x.H=o at*
 obtain⟨e,t,G⟩:=o
 dsimp only[jW]at*
 by_cases he:e=0
 ·rw[if_neg (fun h=>h he)]
  have hr:=ajC i1 xv (k1.bE.trans h.bE)
  dsimp only at hr
  generalize dy t.1 t.2.2.1 G t.2.2.2=o at*
  obtain⟨f,U,d3⟩:=o
  dsimp only at*
  by_cases hf:f=0
  ·rw[if_neg (fun h=>h hf)]
   exact⟨hr.1,fun _=>hr.2⟩
  ·rw[if_pos hf]
   exact⟨uG hr.1 f,fun h=>absurd h hf⟩
 ·rw[if_pos he]
  exact⟨uG i1 e,fun h=>absurd h he⟩
theorem Ss{x:MS}(h:Inv x)(h1:x.R.length=x.S.sn)(h2:ca x.d)(h3:x.R.length≤900000)(ho:x.S.bE=false):Inv ⟨(dy x.S x.R x.H x.d).2.1,x.L,x.R,x.H,(dy x.S x.R x.H x.d).2.2⟩∧
 ((dy x.S x.R x.H x.d).2.1.bE=true∨((dy x.S x.R x.H x.d).2.1.bE=false∧(dy x.S x.R x.H x.d).2.1.more=true∧sM ⟨(dy x.S x.R x.H x.d).2.1,x.L,x.R,x.H,(dy x.S x.R x.H x.d).2.2⟩)):=by
 unfold dy
 cases hm:mM x.S x.H with
 |true=>
  rw[if_pos rfl]
  exact⟨⟨⟨h.cut.n0,h.cut.n1⟩,h.jX,h.sm,h.fC,h.bW,h.ok,h.run⟩,.inr ⟨ho,rfl,h1,h.jX,h2,h3,h.bW,h.ok,h.run,h.sm.each,hm⟩⟩
 |false=>
  rw[if_neg (by simp)]
  exact⟨⟨⟨h.cut.n0,h.cut.n1⟩,h.jX,h.sm,h.fC,h.bW,h.ok,h.run⟩,.inl rfl⟩
theorem Su{x:MS}(h:Inv x)(hm:sM x)(ho:x.S.bE=false):Inv (js x).2.2∧(js x).2.1.size≤64∧((js x).1=0→(js x).2.2.S.bE=true∨((js x).2.2.S.bE=false∧(js x).2.2.S.more=true∧sM (js x).2.2)):=by
 unfold js
 by_cases ln:0<x.S.rn
 ·rw[if_pos ln]
  have j7:=h.run
  have hp:Inv ⟨x.S.pop,x.L,x.R,x.H,x.d⟩:=⟨⟨h.cut.n0,h.cut.n1⟩,h.jX,h.sm,h.fC,h.bW,h.ok,by show x.S.ro+1+(x.S.rn-1)≤x.L.length;omega⟩
  have hr:=Ss hp hm.runs hm.db hm.Cr ho
  dsimp only at hr
  have hx:=h.sm.each _ (R6 (L:=x.L) (i:=x.S.ro) (by omega)).2.2
  generalize dy x.S.pop x.R x.H x.d=o at*
  obtain⟨f,U,d3⟩:=o
  dsimp only at*
  by_cases hf:f=0
  ·rw[if_neg (fun h=>h hf)]
   exact⟨hr.1,hx,fun _=>hr.2⟩
  ·rw[if_pos hf]
   exact⟨uG hr.1 f,hx,fun h=>absurd h hf⟩
 ·rw[if_neg ln]
  have hs:=hm.some
  unfold mM at hs
  rw[decide_eq_false ln]at hs
  cases hk:eU x.S.aD x.H with
  |none=>rw[hk]at hs;cases hs
  |some k=>
   dsimp only
   obtain⟨k1,k2⟩:=B2 hk
   have hok:=hm.ok _ (yS k1)
   have fJ:=hm.db.cc (a8 x.H k)
   have dw:=BX (h:=a8 x.H k) hm.db
   have gh:(cc (a8 x.H k) x.d).1≠0→(cc (a8 x.H k) x.d).2.1=a8 x.H k:=fun e=>by
    unfold cc at e⊢
    split
    ·rfl
    ·rename_i h1;rw[if_neg h1]at e;exact absurd rfl e
   generalize cc (a8 x.H k) x.d=o at*
   obtain⟨e,y,dd⟩:=o
   dsimp only at*
   have bu:x.H≠[]:=by intro h0;rw[h0]at k1;cases k1
   have hL:=h.fC.resolve_left bu
   have mk:o7 y→Inv ⟨x.S,x.L,x.R,x.H.set k y,dd⟩:=fun hy=>⟨h.cut,by rw[aql];exact h.jX,h.sm,.inr hL,by rw[aql];exact h.bW,fun z hz=>by
    rcases List.mem_or_eq_of_mem_set hz with hz|rfl
    ·exact h.ok z hz
    ·exact hy,h.run⟩
   by_cases he:e=0
   ·rw[if_neg (fun h=>h he)]
    have hi:=mk (dw he).2.1
    have hr:=Ss hi hm.runs fJ hm.Cr ho
    dsimp only at hr
    generalize dy x.S x.R (x.H.set k y) dd=o at*
    obtain⟨f,U,d3⟩:=o
    dsimp only at*
    by_cases hf:f=0
    ·rw[if_neg (fun h=>h hf)]
     exact⟨hr.1,hok.line,fun _=>hr.2⟩
    ·rw[if_pos hf]
     exact⟨uG hr.1 f,hok.line,fun h=>absurd h hf⟩
   ·rw[if_pos he]
    have hi:=mk (by rw[gh he];exact hok)
    exact⟨uG hi e,hok.line,fun h=>absurd h he⟩
def lx(C:List Int)(k:Int):Int:=
 if C.length=0 then 32
 else if(C.getD (k.tmod C.length).toNat 0).tmod 32<0 then 0-(C.getD (k.tmod C.length).toNat 0).tmod 32+1 else(C.getD (k.tmod C.length).toNat 0).tmod 32+1
theorem Sv(x:Int): -32<x.tmod 32∧x.tmod 32<32:=by
 have h1:=asi x (b:=32) (by decide)
 have h2:=asi (-x) (b:=32) (by decide)
 rw[Int.neg_tmod]at h2
 omega
theorem Sw(C:List Int)(k:Int):1≤lx C k∧lx C k≤32:=by
 unfold lx
 split
 ·omega
 ·have:=Sv (C.getD (k.tmod C.length).toNat 0)
  split<;>omega
theorem ajD(C:List Int)(k:Int)(hC:C.length≤3000)(h0:0≤k)(h1:k<100000):
 aI aoL 35 [.slice (some ⟨0,0,none⟩) C.length C.length,.int .i64 k] [.cells (ap C) 3 true] fun r q=>r=.ret (.int .i64 (lx C k))∧q=[.cells (ap C) 3 true]:=by
 refine aI.cY (n:=cp aoL 35) (by kernel_rfl) ?_
 by_cases hz:C.length=0
 ·have:lx C k=32:=by unfold lx;rw[if_pos hz]
  rw[this]
  exact ajt C k hz (by simp) (ajs C k ⟨rfl,rfl⟩)
 ·have hp:0<C.length:=by omega
  have rV:0≤k.tmod C.length:=Int.tmod_nonneg _ h0
  have lP:k.tmod C.length<C.length:=asi k (by omega)
  have hi:(k.tmod C.length).toNat<C.length:=by omega
  have ha:ay (ap C) (0+aoO (aqj k (↑(aoM C):Int))*1)=C.getD (k.tmod C.length).toNat 0:=by
   rw[show 0+aoO (aqj k (↑(aoM C):Int))*1=(k.tmod C.length).toNat by omega,FH hi,aqB,aoV hi]
   rfl
  have hb:=Sv (C.getD (k.tmod C.length).toNat 0)
  apply ajw C k hp hC h0 h1
  all_goals first
   |(intro g
     rw[ha]at g
     have g:=of_decide_eq_true g
     refine aju C k ⟨?_,rfl⟩
     rw[ha,bL (z:=0-(C.getD (k.tmod C.length).toNat 0).tmod 32) (by omega) (by omega),bL (by omega) (by omega)]
     unfold lx
     rw[if_neg hz,if_pos g])
   |(intro g
     rw[ha]at g
     have g:=of_decide_eq_false g
     refine ajv C k ⟨?_,rfl⟩
     rw[ha,bL (by omega) (by omega)]
     unfold lx
     rw[if_neg hz,if_neg g])
   |(rw[show 0+aoO (aqj k (↑(aoM C):Int))*1=(k.tmod C.length).toNat by omega];exact FI hi)
   |exact decide_eq_true rV
   |exact dV.2 hi
   |(simp;exact fun h=>hz (by rw[h];rfl))
   |(trace_state;simp;omega)
structure DS where
 x:MS
 o:ByteArray
 nd:Int
 er:Int
 hd:Int
 t:Nat
 w:Bool
def mj(hd z:Int):Int:=if z>hd then z else hd
def jl(s:aK)(C:List Int)(k:Nat)(t:Nat):Nat:=min s.bytes.size (t+(lx C k).toNat)
noncomputable def uH(g:DS):DS:=⟨(js g.x).2.2,g.o++cj (js g.x).2.1,jk (js g.x).2.2.S,(js g.x).1,mj g.hd (jY (js g.x).2.2),g.t,g.w⟩
def sO(s:aK)(C:List Int)(k:Nat)(g:DS):DS:=⟨(iV g.x (s.bytes.extract g.t (jl s C k g.t))).2,g.o,jk (iV g.x (s.bytes.extract g.t (jl s C k g.t))).2.S,(iV g.x (s.bytes.extract g.t (jl s C k g.t))).1,mj g.hd (jY (iV g.x (s.bytes.extract g.t (jl s C k g.t))).2),jl s C k g.t,g.w⟩
noncomputable def uI(g:DS):DS:=⟨(iM g.x).2,g.o,jk (iM g.x).2.S,(iM g.x).1,mj g.hd (jY (iM g.x).2),g.t,true⟩
noncomputable def oc(s:aK)(C:List Int)(k:Nat)(g:DS):Option DS:=
 if g.nd= -2 then some (uH g)else if g.t<s.bytes.size then some (sO s C k g)else if s.ended=true∧g.w=false then some (uI g)else none
noncomputable def jF(s:aK)(C:List Int):Nat→Nat→DS→DS
 |0,_,g=>g
 |m+1,k,g=>if g.er=0∧g.nd≠-1 then(match oc s C k g with|none=>g|some g'=>jF s C m (k+1) g')else g
noncomputable def p9:Nat:=Classical.choose (⟨100000,rfl⟩:∃n:Nat,n=100000)
theorem ajE:p9=100000:=Classical.choose_spec (⟨100000,rfl⟩:∃n:Nat,n=100000)
def od(x:MS):DS:=⟨x,aoZ,0,0,0,0,false⟩
structure kS(s:aK)(k:Nat)(g:DS):Prop where
 nd:g.nd=jk g.x.S
 t:g.t≤s.bytes.size
 o:g.o.size≤65*k
 inv:Inv g.x
 st:g.er=0→g.x.S.bE=true∨(g.x.S.bE=false∧g.x.S.more=true∧sM g.x)∨(∃F,ny F g.x∧F+g.x.S.n.toNat=g.t∧g.w=false)
 hd:0≤g.hd∧g.hd≤320
theorem Je{hd:Int}{z:Nat}(h:0≤hd∧hd≤320)(hz:z≤320):0≤mj hd z∧mj hd z≤320:=by unfold mj;split<;>omega
theorem kS.more{s:aK}{k:Nat}{g:DS}(h:kS s k g)(he:g.er=0)(hn:g.nd= -2):g.x.S.bE=false∧g.x.S.more=true∧sM g.x:=by
 have h1:=h.nd
 unfold jk at h1
 rcases h.st he with h2|h2|⟨F,h2,_⟩
 ·rw[h2,if_pos rfl]at h1;omega
 ·exact h2
 ·rw[h2.bE,h2.more,if_neg (by simp),if_neg (by simp),h2.ok.jB]at h1;omega
theorem kS.uH{s:aK}{k:Nat}{g:DS}(h:kS s k g)(he:g.er=0)(hn:g.nd= -2):kS s (k+1) (uH g):=by
 obtain⟨h1,h2,h3⟩:=h.more he hn
 obtain⟨i1,i2,i3⟩:=Su h.inv h3 h1
 refine⟨rfl,h.t,?_,i1,fun e=>?_,Je h.hd i1.held.2⟩
 ·show(g.o++cj (js g.x).2.1).size≤_
  rw[ByteArray.size_append,lW]
  have:=h.o
  omega
 ·rcases i3 e with a|a
  ·exact .inl a
  ·exact .inr (.inl a)
theorem extract_size(b:ByteArray)(i j:Nat)(hj:j≤b.size):(b.extract i j).size=j-i:=by rw[ByteArray.size_extract];omega
theorem Sx(s:aK)(C:List Int)(k t:Nat)(ht:t<s.bytes.size):t<jl s C k t∧jl s C k t≤s.bytes.size∧jl s C k t≤t+32:=by
 have:=Sw C k
 unfold jl
 omega
theorem kS.feed{s:aK}{k:Nat}{g:DS}(h:kS s k g)(he:g.er=0)(h1:g.nd≠-1)(hn:g.nd≠-2):∃F,ny F g.x∧F+g.x.S.n.toNat=g.t∧g.w=false:=by
 have h2:=h.nd
 unfold jk at h2
 rcases h.st he with h3|h3|h3
 ·rw[h3,if_pos rfl]at h2;exact absurd h2 h1
 ·rw[h3.1,h3.2.1,if_neg (by simp),if_pos rfl]at h2;exact absurd h2 hn
 ·exact h3
theorem kS.sO{s:aK}{C:List Int}{k:Nat}{g:DS}(h:kS s k g)(he:g.er=0)(h1:g.nd≠-1)(hn:g.nd≠-2)(ht:g.t<s.bytes.size):kS s (k+1) (sO s C k g):=by
 obtain⟨F,f1,f2,f3⟩:=h.feed he h1 hn
 obtain⟨u1,u2,u3⟩:=Sx s C k g.t ht
 have cd:=extract_size s.bytes g.t (jl s C k g.t) u2
 obtain⟨i1,i2⟩:=Sk f1 (s.bytes.extract g.t (jl s C k g.t))
 unfold Go.Proofs.YtnlkkgpcikkpoaaGreat.sO
 rw[cd]at i2
 generalize iV g.x (s.bytes.extract g.t (jl s C k g.t))=r at*
 generalize jl s C k g.t=u at*
 have ho:=h.o
 refine⟨rfl,u2,by dsimp only;omega,i1,fun e=>?_,Je h.hd i1.held.2⟩
 obtain⟨F',a,b⟩:=i2 e
 have hb:F'+r.2.S.n.toNat=u:=by
  rw[b]
  clear b a i1 i2 e
  omega
 exact .inr (.inr ⟨F',a,hb,f3⟩)
theorem kS.uI{s:aK}{k:Nat}{g:DS}(h:kS s k g)(he:g.er=0)(h1:g.nd≠-1)(hn:g.nd≠-2)(hs:s.bytes.size≤800000):kS s (k+1) (uI g):=by
 obtain⟨F,f1,f2,f3⟩:=h.feed he h1 hn
 have ht:=h.t
 obtain⟨i1,i2⟩:=Sr f1 (by omega)
 refine⟨rfl,h.t,by have:=h.o;show g.o.size≤_;omega,i1,fun e=>?_,Je h.hd i1.held.2⟩
 rcases i2 e with a|a
 ·exact .inl a
 ·exact .inr (.inl a)
theorem Jf{S:ad}(h:S.ro=0):S.z=S:=by cases S;unfold ad.z;simp only at h;rw[h]
theorem ajF(x:MS)(b:ByteArray):(iV x b).2.S.ro=x.S.ro:=by
 unfold iV
 have h1:=(wA b.data.toList x.S []).2.2.2.2.1
 generalize dS b.data.toList x.S []=o at*
 obtain⟨e,S1,M⟩:=o
 have h2:=(y6 M (S1,x.L,x.R,x.d)).ro
 dsimp only at*
 generalize eY M (S1,x.L,x.R,x.d)=o at*
 obtain⟨f,t⟩:=o
 dsimp only at*
 split
 ·exact h2.trans h1
 split
 ·exact h2.trans h1
 ·exact h2.trans h1
theorem ajG(S:ad)(R:List Int)(H:List aq)(d:au):(dy S R H d).2.1.ro=S.ro:=by unfold dy;split<;>rfl
theorem ajH{F:Nat}{x:MS}(h:ny F x)(hF:F≤800000):(iM x).2.S.ro=0:=by
 have k:=(Jc h hF).2.ro
 unfold iM
 generalize jE x.z x.H=o at*
 obtain⟨e,t,G⟩:=o
 dsimp only at*
 have hr:=ajG t.1 t.2.2.1 G t.2.2.2
 generalize dy t.1 t.2.2.1 G t.2.2.2=o at*
 obtain⟨f,U,d3⟩:=o
 dsimp only at*
 split
 ·exact k.trans h.ro
 split
 ·exact hr.trans (k.trans h.ro)
 ·exact hr.trans (k.trans h.ro)
theorem ajI(x:ByteArray):apB (apJ (apg (apO (cut (af (cj x)) 0 (x.size+1)) bytesOf) []))=cj x∧(arQ (apO (cut (af (cj x)) 0 (x.size+1)) bytesOf))=true:=by
 have h:=B8 (cj x) (x.size+1) (by rw[lW];omega)
 rw[h]
 refine⟨?_,rfl⟩
 rw[Option.getD_some,Qw,←lW]
 apply ByteArray.ext
 rw[arV]
 exact Array.extract_size
theorem ajJ(b:ByteArray)(i j:Nat)(hj:j≤b.size):([]:List aoP)++apd ((j-i)*1) (List.drop (0+i*1) (af b))=af (b.extract i j):=by
 rw[aqw,arh,arh,Nat.zero_add]
 unfold af
 rw[←List.map_drop,←List.map_take]
 congr 1
 rw[arV,Array.toList_extract]
theorem Sy{s:aK}{C:List Int}{m k:Nat}{g:DS}(h:¬(g.er=0∧g.nd≠-1)):jF s C m k g=g:=by
 cases m with
 |zero=>rfl
 |succ m=>unfold jF;rw[if_neg h]
theorem Jg{s:aK}{C:List Int}{m k:Nat}{g g':DS}(h:g.er=0∧g.nd≠-1)(hs:oc s C k g=some g'):jF s C (m+1) k g=jF s C m (k+1) g':=by
 conv=>lhs;unfold jF
 rw[if_pos h,hs]
theorem ajK{s:aK}{C:List Int}{m k:Nat}{g:DS}(hs:oc s C k g=none):jF s C m k g=g:=by
 cases m with
 |zero=>rfl
 |succ m=>
  unfold jF
  rw[hs]
  split<;>rfl
theorem Jh{S:ad}(h:S.bE=true):jk S= -1:=by unfold jk;rw[if_pos h]
theorem Ji{S:ad}(h:S.bE=false)(h2:S.more=true):jk S= -2:=by unfold jk;rw[if_neg (by rw[h];simp),if_pos h2]
theorem y9{S:ad}(h:S.bE=false)(h2:S.more=false):jk S=S.at_:=by unfold jk;rw[if_neg (by rw[h];simp),if_neg (by rw[h2];simp)]
noncomputable section
noncomputable def Cu:List apw:=bd (dC aoL 8)
open Tree renaming aW→mN,dn→mF,eS→mL,fA→mQ,dD→mR,fK→mE
noncomputable abbrev Jj:List apw:=(bd (inner (bd (inner (Cu.drop 4)))))
def Sz:Nat→Bool→Bool→Tree→Tree
 |0,_,_,t=>t
 |n+1,d,b,t=>.cM d b (Sz n d b t)
theorem uJ{R:bj→ai→Prop}{c v:Bool}{t:Tree}(n:Nat)(h1:c=v)(h2:t.ok R):(Sz n c v t).ok R:=by
 induction n with
 |zero=>exact h2
 |succ n ih=>exact⟨h1,ih⟩
abbrev o9:=fun A B l (sc:List (Int×Int)) C=>([.cells (af A) 5 true,.cells (af B) 5 true,gL l,.cells (aG sc) 77 true,ab [ah 5 (aoM C)] 25,.cells (ap C) 3 true]:List ak)
noncomputable abbrev Jk(kd pn:Int)(A B:ByteArray)(l:List aK)(sc:List (Int×Int))(C:List Int):ai:=⟨[(8,.bool true)],o9 A B l sc C⟩
theorem ajL(kd pn:Int)(A B l)(sc:List (Int×Int))(C){Q:bo}(hq:Q (.ret (.bool true)) (Jk kd pn A B l sc C).objs):aJ aoL 8 56 6 Q .ret (Jk kd pn A B l sc C):=aJ.ret (vs:=[.bool true]) (l:=[]) (bs:=[0,1,2,3,4,5]) (pl:=[0,1,3,5]) (q:=[af A,af B,aG sc,ap C]) (fun u=>by kernel_rfl) (by kernel_rfl) (aF (aH A) (aF (aH B) (aF (bb sc) (aF (aQ C) bi)))) hq
noncomputable abbrev Jl(kd pn:Int)(A B:ByteArray)(l:List aK)(sc:List (Int×Int))(C:List Int):ai:=⟨[(8,.bool true)],o9 A B l sc C⟩
theorem ajM(kd pn:Int)(A B l)(sc:List (Int×Int))(C){Q:bo}(hq:Q (.ret (.bool true)) (Jl kd pn A B l sc C).objs):aJ aoL 8 56 6 Q .ret (Jl kd pn A B l sc C):=aJ.ret (vs:=[.bool true]) (l:=[]) (bs:=[0,1,2,3,4,5]) (pl:=[0,1,3,5]) (q:=[af A,af B,aG sc,ap C]) (fun u=>by kernel_rfl) (by kernel_rfl) (aF (aH A) (aF (aH B) (aF (bb sc) (aF (aQ C) bi)))) hq
noncomputable abbrev Jm(kd pn:Int)(A B:ByteArray)(l:List aK)(sc:List (Int×Int))(C:List Int):ai:=⟨[(8,.bool true)],o9 A B l sc C⟩
theorem ajN(kd pn:Int)(A B l)(sc:List (Int×Int))(C){Q:bo}(hq:Q (.ret (.bool true)) (Jm kd pn A B l sc C).objs):aJ aoL 8 56 6 Q .ret (Jm kd pn A B l sc C):=aJ.ret (vs:=[.bool true]) (l:=[]) (bs:=[0,1,2,3,4,5]) (pl:=[0,1,3,5]) (q:=[af A,af B,aG sc,ap C]) (fun u=>by kernel_rfl) (by kernel_rfl) (aF (aH A) (aF (aH B) (aF (bb sc) (aF (aQ C) bi)))) hq
noncomputable abbrev Jn(kd pn:Int)(A B:ByteArray)(l:List aK)(sc:List (Int×Int))(C:List Int):ai:=⟨[(8,.bool true)],o9 A B l sc C⟩
theorem ajO(kd pn:Int)(A B l)(sc:List (Int×Int))(C){Q:bo}(hq:Q (.ret (.bool true)) (Jn kd pn A B l sc C).objs):aJ aoL 8 56 6 Q .ret (Jn kd pn A B l sc C):=aJ.ret (vs:=[.bool true]) (l:=[]) (bs:=[0,1,2,3,4,5]) (pl:=[0,1,3,5]) (q:=[af A,af B,aG sc,ap C]) (fun u=>by kernel_rfl) (by kernel_rfl) (aF (aH A) (aF (aH B) (aF (bb sc) (aF (aQ C) bi)))) hq
abbrev ajP:=fun(kd pn:Int) A B l (sc:List (Int×Int)) C=>(⟨[(1,ah 2 (aoM l)),(3,ah 4 1),(9,aa 0)],o9 A B l sc C⟩:ai)
theorem ajQ(kd pn:Int)(A B:ByteArray)(l)(sc:List (Int×Int))(C){Q:aY}(l4:(decide ((A.size:Int)>1000))=true→Q .ret (Jk kd pn A B l sc C))(l5:(decide ((A.size:Int)>1000))=false→(decide ((B.size:Int)>1000))=true→Q .ret (Jl kd pn A B l sc C))(l6:(decide ((A.size:Int)>1000))=false→(decide ((B.size:Int)>1000))=false→(decide ((↑(aoM l):Int)>8))=true→Q .ret (Jm kd pn A B l sc C))(l7:(decide ((A.size:Int)>1000))=false→(decide ((B.size:Int)>1000))=false→(decide ((↑(aoM l):Int)>8))=false→(decide ((↑(aoM sc):Int)>100))=true→Q .ret (Jn kd pn A B l sc C))(l8:(decide ((A.size:Int)>1000))=false→(decide ((B.size:Int)>1000))=false→(decide ((↑(aoM l):Int)>8))=false→(decide ((↑(aoM sc):Int)>100))=false→an aoL 56 6 (Cu.drop 4) (ajP kd pn A B l sc C) Q):an aoL 56 6 Cu ⟨[(0,.agg #[aa kd,aa pn,ah 0 A.size,ah 1 B.size]),(1,ah 2 (aoM l)),(2,ah 3 (aoM sc)),(3,ah 4 1)],[.cells (af A) 5 true,.cells (af B) 5 true,gL l,.cells (aG sc) 77 true,ab [ah 5 (aoM C)] 25,.cells (ap C) 3 true]⟩ Q:=
 aZ bt 4 (.fork 2 (aA [1,1,1,1] (.leaf [8] [0,1,2,3,4,5] [0,1,3,5])) (aA [0,2,2,0] (.fork 0 (aA [1,1,1] (.leaf [8] [0,1,2,3,4,5] [0,1,3,5])) (aA [0,2,0] (.fork 0 (aA [1,1,1] (.leaf [8] [0,1,2,3,4,5] [0,1,3,5])) (aA [0,2,0] (.fork 0 (.leaf [8] [0,1,2,3,4,5] [0,1,3,5]) (.leaf [1,3,9] [0,1,2,3,4,5] [0,1,3,5])))))))) (fun u=>by kernel_rfl) (mF (c:=decide ((A.size:Int)>1000)) (fun h0=>(uJ 4 h0 (mN (aH A) (mN (aH B) (mN (bb sc) (mN (aQ C) (mR (l4 h0)))))))) (fun h0=>(uJ 4 h0 (mF (c:=decide ((B.size:Int)>1000)) (fun h1=>(uJ 3 h1 (mN (aH A) (mN (aH B) (mN (bb sc) (mN (aQ C) (mR (l5 h0 h1)))))))) (fun h1=>(uJ 3 h1 (mF (c:=decide ((↑(aoM l):Int)>8)) (fun h2=>(uJ 3 h2 (mN (aH A) (mN (aH B) (mN (bb sc) (mN (aQ C) (mR (l6 h0 h1 h2)))))))) (fun h2=>(uJ 3 h2 (mF (c:=decide ((↑(aoM sc):Int)>100)) (fun h3=>(mN (aH A) (mN (aH B) (mN (bb sc) (mN (aQ C) (mR (l7 h0 h1 h2 h3))))))) (fun h3=>(mN (aH A) (mN (aH B) (mN (bb sc) (mN (aQ C) (mQ (l8 h0 h1 h2 h3)))))))))))))))))
abbrev ajR:=fun(kd pn:Int) A B l (sc:List (Int×Int)) C (i:Nat)=>(⟨[(1,ah 2 (aoM l)),(3,ah 4 1),(9,aa i)],o9 A B l sc C⟩:ai)
abbrev ajS:=fun(kd pn:Int) A B l (sc:List (Int×Int)) C (i:Nat)=>(⟨[(3,ah 4 1)],o9 A B l sc C⟩:ai)
theorem ajT(kd pn:Int)(A B l)(sc:List (Int×Int))(C)(i:Nat){Q:aY}(l4:(decide ((↑i:Int)<(↑(aoM l):Int)))=true→an aoL 56 6 (Jj.drop 2) (ajR kd pn A B l sc C i) Q)(l5:(decide ((↑i:Int)<(↑(aoM l):Int)))=false→Q (.exit 0) (ajS kd pn A B l sc C i)):an aoL 56 6 Jj ⟨[(1,ah 2 (aoM l)),(3,ah 4 1),(9,aa i)],[.cells (af A) 5 true,.cells (af B) 5 true,gL l,.cells (aG sc) 77 true,ab [ah 5 (aoM C)] 25,.cells (ap C) 3 true]⟩ Q:=
 aZ bt 2 (.fork 1 (.leaf [1,3,9] [0,1,2,3,4,5] [0,1,3,5]) (.leaf [3] [0,1,2,3,4,5] [0,1,3,5])) (fun u=>by kernel_rfl) (mF (c:=decide ((↑i:Int)<(↑(aoM l):Int))) (fun h0=>(mN (aH A) (mN (aH B) (mN (bb sc) (mN (aQ C) (mQ (l4 h0))))))) (fun h0=>(mN (aH A) (mN (aH B) (mN (bb sc) (mN (aQ C) (mE 0 (l5 h0))))))))
noncomputable abbrev Jo(kd pn:Int)(A B:ByteArray)(l:List aK)(sc:List (Int×Int))(C:List Int)(i:Nat):ai:=⟨[(8,.bool true)],o9 A B l sc C⟩
theorem ajU(kd pn:Int)(A B l)(sc:List (Int×Int))(C)(i:Nat){Q:bo}(hq:Q (.ret (.bool true)) (Jo kd pn A B l sc C i).objs):aJ aoL 8 56 6 Q .ret (Jo kd pn A B l sc C i):=aJ.ret (vs:=[.bool true]) (l:=[]) (bs:=[0,1,2,3,4,5]) (pl:=[0,1,3,5]) (q:=[af A,af B,aG sc,ap C]) (fun u=>by kernel_rfl) (by kernel_rfl) (aF (aH A) (aF (aH B) (aF (bb sc) (aF (aQ C) bi)))) hq
abbrev SA:=fun(kd pn:Int) A B l (sc:List (Int×Int)) C (i:Nat)=>(⟨[(1,ah 2 (aoM l)),(3,ah 4 1),(9,.int .i64 (aoN .i64 ((↑i:Int)+1)))],o9 A B l sc C⟩:ai)
theorem ajV(kd pn:Int)(A B l)(sc:List (Int×Int))(C)(i:Nat)(h0:i<(aoM l))(h1:(aoM l)≤8){Q:aY}(l4:(decide ((↑(aoT (aK.bytes (apg l[aoO (↑i:Int)]? dM))):Int)>4500))=true→Q .ret (Jo kd pn A B l sc C i))(l5:(decide ((↑(aoT (aK.bytes (apg l[aoO (↑i:Int)]? dM))):Int)>4500))=false→Q .normal (SA kd pn A B l sc C i)):an aoL 56 6 (Jj.drop 2) ⟨[(1,ah 2 (aoM l)),(3,ah 4 1),(9,aa i)],[.cells (af A) 5 true,.cells (af B) 5 true,gL l,.cells (aG sc) 77 true,ab [ah 5 (aoM C)] 25,.cells (ap C) 3 true]⟩ Q:=
 aZ bt 1000 (aA [3,1] (.fork 2 (.leaf [8] [0,1,2,3,4,5] [0,1,3,5]) (.leaf [1,3,9] [0,1,2,3,4,5] [0,1,3,5]))) (fun u=>by kernel_rfl) (uJ 2 (show(ao9 (aoO (↑i:Int)) (aoM l))=true by simp at h0 h1⊢ <;>omega) (mF (c:=decide ((↑(aoT (aK.bytes (apg l[aoO (↑i:Int)]? dM))):Int)>4500)) (fun h0=>(mN (aH A) (mN (aH B) (mN (bb sc) (mN (aQ C) (mR (l4 h0))))))) (fun h0=>(mN (aH A) (mN (aH B) (mN (bb sc) (mN (aQ C) (mQ (an.done (by kernel_rfl) (l5 h0))))))))))
noncomputable abbrev Jp(kd pn:Int)(A B:ByteArray)(l:List aK)(sc:List (Int×Int))(C:List Int):ai:=⟨[(8,.bool true)],o9 A B l sc C⟩
theorem ajW(kd pn:Int)(A B l)(sc:List (Int×Int))(C){Q:bo}(hq:Q (.ret (.bool true)) (Jp kd pn A B l sc C).objs):aJ aoL 8 56 6 Q .ret (Jp kd pn A B l sc C):=aJ.ret (vs:=[.bool true]) (l:=[]) (bs:=[0,1,2,3,4,5]) (pl:=[0,1,3,5]) (q:=[af A,af B,aG sc,ap C]) (fun u=>by kernel_rfl) (by kernel_rfl) (aF (aH A) (aF (aH B) (aF (bb sc) (aF (aQ C) bi)))) hq
noncomputable abbrev Jq(kd pn:Int)(A B:ByteArray)(l:List aK)(sc:List (Int×Int))(C:List Int):ai:=⟨[(8,.bool false)],o9 A B l sc C⟩
theorem ajX(kd pn:Int)(A B l)(sc:List (Int×Int))(C){Q:bo}(hq:Q (.ret (.bool false)) (Jq kd pn A B l sc C).objs):aJ aoL 8 56 6 Q .ret (Jq kd pn A B l sc C):=aJ.ret (vs:=[.bool false]) (l:=[]) (bs:=[0,1,2,3,4,5]) (pl:=[0,1,3,5]) (q:=[af A,af B,aG sc,ap C]) (fun u=>by kernel_rfl) (by kernel_rfl) (aF (aH A) (aF (aH B) (aF (bb sc) (aF (aQ C) bi)))) hq
theorem ajY(kd pn:Int)(A B l)(sc:List (Int×Int))(C){Q:aY}(l4:(decide ((↑(aoM C):Int)>3000))=true→Q .ret (Jp kd pn A B l sc C))(l5:(decide ((↑(aoM C):Int)>3000))=false→Q .ret (Jq kd pn A B l sc C)):an aoL 56 6 (Cu.drop 5) ⟨[(3,ah 4 1)],[.cells (af A) 5 true,.cells (af B) 5 true,gL l,.cells (aG sc) 77 true,ab [ah 5 (aoM C)] 25,.cells (ap C) 3 true]⟩ Q:=
 aZ bt 1000 (.fork 5 (.leaf [8] [0,1,2,3,4,5] [0,1,3,5]) (.leaf [8] [0,1,2,3,4,5] [0,1,3,5])) (fun u=>by kernel_rfl) (mF (c:=decide ((↑(aoM C):Int)>3000)) (fun h0=>(mN (aH A) (mN (aH B) (mN (bb sc) (mN (aQ C) (mR (l4 h0))))))) (fun h0=>(mN (aH A) (mN (aH B) (mN (bb sc) (mN (aQ C) (mR (l5 h0))))))))
end
end Go.Proofs.YtnlkkgpcikkpoaaGreat
