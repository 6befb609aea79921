/- Part of the proof: Sr5, Sr7, Spr, Sps, Spc, Spt, Dkp, Dkg, Dkc, Dkd, Dke, Dkf, Dkr, Dkl, Dkm, Dkn, Move, Soz, So0, So1, StT, So2, So3, So4, So5, StU, So6. -/
import Derived.Test.YtnlkkgpcikkpoaaGreatJAd
import Derived.KernelRfl
import Derived.WalkKit
import Derived.Lib.Bytealg
import Derived.Test.YtnlkkgpcikkpoaaGreatChecked
import Derived.Lib.Strings
import Derived.Lib.Walk
import Derived.Lib.BytesEntry
open Array renaming toArray_toList→ap1
open Bool renaming and_eq_true→ao3,not_eq_true'→aqX
open ByteArray renaming empty→aoZ
open Classical renaming propDecidable→apj
open Go renaming Calls→asn,Code→apw,FuncId→apr,MapEntry→apl,Value→aoP,World→ao4,run_callFunc_extern→as0
open Go.Addr renaming mk→asq
open Go.Extern.BytealgCompare renaming compare→auF
open Go.Extern.BytealgIndexByte renaming indexByte→arb
open Go.Extern.Bytes renaming asByte→at4,bytesOf→asU
open Go.Fn renaming func→as8
open Go.Instr renaming lookup→aq9
open Go.IntKind renaming i64→ao2,wrap→aoN
open Go.Lib renaming bytesOf→atH,compareBytes→aqe,indexByte→auT
open Go.MapEntry renaming mk→aqf
open Go.Oper renaming upon_value→atC
open Go.Proofs.Tryz renaming func104→au7,func80→avi,ntmps80→au6,prog→aoL,prog→apq
open Go.Result renaming andThen→aso,andThen_ok→aoQ
open Go.Sem renaming run_bind→aoR,run_pure→apA
open Go.Value renaming func→ar4,int→aoW,map→are,oneCell'→apR,pointer→apZ,string→apm
open Go.World renaming cell?→avz
open Int renaming eq_ofNat_of_zero_le→aqn,toNat→aoO
open List renaming all→aoS,all_append→asT,all_eq_true→aps,any_eq_false→arB,append_assoc→api,append_nil→aqm,cons_append→aqK,drop→aqz,drop_drop→ap2,filter_append→aua,foldl_cons→aqS,getElem?_append_right→apz,getElem?_cons_succ→ap5,getElem?_cons_zero→apE,getElem?_drop→aqb,getElem?_eq_getElem→aoV,getElem?_eq_some_iff→ao0,getElem?_map→aqk,getElem?_of_mem→aqg,getElem?_take_of_lt→ash,length→aoM,length_append→ao5,length_cons→apC,length_drop→ap0,length_map→aqT,length_set→aql,length_take→apI,map→apv,map_append→apK,map_congr_left→aq0,map_id→atG,map_map→arN,mem_cons→ao8,mem_cons_of_mem→apc,mem_cons_self→ape,mem_map_of_mem→aqY,mem_of_getElem?→apy,mem_singleton→apP,nil_append→aqw,nodup_append→apU,pairwise_append→ar5,pairwise_cons→arU,range→arm,replicate→atP,set_append_right→asI,take→apd,take_append_drop→ap6,take_zero→ar0,zip_cons_cons→arT,zip_nil_right→asg
open Nat renaming beq→ao6,ble→apf,ble_eq_true_of_le→apu,blt→ao9,eq_of_beq_eq_true→apa,le_refl→apn,mul_one→arh,sub_self→arr,zero_add→aqr,zero_le→apN
open Option.some renaming injEq→aoU
open Prod.mk renaming injEq→aoX
open UInt8 renaming le_antisymm→atk
set_option linter.unusedVariables false
set_option linter.unusedSimpArgs false
set_option maxRecDepth 100000
namespace Go.Proofs.YtnlkkgpcikkpoaaGreat
open Go Vm Go.RowKit
noncomputable def sk(d:Array UInt8)(v:Int):Bool:=@decide (∃j,j<d.size∧(d[j]!.toNat:Int)=v) (apj _)
theorem NA{d:Array UInt8}{v:Int}:sk d v=true↔∃j,j<d.size∧(d[j]!.toNat:Int)=v:=by unfold sk;exact @decide_eq_true_iff _ (apj _)
theorem YW{d:Array UInt8}{v:Int}(h:∀j,j<d.size→(d[j]!.toNat:Int)≠v):sk d v=false:=by
 cases g:sk d v with
 |false=>rfl
 |true=>obtain⟨j,h1,h2⟩:=NA.1 g;exact absurd h2 (h j h1)
def Ba(k0:Nat)(d:Array UInt8)(x k:Nat):Nat×Array UInt8:=
 if k0+x<d.size then(if d[k0+x]! ≠d[k0+x-1]!then Ba k0 (d.setIfInBounds k d[k0+x]!) (x+1) (k+1)else Ba k0 d (x+1) k)else(k,d)
termination_by d.size-(k0+x)
decreasing_by all_goals first|(simp only[Array.size_setIfInBounds];omega)|omega
abbrev ug(d:Array UInt8)(ro:Bool):ak:=.cells (af (ii d)) 5 ro
theorem YX(d:Array UInt8)(n:Nat)(v:Int)(hd:d.size=n)(hn:n≤10000)(ro:Bool):
 aI aoL 83 [yp n,.int .u8 v] [ug d ro] fun r o=>r=.ret (.bool (sk d v))∧o=[ug d ro]:=by
 have cd:n≤(ii d).size:=by rw[Nn];omega
 refine aI.cY (n:=cp aoL 83) (by kernel_rfl) ?_
 apply YA (ii d) n v ro cd
 ·
  refine an.eO 2 0 (by kernel_rfl) ?_
  refine an.fL (fun j:Nat=>⟨[(0,yp n),(1,.int .u8 v),(5,iA j)],[ug d ro]⟩) (fun j=>n-j) (fun j=>j≤n∧∀i,i<j→(d[i]!.toNat:Int)≠v) 0 (by kernel_rfl) ⟨apN _,fun i h=>by omega⟩ ?_
  rintro j ⟨h1,h2⟩
  apply YE (ii d) n (j:Nat) v ro cd (by omega)
  case n0=>intro g;have g:=of_decide_eq_true g;rw[qQ];exact A6 (by omega)
  case l2=>
   intro g g2
   have g:=of_decide_eq_true g
   rw[qQ,vT (by omega)]at g2
   with_reducible (repeat first|refine QL.ret ?_|refine QL.exit ?_|refine QB.ret ?_|refine QB.cx ?_|refine QB.normal ?_|refine QB.cG (by rfl) ?_)
   refine YB (ii d) n (j:Nat) v ro ?_
   rw[NA.2 ⟨j,by omega,by simpa using g2⟩]
   exact⟨rfl,rfl⟩
  case l3=>
   intro g g2
   have g:=of_decide_eq_true g
   rw[qQ,vT (by omega)]at g2
   with_reducible (repeat first|refine QL.ret ?_|refine QL.exit ?_|refine QB.ret ?_|refine QB.cx ?_|refine QB.normal ?_|refine QB.cG (by rfl) ?_)
   refine QL.to (j+1) ⟨by omega,fun i hi=>?_⟩ (by omega) (by unfold Nu;rw[Gi (by omega)])
   by_cases e:i=j
   ·subst e;simpa using g2
   ·exact h2 i (by omega)
  case l4=>
   intro g
   have g:=of_decide_eq_false g
   with_reducible (repeat first|refine QL.ret ?_|refine QL.exit ?_|refine QB.ret ?_|refine QB.cx ?_|refine QB.normal ?_|refine QB.cG (by rfl) ?_)
   apply YG (ii d) n ro cd
   ·
    with_reducible (repeat first|refine QL.ret ?_|refine QL.exit ?_|refine QB.ret ?_|refine QB.cx ?_|refine QB.normal ?_|refine QB.cG (by rfl) ?_)
    refine YF (ii d) n ro ?_
    rw[YW fun i hi=>h2 i (by omega)]
    exact⟨rfl,rfl⟩
theorem YY{d:Array UInt8}{i j:Nat}(h:i<j)(hj:j<d.size)(e:d[i]! =d[j]!):sj d=false:=by
 cases g:sj d with
 |false=>rfl
 |true=>exact absurd e (Nr.1 (Nq.1 g) i j h hj)
theorem YZ(d:Array UInt8)(n:Nat)(hd:d.size=n)(hn:n≤10000)(ro:Bool):
 aI aoL 84 [yp n] [ug d ro] fun r o=>r=.ret (.bool (sj d))∧o=[ug d ro]:=by
 have cd:n≤(ii d).size:=by rw[Nn];omega
 refine aI.cY (n:=cp aoL 84) (by kernel_rfl) ?_
 apply YJ (ii d) n ro cd
 ·
  refine an.eO 2 0 (by kernel_rfl) ?_
  refine an.fL (fun j:Nat=>⟨[(0,yp n),(3,iA j)],[ug d ro]⟩) (fun j=>n-j) (fun j=>j≤n∧∀p q,p<q→q<j→d[p]! ≠d[q]!) 0 (by kernel_rfl) ⟨apN _,fun p q h h2=>by omega⟩ ?_
  rintro i ⟨h1,h2⟩
  apply YM (ii d) n (i:Nat) ro cd
  case l2=>
   intro g
   have g:=of_decide_eq_false g
   with_reducible (repeat first|refine QL.ret ?_|refine QL.exit ?_|refine QB.ret ?_|refine QB.cx ?_|refine QB.normal ?_|refine QB.cG (by rfl) ?_)
   apply YV (ii d) n ro cd
   ·
    with_reducible (repeat first|refine QL.ret ?_|refine QL.exit ?_|refine QB.ret ?_|refine QB.cx ?_|refine QB.normal ?_|refine QB.cG (by rfl) ?_)
    refine YU (ii d) n ro ?_
    rw[Nq.2 (Nr.2 fun p q Y0 hq=>h2 p q Y0 (by omega))]
    exact⟨rfl,rfl⟩
  case l1=>
   intro g
   have g:=of_decide_eq_true g
   refine an.eO 2 1 (by kernel_rfl) ?_
   apply YO (ii d) n (i:Nat) ro cd
   ·
    refine an.eO 1 2 (by kernel_rfl) ?_
    refine an.fL (fun k:Nat=>⟨[(0,yp n),(3,iA i),(4,iA k)],[ug d ro]⟩) (fun k=>i-k) (fun k=>k≤i∧∀p,p<k→d[p]! ≠d[i]!) 0 (by kernel_rfl) ⟨apN _,fun p h=>by omega⟩ ?_
    rintro k ⟨h3,h4⟩
    apply YS (ii d) n (i:Nat) (k:Nat) ro cd (by omega) (by omega) (by omega)
    case n0=>intro g;have g:=of_decide_eq_true g;rw[qQ];exact A6 (by omega)
    case n1=>intro g;have g:=of_decide_eq_true g;rw[qQ];exact A6 (by omega)
    case l3=>
     intro g g2
     have g:=of_decide_eq_true g
     rw[qQ,qQ,vT (by omega),vT (by omega)]at g2
     have g3:=beq_iff_eq.1 g2
     have g2:d[k]! =d[i]! :=UInt8.toNat_inj.1 (by omega)
     with_reducible (repeat first|refine QL.ret ?_|refine QL.exit ?_|refine QB.ret ?_|refine QB.cx ?_|refine QB.normal ?_|refine QB.cG (by rfl) ?_)
     refine YP (ii d) n (i:Nat) (k:Nat) ro ?_
     rw[YY (show k<i by omega) (by omega) g2]
     exact⟨rfl,rfl⟩
    case l4=>
     intro g g2
     have g:=of_decide_eq_true g
     rw[qQ,qQ,vT (by omega),vT (by omega)]at g2
     with_reducible (repeat first|refine QL.ret ?_|refine QL.exit ?_|refine QB.ret ?_|refine QB.cx ?_|refine QB.normal ?_|refine QB.cG (by rfl) ?_)
     refine QL.to (k+1) ⟨by omega,fun p hp=>?_⟩ (by omega) (by unfold Nx;rw[Gi (by omega)])
     by_cases e:p=k
     ·subst e;intro e;rw[e]at g2;simp at g2
     ·exact h4 p (by omega)
    case l5=>
     intro g
     have g:=of_decide_eq_false g
     with_reducible (repeat first|refine QL.ret ?_|refine QL.exit ?_|refine QB.ret ?_|refine QB.cx ?_|refine QB.normal ?_|refine QB.cG (by rfl) ?_)
     refine an.done (by kernel_rfl) ?_
     with_reducible (repeat first|refine QL.ret ?_|refine QL.exit ?_|refine QB.ret ?_|refine QB.cx ?_|refine QB.normal ?_|refine QB.cG (by rfl) ?_)
     apply YT (ii d) n (i:Nat) ro cd
     ·
      refine QL.to (i+1) ⟨by omega,fun p q hp hq=>?_⟩ (by omega) (by unfold Ny;rw[Gi (by omega)])
      by_cases e:q=i
      ·subst e;exact h4 p (by omega)
      ·exact h2 p q hp (by omega)
structure anR(n k0:Nat)(d:Array UInt8)(s:Array UInt8×Nat×Nat):Prop where
 h1:s.1.size=n
 h2:1≤s.2.1
 h3:s.2.1≤n-k0
 h4:s.2.2+1≤k0+s.2.1
 h5:Ba k0 s.1 s.2.1 s.2.2=Ba k0 d 1 k0
noncomputable def Gn(a:List aoP)(o:List ak):Option (Bool×bO×List ak):=match a,o with
 | [.slice (some ⟨0,0,none⟩) n m,.int .u8 v],[.cells l el ro]=>some (pR l (m=n∧el=5∧l.length=n∧n≤10000),.ret (.bool (sk (si l) v)),[.cells l el ro])
 |_,_=>none
theorem Y1:bB aoL 83 (Sum.of Gn):=bB.of fun a o r o' hg=>by
 unfold Gn at hg
 split at hg
 ·rename_i n m v l el ro
  simp only[aoU,aoX,Gj]at hg
  obtain⟨⟨⟨d,rfl⟩,rfl,rfl,hl,hn⟩,rfl,rfl⟩:=hg
  have hd:d.size=m:=by rw[←hl,mH];rfl
  rw[No]
  exact YX d m v hd hn ro
 ·cases hg
noncomputable def Gp(a:List aoP)(o:List ak):Option (Bool×bO×List ak):=match a,o with
 | [.slice (some ⟨0,0,none⟩) n m],[.cells l el ro]=>some (pR l (m=n∧el=5∧l.length=n∧n≤10000),.ret (.bool (sj (si l))),[.cells l el ro])
 |_,_=>none
theorem Y2:bB aoL 84 (Sum.of Gp):=bB.of fun a o r o' hg=>by
 unfold Gp at hg
 split at hg
 ·rename_i n m l el ro
  simp only[aoU,aoX,Gj]at hg
  obtain⟨⟨⟨d,rfl⟩,rfl,rfl,hl,hn⟩,rfl,rfl⟩:=hg
  have hd:d.size=m:=by rw[←hl,mH];rfl
  rw[No]
  exact YZ d m hd hn ro
 ·cases hg
noncomputable section
noncomputable def Y3:List apw:=bd (dC aoL 105)
end
def NB:aoP:=.agg #[.int .i64 (0),.int .i64 (0),.int .i64 (0),.int .i64 (0),.int .i64 (0),.int .i64 (0),.int .i64 (0),.int .i64 (0),.int .i64 (15),.int .i64 (0),.int .i64 (0),.int .i64 (1),.int .i64 (0),.int .i64 (0),.int .i64 (0),.int .i64 (15),.int .i64 (0),.int .i64 (1),.int .i64 (0),.int .i64 (0),.int .i64 (0),.int .i64 (0),.int .i64 (1000000000),.int .i64 (0),.int .i64 (1),.int .i64 (1),.int .i64 (64),.int .i64 (0),.int .i64 (0),.int .i64 (9223372036854775807),.int .i64 (0),.int .i64 (1),.int .i64 (1),.int .i64 (64),.int .i64 (64),.int .i64 (0),.int .i64 (1),.int .i64 (1),.int .i64 (1),.int .i64 (1),.int .i64 (64),.int .i64 (0),.int .i64 (0),.int .i64 (0),.int .i64 (2),.int .i64 (1),.int .i64 (1),.int .i64 (0),.int .i64 (0),.int .i64 (1),.int .i64 (65535),.int .i64 (3),.int .i64 (1),.int .i64 (1),.int .i64 (64),.int .i64 (0),.int .i64 (0),.int .i64 (1),.int .i64 (0),.int .i64 (1),.int .i64 (1),.int .i64 (128),.int .i64 (0),.int .i64 (0),.int .i64 (0),.int .i64 (0),.int .i64 (1),.int .i64 (1),.int .i64 (0),.int .i64 (0),.int .i64 (0),.int .i64 (1000000000),.int .i64 (0),.int .i64 (1),.int .i64 (1),.int .i64 (64),.int .i64 (0),.int .i64 (0),.int .i64 (1),.int .i64 (0),.int .i64 (1),.int .i64 (1),.int .i64 (320),.int .i64 (0),.int .i64 (1),.int .i64 (4),.int .i64 (0),.int .i64 (-1),.int .i64 (1),.int .i64 (0),.int .i64 (0),.int .i64 (1),.int .i64 (4),.int .i64 (3),.int .i64 (-1),.int .i64 (1),.int .i64 (0),.int .i64 (96),.int .i64 (1),.int .i64 (9223372036854775807),.int .i64 (3),.int .i64 (2),.int .i64 (1),.int .i64 (192),.int .i64 (128),.int .i64 (1),.int .i64 (4),.int .i64 (0),.int .i64 (1),.int .i64 (-1),.int .i64 (0),.int .i64 (0),.int .i64 (1),.int .i64 (4),.int .i64 (0),.int .i64 (1),.int .i64 (-1),.int .i64 (64),.int .i64 (0)]
def Gq(a:List aoP)(o:List ak):Option (Bool×bO×List ak):=match a,o with
 | [],[]=>some (true,.ret NB,[])
 |_,_=>none
noncomputable section
noncomputable def Bb:List apw:=bd (dC aoL 103)
open Tree renaming aW→mN,dn→mF,eS→mL
end
theorem aI.NC{P:Program}{f:apr}{args:List aoP}{objs:List ak}{Q Q':bO→List ak→Prop}(el:TypeId){s:Nat}(hz:b7 P el=some s)(hk:objs.length<262144)(h:aI P f args objs Q)
 (hq:∀r o,Q r o→objs.length≤o.length∧o.length<262144∧(Q' r o∨(r=.ret (.slice none 0 0)∧Q' (.ret (.slice (some ⟨o.length,0,none⟩) 0 0)) (o++[.cells [] el false])))):aI P f args objs Q':=by
 intro B w₀ ρ w args' h1 h2 h3 h4
 refine(h B w₀ ρ w args' h1 h2 h3 h4).mono ?_
 rintro e w' ⟨r,o,ρ',a,b,c,d,e1,e2⟩
 obtain⟨hl,jK,hq⟩:=hq r o a
 rcases hq with hq|⟨rfl,hq⟩
 ·exact⟨r,o,ρ',hq,b,c,d,e1,e2⟩
 ·obtain⟨ρ1,f1,f2,f3,r',f4⟩:=d.MH hz jK
  refine⟨_,_,ρ1,hq,?_,fun r=>?_,f2,by simp;omega,fun x hx=>by rw[f3 x (by omega),e2 x hx]⟩
  ·cases e with
   |returned v=>have hv:VR ρ' (.slice none 0 0) v:=b;cases hv with
    |bM _ _=>exact VR.eD _ _
   |panicked ch=>cases b
   |outgrown=>cases b
  ·obtain⟨y,g1,g2⟩:=c r
   exact⟨y,g1,f1 _ _ g2⟩
noncomputable section
open Tree renaming aW→mN,dn→mF,eS→mL,fA→mQ,dD→mR,fK→mE
noncomputable abbrev ND:List apw:=(Bb.drop 2)
abbrev NE:=fun c (o n m:Nat)=>(⟨[(2,ah 1 (0+n))],[ab (af c) 5,ab ([]++apd (n*1) (aqz o (af c))) 5]⟩:ai)
theorem Y4(c)(o n m:Nat){Q:bo}(aX:aoS (af c) ag=true)(hq:Q (.ret (ah 1 (0+n))) [ab (af c) 5,ab ([]++apd (n*1) (aqz o (af c))) 5]):aJ aoL 103 8 1 Q .ret (NE c o n m):=aJ.ret (vs:=[ah 1 (0+n)]) (l:=[]) (bs:=[0,1]) (pl:=[0,1]) (q:=[af c,[]++apd (n*1) (aqz o (af c))]) (fun u=>by kernel_rfl) (by kernel_rfl) (aF aX (aF (by simp) bi)) hq
abbrev uh:=fun c=>([ab (af c) 5]:List ak)
abbrev Y5:=fun c (o n m:Nat)=>(⟨[(0,ct 0 o n m)],uh c⟩:ai)
theorem Y6(c:ByteArray)(o n m:Nat)(h1:0<m)(h2:n≤m)(h3:o+m=c.size)(h4:c.size≤1000000){Q:aY}(n0:(aoS (apd (n*1) (aqz o (af c))) apR)=true)(aX:aoS (af c) ag=true)(l2:Q .ret (NE c o n m)):an aoL 8 1 Bb (Y5 c o n m) Q:=
 aZ bt 1000 (aA [0,1,2,1,1,1,1] (.leaf [2] [0,2] [0,2])) (fun u=>by kernel_rfl) (mN (show(ao9 0 m)=true by simp at h1 h2 h3 h4⊢ <;>omega) (mN (show(apf (o+n*1) (aoM (af c)))=true by simp at h1 h2 h3 h4⊢ <;>omega) (mN (show(apf (0+n) 1000000)=true by simp at h1 h2 h3 h4⊢ <;>omega) (mN n0 (mN (show(ao6 (aoM (apd (n*1) (aqz o (af c)))) (n*1))=true by simp at h1 h2 h3 h4⊢ <;>omega) (mN (aH c) (mN (show(aoS ([]++apd (n*1) (aqz o (af c))) ag)=true by simp) (mR l2))))))))
abbrev Y7:=fun c (o:Nat)=>(⟨[(0,ct 0 o 0 0)],uh c⟩:ai)
abbrev Y8:=fun c (o:Nat)=>(⟨[(0,ct 0 o 0 0)],uh c⟩:ai)
theorem Y9(c)(o:Nat){Q:aY}(l1:an aoL 8 1 (Bb.drop 1) (Y7 c o) Q):an aoL 8 1 Bb (Y8 c o) Q:=
 aZ bt 1 (.leaf [0] [0] [0]) (fun u=>by kernel_rfl) (mN (aH c) (mQ l1))
abbrev NF:=fun c (o:Nat)=>(⟨[(2,cm)],uh c⟩:ai)
theorem Za(c)(o:Nat){Q:bo}(hq:Q (.ret (cm)) (uh c)):aJ aoL 103 8 1 Q .ret (NF c o):=aJ.ret (vs:=[cm]) (l:=[]) (bs:=[0]) (pl:=[0]) (q:=[af c]) (fun u=>by kernel_rfl) (by kernel_rfl) (aF (aH c) bi) hq
abbrev Zb:=fun c (o:Nat)=>(⟨[(0,ct 0 o 0 0),(4,.bool true)],uh c⟩:ai)
theorem Zc(c)(o:Nat){Q:aY}(aX:aoS (af c) ag=true)(l1:Q .ret (NF c o)):an aoL 8 1 ND (Zb c o) Q:=
 aZ bt 1000 (.leaf [2] [0] [0]) (fun u=>by kernel_rfl) (mN (aH c) (mR l1))
abbrev NG:=fun c (o n:Nat)=>(⟨[(2,ah 1 (0+n))],[ab (af c) 5,ab ([]++apd (n*1) (aqz o (af c))) 5]⟩:ai)
theorem Zd(c)(o n:Nat){Q:bo}(aX:aoS (af c) ag=true)(hq:Q (.ret (ah 1 (0+n))) [ab (af c) 5,ab ([]++apd (n*1) (aqz o (af c))) 5]):aJ aoL 103 8 1 Q .ret (NG c o n):=aJ.ret (vs:=[ah 1 (0+n)]) (l:=[]) (bs:=[0,1]) (pl:=[0,1]) (q:=[af c,[]++apd (n*1) (aqz o (af c))]) (fun u=>by kernel_rfl) (by kernel_rfl) (aF aX (aF (by simp) bi)) hq
abbrev Ze:=fun c (o n:Nat)=>(⟨[(0,ct 0 o n n),(4,.bool false)],uh c⟩:ai)
theorem Zf(c:ByteArray)(o n:Nat)(h1:o+n≤c.size)(h2:c.size≤1000000){Q:aY}(n0:(aoS (apd (n*1) (aqz o (af c))) apR)=true)(aX:aoS (af c) ag=true)(l2:Q .ret (NG c o n)):an aoL 8 1 ND (Ze c o n) Q:=
 aZ bt 1000 (aA [2,1,1,1,1] (.leaf [2] [0,2] [0,2])) (fun u=>by kernel_rfl) (mN (show(apf (o+n*1) (aoM (af c)))=true by simp at h1 h2⊢ <;>omega) (mN (show(apf (0+n) 1000000)=true by simp at h1 h2⊢ <;>omega) (mN n0 (mN (show(ao6 (aoM (apd (n*1) (aqz o (af c)))) (n*1))=true by simp at h1 h2⊢ <;>omega) (mN (aH c) (mN (show(aoS ([]++apd (n*1) (aqz o (af c))) ag)=true by simp) (mR l2)))))))
end
theorem Zg(c:ByteArray)(o:Nat)(ho:o≤c.size)(hc:c.size≤1000000):aI aoL 103 [.slice (some ⟨0,o,none⟩) 0 0] [.cells (af c) 5 false] fun r o'=>r=.ret (.slice (some ⟨1,0,none⟩) 0 0)∧o'=[.cells (af c) 5 false,.cells [] 5 false]:=by
 refine aI.NC (Q:=fun r o=>(r=.ret (.slice (some ⟨1,0,none⟩) 0 0)∧o=[.cells (af c) 5 false,.cells [] 5 false])∨(r=.ret (.slice none 0 0)∧o=[.cells (af c) 5 false])) 5 (s:=1) (by kernel_rfl) (by simp) ?_ ?_
 ·refine aI.cY (n:=cp aoL 103) (by kernel_rfl) ?_
  apply Y9 c o
  refine an.MK ⟨0,3,4,22⟩ 5 ⟨0,o,none⟩ (by kernel_rfl) (by kernel_rfl) (by rfl) (by rfl) ?_
  intro b
  cases b with
  |true=>exact Zc c o (by simp) (Za c o (.inr ⟨rfl,rfl⟩))
  |false=>exact Zf c o 0 ho hc (by rfl) (by simp) (Zd c o 0 (by simp) (.inl ⟨rfl,by simp⟩))
 ·rintro r o (⟨rfl,rfl⟩|⟨rfl,rfl⟩)
  ·exact⟨by simp,by simp,.inl ⟨rfl,rfl⟩⟩
  ·exact⟨by simp,by simp,.inr ⟨rfl,rfl,rfl⟩⟩
theorem Zh(c:ByteArray)(o n m:Nat)(h1:n≤m)(h2:o+m=c.size)(hc:c.size≤1000000):aI aoL 103 [.slice (some ⟨0,o,none⟩) n m] [.cells (af c) 5 false] fun r o'=>r=.ret (.slice (some ⟨1,0,none⟩) n n)∧o'=[.cells (af c) 5 false,.cells (((af c).drop o).take n) 5 false]:=by
 by_cases h0:m=0
 ·subst h0
  have:n=0:=by omega
  subst this
  refine(Zg c o (by omega) hc).mono ?_
  rintro r o' ⟨rfl,rfl⟩
  exact⟨rfl,by rw[ar0]⟩
 ·refine aI.cY (n:=cp aoL 103) (by kernel_rfl) ?_
  apply Y6 c o n m (by omega) h1 h2 hc
  case n0=>exact rX (aB (aS (aH _) _) _)
  case aX=>simp
  case l2=>exact Y4 c o n m (by simp) ⟨by rw[aqr],by rw[aqw,arh]⟩
noncomputable def Bc(l:List aoP)(o n m:Nat)(el:TypeId)(ro:Bool):Bool:=@decide (∃c:ByteArray,l=af c∧n≤m∧o+m=c.size∧c.size≤1000000∧el=5∧ro=false) (apj _)
noncomputable def Gr(a:List aoP)(o:List ak):Option (Bool×bO×List ak):=match a,o with
 | [.slice (some ⟨0,p,none⟩) n m],[.cells l el ro]=>some (Bc l p n m el ro,.ret (.slice (some ⟨1,0,none⟩) n n),[.cells l el ro,.cells ((l.drop p).take n) el false])
 |_,_=>none
theorem Zi:bB aoL 103 (Sum.of Gr):=bB.of fun a o r o' hg=>by
 unfold Gr at hg
 split at hg
 ·rename_i p n m l el ro
  simp only[aoU,aoX]at hg
  obtain⟨h1,rfl,rfl⟩:=hg
  obtain⟨c,rfl,h2,h3,h4,rfl,rfl⟩:=@of_decide_eq_true _ (apj _) h1
  exact Zh c p n m h2 h3 h4
 ·cases hg
theorem Zj{c:ByteArray}{o n m:Nat}(h1:n≤m)(h2:o+m=c.size)(h3:c.size≤1000000):Bc (af c) o n m 5 false=true:=by
 unfold Bc
 exact(@decide_eq_true_iff _ (apj _)).2 ⟨c,rfl,h1,h2,h3,rfl,rfl⟩
theorem Zk(c:ByteArray)(a b:Nat):af (c.extract a b)=((af c).drop a).take (b-a):=by
 unfold af
 rw[ByteArray.data_extract,Array.toList_extract,List.extract_eq_take_drop,List.map_take,List.map_drop]
theorem NH(a b:ByteArray):af (a++b)=af a++af b:=by
 unfold af
 rw[ByteArray.data_append,Array.toList_append,apK]
noncomputable section
def Zl(sc:List (Int×Int))(x0:List aoP)(es:List apl)(ck nb:Nat)(f5:List aoP)(dm dc dr:Int):List (apr×Sum):=[(95,Sum.one (fun _ _=>some kj) [ah 2 sc.length,.func (.func 96) #[] #[al 6]] (fM sc x0 es ck nb f5 dm dc dr++[ab [al 0] 35]) (.ret (aa (cI sc dc))) (fM sc x0 es ck nb f5 dm dc dr++[ab [al 0] 35]))]
theorem Zm(sc:List (Int×Int))(x0:List aoP)(es:List apl)(ck nb:Nat)(f5:List aoP)(dm dc dr:Int)(hs:(aoM sc)≤1000000)(h0:x0.all ag=true)(h3:(bG kj es).all ag=true)(h5:f5.all ag=true):dk aoL (dB aoL (dE (Zl sc x0 es ck nb f5 dm dc dr)) 50 40):=
 dI de mixed (dR (.cons (bB.one (Yf sc x0 es ck nb f5 dm dc dr hs h0 h3 h5)) .nil)) 50 40
def Zn(sc:List (Int×Int))(x0:List aoP)(es:List apl)(ck nb:Nat)(f5:List aoP)(dm dc dr:Int):List (apr×Sum):=[(95,Sum.one (fun _ _=>some kj) [ah 2 sc.length,.func (.func 96) #[] #[al 6]] (fE sc x0 es ck nb f5 dm dc dr++[ab [al 0] 35]) (.ret (aa (cI sc dc))) (fE sc x0 es ck nb f5 dm dc dr++[ab [al 0] 35]))]
theorem Zo(sc:List (Int×Int))(x0:List aoP)(es:List apl)(ck nb:Nat)(f5:List aoP)(dm dc dr:Int)(hs:(aoM sc)≤1000000)(h0:x0.all ag=true)(h3:(bG kj es).all ag=true)(h5:f5.all ag=true):dk aoL (dB aoL (dE (Zn sc x0 es ck nb f5 dm dc dr)) 50 40):=
 dI de mixed (dR (.cons (bB.one (Yh sc x0 es ck nb f5 dm dc dr hs h0 h3 h5)) .nil)) 50 40
noncomputable def NI:List apw:=bd (dC aoL 69)
abbrev NJ:=fun(sc:List (Int×Int)) x0 es (ck nb:Nat) f5 (dm dc dr:Int)=>(⟨[(2,aa 0)],[ab ([ah 2 (aoM sc),.map (some 3),aa dm,.int .i64 (aoN ao2 (dc+1)),aa dr]) 80,ab x0 5,ab (aG sc) 77,.map es ck,ab [ah 5 nb] 173,ab f5 5]⟩:ai)
theorem Zp(sc:List (Int×Int))(x0 es)(ck nb:Nat)(f5)(dm dc dr:Int){Q:bo}(aX:aoS x0 ag=true)(cy:aoS (bG [0,1,2,3,4,5] es) ag=true)(bx:aoS f5 ag=true)(hq:Q (.ret (aa 0)) [ab ([ah 2 (aoM sc),.map (some 3),aa dm,.int .i64 (aoN ao2 (dc+1)),aa dr]) 80,ab x0 5,ab (aG sc) 77,.map es ck,ab [ah 5 nb] 173,ab f5 5]):aJ apq 69 30 6 Q .ret (NJ sc x0 es ck nb f5 dm dc dr):=aJ.ret (vs:=[aa 0]) (l:=[]) (bs:=[0,1,2,3,4,5]) (pl:=[1,2,3,5]) (q:=[x0,aG sc,bG [0,1,2,3,4,5] es,f5]) (fun u=>by kernel_rfl) (by kernel_rfl) (aF aX (aF (bb sc) (aF cy (aF bx bi)))) hq
abbrev NK:=fun(sc:List (Int×Int)) x0 es (ck nb:Nat) f5 (dm dc dr:Int)=>(⟨[(2,aa 25)],[ab ([ah 2 (aoM sc),.map (some 3),aa dm,.int .i64 (aoN ao2 (dc+1)),aa (ay (aG sc) (0+aoO (cI sc dc)*2+1))]) 80,ab x0 5,ab (aG sc) 77,.map es ck,ab [ah 5 nb] 173,ab f5 5]⟩:ai)
theorem Zq(sc:List (Int×Int))(x0 es)(ck nb:Nat)(f5)(dm dc dr:Int){Q:bo}(aX:aoS x0 ag=true)(cy:aoS (bG [0,1,2,3,4,5] es) ag=true)(bx:aoS f5 ag=true)(hq:Q (.ret (aa 25)) [ab ([ah 2 (aoM sc),.map (some 3),aa dm,.int .i64 (aoN ao2 (dc+1)),aa (ay (aG sc) (0+aoO (cI sc dc)*2+1))]) 80,ab x0 5,ab (aG sc) 77,.map es ck,ab [ah 5 nb] 173,ab f5 5]):aJ apq 69 30 6 Q .ret (NK sc x0 es ck nb f5 dm dc dr):=aJ.ret (vs:=[aa 25]) (l:=[]) (bs:=[0,1,2,3,4,5]) (pl:=[1,2,3,5]) (q:=[x0,aG sc,bG [0,1,2,3,4,5] es,f5]) (fun u=>by kernel_rfl) (by kernel_rfl) (aF aX (aF (bb sc) (aF cy (aF bx bi)))) hq
theorem Zr(sc:List (Int×Int))(x0:List aoP)(es:List apl)(ck nb:Nat)(f5:List aoP)(dm dc dr:Int)(hs:(aoM sc)≤1000000)(h0:x0.all ag=true)(h3:(bG kj es).all ag=true)(h4:(es.map (ed fun i=>(kj++fi 7 0)[i]?)).all ag=true)(hp:(aG sc).all ag=true)(h6:(bG ee es).all ag=true)(h5:f5.all ag=true){Q:aY}(n0:(dW [ah 2 (aoM sc),ar4 (as8 96) #[] #[apZ (some (asq (0+1+1+1+1+1+1) 0 none))]] [ah 2 (aoM sc),ar4 (as8 96) #[] #[al 6]] [ab [ah 2 (aoM sc),are (some (0+1+1+1)),aa dm,aa dc,aa dr] 80,ab x0 5,ab (aG sc) 77,ak.map es ck,ab [ah 5 nb] 173,ab f5 5,ab [al 0] 35] (fM sc x0 es ck nb f5 dm dc dr++[ab [al 0] 35]))=true)(aX:aoS x0 ag=true)(bh:aoS (aG sc) ag=true)(bD:aoS (bG [0,1,2,3,4,5] es) ag=true)(bx:aoS f5 ag=true)(l5:(decide (cI sc dc<0))=true→Q .ret (NJ sc x0 es ck nb f5 dm dc dr))(n6:(decide (cI sc dc<0))=false→(ao9 (aoO (cI sc dc)) (aoM sc))=true)(n7:(decide (cI sc dc<0))=false→(cH ao2 (aG sc) (0+aoO (cI sc dc)*2+1))=true)(l8:(decide (cI sc dc<0))=false→Q .ret (NK sc x0 es ck nb f5 dm dc dr)):an apq 30 6 NI ⟨[(0,al 0)],[ab [ah 2 (aoM sc),.map (some 3),aa dm,aa dc,aa dr] 80,ab x0 5,ab (aG sc) 77,.map es ck,ab [ah 5 nb] 173,ab f5 5]⟩ Q:=
 aZ (Zm sc x0 es ck nb f5 dm dc dr hs h0 h3 h5) 1000 (aA [7,1,1,1,1,1,1,1,1] (.fork 3 (.leaf [2] [0,1,2,3,4,5] [1,2,3,5]) (aA [6,1,1,0,1] (.leaf [2] [0,1,2,3,4,5] [1,2,3,5])))) (fun u=>by kernel_rfl) (Tree.aW (show(aoS x0 ag)=true by assumption) (Tree.aW (bb sc) (Tree.aW (show(aoS (apv (ed (eX kj)) es) ag)=true by assumption) (Tree.aW (show(aoS f5 ag)=true by assumption) (Tree.aW (n0:(dW [ah 2 (aoM sc),ar4 (as8 96) #[] #[apZ (some (asq (0+1+1+1+1+1+1) 0 none))]] [ah 2 (aoM sc),ar4 (as8 96) #[] #[al 6]] [ab [ah 2 (aoM sc),are (some (0+1+1+1)),aa dm,aa dc,aa dr] 80,ab x0 5,ab (aG sc) 77,ak.map es ck,ab [ah 5 nb] 173,ab f5 5,ab [al 0] 35] (fM sc x0 es ck nb f5 dm dc dr++[ab [al 0] 35]))=true) (Tree.aW (show(aoS x0 ag)=true by assumption) (Tree.aW (bb sc) (Tree.aW (show(aoS (apv (ed fun i=>(kj++fi 7 (aoM (fM sc x0 es ck nb f5 dm dc dr++[ab [al 0] 35])-7))[i]?) es) ag)=true by assumption) (Tree.aW (show(aoS f5 ag)=true by assumption) (Tree.dn (c:=decide (cI sc dc<0)) (fun h0=>(Tree.aW aX (Tree.aW (bb sc) (Tree.aW bD (Tree.aW bx (Tree.dD (l5 h0))))))) (fun h0=>(Tree.aW (show(decide (0≤cI sc dc))=true by simp at hs h0 h3 h4 hp h6 h5 h0⊢ <;>omega) (Tree.aW (n6 h0) (Tree.aW (n7 h0) (Tree.aW aX (Tree.aW (bb sc) (Tree.aW bD (Tree.aW bx (Tree.dD (l8 h0))))))))))))))))))))
abbrev NL:=fun(sc:List (Int×Int)) x0 es (ck nb:Nat) f5 (dm dc dr:Int)=>(⟨[(2,aa 0)],[ab ([ah 2 (aoM sc),.map (some 3),aa dm,.int .i64 (aoN ao2 (dc+1)),aa dr]) 80,ab x0 5,ab (aG sc) 77,.map es ck,ab [] 173,ab f5 5]⟩:ai)
theorem Zs(sc:List (Int×Int))(x0 es)(ck nb:Nat)(f5)(dm dc dr:Int){Q:bo}(aX:aoS x0 ag=true)(cy:aoS (bG [0,1,2,3,4,5] es) ag=true)(bx:aoS f5 ag=true)(hq:Q (.ret (aa 0)) [ab ([ah 2 (aoM sc),.map (some 3),aa dm,.int .i64 (aoN ao2 (dc+1)),aa dr]) 80,ab x0 5,ab (aG sc) 77,.map es ck,ab [] 173,ab f5 5]):aJ apq 69 30 6 Q .ret (NL sc x0 es ck nb f5 dm dc dr):=aJ.ret (vs:=[aa 0]) (l:=[]) (bs:=[0,1,2,3,4,5]) (pl:=[1,2,3,5]) (q:=[x0,aG sc,bG [0,1,2,3,4,5] es,f5]) (fun u=>by kernel_rfl) (by kernel_rfl) (aF aX (aF (bb sc) (aF cy (aF bx bi)))) hq
abbrev NM:=fun(sc:List (Int×Int)) x0 es (ck nb:Nat) f5 (dm dc dr:Int)=>(⟨[(2,aa 25)],[ab ([ah 2 (aoM sc),.map (some 3),aa dm,.int .i64 (aoN ao2 (dc+1)),aa (ay (aG sc) (0+aoO (cI sc dc)*2+1))]) 80,ab x0 5,ab (aG sc) 77,.map es ck,ab [] 173,ab f5 5]⟩:ai)
theorem Zt(sc:List (Int×Int))(x0 es)(ck nb:Nat)(f5)(dm dc dr:Int){Q:bo}(aX:aoS x0 ag=true)(cy:aoS (bG [0,1,2,3,4,5] es) ag=true)(bx:aoS f5 ag=true)(hq:Q (.ret (aa 25)) [ab ([ah 2 (aoM sc),.map (some 3),aa dm,.int .i64 (aoN ao2 (dc+1)),aa (ay (aG sc) (0+aoO (cI sc dc)*2+1))]) 80,ab x0 5,ab (aG sc) 77,.map es ck,ab [] 173,ab f5 5]):aJ apq 69 30 6 Q .ret (NM sc x0 es ck nb f5 dm dc dr):=aJ.ret (vs:=[aa 25]) (l:=[]) (bs:=[0,1,2,3,4,5]) (pl:=[1,2,3,5]) (q:=[x0,aG sc,bG [0,1,2,3,4,5] es,f5]) (fun u=>by kernel_rfl) (by kernel_rfl) (aF aX (aF (bb sc) (aF cy (aF bx bi)))) hq
theorem Zu(sc:List (Int×Int))(x0:List aoP)(es:List apl)(ck nb:Nat)(f5:List aoP)(dm dc dr:Int)(hs:(aoM sc)≤1000000)(h0:x0.all ag=true)(h3:(bG kj es).all ag=true)(h4:(es.map (ed fun i=>(kj++fi 7 0)[i]?)).all ag=true)(hp:(aG sc).all ag=true)(h6:(bG ee es).all ag=true)(h5:f5.all ag=true){Q:aY}(n0:(dW [ah 2 (aoM sc),ar4 (as8 96) #[] #[apZ (some (asq (0+1+1+1+1+1+1) 0 none))]] [ah 2 (aoM sc),ar4 (as8 96) #[] #[al 6]] [ab [ah 2 (aoM sc),are (some (0+1+1+1)),aa dm,aa dc,aa dr] 80,ab x0 5,ab (aG sc) 77,ak.map es ck,ab [] 173,ab f5 5,ab [al 0] 35] (fE sc x0 es ck nb f5 dm dc dr++[ab [al 0] 35]))=true)(aX:aoS x0 ag=true)(bh:aoS (aG sc) ag=true)(bD:aoS (bG [0,1,2,3,4,5] es) ag=true)(bx:aoS f5 ag=true)(l5:(decide (cI sc dc<0))=true→Q .ret (NL sc x0 es ck nb f5 dm dc dr))(n6:(decide (cI sc dc<0))=false→(ao9 (aoO (cI sc dc)) (aoM sc))=true)(n7:(decide (cI sc dc<0))=false→(cH ao2 (aG sc) (0+aoO (cI sc dc)*2+1))=true)(l8:(decide (cI sc dc<0))=false→Q .ret (NM sc x0 es ck nb f5 dm dc dr)):an apq 30 6 NI ⟨[(0,al 0)],[ab [ah 2 (aoM sc),.map (some 3),aa dm,aa dc,aa dr] 80,ab x0 5,ab (aG sc) 77,.map es ck,ab [] 173,ab f5 5]⟩ Q:=
 aZ (Zo sc x0 es ck nb f5 dm dc dr hs h0 h3 h5) 1000 (aA [7,1,1,1,1,1,1,1,1] (.fork 3 (.leaf [2] [0,1,2,3,4,5] [1,2,3,5]) (aA [6,1,1,0,1] (.leaf [2] [0,1,2,3,4,5] [1,2,3,5])))) (fun u=>by kernel_rfl) (Tree.aW (show(aoS x0 ag)=true by assumption) (Tree.aW (bb sc) (Tree.aW (show(aoS (apv (ed (eX kj)) es) ag)=true by assumption) (Tree.aW (show(aoS f5 ag)=true by assumption) (Tree.aW (n0:(dW [ah 2 (aoM sc),ar4 (as8 96) #[] #[apZ (some (asq (0+1+1+1+1+1+1) 0 none))]] [ah 2 (aoM sc),ar4 (as8 96) #[] #[al 6]] [ab [ah 2 (aoM sc),are (some (0+1+1+1)),aa dm,aa dc,aa dr] 80,ab x0 5,ab (aG sc) 77,ak.map es ck,ab [] 173,ab f5 5,ab [al 0] 35] (fE sc x0 es ck nb f5 dm dc dr++[ab [al 0] 35]))=true) (Tree.aW (show(aoS x0 ag)=true by assumption) (Tree.aW (bb sc) (Tree.aW (show(aoS (apv (ed fun i=>(kj++fi 7 (aoM (fE sc x0 es ck nb f5 dm dc dr++[ab [al 0] 35])-7))[i]?) es) ag)=true by assumption) (Tree.aW (show(aoS f5 ag)=true by assumption) (Tree.dn (c:=decide (cI sc dc<0)) (fun h0=>(Tree.aW aX (Tree.aW (bb sc) (Tree.aW bD (Tree.aW bx (Tree.dD (l5 h0))))))) (fun h0=>(Tree.aW (show(decide (0≤cI sc dc))=true by simp at hs h0 h3 h4 hp h6 h5 h0⊢ <;>omega) (Tree.aW (n6 h0) (Tree.aW (n7 h0) (Tree.aW aX (Tree.aW (bb sc) (Tree.aW bD (Tree.aW bx (Tree.dD (l8 h0))))))))))))))))))))
end
def cE(sc:List (Int×Int))(c:Int):Int:=match sc.find? fun x=>x.1==c with
 |none=>0
 |some _=>25
def cR(sc:List (Int×Int))(c r:Int):Int:=match sc.find? fun x=>x.1==c with
 |none=>r
 |some p=>p.2
theorem NN{sc:List (Int×Int)}{c:Int}(h:cI sc c<0)(r:Int):cE sc c=0∧cR sc c r=r:=by
 rcases Nl sc c with⟨_,h2⟩|⟨i,hi,h1,_⟩
 ·unfold cE cR;rw[h2];exact⟨rfl,rfl⟩
 ·omega
theorem vU{sc:List (Int×Int)}{c:Int}(h:¬cI sc c<0)(r:Int):cE sc c=25∧0≤cI sc c∧cI sc c<sc.length∧cR sc c r=ay (aG sc) (0+aoO (cI sc c)*2+1):=by
 rcases Nl sc c with⟨h1,_⟩|⟨i,hi,h1,h2⟩
 ·omega
 ·rw[h1]at h⊢
  have:=(oU (sc:=sc) (j:=i) (by omega) (by omega)).2.2.2.1
  refine⟨by unfold cE;rw[h2],by omega,by omega,?_⟩
  rw[this]
  unfold cR
  rw[h2]
  rfl
theorem NO(sc:List (Int×Int))(x0:List aoP)(es:List apl)(ck nb:Nat)(f5:List aoP)(dm dc dr:Int)(hs:sc.length≤1000000)(h0:x0.all ag=true)(he:cg es=true)(h5:f5.all ag=true):
 aI aoL 69 [.pointer (some ⟨0,0,none⟩)] (fM sc x0 es ck nb f5 dm dc dr) fun r o=>r=.ret (.int .i64 (cE sc dc))∧o=fM sc x0 es ck nb f5 dm (aoN .i64 (dc+1)) (cR sc dc dr):=by
 have h3:(bG kj es).all ag=true:=cg.idx he [6]
 have h6:(bG ee es).all ag=true:=cg.idx he []
 have h4:(es.map (ed fun i=>(kj++fi 7 0)[i]?)).all ag=true:=cg.qP he [6]
 have hp:=bb sc
 refine aI.cY (n:=cp aoL 69) (by kernel_rfl) ?_
 apply Zr sc x0 es ck nb f5 dm dc dr hs h0 h3 h4 hp h6 h5<;>try assumption
 case n0=>exact e8 rfl rfl
 case l5=>
  intro g
  obtain⟨e1,e2⟩:=NN (of_decide_eq_true g) dr
  exact Zp sc x0 es ck nb f5 dm dc dr h0 h6 h5 ⟨by rw[e1],by rw[e2];rfl⟩
 case n6=>intro g;obtain⟨e1,e2,e3,e4⟩:=vU (of_decide_eq_false g) dr;exact dV.2 (by omega)
 case n7=>intro g;obtain⟨e1,e2,e3,e4⟩:=vU (of_decide_eq_false g) dr;exact(oU e2 e3).2.1
 case l8=>
  intro g
  obtain⟨e1,e2,e3,e4⟩:=vU (of_decide_eq_false g) dr
  exact Zq sc x0 es ck nb f5 dm dc dr h0 h6 h5 ⟨by rw[e1],by rw[e4];rfl⟩
theorem NP(sc:List (Int×Int))(x0:List aoP)(es:List apl)(ck nb:Nat)(f5:List aoP)(dm dc dr:Int)(hs:sc.length≤1000000)(h0:x0.all ag=true)(he:cg es=true)(h5:f5.all ag=true):
 aI aoL 69 [.pointer (some ⟨0,0,none⟩)] (fE sc x0 es ck nb f5 dm dc dr) fun r o=>r=.ret (.int .i64 (cE sc dc))∧o=fE sc x0 es ck nb f5 dm (aoN .i64 (dc+1)) (cR sc dc dr):=by
 have h3:(bG kj es).all ag=true:=cg.idx he [6]
 have h6:(bG ee es).all ag=true:=cg.idx he []
 have h4:(es.map (ed fun i=>(kj++fi 7 0)[i]?)).all ag=true:=cg.qP he [6]
 have hp:=bb sc
 refine aI.cY (n:=cp aoL 69) (by kernel_rfl) ?_
 apply Zu sc x0 es ck nb f5 dm dc dr hs h0 h3 h4 hp h6 h5<;>try assumption
 case n0=>exact e8 rfl rfl
 case l5=>
  intro g
  obtain⟨e1,e2⟩:=NN (of_decide_eq_true g) dr
  exact Zs sc x0 es ck nb f5 dm dc dr h0 h6 h5 ⟨by rw[e1],by rw[e2];rfl⟩
 case n6=>intro g;obtain⟨e1,e2,e3,e4⟩:=vU (of_decide_eq_false g) dr;exact dV.2 (by omega)
 case n7=>intro g;obtain⟨e1,e2,e3,e4⟩:=vU (of_decide_eq_false g) dr;exact(oU e2 e3).2.1
 case l8=>
  intro g
  obtain⟨e1,e2,e3,e4⟩:=vU (of_decide_eq_false g) dr
  exact Zt sc x0 es ck nb f5 dm dc dr h0 h6 h5 ⟨by rw[e1],by rw[e4];rfl⟩
set_option maxHeartbeats 1000000 in
theorem Zv(b so bm:Nat)(x:Int)(v:aoP)(w:ao4)(c1:w.cell? ⟨b,so+1,none⟩=some (.map (some bm)))(hl:(aq9 78 (.map (some bm)) (.int .i64 x) false).run aoL w=.ok v w):
 asn aoL 68 #[.pointer (some ⟨b,so,none⟩),.int .i64 x] w fun e w'=>e=.returned v∧w'=w:=by
 go_enter Tryz.func68,Tryz.ntmps68
 go_wp2
 go_ret
 exact⟨rfl,rfl⟩
theorem NQ:zeroOf aoL 99=some (.pointer none):=by kernel_rfl
theorem Gs(x:Int):pf aoL 3 (.int .i64 x)=true:=by
 have h:aoL.underlying 3=some (.int .i64):=Tryz.underlying3
 unfold pf
 rw[h]
def vV(f:Option (Nat×aoP)):aoP:=match f with
 |some (_,v)=>v
 |none=>.pointer none
theorem Gt{objs:List ak}{sl:aoP}{r1:List aoP}{es:List apl}{ck:Nat}{x:Int}{f:Option (Nat×aoP)}(h0:objs[0]?=some (.cells (sl:: .map (some 3)::r1) 80 false))(h3:objs[3]?=some (.map es ck))(hlen:objs.length≤262144)
 (hf:fm (.int .i64 x) es 0=some f):aI aoL 68 [.pointer (some ⟨0,0,none⟩),.int .i64 x] objs fun r o=>r=.ret (vV f)∧o=objs:=by
 intro B w₀ ρ w args' gI hn ha hw
 obtain⟨p,l,el,hp,hl⟩:=ha.gG
 obtain⟨xi,l2,el2,hx,jK⟩:=hl.gG
 have:=hx.jG
 subst this
 have:=jK.kx
 subst this
 obtain⟨q,hq,rfl⟩:=hp.ky
 have m0:cw objs 0=some (.cells (sl:: .map (some 3)::r1) 80 false):=by rw[cD rfl];exact h0
 have m3:cw objs 3=some (.map es ck):=by rw[cD rfl];exact h3
 obtain⟨o',k1,k2,_⟩:=hw.live 0 _ q m0 hq rfl
 obtain⟨q3,sd⟩:=hw.named 3 _ m3 (by intro e;cases e)
 obtain⟨o3,k3,k4,_⟩:=hw.live 3 _ q3 m3 sd rfl
 cases k4 with
 |map _ cW _ k5 k6=>
 cases k2 with
 |cells _ _ b8 _ a fr g1 g2 g3 g4 g5 g6=>
 obtain⟨v',g7,g8⟩:=g6 1 (.map (some 3)) rfl
 obtain⟨qm,NR,rfl⟩:=g8.qh
 rw[sd]at NR
 cases NR
 have hc:w.cell? ⟨q.aN,q.sh+0+1,none⟩=some (.map (some q3.aN)):=by
  simp[avz,k1,g7]
 have hu:aoL.underlying 78=some (.map 3 99):=Tryz.underlying78
 obtain⟨d,ka,hd⟩:=xC (Gs x)
 obtain⟨r',k7,k8⟩:=vc ka hd k5 k6 hf
 have j7:∃v',(aq9 78 (.map (some q3.aN)) (.int .i64 x) false).run aoL w=.ok v' w∧VR ρ (vV f) v':=by
  rcases k8 with⟨rfl,rfl⟩|⟨j,v,v',e',rfl,rfl,hv,_,_,_⟩
  ·refine⟨.pointer none,?_,.bM _ rfl⟩
   unfold aq9
   rw[aoR,Vm.run_underlying hu,aoQ]
   dsimp only
   rw[aoR,Vm.run_getObj_map k3,aoQ]
   dsimp only
   rw[aoR,apA,aoQ,aoR,run_checkKey (Gs x),aoQ,aoR,run_findKey ka k7,aoQ]
   dsimp only
   first|rw[aoR,aoR,mZ NQ]|rw[aoR,mZ NQ]
   rfl
  ·refine⟨v',?_,hv⟩
   unfold aq9
   rw[aoR,Vm.run_underlying hu,aoQ]
   dsimp only
   rw[aoR,Vm.run_getObj_map k3,aoQ]
   dsimp only
   rw[aoR,apA,aoQ,aoR,run_checkKey (Gs x),aoQ,aoR,run_findKey ka k7,aoQ]
   rfl
 obtain⟨v',h1,h2⟩:=j7
 have ea:args'= #[.pointer (some ⟨q.aN,q.sh+0,none⟩),.int .i64 x]:=by
  rw[←ap1 (xs:=args'),el,el2]
 rw[ea]
 refine(Zv q.aN (q.sh+0) q3.aN x v' w hc h1).mono fun e w' he=>?_
 obtain⟨rfl,rfl⟩:=he
 exact⟨.ret (vV f),objs,ρ,⟨rfl,rfl⟩,h2,gI,hw,hlen,fun _ _=>rfl⟩
noncomputable section
def Zw(sc:List (Int×Int))(x0:List aoP)(es:List apl)(ck:Nat)(f5:List aoP)(dm dc dr:Int):List (apr×Sum):=[(69,Sum.one (fun _ _=>some ee) [al 0] (fE sc x0 es ck 0 f5 dm dc dr) (.ret (aa (cE sc dc))) (fE sc x0 es ck 0 f5 dm (aoN .i64 (dc+1)) (cR sc dc dr)))]
theorem Zx(sc:List (Int×Int))(x0:List aoP)(es:List apl)(ck:Nat)(f5:List aoP)(dm dc dr:Int)(hs:(aoM sc)≤1000000)(h0:x0.all ag=true)(he:cg es=true)(h5:f5.all ag=true):dk aoL (dB aoL (dE (Zw sc x0 es ck f5 dm dc dr)) 50 40):=
 dI de mixed (dR (.cons (bB.one (NP sc x0 es ck 0 f5 dm dc dr hs h0 he h5)) .nil)) 50 40
theorem Zy{es:List apl}{x:Int}{f:Option (Nat×aoP)}(hf:fm (aa x) es 0=some f)(sc:List (Int×Int))(x0:List aoP)(ck:Nat)(f5:List aoP)(dm dc dr:Int):aI aoL 68 [al 0,aa x] (fE sc x0 es ck 0 f5 dm dc dr) fun r o=>r=.ret (vV f)∧o=fE sc x0 es ck 0 f5 dm dc dr:=Gt rfl rfl (by simp[fE]) hf
theorem Zz{es:List apl}{x:Int}{f:Option (Nat×aoP)}(hf:fm (aa x) es 0=some f)(sc:List (Int×Int))(b:ByteArray)(ck:Nat)(fb:ByteArray)(dm dc dr:Int):aI aoL 68 [al 0,aa x] (fM sc (af b) es ck fb.size (af fb) dm dc dr) fun r o=>r=.ret (vV f)∧o=fM sc (af b) es ck fb.size (af fb) dm dc dr:=Gt rfl rfl (by simp[fM]) hf
def ZA(sc:List (Int×Int))(x0:List aoP)(es:List apl)(ck:Nat)(f5:List aoP)(dm dc dr:Int)(no:Int)(v:aoP):List (apr×Sum):=[(68,Sum.one (fun _ _=>some ee) [al 0,aa no] (fE sc x0 es ck 0 f5 dm dc dr) (.ret v) (fE sc x0 es ck 0 f5 dm dc dr)),(69,Sum.one (fun _ _=>some ee) [al 0] (fE sc x0 es ck 0 f5 dm dc dr) (.ret (aa (cE sc dc))) (fE sc x0 es ck 0 f5 dm (aoN .i64 (dc+1)) (cR sc dc dr)))]
theorem Bd(sc:List (Int×Int))(x0:List aoP)(es:List apl)(ck:Nat)(f5:List aoP)(dm dc dr no:Int)(v:aoP)(hs:(aoM sc)≤1000000)(h0:x0.all ag=true)(he:cg es=true)(h5:f5.all ag=true){f:Option (Nat×aoP)}(hf:fm (aa no) es 0=some f)(hv:v=vV f):dk aoL (dB aoL (dE (ZA sc x0 es ck f5 dm dc dr no v)) 50 40):=by
 subst hv
 exact dI de mixed (dR (.cons (bB.one (Zy hf sc x0 ck f5 dm dc dr)) (.cons (bB.one (NP sc x0 es ck 0 f5 dm dc dr hs h0 he h5)) .nil))) 50 40
def ZB(sc:List (Int×Int))(b:ByteArray)(es:List apl)(ck:Nat)(fb:ByteArray)(dm dc dr:Int)(no:Int):List (apr×Sum):=[(68,Sum.one (fun _ _=>some ee) [al 0,aa no] (fM sc (af b) es ck fb.size (af fb) dm dc dr) (.ret (al 4)) (fM sc (af b) es ck fb.size (af fb) dm dc dr)),(69,Sum.one (fun _ _=>some ee) [al 0] (fM sc (af b) es ck fb.size (af fb) dm dc dr) (.ret (aa (cE sc dc))) (fM sc (af b) es ck fb.size (af fb) dm (aoN .i64 (dc+1)) (cR sc dc dr)))]
theorem ZC(sc:List (Int×Int))(b:ByteArray)(es:List apl)(ck:Nat)(fb:ByteArray)(dm dc dr no:Int)(hs:(aoM sc)≤1000000)(he:cg es=true){i:Nat}(hf:fm (aa no) es 0=some (some (i,al 4))):dk aoL (dB aoL (dE (ZB sc b es ck fb dm dc dr no)) 50 40):=
 dI de mixed (dR (.cons (bB.one (Zz hf sc b ck fb dm dc dr)) (.cons (bB.one (NO sc (af b) es ck fb.size (af fb) dm dc dr hs (by simp) he (by simp))) .nil))) 50 40
noncomputable def ZD:List apw:=bd (dC aoL 97)
noncomputable def NS:List apw:=bd (dC aoL 43)
noncomputable def NT:List apw:=bd (dC aoL 98)
noncomputable def ZE:List apw:=bd (dC aoL 71)
noncomputable def ZF:List apw:=bd (dC aoL 20)
open Tree renaming aW→mN,dn→mF,eS→mL,fA→mQ,dD→mR,fK→mE
def NU:Nat→Bool→Bool→Tree→Tree
 |0,_,_,t=>t
 |n+1,d,b,t=>.cM d b (NU n d b t)
theorem NV{R:bj→ai→Prop}{c v:Bool}{t:Tree}(n:Nat)(h1:c=v)(h2:t.ok R):(NU n c v t).ok R:=by
 induction n with
 |zero=>exact h2
 |succ n ih=>exact⟨h1,ih⟩
abbrev sq:=fun(sc:List (Int×Int)) x0 es (ck:Nat) f5 (dm dc dr:Int)=>([ab ([ah 2 (aoM sc),.map (some 3),aa dm,aa dc,aa dr]) 80,ab x0 5,ab (aG sc) 77,.map es ck,ab [] 173,ab f5 5]:List ak)
abbrev NW:=fun(sc:List (Int×Int)) x0 es (ck:Nat) f5 (dm dc dr:Int)=>(⟨[(2,aa 0),(3,aa 17)],sq sc x0 es ck f5 dm dc dr⟩:ai)
theorem ZG(sc:List (Int×Int))(x0 es)(ck:Nat)(f5)(dm dc dr:Int){Q:bo}(aX:aoS x0 ag=true)(cy:aoS (bG [0,1,2,3,4,5] es) ag=true)(bx:aoS f5 ag=true)(hq:Q (.ret (.tuple #[aa 0,aa 17])) (sq sc x0 es ck f5 dm dc dr)):aJ aoL 97 47 6 Q .ret (NW sc x0 es ck f5 dm dc dr):=aJ.ret (vs:=[aa 0,aa 17]) (l:=[]) (bs:=[0,1,2,3,4,5]) (pl:=[1,2,3,5]) (q:=[x0,aG sc,bG [0,1,2,3,4,5] es,f5]) (fun u=>by kernel_rfl) (by kernel_rfl) (aF aX (aF (bb sc) (aF cy (aF bx bi)))) hq
abbrev NX:=fun(sc:List (Int×Int)) x0 es (ck:Nat) f5 (dm dc dr:Int)=>(⟨[(2,aa 0),(3,aa (cE sc dc))],[ab ([ah 2 (aoM sc),.map (some 3),aa dm,.int .i64 (aoN .i64 (dc+1)),aa (cR sc dc dr)]) 80,ab x0 5,ab (aG sc) 77,.map es ck,ab [] 173,ab f5 5]⟩:ai)
theorem ZH(sc:List (Int×Int))(x0 es)(ck:Nat)(f5)(dm dc dr:Int){Q:bo}(aX:aoS x0 ag=true)(cy:aoS (bG [0,1,2,3,4,5] es) ag=true)(bx:aoS f5 ag=true)(hq:Q (.ret (.tuple #[aa 0,aa (cE sc dc)])) [ab ([ah 2 (aoM sc),.map (some 3),aa dm,.int .i64 (aoN .i64 (dc+1)),aa (cR sc dc dr)]) 80,ab x0 5,ab (aG sc) 77,.map es ck,ab [] 173,ab f5 5]):aJ aoL 97 47 6 Q .ret (NX sc x0 es ck f5 dm dc dr):=aJ.ret (vs:=[aa 0,aa (cE sc dc)]) (l:=[]) (bs:=[0,1,2,3,4,5]) (pl:=[1,2,3,5]) (q:=[x0,aG sc,bG [0,1,2,3,4,5] es,f5]) (fun u=>by kernel_rfl) (by kernel_rfl) (aF aX (aF (bb sc) (aF cy (aF bx bi)))) hq
abbrev NY:=fun(sc:List (Int×Int)) x0 es (ck:Nat) f5 (dm dc dr:Int)=>(⟨[(2,.int .i64 (aoN .i64 (dm+1))),(3,aa 0)],[ab ([ah 2 (aoM sc),.map (some 3),.int .i64 (aoN .i64 (dm+1)),.int .i64 (aoN .i64 (dc+1)),aa (cR sc dc dr)]) 80,ab x0 5,ab (aG sc) 77,.map (es++[aqf (aoW ao2 (aoN .i64 (dm+1))) (al 6) ck]) (ck+1),ab [] 173,ab f5 5,ab [cm] 173]⟩:ai)
theorem ZI(sc:List (Int×Int))(x0 es)(ck:Nat)(f5)(dm dc dr:Int){Q:bo}(aX:aoS x0 ag=true)(cy:aoS (bG [0,1,2,3,4,5,6] (es++[aqf (aoW ao2 (aoN .i64 (dm+1))) (al 6) ck])) ag=true)(bx:aoS f5 ag=true)(hq:Q (.ret (.tuple #[.int .i64 (aoN .i64 (dm+1)),aa 0])) [ab ([ah 2 (aoM sc),.map (some 3),.int .i64 (aoN .i64 (dm+1)),.int .i64 (aoN .i64 (dc+1)),aa (cR sc dc dr)]) 80,ab x0 5,ab (aG sc) 77,.map (es++[aqf (aoW ao2 (aoN .i64 (dm+1))) (al 6) ck]) (ck+1),ab [] 173,ab f5 5,ab [cm] 173]):aJ aoL 97 47 6 Q .ret (NY sc x0 es ck f5 dm dc dr):=aJ.ret (vs:=[.int .i64 (aoN .i64 (dm+1)),aa 0]) (l:=[]) (bs:=[0,1,2,3,4,5,6]) (pl:=[1,2,3,5]) (q:=[x0,aG sc,bG [0,1,2,3,4,5,6] (es++[aqf (aoW ao2 (aoN .i64 (dm+1))) (al 6) ck]),f5]) (fun u=>by kernel_rfl) (by kernel_rfl) (aF aX (aF (bb sc) (aF cy (aF bx bi)))) hq
theorem ZJ(sc:List (Int×Int))(x0:List aoP)(es:List apl)(ck:Nat)(f5:List aoP)(dm dc dr:Int)(hs:(aoM sc)≤1000000)(h0:x0.all ag=true)(he:cg es=true)(h5:f5.all ag=true)(rV:0≤dm)(lP:dm≤64)(hw:aoN .i64 (dm+1)=dm+1)(hp:(aG sc).all ag=true)(h6:(bG ee es).all ag=true)(h4:(es.map (ed fun i=>(ee++fi 6 0)[i]?)).all ag=true){Q:aY}(aX:aoS x0 ag=true)(bh:aoS (aG sc) ag=true)(bD:aoS (bG [0,1,2,3,4,5] es) ag=true)(bx:aoS f5 ag=true)(l4:(dm==64)=true→Q .ret (NW sc x0 es ck f5 dm dc dr))(n5:(dm==64)=false→(dW [al 0] [al 0] [ab [ah 2 (aoM sc),are (some (0+1+1+1)),aa dm,aa dc,aa dr] 80,ab x0 5,ab (aG sc) 77,ak.map es ck,ab [] 173,ab f5 5] (fE sc x0 es ck 0 f5 dm dc dr))=true)(l6:(dm==64)=false→(cE sc dc != 0)=true→Q .ret (NX sc x0 es ck f5 dm dc dr))(n7:(dm==64)=false→(cE sc dc != 0)=false→(xV es (aoW ao2 (aoN .i64 (dm+1))))=true)(lj:aoS (bG [0,1,2,3,4,5,6] (es++[aqf (aoW ao2 (aoN .i64 (dm+1))) (al 6) ck])) ag=true)(l9:(dm==64)=false→(cE sc dc != 0)=false→Q .ret (NY sc x0 es ck f5 dm dc dr)):an aoL 47 6 ZD ⟨[(0,al 0)],[ab [ah 2 (aoM sc),.map (some 3),aa dm,aa dc,aa dr] 80,ab x0 5,ab (aG sc) 77,.map es ck,ab [] 173,ab f5 5]⟩ Q:=
 aZ (Zx sc x0 es ck f5 dm dc dr hs h0 he h5) 1000 (.fork 9 (.leaf [2,3] [0,1,2,3,4,5] [1,2,3,5]) (aA [3,1,1,1,1,1,1,1,1] (.fork 0 (.leaf [2,3] [0,1,2,3,4,5] [1,2,3,5]) (aA [8,1] (.leaf [2,3] [0,1,2,3,4,5,6] [1,2,3,5]))))) (fun u=>by kernel_rfl) (mF (c:=dm==64) (fun h0=>(mN aX (mN (bb sc) (mN bD (mN bx (mR (l4 h0))))))) (fun h0=>(mN (show(aoS x0 ag)=true by assumption) (mN (bb sc) (mN (show(aoS (apv (ed (eX ee)) es) ag)=true by assumption) (mN (show(aoS f5 ag)=true by assumption) (mN (n5 h0) (mN (show(aoS x0 ag)=true by assumption) (mN (bb sc) (mN (show(aoS (apv (ed fun i=>(ee++fi 6 (aoM (fE sc x0 es ck 0 f5 dm (aoN .i64 (dc+1)) (cR sc dc dr))-6))[i]?) es) ag)=true by assumption) (mN (show(aoS f5 ag)=true by assumption) (mF (c:=cE sc dc != 0) (fun h1=>(mN aX (mN (bb sc) (mN bD (mN bx (mR (l6 h0 h1))))))) (fun h1=>(mN (n7 h0 h1) (mN aX (mN (bb sc) (mN lj (mN bx (mR (l9 h0 h1))))))))))))))))))))
abbrev NZ:=fun(sc:List (Int×Int)) x0 es (ck:Nat) f5 (dm dc dr no:Int) (kb ks i:Nat)=>(⟨[(4,aa (cE sc dc))],[ab ([ah 2 (aoM sc),.map (some 3),aa dm,.int .i64 (aoN .i64 (dc+1)),aa (cR sc dc dr)]) 80,ab x0 5,ab (aG sc) 77,.map (oO es (aa no)) ck,ab [] 173,ab f5 5]⟩:ai)
theorem ZK(sc:List (Int×Int))(x0 es)(ck:Nat)(f5)(dm dc dr no:Int)(kb ks i:Nat){Q:bo}(aX:aoS x0 ag=true)(cy:aoS (bG [0,1,2,3,4,5] (oO es (aa no))) ag=true)(bx:aoS f5 ag=true)(hq:Q (.ret (aa (cE sc dc))) [ab ([ah 2 (aoM sc),.map (some 3),aa dm,.int .i64 (aoN .i64 (dc+1)),aa (cR sc dc dr)]) 80,ab x0 5,ab (aG sc) 77,.map (oO es (aa no)) ck,ab [] 173,ab f5 5]):aJ aoL 43 20 6 Q .ret (NZ sc x0 es ck f5 dm dc dr no kb ks i):=aJ.ret (vs:=[aa (cE sc dc)]) (l:=[]) (bs:=[0,1,2,3,4,5]) (pl:=[1,2,3,5]) (q:=[x0,aG sc,bG [0,1,2,3,4,5] (oO es (aa no)),f5]) (fun u=>by kernel_rfl) (by kernel_rfl) (aF aX (aF (bb sc) (aF cy (aF bx bi)))) hq
abbrev N0:=fun(sc:List (Int×Int)) x0 es (ck:Nat) f5 (dm dc dr no:Int) (kb ks i:Nat)=>(⟨[(4,aa (cE sc dc))],[ab ([ah 2 (aoM sc),.map (some 3),aa dm,.int .i64 (aoN .i64 (dc+1)),aa (cR sc dc dr)]) 80,ab x0 5,ab (aG sc) 77,.map es ck,ab [] 173,ab f5 5]⟩:ai)
theorem ZL(sc:List (Int×Int))(x0 es)(ck:Nat)(f5)(dm dc dr no:Int)(kb ks i:Nat){Q:bo}(aX:aoS x0 ag=true)(cy:aoS (bG [0,1,2,3,4,5] es) ag=true)(bx:aoS f5 ag=true)(hq:Q (.ret (aa (cE sc dc))) [ab ([ah 2 (aoM sc),.map (some 3),aa dm,.int .i64 (aoN .i64 (dc+1)),aa (cR sc dc dr)]) 80,ab x0 5,ab (aG sc) 77,.map es ck,ab [] 173,ab f5 5]):aJ aoL 43 20 6 Q .ret (N0 sc x0 es ck f5 dm dc dr no kb ks i):=aJ.ret (vs:=[aa (cE sc dc)]) (l:=[]) (bs:=[0,1,2,3,4,5]) (pl:=[1,2,3,5]) (q:=[x0,aG sc,bG [0,1,2,3,4,5] es,f5]) (fun u=>by kernel_rfl) (by kernel_rfl) (aF aX (aF (bb sc) (aF cy (aF bx bi)))) hq
theorem ZM(sc:List (Int×Int))(x0:List aoP)(es:List apl)(ck:Nat)(f5:List aoP)(dm dc dr no:Int)(kb ks i:Nat)(hs:(aoM sc)≤1000000)(h0:x0.all ag=true)(he:cg es=true)(h5:f5.all ag=true)(hf:fm (aa no) es 0=some (some (i,.pointer (some ⟨kb,ks,some 0⟩))))(hk:vn es (aa no)=true)(hp:(aG sc).all ag=true)(h6:(bG ee es).all ag=true)(h4:(es.map (ed fun i=>(ee++fi 6 0)[i]?)).all ag=true){Q:aY}(n0:(dW [al 0,aa no] [al 0,aa no] [ab [ah 2 (aoM sc),are (some (0+1+1+1)),aa dm,aa dc,aa dr] 80,ab x0 5,ab (aG sc) 77,ak.map es ck,ab [] 173,ab f5 5] (fE sc x0 es ck 0 f5 dm dc dr))=true)(n1:(dW [al 0] [al 0] [ab [ah 2 (aoM sc),are (some (0+1+1+1)),aa dm,aa dc,aa dr] 80,ab x0 5,ab (aG sc) 77,ak.map es ck,ab [] 173,ab f5 5] (fE sc x0 es ck 0 f5 dm dc dr))=true)(aX:aoS x0 ag=true)(bh:aoS (aG sc) ag=true)(bD:aoS (bG [0,1,2,3,4,5] (oO es (aa no))) ag=true)(bx:aoS f5 ag=true)(l6:(cE sc dc==0)=true→Q .ret (NZ sc x0 es ck f5 dm dc dr no kb ks i))(lj:aoS (bG [0,1,2,3,4,5] es) ag=true)(l8:(cE sc dc==0)=false→Q .ret (N0 sc x0 es ck f5 dm dc dr no kb ks i)):an aoL 20 6 NS ⟨[(0,al 0),(1,aa no)],[ab [ah 2 (aoM sc),.map (some 3),aa dm,aa dc,aa dr] 80,ab x0 5,ab (aG sc) 77,.map es ck,ab [] 173,ab f5 5]⟩ Q:=
 aZ (Bd sc x0 es ck f5 dm dc dr no (.pointer (some ⟨kb,ks,some 0⟩)) hs h0 he h5 hf rfl) 1000 (aA [3,1,1,1,1,1,1,1,1,5,1,1,1,1,1,1,1,1] (.fork 0 (aA [2,1] (.leaf [4] [0,1,2,3,4,5] [1,2,3,5])) (.leaf [4] [0,1,2,3,4,5] [1,2,3,5]))) (fun u=>by kernel_rfl) (mN (show(aoS x0 ag)=true by assumption) (mN (bb sc) (mN (show(aoS (apv (ed (eX ee)) es) ag)=true by assumption) (mN (show(aoS f5 ag)=true by assumption) (mN n0 (mN (show(aoS x0 ag)=true by assumption) (mN (bb sc) (mN (show(aoS (apv (ed fun i=>(ee++fi 6 (aoM (fE sc x0 es ck 0 f5 dm dc dr)-6))[i]?) es) ag)=true by assumption) (mN (show(aoS f5 ag)=true by assumption) (mN (show(aoS x0 ag)=true by assumption) (mN (bb sc) (mN (show(aoS (apv (ed (eX ee)) es) ag)=true by assumption) (mN (show(aoS f5 ag)=true by assumption) (mN n1 (mN (show(aoS x0 ag)=true by assumption) (mN (bb sc) (mN (show(aoS (apv (ed fun i=>(ee++fi 6 (aoM (fE sc x0 es ck 0 f5 dm (aoN .i64 (dc+1)) (cR sc dc dr))-6))[i]?) es) ag)=true by assumption) (mN (show(aoS f5 ag)=true by assumption) (mF (c:=cE sc dc==0) (fun h0=>(mN (show(vn es (aa no))=true by assumption) (mN aX (mN (bb sc) (mN bD (mN bx (mR (l6 h0)))))))) (fun h0=>(mN aX (mN (bb sc) (mN lj (mN bx (mR (l8 h0))))))))))))))))))))))))))
abbrev N1:=fun(sc:List (Int×Int)) x0 es (ck:Nat) f5 (dm dc dr no:Int)=>(⟨[(4,aa 1)],sq sc x0 es ck f5 dm dc dr⟩:ai)
theorem ZN(sc:List (Int×Int))(x0 es)(ck:Nat)(f5)(dm dc dr no:Int){Q:bo}(aX:aoS x0 ag=true)(cy:aoS (bG [0,1,2,3,4,5] es) ag=true)(bx:aoS f5 ag=true)(hq:Q (.ret (aa 1)) (sq sc x0 es ck f5 dm dc dr)):aJ aoL 43 20 6 Q .ret (N1 sc x0 es ck f5 dm dc dr no):=aJ.ret (vs:=[aa 1]) (l:=[]) (bs:=[0,1,2,3,4,5]) (pl:=[1,2,3,5]) (q:=[x0,aG sc,bG [0,1,2,3,4,5] es,f5]) (fun u=>by kernel_rfl) (by kernel_rfl) (aF aX (aF (bb sc) (aF cy (aF bx bi)))) hq
theorem ZO(sc:List (Int×Int))(x0:List aoP)(es:List apl)(ck:Nat)(f5:List aoP)(dm dc dr no:Int)(hs:(aoM sc)≤1000000)(h0:x0.all ag=true)(he:cg es=true)(h5:f5.all ag=true)(hf:fm (aa no) es 0=some none)(hp:(aG sc).all ag=true)(h6:(bG ee es).all ag=true)(h4:(es.map (ed fun i=>(ee++fi 6 0)[i]?)).all ag=true){Q:aY}(n0:(dW [al 0,aa no] [al 0,aa no] [ab [ah 2 (aoM sc),are (some (0+1+1+1)),aa dm,aa dc,aa dr] 80,ab x0 5,ab (aG sc) 77,ak.map es ck,ab [] 173,ab f5 5] (fE sc x0 es ck 0 f5 dm dc dr))=true)(aX:aoS x0 ag=true)(bh:aoS (aG sc) ag=true)(bD:aoS (bG [0,1,2,3,4,5] es) ag=true)(bx:aoS f5 ag=true)(l5:Q .ret (N1 sc x0 es ck f5 dm dc dr no)):an aoL 20 6 NS ⟨[(0,al 0),(1,aa no)],[ab [ah 2 (aoM sc),.map (some 3),aa dm,aa dc,aa dr] 80,ab x0 5,ab (aG sc) 77,.map es ck,ab [] 173,ab f5 5]⟩ Q:=
 aZ (Bd sc x0 es ck f5 dm dc dr no (.pointer none) hs h0 he h5 hf rfl) 1000 (aA [3,1,1,1,1,1,1,1,1] (.leaf [4] [0,1,2,3,4,5] [1,2,3,5])) (fun u=>by kernel_rfl) (mN (show(aoS x0 ag)=true by assumption) (mN (bb sc) (mN (show(aoS (apv (ed (eX ee)) es) ag)=true by assumption) (mN (show(aoS f5 ag)=true by assumption) (mN n0 (mN (show(aoS x0 ag)=true by assumption) (mN (bb sc) (mN (show(aoS (apv (ed fun i=>(ee++fi 6 (aoM (fE sc x0 es ck 0 f5 dm dc dr)-6))[i]?) es) ag)=true by assumption) (mN (show(aoS f5 ag)=true by assumption) (mN aX (mN (bb sc) (mN bD (mN bx (mR l5))))))))))))))
abbrev Be:=fun(sc:List (Int×Int)) b es (ck:Nat) (fb:ByteArray) (dm dc dr:Int)=>([ab ([ah 2 (aoM sc),.map (some 3),aa dm,aa dc,aa dr]) 80,ab (af b) 5,ab (aG sc) 77,.map es ck,ab [ah 5 fb.size] 173,ab (af fb) 5]:List ak)
abbrev N2:=fun(sc:List (Int×Int)) b es (ck:Nat) fb (dm dc dr no:Int) (i:Nat)=>(⟨[(6,aa 1)],Be sc b es ck fb dm dc dr⟩:ai)
theorem ZP(sc:List (Int×Int))(b es)(ck:Nat)(fb)(dm dc dr no:Int)(i:Nat){Q:bo}(cy:aoS (bG [0,1,2,3,4,5] es) ag=true)(hq:Q (.ret (aa 1)) (Be sc b es ck fb dm dc dr)):aJ aoL 98 40 6 Q .ret (N2 sc b es ck fb dm dc dr no i):=aJ.ret (vs:=[aa 1]) (l:=[]) (bs:=[0,1,2,3,4,5]) (pl:=[1,2,3,5]) (q:=[af b,aG sc,bG [0,1,2,3,4,5] es,af fb]) (fun u=>by kernel_rfl) (by kernel_rfl) (aF (aH b) (aF (bb sc) (aF cy (aF (aH fb) bi)))) hq
abbrev N3:=fun(sc:List (Int×Int)) b es (ck:Nat) fb (dm dc dr no:Int) (i:Nat)=>(⟨[(6,aa 1)],Be sc b es ck fb dm dc dr⟩:ai)
theorem ZQ(sc:List (Int×Int))(b es)(ck:Nat)(fb)(dm dc dr no:Int)(i:Nat){Q:bo}(cy:aoS (bG [0,1,2,3,4,5] es) ag=true)(hq:Q (.ret (aa 1)) (Be sc b es ck fb dm dc dr)):aJ aoL 98 40 6 Q .ret (N3 sc b es ck fb dm dc dr no i):=aJ.ret (vs:=[aa 1]) (l:=[]) (bs:=[0,1,2,3,4,5]) (pl:=[1,2,3,5]) (q:=[af b,aG sc,bG [0,1,2,3,4,5] es,af fb]) (fun u=>by kernel_rfl) (by kernel_rfl) (aF (aH b) (aF (bb sc) (aF cy (aF (aH fb) bi)))) hq
abbrev N4:=fun(sc:List (Int×Int)) (b:ByteArray) es (ck:Nat) (fb:ByteArray) (dm dc dr no:Int) (i:Nat)=>(⟨[(6,aa (cE sc dc))],[ab ([ah 2 (aoM sc),.map (some 3),aa dm,.int .i64 (aoN .i64 (dc+1)),aa (cR sc dc dr)]) 80,ab (af b) 5,ab (aG sc) 77,.map es ck,ab [ah 6 (fb.size+b.size)] 173,.dead,ab (af fb++apd (b.size*1) (af b)) 5]⟩:ai)
theorem ZR(sc:List (Int×Int))(b:ByteArray)(es)(ck:Nat)(fb:ByteArray)(dm dc dr no:Int)(i:Nat){Q:bo}(aX:aoS (af b) ag=true)(bh:aoS (aG sc) ag=true)(cy:aoS (bG [0,1,2,3,4,5,6] es) ag=true)(hq:Q (.ret (aa (cE sc dc))) [ab ([ah 2 (aoM sc),.map (some 3),aa dm,.int .i64 (aoN .i64 (dc+1)),aa (cR sc dc dr)]) 80,ab (af b) 5,ab (aG sc) 77,.map es ck,ab [ah 6 (fb.size+b.size)] 173,.dead,ab (af fb++apd (b.size*1) (af b)) 5]):aJ aoL 98 40 6 Q .ret (N4 sc b es ck fb dm dc dr no i):=aJ.ret (vs:=[aa (cE sc dc)]) (l:=[]) (bs:=[0,1,2,3,4,5,6]) (pl:=[1,2,3,6]) (q:=[af b,aG sc,bG [0,1,2,3,4,5,6] es,af fb++apd (b.size*1) (af b)]) (fun u=>by kernel_rfl) (by kernel_rfl) (aF aX (aF bh (aF cy (aF (by simp) bi)))) hq
abbrev N5:=fun(sc:List (Int×Int)) b es (ck:Nat) (fb:ByteArray) (dm dc dr no:Int) (i:Nat)=>(⟨[(6,aa (cE sc dc))],[ab ([ah 2 (aoM sc),.map (some 3),aa dm,.int .i64 (aoN .i64 (dc+1)),aa (cR sc dc dr)]) 80,ab (af b) 5,ab (aG sc) 77,.map es ck,ab [ah 5 fb.size] 173,ab (af fb) 5]⟩:ai)
theorem ZS(sc:List (Int×Int))(b es)(ck:Nat)(fb:ByteArray)(dm dc dr no:Int)(i:Nat){Q:bo}(cy:aoS (bG [0,1,2,3,4,5] es) ag=true)(hq:Q (.ret (aa (cE sc dc))) [ab ([ah 2 (aoM sc),.map (some 3),aa dm,.int .i64 (aoN .i64 (dc+1)),aa (cR sc dc dr)]) 80,ab (af b) 5,ab (aG sc) 77,.map es ck,ab [ah 5 fb.size] 173,ab (af fb) 5]):aJ aoL 98 40 6 Q .ret (N5 sc b es ck fb dm dc dr no i):=aJ.ret (vs:=[aa (cE sc dc)]) (l:=[]) (bs:=[0,1,2,3,4,5]) (pl:=[1,2,3,5]) (q:=[af b,aG sc,bG [0,1,2,3,4,5] es,af fb]) (fun u=>by kernel_rfl) (by kernel_rfl) (aF (aH b) (aF (bb sc) (aF cy (aF (aH fb) bi)))) hq
theorem ZT(sc:List (Int×Int))(b:ByteArray)(es:List apl)(ck:Nat)(fb:ByteArray)(dm dc dr no:Int)(i:Nat)(hs:(aoM sc)≤1000000)(he:cg es=true)(hf:fm (aa no) es 0=some (some (i,al 4)))(hl:fb.size≤1000000)(hp:(aG sc).all ag=true)(h6:(bG ee es).all ag=true)(h4:(es.map (ed fun i=>(ee++fi 6 0)[i]?)).all ag=true){Q:aY}(n0:(dW [al 0,aa no] [al 0,aa no] [ab [ah 2 (aoM sc),are (some (0+1+1+1)),aa dm,aa dc,aa dr] 80,ab (af b) 5,ab (aG sc) 77,ak.map es ck,ab [ah 5 fb.size] 173,ab (af fb) 5] (fM sc (af b) es ck fb.size (af fb) dm dc dr))=true)(aX:aoS (af b) ag=true)(bh:aoS (aG sc) ag=true)(bD:aoS (bG [0,1,2,3,4,5] es) ag=true)(bx:aoS (af fb) ag=true)(l5:((b.size:Int)==0)=true→Q .ret (N2 sc b es ck fb dm dc dr no i))(l6:((b.size:Int)==0)=false→(decide ((b.size:Int)>1024))=true→Q .ret (N3 sc b es ck fb dm dc dr no i))(n7:((b.size:Int)==0)=false→(decide ((b.size:Int)>1024))=false→(dW [al 0] [al 0] [ab [ah 2 (aoM sc),are (some (0+1+1+1)),aa dm,aa dc,aa dr] 80,ab (af b) 5,ab (aG sc) 77,ak.map es ck,ab [ah 5 fb.size] 173,ab (af fb) 5] (fM sc (af b) es ck fb.size (af fb) dm dc dr))=true)(n8:((b.size:Int)==0)=false→(decide ((b.size:Int)>1024))=false→(cE sc dc==0)=true→(apf (fb.size+b.size) 1000000)=true)(n9:((b.size:Int)==0)=false→(decide ((b.size:Int)>1024))=false→(cE sc dc==0)=true→(aoS (apd (b.size*1) (af b)) apR)=true)(lj:aoS (bG [0,1,2,3,4,5,6] es) ag=true)(gJ:((b.size:Int)==0)=false→(decide ((b.size:Int)>1024))=false→(cE sc dc==0)=true→Q .ret (N4 sc b es ck fb dm dc dr no i))(jS:((b.size:Int)==0)=false→(decide ((b.size:Int)>1024))=false→(cE sc dc==0)=false→Q .ret (N5 sc b es ck fb dm dc dr no i)):an aoL 40 6 NT ⟨[(0,al 0),(1,aa no),(2,ah 1 b.size)],[ab [ah 2 (aoM sc),.map (some 3),aa dm,aa dc,aa dr] 80,ab (af b) 5,ab (aG sc) 77,.map es ck,ab [ah 5 fb.size] 173,ab (af fb) 5]⟩ Q:=
 aZ (ZC sc b es ck fb dm dc dr no hs he hf) 1000 (aA [3,1,1,1,1,1,1,1,1] (.fork 5 (aA [1,1,1] (.leaf [6] [0,1,2,3,4,5] [1,2,3,5])) (aA [0,2,0] (.fork 0 (.leaf [6] [0,1,2,3,4,5] [1,2,3,5]) (aA [3,1,1,1,1,1,1,1,1] (.fork 0 (aA [2,1,1,1,1,1,1] (.leaf [6] [0,1,2,3,4,5,6] [1,2,3,6])) (.leaf [6] [0,1,2,3,4,5] [1,2,3,5]))))))) (fun u=>by kernel_rfl) (mN (aH b) (mN (bb sc) (mN (show(aoS (apv (ed (eX ee)) es) ag)=true by assumption) (mN (aH fb) (mN n0 (mN (aH b) (mN (bb sc) (mN (show(aoS (apv (ed fun i=>(ee++fi 6 (aoM (fM sc (af b) es ck fb.size (af fb) dm dc dr)-6))[i]?) es) ag)=true by assumption) (mN (aH fb) (mF (c:=(b.size:Int)==0) (fun h0=>(NV 3 h0 (mN (aH b) (mN (bb sc) (mN bD (mN (aH fb) (mR (l5 h0)))))))) (fun h0=>(NV 3 h0 (mF (c:=decide ((b.size:Int)>1024)) (fun h1=>(mN (aH b) (mN (bb sc) (mN bD (mN (aH fb) (mR (l6 h0 h1))))))) (fun h1=>(mN (aH b) (mN (bb sc) (mN (show(aoS (apv (ed (eX ee)) es) ag)=true by assumption) (mN (aH fb) (mN (n7 h0 h1) (mN (aH b) (mN (bb sc) (mN (show(aoS (apv (ed fun i=>(ee++fi 6 (aoM (fM sc (af b) es ck fb.size (af fb) dm (aoN .i64 (dc+1)) (cR sc dc dr))-6))[i]?) es) ag)=true by assumption) (mN (aH fb) (mF (c:=cE sc dc==0) (fun h2=>(mN (show(apf (0+b.size*1) (aoM (af b)))=true by simp) (mN (n8 h0 h1 h2) (mN (n9 h0 h1 h2) (mN (show(ao6 (aoM (apd (b.size*1) (af b))) (b.size*1))=true by simp) (mN (lh _:(full fb.size fb.size)=true) (mN (show(ao6 (0+fb.size*1) (aoM (af fb)))=true by simp) (mN (aH b) (mN (bb sc) (mN lj (mN (show(aoS (af fb++apd (b.size*1) (af b)) ag)=true by simp) (mR (gJ h0 h1 h2))))))))))))) (fun h2=>(mN (aH b) (mN (bb sc) (mN bD (mN (aH fb) (mR (jS h0 h1 h2)))))))))))))))))))))))))))))))
abbrev N6:=fun(sc:List (Int×Int)) b es (ck:Nat) f5 (dm dc dr no:Int)=>(⟨[(6,aa 1)],[ab ([ah 2 (aoM sc),.map (some 3),aa dm,aa dc,aa dr]) 80,ab (af b) 5,ab (aG sc) 77,.map es ck,ab [] 173,ab f5 5]⟩:ai)
theorem ZU(sc:List (Int×Int))(b es)(ck:Nat)(f5)(dm dc dr no:Int){Q:bo}(cy:aoS (bG [0,1,2,3,4,5] es) ag=true)(bx:aoS f5 ag=true)(hq:Q (.ret (aa 1)) [ab ([ah 2 (aoM sc),.map (some 3),aa dm,aa dc,aa dr]) 80,ab (af b) 5,ab (aG sc) 77,.map es ck,ab [] 173,ab f5 5]):aJ aoL 98 40 6 Q .ret (N6 sc b es ck f5 dm dc dr no):=aJ.ret (vs:=[aa 1]) (l:=[]) (bs:=[0,1,2,3,4,5]) (pl:=[1,2,3,5]) (q:=[af b,aG sc,bG [0,1,2,3,4,5] es,f5]) (fun u=>by kernel_rfl) (by kernel_rfl) (aF (aH b) (aF (bb sc) (aF cy (aF bx bi)))) hq
theorem ZV(sc:List (Int×Int))(b:ByteArray)(es:List apl)(ck:Nat)(f5:List aoP)(dm dc dr no:Int)(hs:(aoM sc)≤1000000)(h0:(af b).all ag=true)(he:cg es=true)(h5:f5.all ag=true)(hf:fm (aa no) es 0=some none)(hp:(aG sc).all ag=true)(h6:(bG ee es).all ag=true)(h4:(es.map (ed fun i=>(ee++fi 6 0)[i]?)).all ag=true){Q:aY}(n0:(dW [al 0,aa no] [al 0,aa no] [ab [ah 2 (aoM sc),are (some (0+1+1+1)),aa dm,aa dc,aa dr] 80,ab (af b) 5,ab (aG sc) 77,ak.map es ck,ab [] 173,ab f5 5] (fE sc (af b) es ck 0 f5 dm dc dr))=true)(aX:aoS (af b) ag=true)(bh:aoS (aG sc) ag=true)(bD:aoS (bG [0,1,2,3,4,5] es) ag=true)(bx:aoS f5 ag=true)(l5:Q .ret (N6 sc b es ck f5 dm dc dr no)):an aoL 40 6 NT ⟨[(0,al 0),(1,aa no),(2,ah 1 b.size)],[ab [ah 2 (aoM sc),.map (some 3),aa dm,aa dc,aa dr] 80,ab (af b) 5,ab (aG sc) 77,.map es ck,ab [] 173,ab f5 5]⟩ Q:=
 aZ (Bd sc (af b) es ck f5 dm dc dr no (.pointer none) hs h0 he h5 hf rfl) 1000 (aA [3,1,1,1,1,1,1,1,1] (.leaf [6] [0,1,2,3,4,5] [1,2,3,5])) (fun u=>by kernel_rfl) (mN (aH b) (mN (bb sc) (mN (show(aoS (apv (ed (eX ee)) es) ag)=true by assumption) (mN (show(aoS f5 ag)=true by assumption) (mN n0 (mN (aH b) (mN (bb sc) (mN (show(aoS (apv (ed fun i=>(ee++fi 6 (aoM (fE sc (af b) es ck 0 f5 dm dc dr)-6))[i]?) es) ag)=true by assumption) (mN (show(aoS f5 ag)=true by assumption) (mN (aH b) (mN (bb sc) (mN bD (mN bx (mR l5))))))))))))))
abbrev N7:=fun(sc:List (Int×Int)) x0 es (ck:Nat) f5 (dm dc dr:Int)=>(⟨[(2,aa dr)],sq sc x0 es ck f5 dm dc dr⟩:ai)
theorem ZW(sc:List (Int×Int))(x0 es)(ck:Nat)(f5)(dm dc dr:Int){Q:bo}(aX:aoS x0 ag=true)(cy:aoS (bG [0,1,2,3,4,5] es) ag=true)(bx:aoS f5 ag=true)(hq:Q (.ret (aa dr)) (sq sc x0 es ck f5 dm dc dr)):aJ aoL 71 9 6 Q .ret (N7 sc x0 es ck f5 dm dc dr):=aJ.ret (vs:=[aa dr]) (l:=[]) (bs:=[0,1,2,3,4,5]) (pl:=[1,2,3,5]) (q:=[x0,aG sc,bG [0,1,2,3,4,5] es,f5]) (fun u=>by kernel_rfl) (by kernel_rfl) (aF aX (aF (bb sc) (aF cy (aF bx bi)))) hq
theorem ZX(sc:List (Int×Int))(x0 es)(ck:Nat)(f5)(dm dc dr:Int){Q:aY}(aX:aoS x0 ag=true)(bh:aoS (aG sc) ag=true)(bD:aoS (bG [0,1,2,3,4,5] es) ag=true)(bx:aoS f5 ag=true)(l4:Q .ret (N7 sc x0 es ck f5 dm dc dr)):an aoL 9 6 ZE ⟨[(0,al 0)],[ab [ah 2 (aoM sc),.map (some 3),aa dm,aa dc,aa dr] 80,ab x0 5,ab (aG sc) 77,.map es ck,ab [] 173,ab f5 5]⟩ Q:=
 aZ bt 1000 (.leaf [2] [0,1,2,3,4,5] [1,2,3,5]) (fun u=>by kernel_rfl) (mN aX (mN (bb sc) (mN bD (mN bx (mR l4)))))
abbrev N8:=fun(sc:List (Int×Int)) x0 es (ck:Nat) f5 (dm dc dr:Int)=>(⟨[(2,aa dc)],sq sc x0 es ck f5 dm dc dr⟩:ai)
theorem ZY(sc:List (Int×Int))(x0 es)(ck:Nat)(f5)(dm dc dr:Int){Q:bo}(aX:aoS x0 ag=true)(cy:aoS (bG [0,1,2,3,4,5] es) ag=true)(bx:aoS f5 ag=true)(hq:Q (.ret (aa dc)) (sq sc x0 es ck f5 dm dc dr)):aJ aoL 20 9 6 Q .ret (N8 sc x0 es ck f5 dm dc dr):=aJ.ret (vs:=[aa dc]) (l:=[]) (bs:=[0,1,2,3,4,5]) (pl:=[1,2,3,5]) (q:=[x0,aG sc,bG [0,1,2,3,4,5] es,f5]) (fun u=>by kernel_rfl) (by kernel_rfl) (aF aX (aF (bb sc) (aF cy (aF bx bi)))) hq
theorem ZZ(sc:List (Int×Int))(x0 es)(ck:Nat)(f5)(dm dc dr:Int){Q:aY}(aX:aoS x0 ag=true)(bh:aoS (aG sc) ag=true)(bD:aoS (bG [0,1,2,3,4,5] es) ag=true)(bx:aoS f5 ag=true)(l4:Q .ret (N8 sc x0 es ck f5 dm dc dr)):an aoL 9 6 ZF ⟨[(0,al 0)],[ab [ah 2 (aoM sc),.map (some 3),aa dm,aa dc,aa dr] 80,ab x0 5,ab (aG sc) 77,.map es ck,ab [] 173,ab f5 5]⟩ Q:=
 aZ bt 1000 (.leaf [2] [0,1,2,3,4,5] [1,2,3,5]) (fun u=>by kernel_rfl) (mN aX (mN (bb sc) (mN bD (mN bx (mR l4)))))
end
noncomputable section
def Z0(sc:List (Int×Int))(es:List apl)(ck:Nat)(fb:ByteArray)(dm dc dr:Int)(no:Int):List (apr×Sum):=[(68,Sum.one (fun _ _=>some ee) [al 0,aa no] (fM sc [] es ck fb.size (af fb) dm dc dr) (.ret (al 4)) (fM sc [] es ck fb.size (af fb) dm dc dr)),(69,Sum.one (fun _ _=>some ee) [al 0] (fM sc [] es ck fb.size (af fb) dm dc dr) (.ret (aa (cE sc dc))) (fM sc [] es ck fb.size (af fb) dm (aoN .i64 (dc+1)) (cR sc dc dr))),(103,Sum.of Gr)]
theorem Z1(sc:List (Int×Int))(es:List apl)(ck:Nat)(fb:ByteArray)(dm dc dr no:Int)(hs:(aoM sc)≤1000000)(he:cg es=true){i:Nat}(hf:fm (aa no) es 0=some (some (i,al 4))):dk aoL (dB aoL (dE (Z0 sc es ck fb dm dc dr no)) 50 40):=
 dI de mixed (dR (.cons (bB.one (Gt rfl rfl (by simp[fM]) hf)) (.cons (bB.one (NO sc [] es ck fb.size (af fb) dm dc dr hs (by simp) he (by simp))) (.cons Zi .nil)))) 50 40
noncomputable def N9:List apw:=bd (dC aoL 79)
open Tree renaming aW→mN,dn→mF,eS→mL,fA→mQ,dD→mR,fK→mE
def Oa:Nat→Bool→Bool→Tree→Tree
 |0,_,_,t=>t
 |n+1,d,b,t=>.cM d b (Oa n d b t)
theorem Bg{R:bj→ai→Prop}{c v:Bool}{t:Tree}(n:Nat)(h1:c=v)(h2:t.ok R):(Oa n c v t).ok R:=by
 induction n with
 |zero=>exact h2
 |succ n ih=>exact⟨h1,ih⟩
abbrev vW:=fun(sc:List (Int×Int)) es (ck:Nat) (fb:ByteArray) (dm dc dr:Int)=>([ab ([ah 2 (aoM sc),.map (some 3),aa dm,aa dc,aa dr]) 80,ab [] 5,ab (aG sc) 77,.map es ck,ab [ah 5 fb.size] 173,ab (af fb) 5]:List ak)
abbrev Ob:=fun(sc:List (Int×Int)) es (ck:Nat) fb (dm dc dr no p bZ:Int) (i:Nat)=>(⟨[(8,cm),(9,aa 1)],vW sc es ck fb dm dc dr⟩:ai)
theorem Z2(sc:List (Int×Int))(es)(ck:Nat)(fb)(dm dc dr no p bZ:Int)(i:Nat){Q:bo}(lP:aoS (bG [0,1,2,3,4,5] es) ag=true)(hq:Q (.ret (.tuple #[cm,aa 1])) (vW sc es ck fb dm dc dr)):aJ aoL 79 55 6 Q .ret (Ob sc es ck fb dm dc dr no p bZ i):=aJ.ret (vs:=[cm,aa 1]) (l:=[]) (bs:=[0,1,2,3,4,5]) (pl:=[2,3,5]) (q:=[aG sc,bG [0,1,2,3,4,5] es,af fb]) (fun u=>by kernel_rfl) (by kernel_rfl) (aF (bb sc) (aF lP (aF (aH fb) bi))) hq
abbrev Oc:=fun(sc:List (Int×Int)) es (ck:Nat) fb (dm dc dr no p bZ:Int) (i:Nat)=>(⟨[(8,cm),(9,aa 1)],vW sc es ck fb dm dc dr⟩:ai)
theorem Z3(sc:List (Int×Int))(es)(ck:Nat)(fb)(dm dc dr no p bZ:Int)(i:Nat){Q:bo}(lP:aoS (bG [0,1,2,3,4,5] es) ag=true)(hq:Q (.ret (.tuple #[cm,aa 1])) (vW sc es ck fb dm dc dr)):aJ aoL 79 55 6 Q .ret (Oc sc es ck fb dm dc dr no p bZ i):=aJ.ret (vs:=[cm,aa 1]) (l:=[]) (bs:=[0,1,2,3,4,5]) (pl:=[2,3,5]) (q:=[aG sc,bG [0,1,2,3,4,5] es,af fb]) (fun u=>by kernel_rfl) (by kernel_rfl) (aF (bb sc) (aF lP (aF (aH fb) bi))) hq
abbrev Od:=fun(sc:List (Int×Int)) es (ck:Nat) fb (dm dc dr no p bZ:Int) (i:Nat)=>(⟨[(8,cm),(9,aa 1)],vW sc es ck fb dm dc dr⟩:ai)
theorem Z4(sc:List (Int×Int))(es)(ck:Nat)(fb)(dm dc dr no p bZ:Int)(i:Nat){Q:bo}(lP:aoS (bG [0,1,2,3,4,5] es) ag=true)(hq:Q (.ret (.tuple #[cm,aa 1])) (vW sc es ck fb dm dc dr)):aJ aoL 79 55 6 Q .ret (Od sc es ck fb dm dc dr no p bZ i):=aJ.ret (vs:=[cm,aa 1]) (l:=[]) (bs:=[0,1,2,3,4,5]) (pl:=[2,3,5]) (q:=[aG sc,bG [0,1,2,3,4,5] es,af fb]) (fun u=>by kernel_rfl) (by kernel_rfl) (aF (bb sc) (aF lP (aF (aH fb) bi))) hq
abbrev Oe:=fun(sc:List (Int×Int)) es (ck:Nat) (fb:ByteArray) (dm dc dr no p bZ:Int) (i:Nat)=>(⟨[(8,cm),(9,aa (cE sc dc))],[ab ([ah 2 (aoM sc),.map (some 3),aa dm,.int .i64 (aoN .i64 (dc+1)),aa (cR sc dc dr)]) 80,ab [] 5,ab (aG sc) 77,.map es ck,ab [ah 5 fb.size] 173,ab (af fb) 5]⟩:ai)
theorem Z5(sc:List (Int×Int))(es)(ck:Nat)(fb:ByteArray)(dm dc dr no p bZ:Int)(i:Nat){Q:bo}(lP:aoS (bG [0,1,2,3,4,5] es) ag=true)(hq:Q (.ret (.tuple #[cm,aa (cE sc dc)])) [ab ([ah 2 (aoM sc),.map (some 3),aa dm,.int .i64 (aoN .i64 (dc+1)),aa (cR sc dc dr)]) 80,ab [] 5,ab (aG sc) 77,.map es ck,ab [ah 5 fb.size] 173,ab (af fb) 5]):aJ aoL 79 55 6 Q .ret (Oe sc es ck fb dm dc dr no p bZ i):=aJ.ret (vs:=[cm,aa (cE sc dc)]) (l:=[]) (bs:=[0,1,2,3,4,5]) (pl:=[2,3,5]) (q:=[aG sc,bG [0,1,2,3,4,5] es,af fb]) (fun u=>by kernel_rfl) (by kernel_rfl) (aF (bb sc) (aF lP (aF (aH fb) bi))) hq
abbrev Of:=fun(sc:List (Int×Int)) es (ck:Nat) (fb:ByteArray) (dm dc dr no p bZ:Int) (i:Nat)=>(⟨[(8,ah 6 (aoO (if bZ<(↑(fb.size-aoO p):Int)then bZ else(↑(fb.size-aoO p):Int))-0)),(9,aa 0)],[ab ([ah 2 (aoM sc),.map (some 3),aa dm,.int .i64 (aoN .i64 (dc+1)),aa (cR sc dc dr)]) 80,ab [] 5,ab (aG sc) 77,.map es ck,ab [ah 5 fb.size] 173,ab (af fb) 5,ab (apd (aoO (if bZ<(↑(fb.size-aoO p):Int)then bZ else(↑(fb.size-aoO p):Int))-0) (aqz (0+aoO p*1+0) (af fb))) 5]⟩:ai)
theorem Z6(sc:List (Int×Int))(es)(ck:Nat)(fb:ByteArray)(dm dc dr no p bZ:Int)(i:Nat){Q:bo}(aX:aoS (aG sc) ag=true)(lP:aoS (bG [0,1,2,3,4,5,6] es) ag=true)(bD:aoS (af fb) ag=true)(hq:Q (.ret (.tuple #[ah 6 (aoO (if bZ<(↑(fb.size-aoO p):Int)then bZ else(↑(fb.size-aoO p):Int))-0),aa 0])) [ab ([ah 2 (aoM sc),.map (some 3),aa dm,.int .i64 (aoN .i64 (dc+1)),aa (cR sc dc dr)]) 80,ab [] 5,ab (aG sc) 77,.map es ck,ab [ah 5 fb.size] 173,ab (af fb) 5,ab (apd (aoO (if bZ<(↑(fb.size-aoO p):Int)then bZ else(↑(fb.size-aoO p):Int))-0) (aqz (0+aoO p*1+0) (af fb))) 5]):aJ aoL 79 55 6 Q .ret (Of sc es ck fb dm dc dr no p bZ i):=aJ.ret (vs:=[ah 6 (aoO (if bZ<(↑(fb.size-aoO p):Int)then bZ else(↑(fb.size-aoO p):Int))-0),aa 0]) (l:=[]) (bs:=[0,1,2,3,4,5,6]) (pl:=[2,3,5,6]) (q:=[aG sc,bG [0,1,2,3,4,5,6] es,af fb,apd (aoO (if bZ<(↑(fb.size-aoO p):Int)then bZ else(↑(fb.size-aoO p):Int))-0) (aqz (0+aoO p*1+0) (af fb))]) (fun u=>by kernel_rfl) (by kernel_rfl) (aF aX (aF lP (aF bD (aF (by simp) bi)))) hq
theorem Z7(sc:List (Int×Int))(es:List apl)(ck:Nat)(fb:ByteArray)(dm dc dr no p bZ:Int)(i:Nat)(hs:(aoM sc)≤1000000)(he:cg es=true)(hf:fm (aa no) es 0=some (some (i,al 4)))(hl:fb.size≤1000000)(hp:(aG sc).all ag=true)(h6:(bG ee es).all ag=true)(h4:(es.map (ed fun i=>(ee++fi 6 0)[i]?)).all ag=true){Q:aY}(n0:(dW [al 0,aa no] [al 0,aa no] [ab [ah 2 (aoM sc),are (some (0+1+1+1)),aa dm,aa dc,aa dr] 80,ab [] 5,ab (aG sc) 77,ak.map es ck,ab [ah 5 fb.size] 173,ab (af fb) 5] (fM sc [] es ck fb.size (af fb) dm dc dr))=true)(aX:aoS (aG sc) ag=true)(bh:aoS (bG [0,1,2,3,4,5] es) ag=true)(bD:aoS (af fb) ag=true)(l4:(decide (p<0))=true→Q .ret (Ob sc es ck fb dm dc dr no p bZ i))(l5:(decide (p<0))=false→(decide (p>(fb.size:Int)))=true→Q .ret (Oc sc es ck fb dm dc dr no p bZ i))(l6:(decide (p<0))=false→(decide (p>(fb.size:Int)))=false→(decide (bZ<1))=true→Q .ret (Od sc es ck fb dm dc dr no p bZ i))(n7:(decide (p<0))=false→(decide (p>(fb.size:Int)))=false→(decide (bZ<1))=false→(dW [al 0] [al 0] [ab [ah 2 (aoM sc),are (some (0+1+1+1)),aa dm,aa dc,aa dr] 80,ab [] 5,ab (aG sc) 77,ak.map es ck,ab [ah 5 fb.size] 173,ab (af fb) 5] (fM sc [] es ck fb.size (af fb) dm dc dr))=true)(l8:(decide (p<0))=false→(decide (p>(fb.size:Int)))=false→(decide (bZ<1))=false→(cE sc dc != 0)=true→Q .ret (Oe sc es ck fb dm dc dr no p bZ i))(n9:(decide (p<0))=false→(decide (p>(fb.size:Int)))=false→(decide (bZ<1))=false→(cE sc dc != 0)=false→(Bc (af fb) (0+aoO p*1+0) (aoO (if bZ<(↑(fb.size-aoO p):Int)then bZ else(↑(fb.size-aoO p):Int))-0) (fb.size-aoO p-0) 5 false)=true)(bx:aoS (bG [0,1,2,3,4,5,6] es) ag=true)(gJ:(decide (p<0))=false→(decide (p>(fb.size:Int)))=false→(decide (bZ<1))=false→(cE sc dc != 0)=false→Q .ret (Of sc es ck fb dm dc dr no p bZ i)):an aoL 55 6 N9 ⟨[(0,al 0),(1,aa no),(2,aa p),(3,aa bZ)],[ab [ah 2 (aoM sc),.map (some 3),aa dm,aa dc,aa dr] 80,ab [] 5,ab (aG sc) 77,.map es ck,ab [ah 5 fb.size] 173,ab (af fb) 5]⟩ Q:=
 aZ (Z1 sc es ck fb dm dc dr no hs he hf) 1000 (aA [5,1,1,1,3,1,1] (.fork 3 (aA [1,1,1,1,1,1,1,1] (.leaf [8,9] [0,1,2,3,4,5] [2,3,5])) (aA [0,0,0,0,0,2,2,0] (.fork 0 (aA [1,1] (.leaf [8,9] [0,1,2,3,4,5] [2,3,5])) (aA [0,0] (.fork 0 (.leaf [8,9] [0,1,2,3,4,5] [2,3,5]) (aA [5,1,1,1,3,1,1] (.fork 0 (.leaf [8,9] [0,1,2,3,4,5] [2,3,5]) (aA [2,1,1,1,4,1,3,3,1,1,1] (.leaf [8,9] [0,1,2,3,4,5,6] [2,3,5,6])))))))))) (fun u=>by kernel_rfl) (mN (bb sc) (mN (show(aoS (apv (ed (eX ee)) es) ag)=true by assumption) (mN (aH fb) (mN n0 (mN (bb sc) (mN (show(aoS (apv (ed fun i=>(ee++fi 6 (aoM (fM sc [] es ck fb.size (af fb) dm dc dr)-6))[i]?) es) ag)=true by assumption) (mN (aH fb) (mF (c:=decide (p<0)) (fun h0=>(Bg 8 h0 (mN (bb sc) (mN bh (mN (aH fb) (mR (l4 h0))))))) (fun h0=>(Bg 8 h0 (mF (c:=decide (p>(fb.size:Int))) (fun h1=>(Bg 2 h1 (mN (bb sc) (mN bh (mN (aH fb) (mR (l5 h0 h1))))))) (fun h1=>(Bg 2 h1 (mF (c:=decide (bZ<1)) (fun h2=>(mN (bb sc) (mN bh (mN (aH fb) (mR (l6 h0 h1 h2)))))) (fun h2=>(mN (bb sc) (mN (show(aoS (apv (ed (eX ee)) es) ag)=true by assumption) (mN (aH fb) (mN (n7 h0 h1 h2) (mN (bb sc) (mN (show(aoS (apv (ed fun i=>(ee++fi 6 (aoM (fM sc [] es ck fb.size (af fb) dm (aoN .i64 (dc+1)) (cR sc dc dr))-6))[i]?) es) ag)=true by assumption) (mN (aH fb) (mF (c:=cE sc dc != 0) (fun h3=>(mN (bb sc) (mN bh (mN (aH fb) (mR (l8 h0 h1 h2 h3)))))) (fun h3=>(mN (show(decide (0≤p))=true by simp at hs he hf hl hp h6 h4 h0 h1 h2 h3⊢ <;>omega) (mN (show(apf (aoO p) fb.size)=true by simp at hs he hf hl hp h6 h4 h0 h1 h2 h3⊢ <;>omega) (mN (show(apf fb.size fb.size)=true by simp) (mN (show(decide (0≤if bZ<(↑(fb.size-aoO p):Int)then bZ else(↑(fb.size-aoO p):Int)))=true by simp at hs he hf hl hp h6 h4 h0 h1 h2 h3⊢ <;>omega) (mN (show(apf (aoO (if bZ<(↑(fb.size-aoO p):Int)then bZ else(↑(fb.size-aoO p):Int))) (fb.size-aoO p))=true by simp at hs he hf hl hp h6 h4 h0 h1 h2 h3⊢ <;>omega) (mN (aH fb) (mN (n9 h0 h1 h2 h3) (mN (aH fb) (mN (show(aoS (apd (aoO (if bZ<(↑(fb.size-aoO p):Int)then bZ else(↑(fb.size-aoO p):Int))-0) (aqz (0+aoO p*1+0) (af fb))) ag)=true by simp) (mN (bb sc) (mN bx (mN (aH fb) (mN (show(aoS (apd (aoO (if bZ<(↑(fb.size-aoO p):Int)then bZ else(↑(fb.size-aoO p):Int))-0) (aqz (0+aoO p*1+0) (af fb))) ag)=true by simp) (mR (gJ h0 h1 h2 h3)))))))))))))))))))))))))))))))))))))))
abbrev Og:=fun(sc:List (Int×Int)) x0 es (ck:Nat) f5 (dm dc dr no p bZ:Int)=>(⟨[(8,cm),(9,aa 1)],[ab ([ah 2 (aoM sc),.map (some 3),aa dm,aa dc,aa dr]) 80,ab x0 5,ab (aG sc) 77,.map es ck,ab [] 173,ab f5 5]⟩:ai)
theorem Z8(sc:List (Int×Int))(x0 es)(ck:Nat)(f5)(dm dc dr no p bZ:Int){Q:bo}(aX:aoS x0 ag=true)(cy:aoS (bG [0,1,2,3,4,5] es) ag=true)(bx:aoS f5 ag=true)(hq:Q (.ret (.tuple #[cm,aa 1])) [ab ([ah 2 (aoM sc),.map (some 3),aa dm,aa dc,aa dr]) 80,ab x0 5,ab (aG sc) 77,.map es ck,ab [] 173,ab f5 5]):aJ aoL 79 55 6 Q .ret (Og sc x0 es ck f5 dm dc dr no p bZ):=aJ.ret (vs:=[cm,aa 1]) (l:=[]) (bs:=[0,1,2,3,4,5]) (pl:=[1,2,3,5]) (q:=[x0,aG sc,bG [0,1,2,3,4,5] es,f5]) (fun u=>by kernel_rfl) (by kernel_rfl) (aF aX (aF (bb sc) (aF cy (aF bx bi)))) hq
theorem Z9(sc:List (Int×Int))(x0:List aoP)(es:List apl)(ck:Nat)(f5:List aoP)(dm dc dr no p bZ:Int)(hs:(aoM sc)≤1000000)(h0:x0.all ag=true)(he:cg es=true)(h5:f5.all ag=true)(hf:fm (aa no) es 0=some none)(hp:(aG sc).all ag=true)(h6:(bG ee es).all ag=true)(h4:(es.map (ed fun i=>(ee++fi 6 0)[i]?)).all ag=true){Q:aY}(n0:(dW [al 0,aa no] [al 0,aa no] [ab [ah 2 (aoM sc),are (some (0+1+1+1)),aa dm,aa dc,aa dr] 80,ab x0 5,ab (aG sc) 77,ak.map es ck,ab [] 173,ab f5 5] (fE sc x0 es ck 0 f5 dm dc dr))=true)(aX:aoS x0 ag=true)(bh:aoS (aG sc) ag=true)(bD:aoS (bG [0,1,2,3,4,5] es) ag=true)(bx:aoS f5 ag=true)(l5:Q .ret (Og sc x0 es ck f5 dm dc dr no p bZ)):an aoL 55 6 N9 ⟨[(0,al 0),(1,aa no),(2,aa p),(3,aa bZ)],[ab [ah 2 (aoM sc),.map (some 3),aa dm,aa dc,aa dr] 80,ab x0 5,ab (aG sc) 77,.map es ck,ab [] 173,ab f5 5]⟩ Q:=
 aZ (Bd sc x0 es ck f5 dm dc dr no (.pointer none) hs h0 he h5 hf rfl) 1000 (aA [3,1,1,1,1,1,1,1,1] (.leaf [8,9] [0,1,2,3,4,5] [1,2,3,5])) (fun u=>by kernel_rfl) (mN (show(aoS x0 ag)=true by assumption) (mN (bb sc) (mN (show(aoS (apv (ed (eX ee)) es) ag)=true by assumption) (mN (show(aoS f5 ag)=true by assumption) (mN n0 (mN (show(aoS x0 ag)=true by assumption) (mN (bb sc) (mN (show(aoS (apv (ed fun i=>(ee++fi 6 (aoM (fE sc x0 es ck 0 f5 dm dc dr)-6))[i]?) es) ag)=true by assumption) (mN (show(aoS f5 ag)=true by assumption) (mN aX (mN (bb sc) (mN bD (mN bx (mR l5))))))))))))))
end
structure ca(d:au):Prop where
 bW:d.bS.length≤1000000
 made:d.made≤64
 keys:∀p∈d.files,p.1≤d.made
 fH:(d.files.map (·.1)).Nodup
 size:∀p∈d.files,p.2.size≤1000000
 cin:aoN .i64 d.calls=d.calls
noncomputable def lQ(d:au):Bool:=@decide (ca d) (apj _)
theorem nl{d:au}:lQ d=true↔ca d:=by unfold lQ;exact @decide_eq_true_iff _ (apj _)
def fF(d:au):au:={d with calls:=aoN .i64 (d.calls+1),raw:=cR d.bS d.calls d.raw}
abbrev ij(d:au):Int:=cE d.bS d.calls
def bH(d:au):Int×Int×au:=
 if d.made=64 then(0,17,d)else if ij d≠0 then(0,ij d,fF d)else((d.made:Int)+1,0,{fF d with made:=d.made+1,files:=d.files++[(d.made+1,aoZ)]})
def fileOf(l:List (Nat×ByteArray))(no:Int):Option ByteArray:=(l.find? fun p=>(p.1:Int)==no).map (·.2)
def lk(l:List (Nat×ByteArray))(no:Int)(b:ByteArray):List (Nat×ByteArray):=l.map fun p=>if(p.1:Int)==no then(p.1,p.2++b)else p
def ll(l:List (Nat×ByteArray))(no:Int):List (Nat×ByteArray):=l.filter fun p=> !((p.1:Int)==no)
def bU(d:au)(no:Int)(b:ByteArray):Int×au:=match fileOf d.files no with
 |none=>(1,d)
 |some _=>if b.size=0∨1024<b.size then(1,d)else if ij d≠0 then(ij d,fF d)else(0,{fF d with files:=lk d.files no b})
def cF(d:au)(no:Int):Int×au:=match fileOf d.files no with
 |none=>(1,d)
 |some _=>if ij d≠0 then(ij d,fF d)else(0,{fF d with files:=ll d.files no})
def aP(d:au)(no p bZ:Int):ByteArray×Int×au:=match fileOf d.files no with
 |none=>(aoZ,1,d)
 |some f=>if p<0∨(f.size:Int)<p∨bZ<1 then(aoZ,1,d)else if ij d≠0 then(aoZ,ij d,fF d)else(f.extract p.toNat (p.toNat+min (f.size-p.toNat) bZ.toNat),0,fF d)
theorem Gu{A:List (Nat×ByteArray)}{eA:List apl}{LA:List (Nat×CO)}(h:fw A eA LA){x:Int}(hx:∀p∈A,(p.1:Int)≠x)(t:List apl)(i:Nat):fm (.int .i64 x) (bX eA++t) i=fm (.int .i64 x) t (i+eA.length):=by
 induction h generalizing i with
 |nil=>rfl
 |cons p k sh l es L L' hf ht hp ih=>
  have h1:(x==(p.1:Int))=false:=by simpa using fun e=>hx p ape e.symm
  show fm (.int .i64 x) (aqf (.int .i64 p.1) (.pointer (some ⟨k,sh,some 0⟩)) (p.1-1)::(bX es++t)) i=_
  conv=>lhs;unfold fm
  simp only[beq_self_eq_true,h1,Bool.false_eq_true,if_false]
  rw[ih (fun q hq=>hx q (apc _ hq)),apC,show i+1+es.length=i+(es.length+1)by omega]
theorem nT{A:List (Nat×ByteArray)}{eA:List apl}{LA:List (Nat×CO)}(h:fw A eA LA):cg (bX eA)=true:=by
 induction h with
 |nil=>rfl
 |cons p k sh l es L L' hf ht hp ih=>
  have xK:(bX es).all A4=true:=ih
  show aoS (_::bX es) A4=true
  rw[List.all_cons,xK]
  rfl
theorem vX{a b:List apl}(ha:cg a=true)(hb:cg b=true):cg (a++b)=true:=by
 unfold cg at*
 rw[asT,ha,hb];rfl
theorem aaa{A:List (Nat×ByteArray)}{eA:List apl}{LA:List (Nat×CO)}(h:fw A eA LA):eA.length=A.length:=by
 induction h with
 |nil=>rfl
 |cons p k sh l es L L' hf ht hp ih=>simp[ih]
theorem aab{l:List (Nat×ByteArray)}{no:Int}(h:fileOf l no=none):∀p∈l,(p.1:Int)≠no:=by
 unfold fileOf at h
 rw[Option.map_eq_none_iff,List.find?_eq_none]at h
 intro p hp e
 have:=h p hp
 simp[e]at this
theorem Gv{l:List (Nat×ByteArray)}{no:Int}{f:ByteArray}(h:fileOf l no=some f):∃A p C,l=A++([p]++C)∧(p.1:Int)=no∧p.2=f∧∀q∈A,(q.1:Int)≠no:=by
 unfold fileOf at h
 rw[Option.map_eq_some_iff]at h
 obtain⟨p,h1,h2⟩:=h
 obtain⟨h3,A,C,h4,h5⟩:=List.find?_eq_some_iff_append.1 h1
 refine⟨A,p,C,h4,by simpa using h3,h2,fun q hq e=>?_⟩
 have:=h5 q hq
 simp[e]at this
theorem Oh{A C:List (Nat×ByteArray)}{p:Nat×ByteArray}(h:((A++([p]++C)).map (·.1)).Nodup){no:Int}(hp:(p.1:Int)=no):∀q∈C,(q.1:Int)≠no:=fun q hq e=>by
 rw[apK,apK]at h
 have:=(apU.1 (apU.1 h).2.1).2.2 p.1 (by simp) q.1 (aqY hq)
 omega
theorem aac{A C:List (Nat×ByteArray)}{p:Nat×ByteArray}{no:Int}(hp:(p.1:Int)=no)(hA:∀q∈A,(q.1:Int)≠no)(hC:∀q∈C,(q.1:Int)≠no)(b:ByteArray):lk (A++([p]++C)) no b=A++([(p.1,p.2++b)]++C):=by
 have key:∀l:List (Nat×ByteArray),(∀q∈l,(q.1:Int)≠no)→lk l no b=l:=fun l hl=>by
  unfold lk
  rw[aq0 (g:=id) fun q hq=>by simp[hl q hq],atG]
 unfold lk at*
 rw[apK,apK,key A hA,key C hC]
 simp[hp]
theorem aad{A C:List (Nat×ByteArray)}{p:Nat×ByteArray}{no:Int}(hp:(p.1:Int)=no)(hA:∀q∈A,(q.1:Int)≠no)(hC:∀q∈C,(q.1:Int)≠no):ll (A++([p]++C)) no=A++C:=by
 have key:∀l:List (Nat×ByteArray),(∀q∈l,(q.1:Int)≠no)→ll l no=l:=fun l hl=>by
  unfold ll
  rw[List.filter_eq_self]
  intro q hq
  simp[hl q hq]
 unfold ll at*
 rw[aua,aua,key A hA,key C hC]
 simp[hp]
theorem jT{l:List ak}(h:l.all (fun o=> !o.ro)=true):∀o∈l,o.ro=false:=fun o ho=>by simpa using aps.1 h o ho
theorem aI.yq{f:apr}{args:List aoP}{objs:List ak}{Q:bO→List ak→Prop}(h:aI aoL f args objs fun r o=>∃d n,o=.abs d::atP n .dead∧(∃r',qI (eX [0]) r=some r'∧Q r' [.abs d]))(hl:objs.length=1):aI aoL f args objs Q:=by
 refine aI.trim h ?_
 rintro r o ⟨d,n,rfl,r',h1,h2⟩
 refine⟨[0],[],r',[.abs d],[],?_,fun c hc=>(by cases hc),h2⟩
 rw[hl]
 unfold oQ
 simp only[getAll,apE,arT,asg,pN,h1]
 rfl
theorem aae(d:au)(hd:ca d):aI aoL 97 [.pointer (some ⟨0,0,none⟩)] [.abs d] fun r o=>r=.ret (.tuple #[.int .i64 (bH d).1,.int .i64 (bH d).2.1])∧o=[.abs (bH d).2.2]:=by
 refine aI.yq (aI.ym (x0:=[]) fun eR L2 hf=>?_) rfl
 have he:=nT hf
 have jv:xV (bX eR) (aoW ao2 (aoN ao2 ((d.made:Int)+1)))=true:=by
  have hw:aoN ao2 ((d.made:Int)+1)=(d.made:Int)+1:=ng (by omega) (by have:=hd.made;omega)
  have:=Gu hf (x:=(d.made:Int)+1) (fun p hp=>by have:=hd.keys p hp;omega) [] 0
  rw[aqm]at this
  unfold xV
  rw[hw,this]
  rfl
 have hm:=hd.made
 have hw:aoN ao2 ((d.made:Int)+1)=(d.made:Int)+1:=ng (by omega) (by omega)
 have dJ:∀n,(bG [0,1,2,3,4,5,6] (bX eR++[aqf (aoW ao2 (aoN ao2 ((d.made:Int)+1))) (apZ (some (asq 6 0 none))) n])).all ag=true:=fun n=>by
  unfold bG
  rw[apK,asT]
  have h1:=cg.idx he [6]
  unfold bG at h1
  rw[show([0,1,2,3,4,5]++[6]:List Nat)=[0,1,2,3,4,5,6]from rfl]at h1
  rw[h1]
  rfl
 refine aI.cY (n:=cp aoL 97) (by kernel_rfl) ?_
 apply ZJ d.bS [] (bX eR) d.made [] d.made d.calls d.raw hd.bW rfl he rfl (by omega) (by omega) hw (bb _) (cg.idx he []) (cg.qP he [])
 case aX=>rfl
 case bh=>exact bb _
 case bD=>exact cg.idx he []
 case bx=>rfl
 case l4=>
  intro g
  have g:(d.made:Int)=64:=by simpa using g
  have g:d.made=64:=by omega
  refine ZG d.bS [] (bX eR) d.made [] d.made d.calls d.raw rfl (cg.idx he []) rfl ?_
  refine⟨d,[1,2,3,4,5],⟨⟨d.files,[],[],eR,[],[],[],[],L2,[],[],by simp,by simp,by simp,hf,.nil,rfl,by simp,rfl,by simp[bX],.none⟩,rfl,rfl,rfl,jT (by rfl),by simp⟩,d,5,rfl,_,rfl,?_,?_⟩
  ·unfold bH;rw[if_pos g]
  ·unfold bH;rw[if_pos g]
 case n5=>intro g;exact e8 rfl rfl
 case l6=>
  intro g g1
  have g:¬(d.made:Int)=64:=by simpa using g
  have g:¬d.made=64:=by omega
  have g1:ij d≠0:=by simpa using g1
  refine ZH d.bS [] (bX eR) d.made [] d.made d.calls d.raw rfl (cg.idx he []) rfl ?_
  refine⟨fF d,[1,2,3,4,5],⟨⟨d.files,[],[],eR,[],[],[],[],L2,[],[],by simp,by simp,by simp,hf,.nil,rfl,by simp[fF],rfl,by simp[bX,fF],.none⟩,rfl,rfl,rfl,jT (by rfl),by simp⟩,fF d,5,rfl,_,rfl,?_,?_⟩
  ·unfold bH;rw[if_neg g,if_pos g1]
  ·unfold bH;rw[if_neg g,if_pos g1]
 case n7=>intro g g1;exact jv
 case lj=>exact dJ d.made
 case l9=>
  intro g g1
  have g:¬(d.made:Int)=64:=by simpa using g
  have g:¬d.made=64:=by omega
  have g1:¬ij d≠0:=by simpa using g1
  refine ZI d.bS [] (bX eR) d.made [] d.made d.calls d.raw rfl (dJ d.made) rfl ?_
  rw[hw]
  refine⟨{fF d with made:=d.made+1,files:=d.files++[(d.made+1,aoZ)]},[1,2,3,4,5,6],⟨⟨d.files,[],[],eR,[],[],[(d.made+1,aoZ)],[aqf (aoW .i64 ((d.made+1:Nat):Int)) (apZ (some ⟨6,0,none⟩)) d.made],L2,[],[],by simp,by simp,by simp,hf,.nil,rfl,by simp,rfl,by simp[bX],.empty _ 6 rfl rfl ⟨by omega,rfl⟩ (Nat.succ_le_succ (apN _))⟩,rfl,rfl,rfl,jT (by rfl),by simp⟩,_,6,rfl,_,rfl,?_,?_⟩
  ·unfold bH;rw[if_neg g,if_neg g1]
  ·unfold bH;rw[if_neg g,if_neg g1]
theorem aaf(x:Int)(v:aoP)(born:Nat)(t:List apl)(i:Nat):fm (.int .i64 x) (aqf (.int .i64 x) v born::t) i=some (some (i,v)):=by
 conv=>lhs;unfold fm
 simp
theorem aag{l:List (Nat×ByteArray)}{eR:List apl}{L2:List (Nat×CO)}{A C:List (Nat×ByteArray)}{p:Nat×ByteArray}(h:fw l eR L2)(hl:l=A++([p]++C)):
 ∃eA eC k sh LA LF LC,eR=eA++([aqf (aoW .i64 p.1) (apZ (some ⟨k,sh,none⟩)) (p.1-1)]++eC)∧L2=LA++(LF++LC)∧fw A eA LA∧fw C eC LC:=by
 subst hl
 obtain⟨eA,e1,LA,L1,rfl,rfl,h1,h2⟩:=vO h
 cases h2 with
 |cons _ k sh _ es L L' a b hp=>exact⟨eA,es,k,sh,LA,L,L',rfl,rfl,h1,b⟩
theorem Oi(a b:List apl):bX (a++b)=bX a++bX b:=by unfold bX;rw[apK]
theorem Gw{l:List (Nat×ByteArray)}{eR:List apl}{L2:List (Nat×CO)}(h:fw l eR L2){no:Int}(hn:fileOf l no=none):fm (.int .i64 no) (bX eR) 0=some none:=by
 have:=Gu h (aab hn) [] 0
 rw[aqm]at this
 rw[this];rfl
theorem Gx{A:List (Nat×ByteArray)}{eA:List apl}{LA:List (Nat×CO)}(h:fw A eA LA){no:Int}(hA:∀q∈A,(q.1:Int)≠no){p:Nat×ByteArray}(hp:(p.1:Int)=no)(v:aoP)(born:Nat)(t:List apl):
 fm (.int .i64 no) (bX eA++([aqf (aoW .i64 p.1) v born]++t)) 0=some (some (eA.length,v)):=by
 rw[Gu h hA,hp]
 show fm _ (_::t) _=_
 rw[aaf,aqr]
theorem aI.Oj{f:apr}{args:List aoP}{objs:List ak}{Q:bO→List ak→Prop}{c:List aoP}{el:TypeId}(hc:c.all ag=true)(h:aI aoL f args objs fun r o=>∃d n,o=.abs d:: .cells c el false::atP n .dead∧(∃r',qI (eX [0,1]) r=some r'∧Q r' [.abs d,.cells c el false]))(hl:objs.length=2):aI aoL f args objs Q:=by
 refine aI.trim h ?_
 rintro r o ⟨d,n,rfl,r',h1,h2⟩
 refine⟨[0,1],[1],r',[.abs d,.cells c el false],[c],?_,fun c' oF=>(by rw[apP]at oF;subst oF;exact hc),h2⟩
 rw[hl]
 unfold oQ
 simp only[getAll,apE,ap5,arT,asg,pN,h1]
 rfl
theorem aah(d:au)(hd:ca d)(no:Int):aI aoL 43 [.pointer (some ⟨0,0,none⟩),.int .i64 no] [.abs d] fun r o=>r=.ret (.int .i64 (cF d no).1)∧o=[.abs (cF d no).2]:=by
 refine aI.yq (aI.ym (x0:=[]) fun eR L2 hf=>?_) rfl
 have he:=nT hf
 refine aI.cY (n:=cp aoL 43) (by kernel_rfl) ?_
 cases hn:fileOf d.files no with
 |none=>
  apply ZO d.bS [] (bX eR) d.made [] d.made d.calls d.raw no hd.bW rfl he rfl (Gw hf hn) (bb _) (cg.idx he []) (cg.qP he [])
  case n0=>exact e8 rfl rfl
  case aX=>rfl
  case bh=>exact bb _
  case bD=>exact cg.idx he []
  case bx=>rfl
  case l5=>
   refine ZN d.bS [] (bX eR) d.made [] d.made d.calls d.raw no rfl (cg.idx he []) rfl ?_
   refine⟨d,[1,2,3,4,5],⟨⟨d.files,[],[],eR,[],[],[],[],L2,[],[],by simp,by simp,by simp,hf,.nil,rfl,by simp,rfl,by simp[bX],.none⟩,rfl,rfl,rfl,jT (by rfl),by simp⟩,d,5,rfl,_,rfl,?_,?_⟩
   ·unfold cF;rw[hn]
   ·unfold cF;rw[hn]
 |some f=>
  obtain⟨A,p,C,hl,hp,Bh,hA⟩:=Gv hn
  have hC:∀q∈C,(q.1:Int)≠no:=Oh (p:=p) (by rw[←hl];exact hd.fH) hp
  obtain⟨eA,eC,k,sh,LA,LF,LC,rfl,rfl,h1,h2⟩:=aag hf hl
  have ui:fm (.int .i64 no) (bX (eA++([aqf (aoW .i64 p.1) (apZ (some ⟨k,sh,none⟩)) (p.1-1)]++eC))) 0=some (some (eA.length,.pointer (some ⟨k,sh,some 0⟩))):=by
   rw[Oi]
   exact Gx h1 hA hp _ _ _
  have hk:vn (bX (eA++([aqf (aoW .i64 p.1) (apZ (some ⟨k,sh,none⟩)) (p.1-1)]++eC))) (.int .i64 no)=true:=by unfold vn;rw[ui];rfl
  have fJ:oO (bX (eA++([aqf (aoW .i64 p.1) (apZ (some ⟨k,sh,none⟩)) (p.1-1)]++eC))) (.int .i64 no)=bX eA++([]++bX eC):=by
   unfold oO
   rw[ui]
   dsimp only
   rw[Oi,List.eraseIdx_append_of_length_le (by simp[bX]),show eA.length-(bX eA).length=0 by simp[bX]]
   rfl
  have dJ:(bG [0,1,2,3,4,5] (oO (bX (eA++([aqf (aoW .i64 p.1) (apZ (some ⟨k,sh,none⟩)) (p.1-1)]++eC))) (.int .i64 no))).all ag=true:=by
   rw[fJ]
   exact cg.idx (vX (nT h1) (vX rfl (nT h2))) []
  apply ZM d.bS [] (bX (eA++([aqf (aoW .i64 p.1) (apZ (some ⟨k,sh,none⟩)) (p.1-1)]++eC))) d.made [] d.made d.calls d.raw no k sh eA.length hd.bW rfl he rfl ui hk (bb _) (cg.idx he []) (cg.qP he [])
  case n0=>exact e8 rfl rfl
  case n1=>exact e8 rfl rfl
  case aX=>rfl
  case bh=>exact bb _
  case bD=>exact dJ
  case bx=>rfl
  case l6=>
   intro g
   have g:¬ij d≠0:=by simpa using g
   refine ZK d.bS [] _ d.made [] d.made d.calls d.raw no k sh eA.length rfl dJ rfl ?_
   rw[fJ]
   refine⟨{fF d with files:=ll d.files no},[1,2,3,4,5],⟨⟨A,[p],C,eA,_,eC,[],[],LA,LF,LC,hl,rfl,rfl,h1,h2,rfl,?_,rfl,rfl,.none⟩,rfl,rfl,rfl,jT (by rfl),by simp⟩,_,5,rfl,_,rfl,?_,?_⟩
   ·dsimp only;rw[hl,aad hp hA hC];rfl
   ·unfold cF;rw[hn];dsimp only;rw[if_neg g]
    have:cE d.bS d.calls=0:=by simpa using g
    rw[this]
   ·unfold cF;rw[hn];dsimp only;rw[if_neg g]
  case lj=>exact cg.idx he []
  case l8=>
   intro g
   have g:ij d≠0:=by simpa using g
   refine ZL d.bS [] _ d.made [] d.made d.calls d.raw no k sh eA.length rfl (cg.idx he []) rfl ?_
   refine⟨fF d,[1,2,3,4,5],⟨⟨d.files,[],[],_,[],[],[],[],_,[],[],by simp,by simp,by simp,hf,.nil,rfl,by simp[fF],rfl,by simp[bX,fF],.none⟩,rfl,rfl,rfl,jT (by rfl),by simp⟩,_,5,rfl,_,rfl,?_,?_⟩
   ·unfold cF;rw[hn];dsimp only;rw[if_pos g]
   ·unfold cF;rw[hn];dsimp only;rw[if_pos g]
theorem aai(d:au):aI aoL 71 [.pointer (some ⟨0,0,none⟩)] [.abs d] fun r o=>r=.ret (.int .i64 d.raw)∧o=[.abs d]:=by
 refine aI.yq (aI.ym (x0:=[]) fun eR L2 hf=>?_) rfl
 have he:=nT hf
 refine aI.cY (n:=cp aoL 71) (by kernel_rfl) ?_
 refine ZX d.bS [] (bX eR) d.made [] d.made d.calls d.raw rfl (bb _) (cg.idx he []) rfl ?_
 refine ZW d.bS [] (bX eR) d.made [] d.made d.calls d.raw rfl (cg.idx he []) rfl ?_
 exact⟨d,[1,2,3,4,5],⟨⟨d.files,[],[],eR,[],[],[],[],L2,[],[],by simp,by simp,by simp,hf,.nil,rfl,by simp,rfl,by simp[bX],.none⟩,rfl,rfl,rfl,jT (by rfl),by simp⟩,d,5,rfl,_,rfl,rfl,rfl⟩
theorem aaj(d:au):aI aoL 20 [.pointer (some ⟨0,0,none⟩)] [.abs d] fun r o=>r=.ret (.int .i64 d.calls)∧o=[.abs d]:=by
 refine aI.yq (aI.ym (x0:=[]) fun eR L2 hf=>?_) rfl
 have he:=nT hf
 refine aI.cY (n:=cp aoL 20) (by kernel_rfl) ?_
 refine ZZ d.bS [] (bX eR) d.made [] d.made d.calls d.raw rfl (bb _) (cg.idx he []) rfl ?_
 refine ZY d.bS [] (bX eR) d.made [] d.made d.calls d.raw rfl (cg.idx he []) rfl ?_
 exact⟨d,[1,2,3,4,5],⟨⟨d.files,[],[],eR,[],[],[],[],L2,[],[],by simp,by simp,by simp,hf,.nil,rfl,by simp,rfl,by simp[bX],.none⟩,rfl,rfl,rfl,jT (by rfl),by simp⟩,d,5,rfl,_,rfl,rfl,rfl⟩
theorem aak(d:au)(hd:ca d)(no:Int)(b:ByteArray)(hn:fileOf d.files no=none):aI aoL 98 [.pointer (some ⟨0,0,none⟩),.int .i64 no,.slice (some ⟨1,0,none⟩) b.size b.size] [.abs d,.cells (af b) 5 false]
 fun r o=>r=.ret (.int .i64 (bU d no b).1)∧o=[.abs (bU d no b).2,.cells (af b) 5 false]:=by
 refine aI.Oj (c:=af b) (el:=5) (aH _) (aI.Yi fun eR L2 hf=>?_) rfl
 have he:=nT hf
 refine aI.cY (n:=cp aoL 98) (by kernel_rfl) ?_
 apply ZV d.bS b (bX eR) d.made [] d.made d.calls d.raw no hd.bW (aH _) he rfl (Gw hf hn) (bb _) (cg.idx he []) (cg.qP he [])
 case n0=>exact e8 rfl rfl
 case aX=>exact aH _
 case bh=>exact bb _
 case bD=>exact cg.idx he []
 case bx=>rfl
 case l5=>
  refine ZU d.bS b (bX eR) d.made [] d.made d.calls d.raw no (cg.idx he []) rfl ?_
  refine⟨d,[2,3,4,5],⟨⟨d.files,[],[],eR,[],[],[],[],L2,[],[],by simp,by simp,by simp,hf,.nil,rfl,by simp,rfl,by simp[bX],.none⟩,rfl,rfl,rfl,jT (by rfl),by simp⟩,d,4,rfl,_,rfl,?_,?_⟩
  ·unfold bU;rw[hn]
  ·unfold bU;rw[hn]
theorem aal(fb b:ByteArray):af fb++apd (b.size*1) (af b)=af (fb++b):=by
 rw[NH,arh,List.take_of_length_le (by rw[mH];exact apn _)]
theorem aam(d:au)(hd:ca d)(no:Int)(b:ByteArray)(cd:∀f,fileOf d.files no=some f→f.size+b.size≤1000000):aI aoL 98 [.pointer (some ⟨0,0,none⟩),.int .i64 no,.slice (some ⟨1,0,none⟩) b.size b.size] [.abs d,.cells (af b) 5 false]
 fun r o=>r=.ret (.int .i64 (bU d no b).1)∧o=[.abs (bU d no b).2,.cells (af b) 5 false]:=by
 cases hn:fileOf d.files no with
 |none=>exact aak d hd no b hn
 |some f=>
  obtain⟨A,p,C,hl,hp,Bh,hA⟩:=Gv hn
  have hC:∀q∈C,(q.1:Int)≠no:=Oh (p:=p) (by rw[←hl];exact hd.fH) hp
  have jI:=hd.size p (by rw[hl];simp)
  have aan:p.2.size+b.size≤1000000:=by rw[Bh];exact cd f hn
  refine aI.Oj (c:=af b) (el:=5) (aH _) (aI.Yk hl fun eA eC kf sf LA LF LC h1 h2 h3 jA=>?_) rfl
  have he:cg (bX eA++([aqf (aoW .i64 p.1) (apZ (some ⟨4,0,none⟩)) (p.1-1)]++bX eC))=true:=vX (nT h1) (vX rfl (nT h2))
  have ui:=Gx h1 hA hp (apZ (some ⟨4,0,none⟩)) (p.1-1) (bX eC)
  refine aI.cY (n:=cp aoL 98) (by kernel_rfl) ?_
  apply ZT d.bS b (bX eA++([aqf (aoW .i64 p.1) (apZ (some ⟨4,0,none⟩)) (p.1-1)]++bX eC)) d.made p.2 d.made d.calls d.raw no eA.length hd.bW he ui jI (bb _) (cg.idx he []) (cg.qP he [])
  case n0=>exact e8 rfl rfl
  case n7=>intros;exact e8 rfl rfl
  case n8=>intros;exact apu aan
  case n9=>intros;exact rX (aB (aH _) _)
  case aX=>exact aH _
  case bh=>exact bb _
  case bD=>exact cg.idx he []
  case bx=>exact aH _
  case lj=>exact cg.idx he [6]
  case l5=>
   intro g
   have g:b.size=0:=by simpa using g
   refine ZP d.bS b _ d.made p.2 d.made d.calls d.raw no eA.length (cg.idx he []) ?_
   refine⟨d,[2,3,4,5],[p],_,rfl,hl,rfl,rfl,.full p 4 5 rfl rfl ⟨by omega,rfl⟩ ⟨by omega,rfl⟩ (by omega) jA,rfl,rfl,rfl,jT (by rfl),by simp,d,4,rfl,_,rfl,?_,?_⟩
   ·unfold bU;rw[hn];dsimp only;rw[if_pos (.inl g)]
   ·unfold bU;rw[hn];dsimp only;rw[if_pos (.inl g)]
  case l6=>
   intro g g1
   have g1:1024<b.size:=by have:=of_decide_eq_true g1;omega
   refine ZQ d.bS b _ d.made p.2 d.made d.calls d.raw no eA.length (cg.idx he []) ?_
   refine⟨d,[2,3,4,5],[p],_,rfl,hl,rfl,rfl,.full p 4 5 rfl rfl ⟨by omega,rfl⟩ ⟨by omega,rfl⟩ (by omega) jA,rfl,rfl,rfl,jT (by rfl),by simp,d,4,rfl,_,rfl,?_,?_⟩
   ·unfold bU;rw[hn];dsimp only;rw[if_pos (.inr g1)]
   ·unfold bU;rw[hn];dsimp only;rw[if_pos (.inr g1)]
  case gJ=>
   intro g g1 g2
   have g:¬(b.size=0∨1024<b.size):=by
    have h1:¬(b.size=0):=by simpa using g
    have:=of_decide_eq_false g1
    omega
   have g2:¬ij d≠0:=by simpa using g2
   refine ZR d.bS b _ d.made p.2 d.made d.calls d.raw no eA.length (aH _) (bb _) (cg.idx he [6]) ?_
   rw[aal,←ByteArray.size_append]
   refine⟨{fF d with files:=lk d.files no b},[2,3,4,5,6],[(p.1,p.2++b)],_,rfl,?_,rfl,rfl,.full (p.1,p.2++b) 4 6 rfl rfl ⟨by omega,rfl⟩ ⟨by omega,rfl⟩ (by omega) jA,rfl,rfl,rfl,jT (by rfl),by simp,_,5,rfl,_,rfl,?_,?_⟩
   ·dsimp only;rw[hl,aac hp hA hC]
   ·unfold bU;rw[hn];dsimp only;rw[if_neg g,if_neg g2]
    have:cE d.bS d.calls=0:=by simpa using g2
    rw[this]
   ·unfold bU;rw[hn];dsimp only;rw[if_neg g,if_neg g2]
  case jS=>
   intro g g1 g2
   have g:¬(b.size=0∨1024<b.size):=by
    have h1:¬(b.size=0):=by simpa using g
    have:=of_decide_eq_false g1
    omega
   have g2:ij d≠0:=by simpa using g2
   refine ZS d.bS b _ d.made p.2 d.made d.calls d.raw no eA.length (cg.idx he []) ?_
   refine⟨fF d,[2,3,4,5],[p],_,rfl,hl,rfl,rfl,.full p 4 5 rfl rfl ⟨by omega,rfl⟩ ⟨by omega,rfl⟩ (by omega) jA,rfl,rfl,rfl,jT (by rfl),by simp,_,4,rfl,_,rfl,?_,?_⟩
   ·unfold bU;rw[hn];dsimp only;rw[if_neg g,if_pos g2]
   ·unfold bU;rw[hn];dsimp only;rw[if_neg g,if_pos g2]
def yr(x:ByteArray×Int×au):bO×List ak:=if x.2.1=0 then(.ret (.tuple #[.slice (some ⟨1,0,none⟩) x.1.size x.1.size,.int .i64 0]),[.abs x.2.2,.cells (af x.1) 5 false])else(.ret (.tuple #[.slice none 0 0,.int .i64 x.2.1]),[.abs x.2.2])
theorem aI.aao{f:apr}{args:List aoP}{objs:List ak}{Q:bO→List ak→Prop}(h:aI aoL f args objs fun r o=>(∃d n,o=.abs d::atP n .dead∧(∃r',qI (eX [0]) r=some r'∧Q r' [.abs d]))∨
 ∃d b,o=[.abs d,.dead,.dead,.dead,.dead,.dead,.cells (af b) 5 false]∧(∃r',qI (eX [0,6]) r=some r'∧Q r' [.abs d,.cells (af b) 5 false]))(hl:objs.length=1):aI aoL f args objs Q:=by
 refine aI.trim h ?_
 rintro r o (⟨d,n,rfl,r',h1,h2⟩|⟨d,b,rfl,r',h1,h2⟩)
 ·refine⟨[0],[],r',[.abs d],[],?_,fun c hc=>(by cases hc),h2⟩
  rw[hl]
  unfold oQ
  simp only[getAll,apE,arT,asg,pN,h1]
  rfl
 ·refine⟨[0,6],[6],r',[.abs d,.cells (af b) 5 false],[af b],?_,fun c' oF=>(by rw[apP]at oF;subst oF;exact aH _),h2⟩
  rw[hl]
  unfold oQ
  simp only[getAll,apE,ap5,arT,asg,pN,h1]
  rfl
theorem aap(d:au)(hd:ca d)(no p bZ:Int):aI aoL 79 [.pointer (some ⟨0,0,none⟩),.int .i64 no,.int .i64 p,.int .i64 bZ] [.abs d]
 fun r o=>r=(yr (aP d no p bZ)).1∧o=(yr (aP d no p bZ)).2:=by
 cases hn:fileOf d.files no with
 |none=>
  refine aI.yq (aI.ym (x0:=[]) fun eR L2 hf=>?_) rfl
  have he:=nT hf
  refine aI.cY (n:=cp aoL 79) (by kernel_rfl) ?_
  apply Z9 d.bS [] (bX eR) d.made [] d.made d.calls d.raw no p bZ hd.bW rfl he rfl (Gw hf hn) (bb _) (cg.idx he []) (cg.qP he [])
  case n0=>exact e8 rfl rfl
  case aX=>rfl
  case bh=>exact bb _
  case bD=>exact cg.idx he []
  case bx=>rfl
  case l5=>
   refine Z8 d.bS [] (bX eR) d.made [] d.made d.calls d.raw no p bZ rfl (cg.idx he []) rfl ?_
   have e:aP d no p bZ=(aoZ,1,d):=by unfold aP;rw[hn]
   exact⟨d,[1,2,3,4,5],⟨⟨d.files,[],[],eR,[],[],[],[],L2,[],[],by simp,by simp,by simp,hf,.nil,rfl,by simp,rfl,by simp[bX],.none⟩,rfl,rfl,rfl,jT (by rfl),by simp⟩,d,5,rfl,_,rfl,by rw[e];rfl,by rw[e];rfl⟩
 |some f=>
  obtain⟨A,q,C,hl,hp,Bh,hA⟩:=Gv hn
  have jI:=hd.size q (by rw[hl];simp)
  subst Bh
  refine aI.aao (aI.Yj (x0:=[]) hl fun eA eC kf sf LA LF LC h1 h2 h3 jA=>?_) rfl
  have he:cg (bX eA++([aqf (aoW .i64 q.1) (apZ (some ⟨4,0,none⟩)) (q.1-1)]++bX eC))=true:=vX (nT h1) (vX rfl (nT h2))
  have ui:=Gx h1 hA hp (apZ (some ⟨4,0,none⟩)) (q.1-1) (bX eC)
  refine aI.cY (n:=cp aoL 79) (by kernel_rfl) ?_
  apply Z7 d.bS (bX eA++([aqf (aoW .i64 q.1) (apZ (some ⟨4,0,none⟩)) (q.1-1)]++bX eC)) d.made q.2 d.made d.calls d.raw no p bZ eA.length hd.bW he ui jI (bb _) (cg.idx he []) (cg.qP he [])
  case n0=>exact e8 rfl rfl
  case n7=>intros;exact e8 rfl rfl
  case aX=>exact bb _
  case bh=>exact cg.idx he []
  case bD=>exact aH _
  case bx=>exact cg.idx he [6]
  case n9=>
   intro g g1 g2 g3
   have g:=of_decide_eq_false g
   have g1:=of_decide_eq_false g1
   have g2:=of_decide_eq_false g2
   refine Zj ?_ (by omega) jI
   split<;>omega
  case l4=>
   intro g
   have g:=of_decide_eq_true g
   have e:aP d no p bZ=(aoZ,1,d):=by unfold aP;rw[hn];dsimp only;rw[if_pos (.inl g)]
   refine Z2 d.bS _ d.made q.2 d.made d.calls d.raw no p bZ eA.length (cg.idx he []) ?_
   exact⟨d,[1,2,3,4,5],[q],_,rfl,hl,rfl,rfl,.full q 4 5 rfl rfl ⟨by omega,rfl⟩ ⟨by omega,rfl⟩ (by omega) jA,rfl,rfl,rfl,jT (by rfl),by simp,.inl ⟨d,5,rfl,_,rfl,by rw[e];rfl,by rw[e];rfl⟩⟩
  case l5=>
   intro g g1
   have g1:=of_decide_eq_true g1
   have e:aP d no p bZ=(aoZ,1,d):=by unfold aP;rw[hn];dsimp only;rw[if_pos (.inr (.inl (by omega)))]
   refine Z3 d.bS _ d.made q.2 d.made d.calls d.raw no p bZ eA.length (cg.idx he []) ?_
   exact⟨d,[1,2,3,4,5],[q],_,rfl,hl,rfl,rfl,.full q 4 5 rfl rfl ⟨by omega,rfl⟩ ⟨by omega,rfl⟩ (by omega) jA,rfl,rfl,rfl,jT (by rfl),by simp,.inl ⟨d,5,rfl,_,rfl,by rw[e];rfl,by rw[e];rfl⟩⟩
  case l6=>
   intro g g1 g2
   have g2:=of_decide_eq_true g2
   have e:aP d no p bZ=(aoZ,1,d):=by unfold aP;rw[hn];dsimp only;rw[if_pos (.inr (.inr g2))]
   refine Z4 d.bS _ d.made q.2 d.made d.calls d.raw no p bZ eA.length (cg.idx he []) ?_
   exact⟨d,[1,2,3,4,5],[q],_,rfl,hl,rfl,rfl,.full q 4 5 rfl rfl ⟨by omega,rfl⟩ ⟨by omega,rfl⟩ (by omega) jA,rfl,rfl,rfl,jT (by rfl),by simp,.inl ⟨d,5,rfl,_,rfl,by rw[e];rfl,by rw[e];rfl⟩⟩
  case l8=>
   intro g g1 g2 g3
   have g:=of_decide_eq_false g
   have g1:=of_decide_eq_false g1
   have g2:=of_decide_eq_false g2
   have g3:ij d≠0:=by simpa using g3
   have e:aP d no p bZ=(aoZ,ij d,fF d):=by unfold aP;rw[hn];dsimp only;rw[if_neg (by omega),if_pos g3]
   refine Z5 d.bS _ d.made q.2 d.made d.calls d.raw no p bZ eA.length (cg.idx he []) ?_
   exact⟨fF d,[1,2,3,4,5],[q],_,rfl,hl,rfl,rfl,.full q 4 5 rfl rfl ⟨by omega,rfl⟩ ⟨by omega,rfl⟩ (by omega) jA,rfl,rfl,rfl,jT (by rfl),by simp,.inl ⟨fF d,5,rfl,_,rfl,by rw[e];unfold yr;rw[if_neg g3],by rw[e];unfold yr;rw[if_neg g3]⟩⟩
  case gJ=>
   intro g g1 g2 g3
   have g:=of_decide_eq_false g
   have g1:=of_decide_eq_false g1
   have g2:=of_decide_eq_false g2
   have g3:¬ij d≠0:=by simpa using g3
   have hm:(aoO (if bZ<((q.2.size-aoO p:Nat):Int)then bZ else((q.2.size-aoO p:Nat):Int))-0)=min (q.2.size-p.toNat) bZ.toNat:=by split<;>omega
   let out:=q.2.extract p.toNat (p.toNat+min (q.2.size-p.toNat) bZ.toNat)
   have e:aP d no p bZ=(out,0,fF d):=by unfold aP;rw[hn];dsimp only;rw[if_neg (by omega),if_neg g3]
   have ho:out.size=min (q.2.size-p.toNat) bZ.toNat:=by show(q.2.extract _ _).size=_;rw[ByteArray.size_extract];omega
   have hb:apd (min (q.2.size-p.toNat) bZ.toNat) (aqz (0+aoO p*1+0) (af q.2))=af out:=by
    show _=af (q.2.extract _ _)
    rw[Zk,show 0+aoO p*1+0=p.toNat by omega,show p.toNat+min (q.2.size-p.toNat) bZ.toNat-p.toNat=min (q.2.size-p.toNat) bZ.toNat by omega]
   refine Z6 d.bS _ d.made q.2 d.made d.calls d.raw no p bZ eA.length (bb _) (cg.idx he [6]) (aH _) ?_
   rw[hm,hb,←ho]
   exact⟨fF d,[1,2,3,4,5],[q],_,rfl,hl,rfl,rfl,.full q 4 5 rfl rfl ⟨by omega,rfl⟩ ⟨by omega,rfl⟩ (by omega) jA,rfl,rfl,rfl,jT (by rfl),by simp,.inr ⟨fF d,out,rfl,_,rfl,by rw[e];rfl,by rw[e];rfl⟩⟩
end Go.Proofs.YtnlkkgpcikkpoaaGreat
namespace Go.Proofs.YtnlkkgpcikkpoaaGreat.Vm
open Go.RowKit
def qR:List (Option Nat)→Nat→Option Nat
 | [],_=>none
 |some y::l,x=>match ao6 y x with
  |true=>some 0
  |false=>match qR l x with
   |some i=>some (i+1)
   |none=>none
 |none::l,x=>match qR l x with
  |some i=>some (i+1)
  |none=>none
theorem Gy:∀{σ:List (Option Nat)} {x i:Nat},qR σ x=some i→σ[i]?=some (some x)
 | [],x,i,h=>by cases h
 |some y::l,x,i,h=>by
  unfold qR at h
  split at h
  ·rename_i hb;cases h;rw[apa hb];rfl
  ·split at h
   ·rename_i j hj;cases h;simpa using Gy hj
   ·cases h
 |none::l,x,i,h=>by
  unfold qR at h
  split at h
  ·rename_i j hj;cases h;simpa using Gy hj
  ·cases h
def vY:Nat→List (Option Nat)→Nat→Bool
 |0,_,_=>true
 |k+1,some y::l,i=>ao6 y i&&vY k l (i+1)
 |k+1,none::l,i=>vY k l (i+1)
 |_+1,[],_=>false
theorem Gz:∀{k i:Nat} {l:List (Option Nat)},vY k l i=true→∀x,x<k→l[x]?=some (some (i+x))∨l[x]?=some none
 |0,i,l,h,x,hx=>by omega
 |k+1,i,some y::l,h,x,hx=>by
  simp only[vY,ao3]at h
  cases x with
  |zero=>simp[apa h.1]
  |succ x=>simpa[show i+1+x=i+(x+1)by omega]using Gz h.2 x (by omega)
 |k+1,i,none::l,h,x,hx=>by
  simp only[vY]at h
  cases x with
  |zero=>simp
  |succ x=>simpa[show i+1+x=i+(x+1)by omega]using Gz h x (by omega)
 |k+1,i,[],h,x,hx=>by cases h
def yu:List (Option Nat)→Bool
 | []=>true
 |some y::l=> !(l.any fun z=>match z with|some z=>ao6 y z|none=>false)&&yu l
 |none::l=>yu l
theorem GA:∀{l:List (Option Nat)},yu l=true→∀{x y z:Nat},l[x]?=some (some z)→l[y]?=some (some z)→x=y
 | [],h,x,y,z,hx,hy=>by simp at hx
 |none::l,h,x,y,z,hx,hy=>by
  cases x with
  |zero=>simp at hx
  |succ x=>
   cases y with
   |zero=>simp at hy
   |succ y=>exact congrArg (· +1) (GA (l:=l) h (by simpa using hx) (by simpa using hy))
 |some a::l,h,x,y,z,hx,hy=>by
  simp only[yu,ao3,aqX,arB]at h
  have bu:∀i,l[i]? ≠some (some a):=fun i hi=>by
   have:=h.1 _ (apy hi)
   simp at this
  cases x with
  |zero=>
   simp only[apE,aoU]at hx
   subst hx
   cases y with
   |zero=>rfl
   |succ y=>exact absurd (by simpa using hy) (bu y)
  |succ x=>
   cases y with
   |zero=>
    simp only[apE,aoU]at hy
    subst hy
    exact absurd (by simpa using hx) (bu x)
   |succ y=>exact congrArg (· +1) (GA h.2 (by simpa using hx) (by simpa using hy))
def Bi(τ:Nat→Option Nat):List (Nat×aoP)→Option (List (Nat×aoP))
 | []=>some []
 |(i,v)::l=>match ic τ 6 v,Bi τ l with
  |some u,some r=>some ((i,u)::r)
  |_,_=>none
theorem Ol{τ:Nat→Option Nat}:∀{sl r:List (Nat×aoP)},Bi τ sl=some r→∀p∈r,∃v,(p.1,v)∈sl∧ic τ 6 v=some p.2
 | [],r,h,p,hp=>by cases h;cases hp
 |(i,v)::l,r,h,p,hp=>by
  unfold Bi at h
  split at h
  ·rename_i u q hu hq
   cases h
   rcases ao8.1 hp with rfl|hp
   ·exact⟨v,ape,hu⟩
   ·obtain⟨v',h1,h2⟩:=Ol hq p hp
    exact⟨v',apc _ h1,h2⟩
  ·cases h
def GB(objs:List ak)(σ:List (Option Nat)):List (Nat×ak):=σ.map fun y=>match y with
 |some y=>(y,(objs[y]?).getD .dead)
 |none=>(262144,.dead)
def Om(pl:List Nat)(σ:List (Option Nat))(d:ai):Option (ai×List (List aoP)):=match Bi (qR σ) d.sl,pN pl (qR σ) (GB d.objs σ)with
 |some sl,some (objs,q)=>some (⟨sl,objs⟩,q)
 |_,_=>none
theorem On:∀(l:List (Nat×aoP)) (L:List aoP) {i:Nat},(∀p∈l,p.1≠i)→(l.foldl (fun L p=>L.set p.1 p.2) L)[i]?=L[i]?
 | [],L,i,_=>rfl
 |p::l,L,i,h=>by
  rw[aqS,On l _ fun q hq=>h q (apc _ hq),List.getElem?_set_ne (h p ape)]
theorem Oo:∀(l:List (Nat×aoP)) (L:List aoP),iG (l.map (·.1))=true→∀p∈l,p.1<L.length→(l.foldl (fun L p=>L.set p.1 p.2) L)[p.1]?=some p.2
 | [],L,_,p,hp,_=>by cases hp
 |q::l,L,hn,p,hp,hlt=>by
  simp only[List.map_cons,iG,ao3,aqX,arB]at hn
  rw[aqS]
  rcases ao8.1 hp with rfl|hp
  ·rw[On,List.getElem?_set_self hlt]
   intro r hr e
   have:=hn.1 r.1 (aqY hr)
   rw[e]at this
   simp at this
  ·exact Oo l _ hn.2 p hp (by rw[aql];exact hlt)
theorem aaq{ig:List aoP}{i:Nat}{v:aoP}(hn:ig.length≤1024)(h:ig[i]?=some v):(AE ig).at i=v:=by
 have hi:i<ig.length:=(ao0.1 h).1
 show Fr.at ⟨Fr.rh ig 0 .nil,ig.length,[],[]⟩ i=v
 unfold Fr.at
 dsimp only
 rw[dV.2 hi]
 dsimp only
 rw[Fr.xP (by omega) (by omega),if_pos (by omega),Nat.sub_zero,h]
theorem an.move{P:Program}{n k:Nat}{l:List apw}{d d':ai}{Q:bj→ai→Prop}(σ:List (Option Nat))(pl:List Nat){q:List (List aoP)}(hm:Om pl σ d=some (d',q))(hq:∀c∈q,c.all ag=true)
 (hc:(vY k σ 0&&yu σ&&apf σ.length 262144&&iG (d.sl.map (·.1))&&d.sl.all (fun p=>ao9 p.1 n)&&d'.sl.all (fun p=>ao9 p.1 n))=true)(hex:σ.all (fun y=>match y with|some y=>ao9 y d.objs.length|none=>true)=true)
 (h:an P n k l d' Q):an P n k l d Q:=by
 intro X hn hk a w py
 refine h X hn hk a w ?_
 obtain⟨ρ,u,M,hd⟩:=py
 simp only[ao3]at hc
 obtain⟨⟨⟨⟨⟨c1,c2⟩,c3⟩,c4⟩,c5⟩,c6⟩:=hc
 have c3:=Nat.le_of_ble_eq_true c3
 unfold Om at hm
 split at hm
 ·rename_i aar je q2 h1 h2
  simp only[aoU,aoX]at hm
  obtain⟨rfl,rfl⟩:=hm
  have fe:=nS h2 hq
  have hlen:σ.length=je.length:=by have:=fe.len;simpa[GB]using this
  let ρ2:Ren:=fun x=>match small x with
   |true=>match σ[x]?with
    |some (some y)=>ρ y
    |some none=>ρ x
    |none=>none
   |false=>ρ x
  have la:∀x,small x=false→ρ2 x=ρ x:=fun x h=>by show(match small x with|true=>_|false=>_)=_;rw[h]
  have eE:∀x,small x=true→ρ2 x=match σ[x]?with|some (some y)=>ρ y|some none=>ρ x|none=>none:=fun x h=>by show(match small x with|true=>_|false=>_)=_;rw[h]
  have tJ:∀i y,σ[i]?=some y→small i=true:=fun i y h=>gT.2 (by
   have:i<σ.length:=(ao0.1 h).1
   have:(2:Nat)^18=262144:=rfl
   omega)
  have hσ:∀i y r,σ[i]?=some (some y)→ρ y=some r→ρ2 i=some r:=fun i y r h1 h2=>by rw[eE i (tJ i _ h1),h1];exact h2
  have rO:∀y i r,qR σ y=some i→ρ y=some r→ρ2 i=some r:=fun y i r h1 h2=>hσ i y r (Gy h1) h2
  have pC:Full ρ2:=fun r=>by
   obtain⟨y,h1,h2⟩:=hd.full r
   exact⟨y,h1,by rw[la y h1];exact h2⟩
  obtain⟨u2,tl⟩:∃u2:Nat→aoP,FR ρ2 ((eJ X.n u2 aar).dL (M.map eN)) a:=by
   have cd:a.tmps.size=X.n:=by rw[hd.fr.size];show(gz X.n u d.sl).length=_;unfold gz;rw[lJ];simp
   have Oq:X.n≤1024:=by have:=hd.fr.small;have e:((eJ X.n u d.sl).dL (M.map eN)).n=X.n:=by show(gz X.n u d.sl).length=_;unfold gz;rw[lJ];simp
                        rw[e]at this;exact this
   refine FR.make cd Oq (hd.fr.rH rfl) (fun i=>(hd.fr.at_ i).full pC) fun p hp=>?_
   have jA:p.1<X.n:=by rw[hn];exact dV.1 (aps.1 c6 p hp)
   obtain⟨v,hv,ln⟩:=Ol h1 p hp
   refine⟨jA,qF rO 6 _ _ _ ln ?_⟩
   have cn:=hd.fr.at_ p.1
   have hg:=Oo d.sl ((arm X.n).map u) c4 (p.1,v) hv (by simpa using jA)
   have DF:(gz X.n u d.sl).length≤1024:=by unfold gz;rw[lJ];simpa using Oq
   have:((eJ X.n u d.sl).dL (M.map eN)).at p.1=v:=aaq DF hg
   rw[this]at cn
   exact cn
  refine⟨ρ2,u2,M,{full:=pC,kept:=fun x hx=>?_,fr:=tl,mem:=?_,bW:=by rw[←hlen];exact c3,quiet:=hd.quiet,fH:=hd.fH,outside:=hd.outside}⟩
  ·rw[hk]at hx
   rcases Gz c1 x hx with h3|h3
   ·rw[aqr]at h3
    rw[eE x (tJ x _ h3),h3];exact hd.kept x (by rw[hk];exact hx)
   ·rw[eE x (tJ x _ h3),h3];exact hd.kept x (by rw[hk];exact hx)
  ·have tm:∀(i:Nat) (o:ak),je[i]?=some o→(∃y ob,σ[i]?=some (some y)∧d.objs[y]?=some ob∧ON (qR σ) ob o)∨(σ[i]?=some none∧o=.dead):=fun i o hi=>by
    obtain⟨ob,h3,h4⟩:=fe.get hi
    unfold GB at h3
    rw[arN,aqk]at h3
    cases hb:σ[i]?with
    |none=>rw[hb]at h3;cases h3
    |some y=>
     rw[hb]at h3
     simp only[Option.map_some,aoU,Function.comp_apply]at h3
     cases y with
     |none=>
      dsimp only at h3
      subst h3
      right
      refine⟨rfl,?_⟩
      cases h4;rfl
     |some y=>
      dsimp only at h3
      have hy:y<d.objs.length:=by
       have:=aps.1 hex (some y) (apy hb)
       exact dV.1 this
      rw[aoV hy]at h3
      simp only[Option.getD_some]at h3
      subst h3
      exact .inl ⟨y,_,rfl,aoV hy,h4⟩
   have aas:∀y ob,d.objs[y]?=some ob→cw d.objs y=some ob:=fun y ob hy=>by
    rw[cD];exact hy
    exact gT.2 (by have:=(ao0.1 hy).1;have:=hd.bW;have:(2:Nat)^18=262144:=rfl;omega)
   refine hd.mem.Fj (fun x=>match small x with
    |true=>(σ[x]?).join
    |false=>none) (fun x o hx bu=>?_) (fun x y z hx hy=>?_) fun x hx=>?_
   ·cases hs:small x with
    |false=>rw[ie hs]at hx;cases hx;exact absurd rfl bu
    |true=>
     rw[cD hs]at hx
     rcases tm x o hx with⟨y,ob,h1,h2,h3⟩|⟨_,rfl⟩
     ·refine⟨y,ob,by dsimp only;rw[h1];rfl,aas y ob h2,h3.ne bu,?_,fun r hl=>⟨(h3.live hl).1,(h3.live hl).2,h3.or rO hl⟩,fun n size row e=>?_,fun el ro e=>?_,fun d e=>?_⟩
      ·rw[eE x hs,h1]
      ·subst e;cases h3;rfl
      ·subst e
       cases h3 with
       |plain=>rfl
       |cells c _ _ _ h=>
        cases c with
        |nil=>rfl
        |cons v c=>have:=tG h;simp at this
      ·subst e;cases h3;rfl
     ·exact absurd rfl bu
   ·have key:∀q,(match small q with|true=>(σ[q]?).join|false=>none)=some z→σ[q]?=some (some z):=fun q hq=>by
     cases hs:small q with
     |true=>
      rw[hs]at hq
      cases hc:σ[q]?with
      |none=>rw[hc]at hq;cases hq
      |some y=>rw[hc]at hq;simp only[Option.join_some]at hq;rw[hq]
     |false=>rw[hs]at hq;cases hq
    exact GA c2 (key x hx) (key y hy)
   ·cases hs:small x with
    |false=>rw[ie hs]at hx;cases hx
    |true=>
     rw[cD hs]at hx
     rw[eE x hs]
     have:σ[x]?=none:=by
      rw[List.getElem?_eq_none_iff]at hx⊢
      rw[hlen];exact hx
     rw[this]
 ·cases hm
end Go.Proofs.YtnlkkgpcikkpoaaGreat.Vm
namespace Go.Proofs.YtnlkkgpcikkpoaaGreat
open Go Vm Go.RowKit
structure ad where
 at_:Int
 more:Bool
 bE:Bool
 B:Nat→Int
 n:Int
 failed:Bool
 aD:Bool
 ro:Nat
 rn:Nat
 bN:Int
 sn:Nat
 hn:Nat
 dX:Bool
 raw:Int
 closed:Bool
def yv(B:Nat→Int):List aoP:=[.int .u8 (B 0),.int .u8 (B 1),.int .u8 (B 2),.int .u8 (B 3),.int .u8 (B 4),.int .u8 (B 5),.int .u8 (B 6),.int .u8 (B 7),.int .u8 (B 8),.int .u8 (B 9),.int .u8 (B 10),.int .u8 (B 11),.int .u8 (B 12),.int .u8 (B 13),.int .u8 (B 14),.int .u8 (B 15),.int .u8 (B 16),.int .u8 (B 17),.int .u8 (B 18),.int .u8 (B 19),.int .u8 (B 20),.int .u8 (B 21),.int .u8 (B 22),.int .u8 (B 23),.int .u8 (B 24),.int .u8 (B 25),.int .u8 (B 26),.int .u8 (B 27),.int .u8 (B 28),.int .u8 (B 29),.int .u8 (B 30),.int .u8 (B 31),.int .u8 (B 32),.int .u8 (B 33),.int .u8 (B 34),.int .u8 (B 35),.int .u8 (B 36),.int .u8 (B 37),.int .u8 (B 38),.int .u8 (B 39),.int .u8 (B 40),.int .u8 (B 41),.int .u8 (B 42),.int .u8 (B 43),.int .u8 (B 44),.int .u8 (B 45),.int .u8 (B 46),.int .u8 (B 47),.int .u8 (B 48),.int .u8 (B 49),.int .u8 (B 50),.int .u8 (B 51),.int .u8 (B 52),.int .u8 (B 53),.int .u8 (B 54),.int .u8 (B 55),.int .u8 (B 56),.int .u8 (B 57),.int .u8 (B 58),.int .u8 (B 59),.int .u8 (B 60),.int .u8 (B 61),.int .u8 (B 62),.int .u8 (B 63)]
def aM(S:ad)(a b c e:Nat):List aoP:=[.int .i64 S.at_,.bool S.more,.bool S.bE]++yv S.B++[.int .i64 S.n,.bool S.failed,.pointer (some ⟨a,0,none⟩),.bool S.aD,.slice (some ⟨b,S.ro,none⟩) S.rn S.rn,.int .i64 S.bN,.slice (some ⟨c,0,none⟩) S.sn S.sn,.slice (some ⟨e,0,none⟩) S.hn S.hn,.bool S.dX,.int .i64 S.raw,.bool S.closed]
structure aq where
 no:Int
 at_:Int
 line:ByteArray
 there:Bool
def kl(h:aq):List aoP:=[.int .i64 h.no,.int .i64 h.at_,.string h.line,.bool h.there]
def aj(l:List aq):List aoP:=(l.map kl).flatten
def aO(S:ad)(L:List ByteArray)(R:List Int)(H:List aq)(d:au):List ak:=[.cells (aM S 1 2 3 4) 89 false,.abs d,.cells (ao L) 9 false,.cells (ap R) 3 false,.cells (aj H) 114 false]
theorem a7(l:List aq):(aj l).all ag=true:=by
 induction l with
 |nil=>rfl
 |cons x l ih=>show(kl x++aj l).all ag=true;rw[asT,ih];rfl
theorem yw(l:List aq):(aj l).length=l.length*4:=by
 induction l with
 |nil=>rfl
 |cons x l ih=>show(kl x++aj l).length=_;rw[ao5,ih,apC];show 4+_=_;omega
def cf(a b:ByteArray):Int:=aqe a.data.toList b.data.toList
theorem aL{R0:bj→ai→Prop}{t:Tree}(L:List ByteArray)(R:List Int)(H:List aq)(h:t.ok R0):(Tree.cM (aoS (ao L) ag) true (.cM (aoS (ap R) ag) true (.cM (aoS (aj H) ag) true t))).ok R0:=Tree.aW (aV L) (Tree.aW (aQ R) (Tree.aW (a7 H) h))
theorem fY{q:List (List aoP)}(L:List ByteArray)(R:List Int)(H:List aq)(h:∀c∈q,c.all ag=true):∀c∈ao L::ap R::aj H::q,c.all ag=true:=aF (aV L) (aF (aQ R) (aF (a7 H) h))
end Go.Proofs.YtnlkkgpcikkpoaaGreat
namespace Go.Proofs.YtnlkkgpcikkpoaaGreat
open Go Vm Go.RowKit
set_option maxHeartbeats 1000000
theorem aat(a b:ByteArray)(w:ao4):asn aoL 123 #[.string a,.string b] w fun e w'=>e=.returned (.int .i64 (cf a b))∧w'=w:=by
 go_enter Tryz.func123,Tryz.ntmps123
 go_wp2
 rw[as0 Tryz.func135 (by kernel_rfl) (by kernel_rfl) (by kernel_rfl) (e:=auF) (by kernel_rfl),Lib.run_compareString]
 simp only[aso]
 rw[atC]
 go_wp2
 go_ret
 exact⟨rfl,rfl⟩
theorem aau(a b:ByteArray)(w:ao4):asn aoL 100 #[.string a,.string b] w fun e w'=>e=.returned (.int .i64 (cf a b))∧w'=w:=by
 go_enter Tryz.func100,Tryz.ntmps100
 go_wp2_with (go_at_call 123;refine(aat a b _).mono ?_;rintro e w1 ⟨rfl,rfl⟩)
 go_ret
 exact⟨rfl,rfl⟩
theorem aav(b o n c:Nat)(xs:List Int)(cv:Int)(w:ao4)(hx:xs.length=n)(hc:∀i,i<n→w.cell? ⟨b,o+i,none⟩=some (.int .u8 (xs.getD i 0))):
 asn aoL 80 #[.slice (some ⟨b,o,none⟩) n c,.int .u8 cv] w fun e w'=>e=.returned (.int .i64 (auT (atH xs) cv.toNat.toUInt8))∧w'=w:=by
 go_enter avi,au6
 go_wp2
 rw[as0 au7 (by kernel_rfl) (by kernel_rfl) (by kernel_rfl) (e:=arb) (by kernel_rfl),Lib.run_indexByteSlice w b o n c xs hx hc cv]
 simp only[aso]
 rw[atC]
 go_wp2
 go_ret
 exact⟨rfl,rfl⟩
theorem aaw{P:Program}(p:Addr)(c:Nat)(cv:Int)(w:ao4):(arb #[.slice (some p) 0 c,.int .u8 cv]).run P w=.ok (.int .i64 (-1)) w:=by
 have hl:=Lib.run_loadBytesX (P:=P) w [] p .empty (fun j x hj=>by simp at hj)
 have hs:=Lib.run_indexByteString (P:=P) .empty cv w
 have he:(⟨aoZ.data++(atH []).toArray⟩:ByteArray)=.empty:=by
  apply ByteArray.ext
  rfl
 rw[he]at hl
 change Sem.run P (do
  let b ←asU (.slice (some p) 0 c)
  let c ←at4 (.int .u8 cv)
  match(arm b.size).find? fun i=>b[i]! ==c with
  |some i=>pure (goInt i)
  |none=>pure (goInt (-1))) w=_
 change Sem.run P (do
  let b ←asU (.string .empty)
  let c ←at4 (.int .u8 cv)
  match(arm b.size).find? fun i=>b[i]! ==c with
  |some i=>pure (goInt i)
  |none=>pure (goInt (-1))) w=_ at hs
 simp only[asU,aoR,apA,hl,aso]at hs⊢
 exact hs
theorem aax(cv:Int)(w:ao4)(a:Option Addr)(c:Nat):asn aoL 80 #[.slice a 0 c,.int .u8 cv] w fun e w'=>e=.returned (.int .i64 (-1))∧w'=w:=by
 have key:(arb #[.slice a 0 c,.int .u8 cv]).run aoL w=.ok (.int .i64 (-1)) w:=by
  cases a with
  |none=>exact Lib.run_indexByteNil w 0 c cv
  |some p=>exact aaw p c cv w
 go_enter avi,au6
 go_wp2
 rw[as0 au7 (by kernel_rfl) (by kernel_rfl) (by kernel_rfl) (e:=arb) (by kernel_rfl),key]
 simp only[aso]
 rw[atC]
 go_wp2
 go_ret
 exact⟨rfl,rfl⟩
theorem aay(a b:ByteArray):aI aoL 100 [.string a,.string b] [] fun r o=>r=.ret (.int .i64 (cf a b))∧o=[]:=by
 intro B w₀ ρ w args' gI hn ha hw
 obtain⟨v1,l,e1,h1,h2⟩:=ha.gG
 obtain⟨v2,l2,e2,h3,h4⟩:=h2.gG
 have:=h1.pq;subst this
 have:=h3.pq;subst this
 have:=h4.kx;subst this
 have ea:args'= #[.string a,.string b]:=by rw[←ap1 (xs:=args'),e1,e2]
 rw[ea]
 refine(aau a b w).mono fun e w' he=>?_
 obtain⟨rfl,rfl⟩:=he
 exact⟨.ret (.int .i64 (cf a b)),[],ρ,⟨rfl,rfl⟩,.bM _ rfl,gI,hw,by simp,fun _ _=>rfl⟩
def GC(a:List aoP)(o:List ak):Option (Bool×bO×List ak):=match a,o with
 | [.string x,.string y],[]=>some (true,.ret (.int .i64 (cf x y)),[])
 |_,_=>none
theorem aaz:bB aoL 100 (Sum.of GC):=bB.of fun a o r o' hg=>by
 unfold GC at hg
 split at hg
 ·cases hg;exact aay _ _
 ·cases hg
def be(b:ByteArray)(c:Int):Int:=auT b.data.toList c.toNat.toUInt8
theorem aaA(b:ByteArray)(c:Int)(ro:Bool):aI aoL 80 [.slice (some ⟨0,0,none⟩) b.size b.size,.int .u8 c] [.cells (af b) 5 ro] fun r o=>r=.ret (.int .i64 (be b c))∧o=[.cells (af b) 5 ro]:=by
 intro B w₀ ρ w args' gI hn ha hw
 obtain⟨v1,l,e1,h1,h2⟩:=ha.gG
 obtain⟨v2,l2,e2,h3,h4⟩:=h2.gG
 have:=h3.jG;subst this
 have:=h4.kx;subst this
 have ea:args'= #[v1,.int .u8 c]:=by rw[←ap1 (xs:=args'),e1,e2]
 rw[ea]
 have fin:∀{k:Int},be b c=k→asn aoL 80 #[v1,.int .u8 c] w (fun e w'=>e=.returned (.int .i64 k)∧w'=w)→
  asn aoL 80 #[v1,.int .u8 c] w fun e w'=>∃r jd ρ',(r=.ret (.int .i64 (be b c))∧jd=[.cells (af b) 5 ro])∧CR ρ' r e∧Full ρ'∧WR aoL B w₀ ρ' (cw jd) w'∧jd.length≤262144∧∀x,x< [ak.cells (af b) 5 ro].length→ρ' x=ρ x:=fun hk h=>h.mono fun e w' he=>by
  obtain⟨rfl,rfl⟩:=he
  subst hk
  exact⟨_,_,ρ,⟨rfl,rfl⟩,.bM _ rfl,gI,hw,by simp,fun _ _=>rfl⟩
 by_cases h0:b.size=0
 ·have hb:b=aoZ:=by
   cases b with|mk d=>
   have:d= #[]:=Array.eq_empty_of_size_eq_zero h0
   rw[this];rfl
  have hk:be b c= -1:=by subst hb;rfl
  have hv:∃a' c',v1=.slice a' 0 c':=by
   rw[h0]at h1
   exact h1.MJ
  obtain⟨a',c',rfl⟩:=hv
  exact fin hk (aax c w a' c')
 ·have bu:af b≠[]:=by intro e;have:=congrArg aoM e;rw[mH]at this;exact h0 this
  obtain⟨n,hn⟩:∃n,b.size=n:=⟨_,rfl⟩
  rw[hn]at h1 h0
  cases h1 with
  |bM _ h=>cases h
  |eD=>exact absurd rfl h0
  |sl _ _ _ _ bI q hq hc=>
   obtain⟨o',k1,k2,_⟩:=hw.live 0 _ q (by rw[cD rfl];rfl) hq (oq bu)
   cases k2 with
   |cells _ _ b8 _ a fr g1 g2 g3 g4 g5 g6=>
   refine fin rfl ?_
   have:=aav q.aN (q.sh+0) n bI (b.data.toList.map fun x=>(x.toNat:Int)) c w (by rw[aqT];exact hn) (fun i hi=>by
    have fo:i<b.data.toList.length:=by rw[←hn]at hi;exact hi
    obtain⟨v',g7,g8⟩:=g6 i (.int .u8 (b.data.toList[i].toNat)) (by unfold af;rw[aqk,aoV fo];rfl)
    have:=g8.jG
    subst this
    simp only[avz,k1,Nat.add_zero,g7]
    rw[List.getD_eq_getElem?_getD,aqk,aoV fo]
    rfl)
   have e:atH (b.data.toList.map fun x=>(x.toNat:Int))=b.data.toList:=by
    unfold atH
    rw[arN]
    conv=>rhs;rw[←atG b.data.toList]
    refine aq0 fun x _=>?_
    simp
   rw[e]at this
   exact this
end Go.Proofs.YtnlkkgpcikkpoaaGreat
namespace Go.Proofs.YtnlkkgpcikkpoaaGreat
open Go Vm Go.RowKit
noncomputable section
noncomputable def aaB:List (apr×Sum):=[(100,Sum.of GC)]
theorem Bj:dk aoL (dB aoL (dE aaB) 50 40):=dI de mixed (dR (.cons aaz .nil)) 50 40
noncomputable def aaC:List apw:=bd (dC aoL 74)
open Tree renaming aW→mN,dn→mF,eS→mL,fA→mQ,dD→mR,fK→mE
abbrev yx:=fun S L R H d=>([ab (aM S 1 2 3 4) 89,.abs d,ab (ao L) 9,ab (ap R) 3,ab (aj H) 114]:List ak)
abbrev Ot:=fun S L R H d a b=>(⟨[(6,aa (cf b a))],yx S L R H d⟩:ai)
theorem aaD(S L R H d a b){Q:bo}(hq:Q (.ret (aa (cf b a))) (yx S L R H d)):aJ aoL 74 17 5 Q .ret (Ot S L R H d a b):=aJ.ret (vs:=[aa (cf b a)]) (l:=[]) (bs:=[0,1,2,3,4]) (pl:=[2,3,4]) (q:=[ao L,ap R,aj H]) (fun u=>by kernel_rfl) (by kernel_rfl) (fY L R H bi) hq
abbrev Ou:=fun S L R H d a b=>(⟨[(6,aa (cf a b))],yx S L R H d⟩:ai)
theorem aaE(S L R H d a b){Q:bo}(hq:Q (.ret (aa (cf a b))) (yx S L R H d)):aJ aoL 74 17 5 Q .ret (Ou S L R H d a b):=aJ.ret (vs:=[aa (cf a b)]) (l:=[]) (bs:=[0,1,2,3,4]) (pl:=[2,3,4]) (q:=[ao L,ap R,aj H]) (fun u=>by kernel_rfl) (by kernel_rfl) (fY L R H bi) hq
abbrev aaF:=fun S L R H d a b=>(⟨[(0,al 0),(1,.string a),(2,.string b)],yx S L R H d⟩:ai)
theorem aaG(S L R H d a b)(pH:(aj H).all ag=true){Q:aY}(l3:(ad.aD S)=true→Q .ret (Ot S L R H d a b))(l4:(ad.aD S)=false→Q .ret (Ou S L R H d a b)):an aoL 17 5 aaC (aaF S L R H d a b) Q:=
 aZ Bj 1000 (.fork 1 (.leaf [6] [0,1,2,3,4] [2,3,4]) (.leaf [6] [0,1,2,3,4] [2,3,4])) (fun u=>by kernel_rfl) (mF (c:=ad.aD S) (fun h0=>(aL L R H (mR (l3 h0)))) (fun h0=>(aL L R H (mR (l4 h0)))))
end
end Go.Proofs.YtnlkkgpcikkpoaaGreat
namespace Go.Proofs.YtnlkkgpcikkpoaaGreat
structure TO{α:Type}(c:α→α→Int):Prop where
 asym:∀a b,c a b<0→¬c b a<0
 trans:∀a b x,¬c b a<0→¬c x b<0→¬c x a<0
 aaH:∀a b,¬c a b<0→¬c b a<0→a=b
section
variable {α:Type} {c:α→α→Int}
def fN(c:α→α→Int)(a b:α):Bool:= !decide (c b a<0)
theorem pS{a b:α}:fN c a b=true↔¬c b a<0:=by unfold fN;simp
theorem TO.le_trans(h:TO c){a b x:α}(h1:fN c a b=true)(h2:fN c b x=true):fN c a x=true:=by
 rw[pS]at*;exact h.trans a b x h1 h2
theorem TO.total(h:TO c)(a b:α):fN c a b=true∨fN c b a=true:=by
 rw[pS,pS]
 by_cases h1:c b a<0
 ·exact .inr (h.asym b a h1)
 ·exact .inl h1
theorem TO.aaI(h:TO c){a b:α}(h1:fN c a b=true)(h2:fN c b a=true):a=b:=by
 rw[pS]at*;exact h.aaH a b h2 h1
theorem TO.refl(h:TO c)(a:α):fN c a a=true:=by rcases h.total a a with h|h<;>exact h
abbrev dF(c:α→α→Int)(l:List α):Prop:=l.Pairwise fun a b=>fN c a b=true
def bK(c:α→α→Int)(l:List α):List α:=l.mergeSort (fN c)
theorem kQ(l:List α):(bK c l).Perm l:=List.mergeSort_perm l _
theorem pT(h:TO c)(l:List α):dF c (bK c l):=by
 refine List.pairwise_mergeSort (le:=fN c) (fun a b x h1 h2=>h.le_trans h1 h2) (fun a b=>?_) l
 rcases h.total a b with h|h<;>simp[h]
theorem Ov(h:TO c):∀{l l':List α},l.Perm l'→dF c l→dF c l'→l=l'
 | [],l',hp,_,_=>(List.nil_perm.1 hp).symm
 |a::l,[],hp,_,_=>absurd hp.length_eq (by simp)
 |a::l,b::l',hp,h1,h2=>by
  have jv:a=b:=by
   have ha:a∈b::l':=hp.mem_iff.1 ape
   have hb:b∈a::l:=hp.mem_iff.2 ape
   rcases ao8.1 ha with e|ha
   ·exact e
   rcases ao8.1 hb with e|hb
   ·exact e.symm
   exact h.aaI ((arU.1 h1).1 b hb) ((arU.1 h2).1 a ha)
  subst jv
  rw[Ov h ((List.perm_cons a).1 hp) (arU.1 h1).2 (arU.1 h2).2]
theorem yy(h:TO c){l l':List α}(hp:l'.Perm l)(hs:dF c l'):l'=bK c l:=Ov h (hp.trans (kQ l).symm) hs (pT h l)
theorem GD(h:TO c){l:List α}(hs:dF c l):bK c l=l:=(yy h (List.Perm.refl l) hs).symm
theorem nU(l:List α):(bK c l).length=l.length:=(kQ l).length_eq
theorem GF(h:TO c){l l':List α}(hp:l.Perm l'):bK c l=bK c l':=yy h ((kQ l).trans hp) (pT h l)
theorem aaJ(h:TO c){X Y:List α}(nM:∀x∈X,∀y∈Y,fN c x y=true):bK c (X++Y)=bK c X++bK c Y:=by
 refine(yy h ((kQ X).append (kQ Y)) ?_).symm
 refine ar5.2 ⟨pT h X,pT h Y,fun x hx y hy=>nM x ((kQ X).mem_iff.1 hx) y ((kQ Y).mem_iff.1 hy)⟩
def aR(L:List α)(a b:Nat):List α:=(L.drop a).take (b-a)
def b9(c:α→α→Int)(L:List α)(a b:Nat):List α:=L.take a++(bK c (aR L a b)++L.drop b)
theorem jp{L:List α}{a b:Nat}(h1:a≤b)(h2:b≤L.length):(aR L a b).length=b-a:=by unfold aR;rw[apI,ap0];omega
theorem nm(L:List α){a m b:Nat}(h1:a≤m)(h2:m≤b):aR L a b=aR L a m++aR L m b:=by
 unfold aR
 rw[show b-a=(m-a)+(b-m)by omega,List.take_add,ap2,show a+(m-a)=m by omega]
theorem sr(L:List α){a b:Nat}(h:a≤b):L=L.take a++(aR L a b++L.drop b):=by
 unfold aR
 have:L.drop b=(L.drop a).drop (b-a):=by rw[ap2,show a+(b-a)=b by omega]
 rw[this,ap6,ap6]
theorem Ow{L:List α}{a b:Nat}(h1:a≤b)(h2:b≤L.length):(b9 c L a b).length=L.length:=by
 unfold b9
 rw[ao5,ao5,nU,jp h1 h2,apI,ap0];omega
theorem GG{T X:List α}{n:Nat}(h:T.length=n):(T++X).take n=T:=by rw[←h];simp
theorem GH{T X:List α}{n:Nat}(h:T.length=n):(T++X).drop n=X:=by rw[←h];simp
theorem nV{T X D:List α}{a b:Nat}(h:T.length=a)(h2:X.length=b-a):aR (T++(X++D)) a b=X:=by
 unfold aR;rw[GH h,GG h2]
theorem vZ{T X D:List α}{a b:Nat}(h:T.length=a)(h1:a≤b)(h2:X.length=b-a):b9 c (T++(X++D)) a b=T++(bK c X++D):=by
 unfold b9
 have:(T++(X++D)).drop b=D:=by rw[←api];exact GH (by rw[ao5];omega)
 rw[GG h,nV h h2,this]
def du(T S D:List α)(x:α)(j:Nat):List α:=T++(S.take j++(x::(S.drop j++D)))
theorem GI{T S D:List α}{x:α}{j:Nat}(h:j≤S.length):(du T S D x j).length=T.length+S.length+1+D.length:=by
 unfold du;simp;omega
theorem GJ{T S D:List α}{x:α}{j:Nat}(h:j≤S.length):(du T S D x j)[T.length+j]?=some x:=by
 unfold du
 rw[apz (by omega),show T.length+j-T.length=j by omega,apz (by simp;omega)]
 simp[Nat.min_eq_left h]
theorem Ox{T S D:List α}{x:α}{j:Nat}(h:j<S.length):(du T S D x (j+1))[T.length+j]?=S[j]? :=by
 unfold du
 rw[apz (by omega),show T.length+j-T.length=j by omega,List.getElem?_append_left (by simp;omega),ash (by omega)]
theorem aaK{P Z:List α}{x y:α}{n:Nat}(h:P.length=n):((P++(y::x::Z)).set (n+1) y).set n x=P++(x::y::Z):=by
 subst h
 rw[asI _ _ (by omega),asI _ _ (by omega),show P.length+1-P.length=1 by omega,arr]
 rfl
theorem pU{S:List α}{y:α}{j:Nat}(hy:S[j]?=some y):S.take (j+1)=S.take j++[y]∧S.drop j=y::S.drop (j+1):=by
 obtain⟨hj,rfl⟩:=ao0.1 hy
 exact⟨by rw[List.take_succ_eq_append_getElem hj],by rw[List.drop_eq_getElem_cons hj]⟩
theorem Oy{T S D:List α}{x y:α}{j:Nat}(h:j<S.length)(hy:S[j]?=some y):((du T S D x (j+1)).set (T.length+(j+1)) y).set (T.length+j) x=du T S D x j:=by
 obtain⟨e1,e2⟩:=pU hy
 have a1:du T S D x (j+1)=(T++S.take j)++(y::x::(S.drop (j+1)++D)):=by unfold du;rw[e1];simp
 have a2:du T S D x j=(T++S.take j)++(x::y::(S.drop (j+1)++D)):=by unfold du;rw[e2];simp
 rw[a1,a2,show T.length+(j+1)=T.length+j+1 by omega]
 exact aaK (by rw[ao5,apI];omega)
theorem Oz(h:TO c){S:List α}{x:α}{j:Nat}(hS:dF c S)(hj:j≤S.length)(h1:∀k y,k<j→S[k]?=some y→fN c y x=true)(h2:∀k y,j≤k→S[k]?=some y→fN c x y=true):S.take j++(x::S.drop j)=bK c (S++[x]):=by
 refine yy h ?_ ?_
 ·have:(S.take j++(x::S.drop j)).Perm (x::(S.take j++S.drop j)):=List.perm_middle
  rw[ap6]at this
  exact this.trans (List.perm_append_comm (l₁:=[x]) (l₂:=S))
 ·refine ar5.2 ⟨hS.sublist (List.take_sublist _ _),arU.2 ⟨fun y hy=>?_,hS.sublist (List.drop_sublist _ _)⟩,fun y hy z hz=>?_⟩
  ·obtain⟨k,hk⟩:=aqg hy
   rw[aqb]at hk
   exact h2 _ y (by omega) hk
  ·have qN:fN c y x=true:=by
    obtain⟨k,hk⟩:=aqg hy
    have OA:k<j:=by
     have:=(ao0.1 hk).1
     rw[apI]at this;omega
    rw[ash OA]at hk
    exact h1 k y OA hk
   rcases ao8.1 hz with rfl|hz
   ·exact qN
   ·obtain⟨k,hk⟩:=aqg hz
    rw[aqb]at hk
    exact h.le_trans qN (h2 _ z (by omega) hk)
theorem Bk{S:List α}(hS:dF c S)(h:TO c){i j:Nat}{a b:α}(iC:i≤j)(ha:S[i]?=some a)(hb:S[j]?=some b):fN c a b=true:=by
 obtain⟨hi,rfl⟩:=ao0.1 ha
 obtain⟨hj,rfl⟩:=ao0.1 hb
 rcases Nat.lt_or_eq_of_le iC with hlt|rfl
 ·exact List.pairwise_iff_getElem.1 hS i j hi hj hlt
 ·exact h.refl _
end
end Go.Proofs.YtnlkkgpcikkpoaaGreat
namespace Go.Proofs.YtnlkkgpcikkpoaaGreat
open Go Vm Go.RowKit
def ba(f:Bool)(a b:ByteArray):Int:=match f with
 |true=>cf b a
 |false=>cf a b
theorem aaL(S:ad)(L:List ByteArray)(R:List Int)(H:List aq)(d:au)(a b:ByteArray):aI aoL 74 [.pointer (some ⟨0,0,none⟩),.string a,.string b] (aO S L R H d) fun r o=>r=.ret (.int .i64 (ba S.aD a b))∧o=aO S L R H d:=by
 refine aI.cY (n:=cp aoL 74) (by kernel_rfl) ?_
 have pH:=a7 H
 apply aaG S L R H d a b pH
 case l3=>intro g;exact aaD S L R H d a b ⟨by unfold ba;rw[g],rfl⟩
 case l4=>intro g;exact aaE S L R H d a b ⟨by unfold ba;rw[g],rfl⟩
noncomputable def qS(o:List ak):Bool:=@decide (∃S L R H d,o=aO S L R H d) (apj _)
theorem v7{S:ad}{L:List ByteArray}{R:List Int}{H:List aq}{d:au}{o:List ak}(h:o=aO S L R H d):qS o=true:=by
 unfold qS
 exact(@decide_eq_true_iff _ (apj _)).2 ⟨S,L,R,H,d,h⟩
noncomputable def GK(a:List aoP)(o:List ak):Option (Bool×bO×List ak):=match a,o with
 | [.pointer (some ⟨0,0,none⟩),.string x,.string y],ak.cells c t r::l=>match(c[70]?:Option aoP)with
  |some (Value.bool f)=>some (qS (.cells c t r::l),.ret (.int .i64 (ba f x y)),.cells c t r::l)
  |_=>none
 |_,_=>none
theorem aaM:bB aoL 74 (Sum.dp aoL GK):=bB.dp fun a o r o' hg=>by
 unfold GK at hg
 split at hg
 ·split at hg
  ·rename_i f hf
   rename_i x y c t ro l _
   simp only[aoU,aoX]at hg
   obtain⟨h1,rfl,rfl⟩:=hg
   obtain⟨S,L,R,H,d,he⟩:=@of_decide_eq_true _ (apj _) h1
   have hc:c=aM S 1 2 3 4:=by unfold aO at he;injection he with h1 _;injection h1
   have uj:f=S.aD:=by
    rw[hc]at hf
    have:(aM S 1 2 3 4)[70]?=some (.bool S.aD):=rfl
    rw[this]at hf
    cases hf;rfl
   subst uj
   rw[he]
   exact aaL S L R H d x y
  ·cases hg
 ·cases hg
theorem OB:∀a b:List UInt8,aqe a b<0↔0<aqe b a
 | [],[]=>by simp[aqe]
 | [],_::_=>by simp[aqe]
 |_::_,[]=>by simp[aqe]
 |a::l,b::m=>by
  unfold aqe
  by_cases h1:a<b
  ·rw[if_pos h1,if_neg (by simpa using UInt8.le_of_lt h1),if_pos h1];simp
  ·rw[if_neg h1]
   by_cases h2:b<a
   ·rw[if_pos h2,if_pos h2];simp
   ·rw[if_neg h2,if_neg h2,if_neg h1]
    exact OB l m
theorem cmpL_eq:∀a b:List UInt8,aqe a b=0→a=b
 | [],[],_=>rfl
 | [],_::_,h=>by simp[aqe]at h
 |_::_,[],h=>by simp[aqe]at h
 |a::l,b::m,h=>by
  unfold aqe at h
  split at h
  ·cases h
  ·split at h
   ·cases h
   ·rename_i h1 h2
    have:a=b:=atk (by simpa using h2) (by simpa using h1)
    rw[this,cmpL_eq l m h]
theorem OC:∀a b x:List UInt8,aqe a b≤0→aqe b x≤0→aqe a x≤0
 | [],b,x,_,_=>by cases x<;>simp[aqe]
 |_::_,[],x,h,_=>by simp[aqe]at h
 |a::l,b::m,[],_,h=>by simp[aqe]at h
 |a::l,b::m,x::n,h1,h2=>by
  unfold aqe at h1 h2⊢
  by_cases e1:a<b
  ·by_cases e2:b<x
   ·rw[if_pos (UInt8.lt_trans e1 e2)];simp
   ·rw[if_neg e2]at h2
    by_cases e3:x<b
    ·rw[if_pos e3]at h2;omega
    ·have:b=x:=atk (by simpa using e3) (by simpa using e2)
     subst this
     rw[if_pos e1];simp
  ·rw[if_neg e1]at h1
   by_cases e2:b<a
   ·rw[if_pos e2]at h1;omega
   ·have:a=b:=atk (by simpa using e2) (by simpa using e1)
    subst this
    rw[if_neg e2]at h1
    by_cases e3:a<x
    ·rw[if_pos e3];simp
    ·rw[if_neg e3]at h2⊢
     by_cases e4:x<a
     ·rw[if_pos e4]at h2;omega
     ·rw[if_neg e4]at h2⊢
      exact OC l m n h1 h2
theorem v8(f:Bool):TO (ba f):=by
 have neg:∀a b,cf a b<0↔0<cf b a:=fun a b=>OB _ _
 have tr:∀a b x,cf a b≤0→cf b x≤0→cf a x≤0:=fun a b x=>OC _ _ _
 have eq:∀a b,cf a b=0→a=b:=fun a b h=>by
  have:=cmpL_eq _ _ h
  cases a with|mk a=>cases b with|mk b=>
  have:=congrArg List.toArray this
  simp only[ap1]at this
  rw[this]
 cases f with
 |true=>
  refine⟨fun a b h h'=>?_,fun a b x h1 h2=>?_,fun a b h1 h2=>?_⟩
  ·have:=(neg b a).1 h;have h':cf a b<0:=h';omega
  ·have h1:¬cf a b<0:=h1
   have h2:¬cf b x<0:=h2
   show¬cf a x<0
   have a1:cf b a≤0:=by have:=neg a b;have:=neg b a;omega
   have a2:cf x b≤0:=by have:=neg b x;have:=neg x b;omega
   have:=tr x b a a2 a1
   have:=neg a x;have:=neg x a;omega
  ·have h1:¬cf b a<0:=h1
   have h2:¬cf a b<0:=h2
   exact eq a b (by have:=neg a b;have:=neg b a;omega)
 |false=>
  refine⟨fun a b h h'=>?_,fun a b x h1 h2=>?_,fun a b h1 h2=>?_⟩
  ·have:=(neg a b).1 h;have h':cf b a<0:=h';omega
  ·have h1:¬cf b a<0:=h1
   have h2:¬cf x b<0:=h2
   show¬cf x a<0
   have a1:cf a b≤0:=by have:=neg a b;have:=neg b a;omega
   have a2:cf b x≤0:=by have:=neg b x;have:=neg x b;omega
   have:=tr a b x a1 a2
   have:=neg a x;have:=neg x a;omega
  ·have h1:¬cf a b<0:=h1
   have h2:¬cf b a<0:=h2
   exact eq a b (by have:=neg a b;have:=neg b a;omega)
noncomputable section
noncomputable def aaN:List (apr×Sum):=[(74,Sum.dp aoL GK)]
theorem su:dk aoL (dB aoL (dE aaN) 50 40):=dI de mixed (dR (.cons aaM .nil)) 50 40
noncomputable def yz:List apw:=bd (dC aoL 121)
open Tree renaming aW→mN,dn→mF,eS→mL,fA→mQ,dD→mR,fK→mE
noncomputable abbrev Bl:List apw:=(bd (inner (bd (inner (yz.drop 1)))))
noncomputable abbrev GL:List apw:=(bd (inner (Bl.drop 2)))
noncomputable abbrev aaO:List apw:=(bd (inner (bd (inner (GL.drop 1)))))
def OD:Nat→Bool→Bool→Tree→Tree
 |0,_,_,t=>t
 |n+1,d,b,t=>.cM d b (OD n d b t)
theorem Bm{R:bj→ai→Prop}{c v:Bool}{t:Tree}(n:Nat)(h1:c=v)(h2:t.ok R):(OD n c v t).ok R:=by
 induction n with
 |zero=>exact h2
 |succ n ih=>exact⟨h1,ih⟩
abbrev pV:=fun S R H d L=>([ab (ao L) 9,ab (aM S 2 0 3 4) 89,.abs d,ab (ap R) 3,ab (aj H) 114]:List ak)
abbrev GM:=fun S R H d (n:Nat) L (a b:Int)=>(⟨[(0,ah 0 n),(1,aa a),(2,aa b),(3,.func (.func 74) #[al 1] #[]),(8,.int .i64 (aoN .i64 (a+1)))],pV S R H d L⟩:ai)
abbrev aaP:=fun S R H d (n:Nat) L (a b:Int)=>(⟨[(0,ah 0 n),(1,aa a),(2,aa b),(3,.func (.func 74) #[al 1] #[])],pV S R H d L⟩:ai)
theorem aaQ(S R H d)(n:Nat)(L)(a b:Int)(pH:(aj H).all ag=true)(hn:(aoM L)=n)(hw:aoN .i64 (a+1)=a+1){Q:aY}(l3:an aoL 53 5 (yz.drop 1) (GM S R H d n L a b) Q):an aoL 53 5 yz (aaP S R H d n L a b) Q:=
 aZ bt 1 (.leaf [0,1,2,3,8] [0,1,2,3,4] [0,3,4]) (fun u=>by kernel_rfl) (aL L R H (mQ l3))
abbrev aaR:=fun S R H d (n:Nat) L (a b i:Int)=>(⟨[(0,ah 0 n),(1,aa a),(2,aa b),(3,.func (.func 74) #[al 1] #[]),(8,aa i)],pV S R H d L⟩:ai)
noncomputable abbrev aaS(S:ad)(R:List Int)(H:List aq)(d:au)(n:Nat)(L:List ByteArray)(a b i:Int):ai:=⟨[],pV S R H d L⟩
abbrev GN:=fun S R H d (n:Nat) L (a b i:Int)=>(⟨[(0,ah 0 n),(1,aa a),(2,aa b),(3,.func (.func 74) #[al 1] #[]),(8,aa i)],pV S R H d L⟩:ai)
theorem aaT(S R H d)(n:Nat)(L)(a b i:Int)(pH:(aj H).all ag=true)(hn:(aoM L)=n){Q:aY}(l3:(decide (i<b))=true→an aoL 53 5 (Bl.drop 2) (aaR S R H d n L a b i) Q)(l4:(decide (i<b))=false→Q (.exit 0) (aaS S R H d n L a b i)):an aoL 53 5 Bl (GN S R H d n L a b i) Q:=
 aZ bt 2 (.fork 0 (.leaf [0,1,2,3,8] [0,1,2,3,4] [0,3,4]) (.leaf [] [0,1,2,3,4] [0,3,4])) (fun u=>by kernel_rfl) (mF (c:=decide (i<b)) (fun h0=>(aL L R H (mQ (l3 h0)))) (fun h0=>(aL L R H (mE 0 (l4 h0)))))
abbrev GO:=fun S R H d (n:Nat) L (a b i:Int)=>(⟨[(0,ah 0 n),(1,aa a),(2,aa b),(3,.func (.func 74) #[al 1] #[]),(8,aa i),(9,aa i)],pV S R H d L⟩:ai)
theorem aaU(S R H d)(n:Nat)(L)(a b i:Int)(pH:(aj H).all ag=true)(hn:(aoM L)=n){Q:aY}(l3:an aoL 53 5 (GL.drop 1) (GO S R H d n L a b i) Q):an aoL 53 5 GL (GN S R H d n L a b i) Q:=
 aZ bt 1 (.leaf [0,1,2,3,8,9] [0,1,2,3,4] [0,3,4]) (fun u=>by kernel_rfl) (aL L R H (mQ l3))
abbrev OE:=fun S R H d (n:Nat) L (a b i j:Int)=>(⟨[(0,ah 0 n),(1,aa a),(2,aa b),(3,.func (.func 74) #[al 1] #[]),(8,aa i),(9,.int .i64 (aoN .i64 (j-1)))],[ab (bf (bf (ao L) (0+aoO j*1) [apm (bc (ao L) (0+aoO (aoN .i64 (j-1))*1))]) (0+aoO (aoN .i64 (j-1))*1) [apm (bc (ao L) (0+aoO j*1))]) 9,ab (aM S 2 0 3 4) 89,.abs d,ab (ap R) 3,ab (aj H) 114]⟩:ai)
abbrev aaV:=fun S R H d (n:Nat) L (a b i j:Int)=>(⟨[(0,ah 0 n),(1,aa a),(2,aa b),(3,.func (.func 74) #[al 1] #[]),(8,aa i)],pV S R H d L⟩:ai)
abbrev aaW:=fun S R H d (n:Nat) L (a b i j:Int)=>(⟨[(0,ah 0 n),(1,aa a),(2,aa b),(3,.func (.func 74) #[al 1] #[]),(8,aa i)],pV S R H d L⟩:ai)
abbrev aaX:=fun S R H d (n:Nat) L (a b i j:Int)=>(⟨[(0,ah 0 n),(1,aa a),(2,aa b),(3,.func (.func 74) #[al 1] #[]),(8,aa i),(9,aa j)],pV S R H d L⟩:ai)
theorem aaY(S R H d)(n:Nat)(L)(a b i j:Int)(pH:(aj H).all ag=true)(hn:(aoM L)=n)(ha:0≤a)(hj:a≤j)(hl:j<n)(hL:n≤1000000)(hw:aoN .i64 (j-1)=j-1){Q:aY}(n0:(decide (j>a))=true→(eQ (ao L) (0+aoO j*1))=true)(n1:(decide (j>a))=true→(eQ (ao L) (0+aoO (aoN .i64 (j-1))*1))=true)(n2:(decide (j>a))=true→(qS [ab (aM S 1 2 3 4) 89,ak.abs d,ab (ao L) 9,ab (ap R) 3,ab (aj H) 114])=true)(n3:(decide (j>a))=true→(decide (ba (ad.aD S) (bc (ao L) (0+aoO j*1)) (bc (ao L) (0+aoO (aoN .i64 (j-1))*1))<0))=true→(apf (0+aoO (aoN .i64 (j-1))*1+1) (aoM (bf (ao L) (0+aoO j*1) [apm (bc (ao L) (0+aoO (aoN .i64 (j-1))*1))])))=true)(aX:aoS (ap R) ag=true)(bh:aoS (aj H) ag=true)(l6:(decide (j>a))=true→(decide (ba (ad.aD S) (bc (ao L) (0+aoO j*1)) (bc (ao L) (0+aoO (aoN .i64 (j-1))*1))<0))=true→Q .normal (OE S R H d n L a b i j))(bD:aoS (ao L) ag=true)(l8:(decide (j>a))=true→(decide (ba (ad.aD S) (bc (ao L) (0+aoO j*1)) (bc (ao L) (0+aoO (aoN .i64 (j-1))*1))<0))=false→Q (.exit 2) (aaV S R H d n L a b i j))(l9:(decide (j>a))=false→Q (.exit 2) (aaW S R H d n L a b i j)):an aoL 53 5 aaO (aaX S R H d n L a b i j) Q:=
 aZ su 1000 (.fork 0 (aA [1,1,1,0,1,1,1,0,1,1,1,1,1,0,1,1,1,0,1,1,3,1,1,1,1,1,1,1,1] (.fork 0 (aA [0,1,1,0,1,0,1,1,0,1,0,1,1,0,1,0,1,1,0,1] (.leaf [0,1,2,3,8,9] [0,1,2,3,4] [0,3,4])) (.leaf [0,1,2,3,8] [0,1,2,3,4] [0,3,4]))) (aA [0,0,0,0,0,0,0,0,0,0,0,0] (.leaf [0,1,2,3,8] [0,1,2,3,4] [0,3,4]))) (fun u=>by kernel_rfl) (mF (c:=decide (j>a)) (fun h0=>(Bm 3 h0 (mN (decide_eq_true (by omega):(decide (0≤j))=true) (mN (show(ao9 (aoO j) n)=true by simp at pH hn ha hj hl hL hw h0⊢ <;>omega) (mN h0 (mN (n0 h0) (Bm 4 h0 (mN (show(decide (0≤aoN .i64 (j-1)))=true by simp at pH hn ha hj hl hL hw h0⊢ <;>omega) (mN (show(ao9 (aoO (aoN .i64 (j-1))) n)=true by simp at pH hn ha hj hl hL hw h0⊢ <;>omega) (mN h0 (mN (n1 h0) (mN h0 (aL L R H (mN (n2 h0) (aL L R H (Bm 2 h0 (mF (c:=decide (ba (ad.aD S) (bc (ao L) (0+aoO j*1)) (bc (ao L) (0+aoO (aoN .i64 (j-1))*1))<0)) (fun h1=>(mN (show(decide (0≤aoN .i64 (j-1)))=true by simp at pH hn ha hj hl hL hw h0 h1⊢ <;>omega) (mN (show(ao9 (aoO (aoN .i64 (j-1))) n)=true by simp at pH hn ha hj hl hL hw h0 h1⊢ <;>omega) (mN (n1 h0) (mN (decide_eq_true (by omega):(decide (0≤j))=true) (mN (show(ao9 (aoO j) n)=true by simp at pH hn ha hj hl hL hw h0 h1⊢ <;>omega) (mN (n0 h0) (mN (decide_eq_true (by omega):(decide (0≤j))=true) (mN (show(ao9 (aoO j) n)=true by simp at pH hn ha hj hl hL hw h0 h1⊢ <;>omega) (mN (show(apf (0+aoO j*1+1) (aoM (ao L)))=true by simp at pH hn ha hj hl hL hw h0 h1⊢ <;>omega) (mN (show(decide (0≤aoN .i64 (j-1)))=true by simp at pH hn ha hj hl hL hw h0 h1⊢ <;>omega) (mN (show(ao9 (aoO (aoN .i64 (j-1))) n)=true by simp at pH hn ha hj hl hL hw h0 h1⊢ <;>omega) (mN (n3 h0 h1) (mN (show(aoS (bf (bf (ao L) (0+aoO j*1) [apm (bc (ao L) (0+aoO (aoN .i64 (j-1))*1))]) (0+aoO (aoN .i64 (j-1))*1) [apm (bc (ao L) (0+aoO j*1))]) ag)=true by simp) (mN (aQ R) (mN (a7 H) (mQ (an.done (by kernel_rfl) (l6 h0 h1))))))))))))))))))) (fun h1=>(aL L R H (mE 2 (l8 h0 h1))))))))))))))))))))) (fun h0=>(Bm 12 h0 (aL L R H (mE 2 (l9 h0))))))
abbrev OF:=fun S R H d (n:Nat) L (a b i:Int)=>(⟨[(0,ah 0 n),(1,aa a),(2,aa b),(3,.func (.func 74) #[al 1] #[]),(8,.int .i64 (aoN .i64 (i+1)))],pV S R H d L⟩:ai)
theorem aaZ(S R H d)(n:Nat)(L)(a b i:Int)(pH:(aj H).all ag=true)(hn:(aoM L)=n)(hw:aoN .i64 (i+1)=i+1){Q:aY}(l3:Q .normal (OF S R H d n L a b i)):an aoL 53 5 (Bl.drop 3) (GN S R H d n L a b i) Q:=
 aZ bt 1000 (.leaf [0,1,2,3,8] [0,1,2,3,4] [0,3,4]) (fun u=>by kernel_rfl) (aL L R H (mQ (an.done (by kernel_rfl) l3)))
end
def fG(n:Nat):aoP:=.slice (some ⟨0,0,none⟩) n n
def fZ:aoP:=.func (.func 74) #[.pointer (some ⟨1,0,none⟩)] #[]
def iZ(k:Nat):aoP:=.int .i64 k
def cU(S:ad)(R:List Int)(H:List aq)(d:au)(L:List ByteArray):List ak:=[.cells (ao L) 9 false,.cells (aM S 2 0 3 4) 89 false,.abs d,.cells (ap R) 3 false,.cells (aj H) 114 false]
theorem ff{k:Nat}(h:k<1000000000):(.int .i64 (aoN ao2 ((k:Int)+1)):aoP)=iZ (k+1):=by
 rw[ng (by omega) (by omega)];rfl
theorem bL{z:Int}(h: -1000000000≤z)(h2:z<1000000000):aoN ao2 z=z:=ng (by omega) (by omega)
theorem dY{L:List ByteArray}{k:Nat}{x:ByteArray}(h:L[k]?=some x):bc (ao L) k=x∧eQ (ao L) k=true:=by
 have:(ao L)[k]?=some (.string x):=by unfold ao;rw[aqk,h];rfl
 exact⟨by unfold bc;rw[this],by unfold eQ;rw[this]⟩
theorem nW{L:List ByteArray}{k:Nat}{x:ByteArray}(h:k<L.length):bf (ao L) k [apm x]=ao (L.set k x):=by
 unfold bf ao
 rw[List.map_set,List.set_eq_take_append_cons_drop,if_pos (by rw[aqT];exact h)]
 simp
theorem gd{x:Nat}:0+aoO (x:Int)*1=x:=by simp
section
variable (S:ad) (R:List Int) (H:List aq) (d:au)
def yA(n a z:Nat)(L:List ByteArray)(i:Nat):ai:=⟨[(0,fG n),(1,iZ a),(2,iZ z),(3,fZ),(8,iZ i)],cU S R H d (b9 (ba S.aD) L a i)⟩
def Bn(n a z i:Nat)(T X D:List ByteArray)(x:ByteArray)(j:Nat):ai:=⟨[(0,fG n),(1,iZ a),(2,iZ z),(3,fZ),(8,iZ i),(9,iZ (a+j))],cU S R H d (du T X D x j)⟩
structure aa0(c:ByteArray→ByteArray→Int)(X:List ByteArray)(x:ByteArray)(j:Nat):Prop where
 h1:j≤X.length
 h2:∀k y,j≤k→X[k]?=some y→fN c x y=true
theorem aa1(L:List ByteArray)(n a z:Nat)(hn:L.length=n)(hL:n≤1000000)(anS:a≤z)(hz:z≤n):
 aI aoL 121 [fG n,iZ a,iZ z,fZ] (cU S R H d L) fun r o=>r=.ret (.tuple #[])∧o=cU S R H d (b9 (ba S.aD) L a z):=by
 have pH:=a7 H
 have fT:=v8 S.aD
 have hlen:∀i,a≤i→i≤n→(b9 (ba S.aD) L a i).length=n:=fun i h1 h2=>by rw[Ow h1 (by omega),hn]
 have h1:b9 (ba S.aD) L a (a+1)=L:=by
  have:bK (ba S.aD) (aR L a (a+1))=aR L a (a+1):=GD fT (by
   unfold aR
   rw[show a+1-a=1 by omega]
   cases L.drop a with
   |nil=>exact .nil
   |cons y l=>exact List.pairwise_singleton _ _)
  unfold b9
  rw[this]
  exact(sr L (Nat.le_succ a)).symm
 have h0:b9 (ba S.aD) L a a=L:=by
  unfold b9
  have:aR L a a=[]:=by unfold aR;rw[arr,ar0]
  rw[this]
  show L.take a++(bK _ []++L.drop a)=L
  rw[GD fT .nil,aqw,ap6]
 refine aI.cY (n:=cp aoL 121) (by kernel_rfl) ?_
 apply aaQ S R H d n L a z pH hn (bL (by omega) (by omega))
 ·
  have e:GM S R H d n L a z=yA S R H d n a z L (a+1):=by unfold GM yA;rw[h1,ff (by omega)];rfl
  rw[e]
  refine an.eO 1 0 (by kernel_rfl) ?_
  refine an.fL (yA S R H d n a z L) (fun i=>z-i) (fun i=>a+1≤i∧(i≤z∨i=a+1)) (a+1) (by kernel_rfl) ⟨apn _,.inr rfl⟩ ?_
  rintro i ⟨hi,vD⟩
  have gg:(b9 (ba S.aD) L a i).length=n:=by
   rcases vD with h|rfl
   ·exact hlen i (by omega) (by omega)
   ·rw[h1];exact hn
  apply aaT S R H d n (b9 (ba S.aD) L a i) a z i pH gg
  case l4=>
   intro g
   have g:=of_decide_eq_false g
   have he:b9 (ba S.aD) L a i=b9 (ba S.aD) L a z:=by
    rcases vD with h|h
    ·rw[show i=z by omega]
    ·by_cases ez:z=a
     ·subst ez;rw[h,h1,h0]
     ·rw[show i=z by omega]
   with_reducible (repeat first|refine QL.ret ?_|refine QL.exit ?_|refine QB.ret ?_|refine QB.cx ?_|refine QB.normal ?_|refine QB.cG (by rfl) ?_)
   refine an.done (by kernel_rfl) ?_
   refine aJ.normal (vs:=[]) (l:=[]) (bs:=[0,1,2,3,4]) (pl:=[0,3,4]) (q:=[ao (b9 (ba S.aD) L a i),ap R,aj H]) (fun u=>by kernel_rfl) (by kernel_rfl) (aF (by simp) (aF (by simp) (aF pH bi))) ⟨rfl,by rw[←he]⟩
  case l3=>
   intro g
   have g:=of_decide_eq_true g
   have fq:i<L.length:=by omega
   obtain⟨x,hx⟩:∃x,L[i]?=some x:=⟨_,aoV fq⟩
   have hT:(L.take a).length=a:=by rw[apI];omega
   have hX:(bK (ba S.aD) (aR L a i)).length=i-a:=by rw[nU,jp (by omega) (by omega)]
   have hM:b9 (ba S.aD) L a i=du (L.take a) (bK (ba S.aD) (aR L a i)) (L.drop (i+1)) x (i-a):=by
    unfold b9 du
    rw[←hX,List.take_length,List.drop_length,(pU hx).2,aqw]
   refine an.eO 2 1 (by kernel_rfl) ?_
   apply aaU S R H d n (b9 (ba S.aD) L a i) a z i pH gg
   ·
    have e:GO S R H d n (b9 (ba S.aD) L a i) a z i=Bn S R H d n a z i (L.take a) (bK (ba S.aD) (aR L a i)) (L.drop (i+1)) x (i-a):=by
     unfold GO Bn;rw[hM,show a+(i-a)=i by omega];rfl
    rw[e]
    refine an.eO 1 2 (by kernel_rfl) ?_
    refine an.fL (Bn S R H d n a z i (L.take a) (bK (ba S.aD) (aR L a i)) (L.drop (i+1)) x) (fun j=>j) (aa0 (ba S.aD) (bK (ba S.aD) (aR L a i)) x) (i-a) (by kernel_rfl) ⟨by omega,fun k y hk hy=>by have:=(ao0.1 hy).1;omega⟩ ?_
    intro j hj
    have GP:=hj.h1
    have nJ:(du (L.take a) (bK (ba S.aD) (aR L a i)) (L.drop (i+1)) x j).length=n:=by rw[GI GP,hT,hX,ap0];omega
    have m9:(∀k y,k<j→(bK (ba S.aD) (aR L a i))[k]?=some y→fN (ba S.aD) y x=true)→du (L.take a) (bK (ba S.aD) (aR L a i)) (L.drop (i+1)) x j=b9 (ba S.aD) L a (i+1):=fun hb=>by
     have:=Oz fT (pT fT (aR L a i)) GP hb hj.h2
     unfold b9 du
     have e2:bK (ba S.aD) (aR L a (i+1))=bK (ba S.aD) (bK (ba S.aD) (aR L a i)++[x]):=by
      refine GF fT ?_
      rw[nm L (m:=i) (by omega) (by omega)]
      have:aR L i (i+1)=[x]:=by unfold aR;rw[show i+1-i=1 by omega,(pU hx).2];rfl
      rw[this]
      exact(kQ _).symm.append_right _
     rw[e2,←this]
     simp only[api,aqK]
    have Aj:∀M,M.length=n→M=b9 (ba S.aD) L a (i+1)→an aoL 53 5 ((bd (inner (bd (inner (yz.drop 1))))).drop 3) ⟨[(0,fG n),(1,iZ a),(2,iZ z),(3,fZ),(8,iZ i)],cU S R H d M⟩ (QL (yA S R H d n a z L) (fun i=>z-i) (fun i=>a+1≤i∧(i≤z∨i=a+1)) i fun x d'=>QB 0 (fun d'=>an aoL 53 5 (yz.drop 2) d' (aJ aoL 121 (cp aoL 121) (cU S R H d L).length fun r o=>r=.ret (.tuple #[])∧o=cU S R H d (b9 (ba S.aD) L a z))) (aJ aoL 121 (cp aoL 121) (cU S R H d L).length fun r o=>r=.ret (.tuple #[])∧o=cU S R H d (b9 (ba S.aD) L a z)) x d'):=fun M aa2 aa3=>by
     apply aaZ S R H d n M a z i pH aa2 (bL (by omega) (by omega))
     ·exact QL.to (i+1) ⟨by omega,.inl (by omega)⟩ (by omega) (by unfold OF yA;rw[ff (by omega),aa3];rfl)
    have fR:(du (L.take a) (bK (ba S.aD) (aR L a i)) (L.drop (i+1)) x j)[a+j]?=some x:=by have:=GJ (T:=L.take a) (D:=L.drop (i+1)) (x:=x) GP;rw[hT]at this;exact this
    apply aaY S R H d n (du (L.take a) (bK (ba S.aD) (aR L a i)) (L.drop (i+1)) x j) a z i ((a+j:Nat):Int) pH nJ (by omega) (by omega) (by omega) hL (bL (by omega) (by omega))
    case aX=>simp
    case bh=>exact pH
    case bD=>simp
    case n0=>intro g;rw[gd];exact(dY fR).2
    case n2=>intro g;exact v7 rfl
    case l9=>
     intro g
     have g:=of_decide_eq_false g
     have tk:j=0:=by omega
     with_reducible (repeat first|refine QL.ret ?_|refine QL.exit ?_|refine QB.ret ?_|refine QB.cx ?_|refine QB.normal ?_|refine QB.cG (by rfl) ?_)
     refine an.done (by kernel_rfl) ?_
     with_reducible (repeat first|refine QL.ret ?_|refine QL.exit ?_|refine QB.ret ?_|refine QB.cx ?_|refine QB.normal ?_|refine QB.cG (by rfl) ?_)
     exact Aj _ nJ (m9 fun k y hk _=>by omega)
    all_goals
     intro g
     have g:=of_decide_eq_true g
     obtain⟨j',rfl⟩:∃j',j=j'+1:=⟨j-1,by omega⟩
     obtain⟨y,hy⟩:∃y,(bK (ba S.aD) (aR L a i))[j']?=some y:=⟨_,aoV (by omega)⟩
     have il:(du (L.take a) (bK (ba S.aD) (aR L a i)) (L.drop (i+1)) x (j'+1))[a+j']?=some y:=by have:=Ox (T:=L.take a) (D:=L.drop (i+1)) (x:=x) (S:=bK (ba S.aD) (aR L a i)) (j:=j') (by omega);rw[hT,hy]at this;exact this
     have e1:0+aoO (aoN ao2 (((a+(j'+1):Nat):Int)-1))*1=a+j':=by rw[bL (by omega) (by omega)];omega
    case n1=>rw[e1];exact(dY il).2
    case n3=>
     intro g1
     rw[e1,gd,(dY il).1,nW (by omega),yc,aql]
     exact apu (by omega)
    case l6=>
     intro g1
     rw[e1,gd,(dY il).1,(dY fR).1]at g1
     have g1:=of_decide_eq_true g1
     refine QL.to j' ⟨by omega,fun k u hk hu=>?_⟩ (by omega) ?_
     ·by_cases e:k=j'
      ·subst e;rw[hy]at hu;cases hu;rw[pS];exact fT.asym _ _ g1
      ·exact hj.h2 k u (by omega) hu
     ·unfold OE Bn
      rw[e1,gd,(dY il).1,(dY fR).1,nW (by omega),nW (by rw[aql];omega)]
      have:=Oy (T:=L.take a) (D:=L.drop (i+1)) (x:=x) (S:=bK (ba S.aD) (aR L a i)) (j:=j') (by omega) hy
      rw[hT]at this
      rw[this,bL (by omega) (by omega)]
      have:(((a+(j'+1):Nat):Int)-1)=((a+j':Nat):Int):=by omega
      rw[this]
      rfl
    case l8=>
     intro g1
     rw[e1,gd,(dY il).1,(dY fR).1]at g1
     have g1:=of_decide_eq_false g1
     with_reducible (repeat first|refine QL.ret ?_|refine QL.exit ?_|refine QB.ret ?_|refine QB.cx ?_|refine QB.normal ?_|refine QB.cG (by rfl) ?_)
     refine an.done (by kernel_rfl) ?_
     with_reducible (repeat first|refine QL.ret ?_|refine QL.exit ?_|refine QB.ret ?_|refine QB.cx ?_|refine QB.normal ?_|refine QB.cG (by rfl) ?_)
     refine Aj _ nJ (m9 fun k u hk hu=>?_)
     refine fT.le_trans (Bk (pT fT _) fT (show k≤j' by omega) hu hy) ?_
     rw[pS];exact g1
end
end Go.Proofs.YtnlkkgpcikkpoaaGreat
namespace Go.Proofs.YtnlkkgpcikkpoaaGreat
open Go Vm Go.RowKit
noncomputable section
noncomputable def GQ:List apw:=bd (dC aoL 139)
open Tree renaming aW→mN,dn→mF,eS→mL,fA→mQ,dD→mR,fK→mE
noncomputable abbrev aa4:List apw:=(bd (inner (bd (inner (GQ.drop 1)))))
abbrev Bo:=fun S R H d L=>([ab (ao L) 9,ab (aM S 2 0 3 4) 89,.abs d,ab (ap R) 3,ab (aj H) 114]:List ak)
abbrev GR:=fun S R H d (n:Nat) L (a b k:Int)=>(⟨[(0,ah 0 n),(1,aa a),(2,aa b),(3,aa k),(10,aa 0)],Bo S R H d L⟩:ai)
abbrev aa5:=fun S R H d (n:Nat) L (a b k:Int)=>(⟨[(0,ah 0 n),(1,aa a),(2,aa b),(3,aa k),(4,.func (.func 74) #[al 1] #[])],Bo S R H d L⟩:ai)
theorem aa6(S R H d)(n:Nat)(L)(a b k:Int)(pH:(aj H).all ag=true)(hn:(aoM L)=n){Q:aY}(l3:an aoL 38 5 (GQ.drop 1) (GR S R H d n L a b k) Q):an aoL 38 5 GQ (aa5 S R H d n L a b k) Q:=
 aZ bt 1 (.leaf [0,1,2,3,10] [0,1,2,3,4] [0,3,4]) (fun u=>by kernel_rfl) (aL L R H (mQ l3))
abbrev OG:=fun S R H d (n:Nat) L (a b k i:Int)=>(⟨[(0,ah 0 n),(1,aa a),(2,aa b),(3,aa k),(10,.int .i64 (aoN .i64 (i+1)))],[ab (bf (bf (ao L) (0+aoO (aoN .i64 (a+i))*1) [apm (bc (ao L) (0+aoO (aoN .i64 (b+i))*1))]) (0+aoO (aoN .i64 (b+i))*1) [apm (bc (ao L) (0+aoO (aoN .i64 (a+i))*1))]) 9,ab (aM S 2 0 3 4) 89,.abs d,ab (ap R) 3,ab (aj H) 114]⟩:ai)
noncomputable abbrev aa7(S:ad)(R:List Int)(H:List aq)(d:au)(n:Nat)(L:List ByteArray)(a b k i:Int):ai:=⟨[],Bo S R H d L⟩
abbrev aa8:=fun S R H d (n:Nat) L (a b k i:Int)=>(⟨[(0,ah 0 n),(1,aa a),(2,aa b),(3,aa k),(10,aa i)],Bo S R H d L⟩:ai)
theorem aa9(S R H d)(n:Nat)(L)(a b k i:Int)(pH:(aj H).all ag=true)(hn:(aoM L)=n)(h0:0≤i)(ha:0≤a)(jv:a+k≤b)(hb:b+k≤n)(hL:n≤1000000)(gP:aoN .i64 (a+i)=a+i)(dK:aoN .i64 (b+i)=b+i)(np:aoN .i64 (i+1)=i+1){Q:aY}(n0:(decide (i<k))=true→(eQ (ao L) (0+aoO (aoN .i64 (b+i))*1))=true)(n1:(decide (i<k))=true→(eQ (ao L) (0+aoO (aoN .i64 (a+i))*1))=true)(n2:(decide (i<k))=true→(apf (0+aoO (aoN .i64 (b+i))*1+1) (aoM (bf (ao L) (0+aoO (aoN .i64 (a+i))*1) [apm (bc (ao L) (0+aoO (aoN .i64 (b+i))*1))])))=true)(aX:aoS (ap R) ag=true)(bh:aoS (aj H) ag=true)(l5:(decide (i<k))=true→Q .normal (OG S R H d n L a b k i))(bD:aoS (ao L) ag=true)(l7:(decide (i<k))=false→Q (.exit 0) (aa7 S R H d n L a b k i)):an aoL 38 5 aa4 (aa8 S R H d n L a b k i) Q:=
 aZ bt 1000 (.fork 0 (aA [0,1,1,0,1,0,1,1,0,1,0,1,1,0,1,0,1,1,0,1] (.leaf [0,1,2,3,10] [0,1,2,3,4] [0,3,4])) (.leaf [] [0,1,2,3,4] [0,3,4])) (fun u=>by kernel_rfl) (mF (c:=decide (i<k)) (fun h0=>(mN (show(decide (0≤aoN .i64 (b+i)))=true by simp at pH hn h0 ha jv hb hL gP dK np h0⊢ <;>omega) (mN (show(ao9 (aoO (aoN .i64 (b+i))) n)=true by simp at pH hn h0 ha jv hb hL gP dK np h0⊢ <;>omega) (mN (n0 h0) (mN (decide_eq_true (by omega):(decide (0≤aoN .i64 (a+i)))=true) (mN (show(ao9 (aoO (aoN .i64 (a+i))) n)=true by simp at pH hn h0 ha jv hb hL gP dK np h0⊢ <;>omega) (mN (n1 h0) (mN (decide_eq_true (by omega):(decide (0≤aoN .i64 (a+i)))=true) (mN (show(ao9 (aoO (aoN .i64 (a+i))) n)=true by simp at pH hn h0 ha jv hb hL gP dK np h0⊢ <;>omega) (mN (show(apf (0+aoO (aoN .i64 (a+i))*1+1) (aoM (ao L)))=true by simp at pH hn h0 ha jv hb hL gP dK np h0⊢ <;>omega) (mN (show(decide (0≤aoN .i64 (b+i)))=true by simp at pH hn h0 ha jv hb hL gP dK np h0⊢ <;>omega) (mN (show(ao9 (aoO (aoN .i64 (b+i))) n)=true by simp at pH hn h0 ha jv hb hL gP dK np h0⊢ <;>omega) (mN (n2 h0) (mN (show(aoS (bf (bf (ao L) (0+aoO (aoN .i64 (a+i))*1) [apm (bc (ao L) (0+aoO (aoN .i64 (b+i))*1))]) (0+aoO (aoN .i64 (b+i))*1) [apm (bc (ao L) (0+aoO (aoN .i64 (a+i))*1))]) ag)=true by simp) (mN (aQ R) (mN (a7 H) (mQ (an.done (by kernel_rfl) (l5 h0))))))))))))))))))) (fun h0=>(aL L R H (mE 0 (l7 h0)))))
end
end Go.Proofs.YtnlkkgpcikkpoaaGreat
namespace Go.Proofs.YtnlkkgpcikkpoaaGreat
section
variable {α:Type} {c:α→α→Int}
def fv(L:List α)(a b k:Nat):List α:=L.take a++(aR L b (b+k)++(aR L (a+k) b++(aR L a (a+k)++L.drop (b+k))))
def gA(L:List α)(a m b:Nat):List α:=L.take a++(aR L m b++(aR L a m++L.drop b))
theorem GS{T X Z Y D:List α}{a b k:Nat}(h1:T.length=a)(h2:X.length=k)(h3:Z.length=b-(a+k))(h4:Y.length=k)(h5:a+k≤b):fv (T++(X++(Z++(Y++D)))) a b k=T++(Y++(Z++(X++D))):=by
 have e1:aR (T++(X++(Z++(Y++D)))) a (a+k)=X:=nV h1 (by omega)
 have e2:aR (T++(X++(Z++(Y++D)))) (a+k) b=Z:=by
  rw[←api];exact nV (by rw[ao5];omega) (by omega)
 have e3:aR (T++(X++(Z++(Y++D)))) b (b+k)=Y:=by
  rw[←api,←api];exact nV (by rw[ao5,ao5];omega) (by omega)
 have e4:(T++(X++(Z++(Y++D)))).drop (b+k)=D:=by
  rw[←api,←api,←api];exact GH (by simp only[ao5];omega)
 unfold fv
 rw[e1,e2,e3,e4,GG h1]
theorem aba{L:List α}{a b k:Nat}(h1:a+k≤b)(h2:b+k≤L.length):L=L.take a++(aR L a (a+k)++(aR L (a+k) b++(aR L b (b+k)++L.drop (b+k)))):=by
 conv=>lhs;rw[sr L (show a≤b+k by omega),nm L (m:=a+k) (by omega) (by omega),nm L (a:=a+k) (m:=b) (by omega) (by omega)]
 simp only[api]
theorem abb{L:List α}{a b k:Nat}(h1:a+k≤b)(h2:b+k≤L.length):(fv L a b k).length=L.length:=by
 unfold fv
 simp only[ao5]
 rw[jp (by omega) (by omega),jp (by omega) (by omega),jp (by omega) (by omega),apI,ap0]
 omega
theorem abc(L:List α){a b:Nat}(h:a≤b)(h2:b≤L.length):fv L a b 0=L:=by
 have:=aba (L:=L) (a:=a) (b:=b) (k:=0) (by omega) (by omega)
 have e0:∀x,aR L x (x+0)=[]:=fun x=>by unfold aR;rw[show x+0-x=0 by omega,ar0]
 unfold fv
 rw[e0,e0]at*
 exact this.symm
theorem Bp{P W:List α}{u v:α}{n:Nat}(h:P.length=n):(P++u::W).set n v=P++v::W:=by
 subst h
 rw[asI _ _ (by omega),arr];rfl
theorem OH{P W:List α}{u:α}{n:Nat}(h:P.length=n):(P++u::W)[n]?=some u:=by
 subst h
 rw[apz (by omega),arr];rfl
theorem Bq{L:List α}{a i:Nat}{x:α}(h:a≤i)(hx:L[i]?=some x):aR L a (i+1)=aR L a i++[x]:=by
 rw[nm L (m:=i) h (by omega)]
 have:aR L i (i+1)=[x]:=by unfold aR;rw[show i+1-i=1 by omega,(pU hx).2];rfl
 rw[this]
theorem abd{L:List α}{a b:Nat}{x:α}(h:a<b)(hx:L[a]?=some x):aR L a b=x::aR L (a+1) b:=by
 unfold aR
 rw[(pU hx).2,show b-a=(b-(a+1))+1 by omega,List.take_succ_cons]
theorem abe{L:List α}{a b i:Nat}{x y:α}(h1:a+(i+1)≤b)(h2:b+(i+1)≤L.length)(hx:L[a+i]?=some x)(hy:L[b+i]?=some y):
 (fv L a b i)[a+i]?=some x∧(fv L a b i)[b+i]?=some y∧((fv L a b i).set (a+i) y).set (b+i) x=fv L a b (i+1):=by
 have lT:(L.take a).length=a:=by rw[apI];omega
 have l1:(aR L b (b+i)).length=i:=by rw[jp (by omega) (by omega)];omega
 have l2:(aR L (a+i+1) b).length=b-(a+i+1):=jp (by omega) (by omega)
 have l3:(aR L a (a+i)).length=i:=by rw[jp (by omega) (by omega)];omega
 have e0:fv L a b i=(L.take a++aR L b (b+i))++x::(aR L (a+i+1) b++(aR L a (a+i)++y::L.drop (b+i+1))):=by
  unfold fv
  rw[abd (a:=a+i) (by omega) hx,(pU hy).2]
  simp only[api,aqK]
 have abf:fv L a b i=(L.take a++aR L b (b+i)++x::(aR L (a+i+1) b++aR L a (a+i)))++y::L.drop (b+i+1):=by
  rw[e0];simp only[api,aqK]
 have e1:fv L a b (i+1)=(L.take a++aR L b (b+i)++y::(aR L (a+i+1) b++aR L a (a+i)))++x::L.drop (b+i+1):=by
  unfold fv
  rw[show b+(i+1)=b+i+1 by omega,show a+(i+1)=a+i+1 by omega,Bq (a:=b) (i:=b+i) (by omega) hy,Bq (a:=a) (i:=a+i) (by omega) hx]
  simp only[api,aqK,aqw]
 refine⟨by rw[e0];exact OH (by rw[ao5];omega),by rw[abf];exact OH (by simp only[ao5,apC];omega),?_⟩
 rw[e0,Bp (by rw[ao5];omega),e1]
 have:L.take a++aR L b (b+i)++y::(aR L (a+i+1) b++(aR L a (a+i)++y::L.drop (b+i+1)))=(L.take a++aR L b (b+i)++y::(aR L (a+i+1) b++aR L a (a+i)))++y::L.drop (b+i+1):=by
  simp only[api,aqK]
 rw[this,Bp (by simp only[ao5,apC];omega)]
structure mI(L:List α)(a m b i j:Nat)(M:List α):Prop where
 it:∃P U V Q,M=L.take a++(P++(U++(V++(Q++L.drop b))))∧U.length=i∧V.length=j∧a+P.length+i=m∧aR L m b++aR L a m=P++(V++(U++Q))
 i0:0<i
 j0:0<j
theorem mI.start{L:List α}{a m b:Nat}(h1:a<m)(h2:m<b)(h3:b≤L.length):mI L a m b (m-a) (b-m) L:=
 ⟨⟨[],aR L a m,aR L m b,[],by
  conv=>lhs;rw[sr L (show a≤b by omega),nm L (m:=m) (by omega) (by omega)]
  simp only[api,aqw],jp (by omega) (by omega),jp (by omega) h3,by simp;omega,by simp⟩,by omega,by omega⟩
theorem mI.left{L M:List α}{a m b i j:Nat}(h:mI L a m b i j M)(ha:a≤L.length)(iC:j<i):mI L a m b (i-j) j (fv M (m-i) m j)∧m-i+j≤m∧m+j≤M.length:=by
 obtain⟨⟨P,U,V,Q,rfl,hU,hV,hP,hW⟩,hi,hj⟩:=h
 have lT:(L.take a).length=a:=by rw[apI];omega
 have OI:(U.take j).length=j:=by rw[apI];omega
 have abg:(U.drop j).length=i-j:=by rw[ap0];omega
 refine⟨⟨⟨P++V,U.drop j,U.take j,Q,?_,abg,OI,by rw[ao5];omega,?_⟩,by omega,hj⟩,by omega,?_⟩
 ·have:L.take a++(P++(U++(V++(Q++L.drop b))))=(L.take a++P)++(U.take j++(U.drop j++(V++(Q++L.drop b)))):=by
   conv=>lhs;rw[←ap6 j U]
   simp only[api]
  rw[this,GS (by rw[ao5];omega) OI (by omega) hV (by omega)]
  simp only[api]
 ·rw[hW]
  conv=>lhs;rw[←ap6 j U]
  simp only[api]
 ·simp only[ao5];omega
theorem mI.right{L M:List α}{a m b i j:Nat}(h:mI L a m b i j M)(ha:a≤L.length)(iC:i<j):mI L a m b i (j-i) (fv M (m-i) (m+j-i) i)∧m-i+i≤m+j-i∧m+j-i+i≤M.length:=by
 obtain⟨⟨P,U,V,Q,rfl,hU,hV,hP,hW⟩,hi,hj⟩:=h
 have lT:(L.take a).length=a:=by rw[apI];omega
 have abh:(V.take (j-i)).length=j-i:=by rw[apI];omega
 have OJ:(V.drop (j-i)).length=i:=by rw[ap0];omega
 refine⟨⟨⟨P,V.drop (j-i),V.take (j-i),U++Q,?_,OJ,abh,by omega,?_⟩,hi,by omega⟩,by omega,?_⟩
 ·have:L.take a++(P++(U++(V++(Q++L.drop b))))=(L.take a++P)++(U++(V.take (j-i)++(V.drop (j-i)++(Q++L.drop b)))):=by
   conv=>lhs;rw[←ap6 (j-i) V]
   simp only[api]
  rw[this,GS (by rw[ao5];omega) hU (by omega) OJ (by omega)]
  simp only[api]
 ·rw[hW]
  conv=>lhs;rw[←ap6 (j-i) V]
  simp only[api]
 ·simp only[ao5];omega
theorem mI.done{L M:List α}{a m b i:Nat}(h:mI L a m b i i M)(ha:a≤L.length):fv M (m-i) m i=gA L a m b∧m-i+i≤m∧m+i≤M.length∧i≤m:=by
 obtain⟨⟨P,U,V,Q,rfl,hU,hV,hP,hW⟩,hi,hj⟩:=h
 have lT:(L.take a).length=a:=by rw[apI];omega
 refine⟨?_,by omega,by simp only[ao5];omega,by omega⟩
 have:=GS (T:=L.take a++P) (X:=U) (Z:=[]) (Y:=V) (D:=Q++L.drop b) (a:=m-i) (b:=m) (k:=i) (by rw[ao5];omega) hU (by simp;omega) hV (by omega)
 rw[aqw]at this
 rw[show L.take a++(P++(U++(V++(Q++L.drop b))))=(L.take a++P)++(U++(V++(Q++L.drop b)))by simp only[api],this]
 unfold gA
 have e:aR L m b++(aR L a m++L.drop b)=(aR L m b++aR L a m)++L.drop b:=by rw[api]
 rw[e,hW]
 simp only[api,aqw]
theorem mI.bounds{L M:List α}{a m b i j:Nat}(h:mI L a m b i j M)(oZ:a≤m)(o5:m≤b)(hb:b≤L.length):M.length=L.length∧i≤m-a∧j≤b-m:=by
 obtain⟨⟨P,U,V,Q,rfl,hU,hV,hP,hW⟩,hi,hj⟩:=h
 have hl:=congrArg aoM hW
 simp only[ao5]at hl
 rw[jp o5 hb,jp oZ (by omega)]at hl
 simp only[ao5,apI,ap0]
 omega
end
end Go.Proofs.YtnlkkgpcikkpoaaGreat
namespace Go.Proofs.YtnlkkgpcikkpoaaGreat
open Go Vm Go.RowKit
section
variable (S:ad) (R:List Int) (H:List aq) (d:au)
def Br(n a b k:Nat)(L:List ByteArray)(i:Nat):ai:=⟨[(0,fG n),(1,iZ a),(2,iZ b),(3,iZ k),(10,iZ i)],cU S R H d (fv L a b i)⟩
theorem abi(L:List ByteArray)(n a b k:Nat)(hn:L.length=n)(hL:n≤1000000)(jv:a+k≤b)(hb:b+k≤n):
 aI aoL 139 [fG n,iZ a,iZ b,iZ k,fZ] (cU S R H d L) fun r o=>r=.ret (.tuple #[])∧o=cU S R H d (fv L a b k):=by
 have pH:=a7 H
 refine aI.cY (n:=cp aoL 139) (by kernel_rfl) ?_
 apply aa6 S R H d n L a b k pH hn
 ·
  have e:GR S R H d n L a b k=Br S R H d n a b k L 0:=by unfold GR Br;rw[abc L (by omega) (by omega)];rfl
  rw[e]
  refine an.eO 1 0 (by kernel_rfl) ?_
  refine an.fL (Br S R H d n a b k L) (fun i=>k-i) (fun i=>i≤k) 0 (by kernel_rfl) (apN _) ?_
  intro i hi
  have gg:(fv L a b i).length=n:=by rw[abb (by omega) (by omega),hn]
  apply aa9 S R H d n (fv L a b i) a b k i pH gg (by omega) (by omega) (by omega) (by omega) hL (bL (by omega) (by omega)) (bL (by omega) (by omega)) (bL (by omega) (by omega))
  case aX=>simp
  case bh=>exact pH
  case bD=>simp
  case l7=>
   intro g
   have g:=of_decide_eq_false g
   have jw:i=k:=by omega
   subst jw
   with_reducible (repeat first|refine QL.ret ?_|refine QL.exit ?_|refine QB.ret ?_|refine QB.cx ?_|refine QB.normal ?_|refine QB.cG (by rfl) ?_)
   refine an.done (by kernel_rfl) ?_
   refine aJ.normal (vs:=[]) (l:=[]) (bs:=[0,1,2,3,4]) (pl:=[0,3,4]) (q:=[ao (fv L a b i),ap R,aj H]) (fun u=>by kernel_rfl) (by kernel_rfl) (aF (by simp) (aF (by simp) (aF pH bi))) ⟨rfl,rfl⟩
  all_goals
   intro g
   have g:=of_decide_eq_true g
   obtain⟨x,hx⟩:∃x,L[a+i]?=some x:=⟨_,aoV (by omega)⟩
   obtain⟨y,hy⟩:∃y,L[b+i]?=some y:=⟨_,aoV (by omega)⟩
   obtain⟨fR,il,dJ⟩:=abe (L:=L) (a:=a) (b:=b) (i:=i) (by omega) (by omega) hx hy
   have ea:0+aoO (aoN ao2 ((a:Int)+(i:Int)))*1=a+i:=by rw[bL (by omega) (by omega)];omega
   have eb:0+aoO (aoN ao2 ((b:Int)+(i:Int)))*1=b+i:=by rw[bL (by omega) (by omega)];omega
  case n0=>rw[eb];exact(dY il).2
  case n1=>rw[ea];exact(dY fR).2
  case n2=>rw[ea,eb,(dY il).1,nW (by omega),yc,aql];exact apu (by omega)
  case l5=>
   refine QL.to (i+1) (by omega) (by omega) ?_
   unfold OG Br
   rw[ea,eb,(dY il).1,(dY fR).1,nW (by omega),nW (by rw[aql];omega),dJ,ff (by omega)]
   rfl
end
def abj:aoP→ByteArray
 | .string s=>s
 |_=>aoZ
def cZ(l:List aoP):List ByteArray:=l.map abj
@[simp] theorem iI(l:List ByteArray):cZ (ao l)=l:=by
 unfold cZ ao
 rw[arN]
 conv=>rhs;rw[←atG l]
 exact aq0 fun x _=>rfl
noncomputable def iJ(o:List ak)(n:Nat):Bool:=@decide (∃S R H d L,o=cU S R H d L∧L.length=n∧n≤1000000) (apj _)
theorem wa{S:ad}{R:List Int}{H:List aq}{d:au}{L:List ByteArray}{o:List ak}{n:Nat}(h:o=cU S R H d L)(h2:L.length=n)(h3:n≤1000000):iJ o n=true:=by
 unfold iJ
 exact(@decide_eq_true_iff _ (apj _)).2 ⟨S,R,H,d,L,h,h2,h3⟩
noncomputable def GU(a:List aoP)(o:List ak):Option (Bool×bO×List ak):=match a,o with
 | [.slice (some ⟨0,0,none⟩) n m,.int .i64 x,.int .i64 y,.int .i64 k,.func (.func f) c1 c2],ak.cells c t r::l=>match c1.toList,c2.toList with
  | [.pointer (some ⟨1,0,none⟩)],[]=>some (iJ (.cells c t r::l) n&&(ao6 m n&&(ao6 f 74&&(decide (0≤x)&&(decide (0≤k)&&(decide (x+k≤y)&&decide (y+k≤n)))))),.ret (.tuple #[]),.cells (ao (fv (cZ c) x.toNat y.toNat k.toNat)) t r::l)
  |_,_=>none
 |_,_=>none
theorem abk:bB aoL 139 (Sum.dp aoL GU):=bB.dp fun a o r o' hg=>by
 unfold GU at hg
 split at hg
 ·rename_i n m x y k f c1 c2 c t ro l
  split at hg
  ·rename_i h1 h2
   simp only[aoU,aoX,ao3,decide_eq_true_eq]at hg
   obtain⟨⟨g1,g2,g3,g4,g5,g6,g7⟩,rfl,rfl⟩:=hg
   have g2:=apa g2
   have g3:=apa g3
   obtain⟨S,R,H,d,L,he,hl,hn⟩:=@of_decide_eq_true _ (apj _) g1
   have e1:c1= #[.pointer (some ⟨1,0,none⟩)]:=by rw[←ap1 (xs:=c1),h1]
   have e2:c2= #[]:=by rw[←ap1 (xs:=c2),h2]
   subst g2 g3 e1 e2
   obtain⟨x,rfl⟩:=aqn g4
   obtain⟨k,rfl⟩:=aqn g5
   obtain⟨y,rfl⟩:=aqn (show 0≤y by omega)
   unfold cU at he
   injection he with o6 eT
   injection o6 with hc ht hr
   subst hc ht hr eT
   refine(abi S R H d L _ x y k hl hn (by omega) (by omega)).mono ?_
   rintro r o ⟨rfl,rfl⟩
   exact⟨rfl,by rw[iI];rfl⟩
  ·cases hg
 ·cases hg
noncomputable def abl:List (apr×Sum):=[(139,Sum.dp aoL GU)]
theorem OK:dk aoL (dB aoL (dE abl) 50 40):=dI de mixed (dR (.cons abk .nil)) 50 40
end Go.Proofs.YtnlkkgpcikkpoaaGreat
