/- Part of the proof: Zpa, Zpc, Zpb, Zpe, Zpd, Zpf, Zpo, Zpg, Zpm, Reg, Mem, Mem2, Zch, HdE, Zci, Zpp, Zpq, Zoj, Zoi. -/
import Derived.Test.YtnlkkgpcikkpoaaGreatJAf
import Derived.Lib.Bytealg
import Derived.Lib.IndexLaws
import Derived.KernelRfl
import Derived.Orders
import Derived.Tactics2
import Derived.Laws.World
import Derived.Laws.Rows
import Derived.Below
import Derived.Laws.BytesArg
import Derived.Lib.ConvBytes
import Derived.Lib.Hide
import Derived.Laws.NewBlocks
import Derived.Laws.CopyOwn
import Derived.Lib.SlBytesConst
import Derived.Laws.Strings
import Derived.Deep.Draws
import Derived.Test.YtnlkkgpcikkpoaaGreatChecked
import Derived.WalkKit
import Derived.WalkLawsBesides
import Derived.WalkSpells
import Derived.Outline
import Derived.OwnWalk
import Derived.RangeFuncNested
import Derived.RangeFuncBound
import Derived.RangeFuncCalls
import Derived.RangeFuncLeaves
import Derived.Shelf.Abstract
import Derived.Shelf.RegionOpen
import Derived.OwnWalkIn
import Derived.TacticsInMore
import Derived.LoopNIn
import Derived.LoopIn
import Derived.Test.YtnlkkgpcikkpoaaGreatJAd
import Derived.RangeFuncSeq
open Array renaming ext'→aqI,getElem?_eq_some_iff→apQ,toList→app
open Bool renaming and_eq_true→ao3,and_false→auL,false_and→asp,false_eq_true→apT
open ByteArray renaming data→aph,empty→aoZ,mk→apB,size→aoT,size_extract→aro
open Classical renaming propDecidable→apj
open Decidable renaming not_not→aqD
open Go renaming Code→apw,FuncId→apr,Program→ao7,TypeId→ao1,Value→aoP,World→ao4,YieldAt→avB
open Go.Fence renaming wide→aqO
open Go.IntKind renaming i64→ao2,u8→apb,wrap→aoN
open Go.Proofs.Tryz renaming func124→avC,prog→aoL
open Go.RowKit.Below renaming heap_alloc→ark
open Go.Value renaming bool→apV,int→aoW,pointer→apZ,string→apm
open Go.World renaming alloc_heap_new→atX,putObj_heap_other→aqd,putObj_heap_same→asv
open Int renaming toNat→aoO
open List renaming all→aoS,all_eq_true→aps,append_assoc→api,append_nil→aqm,drop_drop→ap2,drop_eq_getElem_cons→aqF,drop_left→auK,drop_of_length_le→aqq,find?→atW,find?_cons→ary,find?_eq_none→ars,flatten_append→as1,getD_eq_getElem?_getD→aqB,getElem?_append_right→apz,getElem?_drop→aqb,getElem?_eq_getElem→aoV,getElem?_eq_some_iff→ao0,getElem?_of_mem→aqg,length→aoM,length_append→ao5,length_cons→apC,length_drop→ap0,length_take→apI,map→apv,map_append→apK,map_cons→apM,map_take→avA,mem_append→apo,mem_cons→ao8,mem_cons_of_mem→apc,mem_cons_self→ape,mem_filter→arv,mem_of_getElem?→apy,mem_of_mem_drop→ar3,mem_singleton→apP,nil_append→aqw,nodup_cons→aqa,of_mem_zip→atB,range→arm,take→apd,take_append_drop→ap6,take_left'→auC,take_of_length_le→ap8,toArray→apJ
open List.Sublist renaming map→aur
open Nat renaming add_zero→aq8,beq→ao6,beq_refl→apY,ble→apf,ble_eq_true_of_le→apu,blt→ao9,le_of_ble_eq_true→apk,le_of_eq→aq7,le_refl→apn,le_trans→arp,sub_zero→ara,zero_le→apN
open Option renaming bind→apO,getD→apg,isSome→arQ
open Option.some renaming inj→asc,injEq→aoU
open Prod renaming fst→aoY,snd→apG
open Prod.mk renaming injEq→aoX
open UInt8 renaming ofNat→arH,toNat→apt
set_option linter.unusedVariables false
set_option linter.unusedSimpArgs false
set_option maxRecDepth 100000
namespace Go.Proofs.YtnlkkgpcikkpoaaGreat
open Go Vm Go.RowKit
theorem PO(b:ByteArray)(c:Int): -1≤be b c:=Lib.indexByte_ge _ _
theorem BU(b:ByteArray)(c:Int)(h:0≤be b c):(be b c).toNat<b.size:=by
 obtain⟨o,ho⟩:∃o:Nat,be b c=o:=⟨(be b c).toNat,by omega⟩
 have:=(Lib.indexByte_some (l:=b.data.toList) (c:=c.toNat.toUInt8) (o:=o) ho).1
 have:=(ao0.1 this).1
 rw[ho]
 simpa using this
def PP(cs:List aoP)(t:ao1)(n m:Nat):Prop:=∃b,cs=af b∧n=b.size∧m=b.size∧t=5
noncomputable def yQ(cs:List aoP)(t:ao1)(n m:Nat):Bool:=@decide (PP cs t n m) (apj _)
theorem HP{cs:List aoP}{t:ao1}{n m:Nat}:yQ cs t n m=true↔PP cs t n m:=by unfold yQ;exact @decide_eq_true_iff _ (apj _)
noncomputable def HQ(a:List aoP)(o:List ak):Option (Bool×bO×List ak):=match a,o with
 | [.slice (some ⟨0,0,none⟩) n m,.int .u8 c],[.cells cs t ro]=>some (yQ cs t n m,.ret (.int .i64 (be (bp cs) c)),[.cells cs t ro])
 |_,_=>none
theorem adQ:bB aoL 80 (Sum.of HQ):=bB.of fun a o r o' hg=>by
 unfold HQ at hg
 split at hg
 ·rename_i n m c cs t ro
  simp only[aoU,aoX,HP]at hg
  obtain⟨⟨b,rfl,rfl,rfl,rfl⟩,rfl,rfl⟩:=hg
  rw[jg]
  exact aaA b c ro
 ·cases hg
def BV(h:aq)(b:ByteArray):aq:=⟨h.no,h.at_+(be b 10+1),b.extract 0 (max (be b 10) 0).toNat,decide (0≤be b 10)⟩
def cc(h:aq)(d:au):Int×aq×au:=
 if(aP d h.no h.at_ 65).2.1≠0 then((aP d h.no h.at_ 65).2.1,h,(aP d h.no h.at_ 65).2.2)else(0,BV h (aP d h.no h.at_ 65).1,(aP d h.no h.at_ 65).2.2)
def eB:List Int→List aq→au→Int×List aq×au
 | [],H,d=>(0,H,d)
 |no::l,H,d=>if(cc ⟨no,0,aoZ,false⟩ d).1≠0 then((cc ⟨no,0,aoZ,false⟩ d).1,[],(cc ⟨no,0,aoZ,false⟩ d).2.2)else eB l (H++[(cc ⟨no,0,aoZ,false⟩ d).2.1]) (cc ⟨no,0,aoZ,false⟩ d).2.2
def a8(H:List aq)(k:Nat):aq:=H.getD k ⟨0,0,aoZ,false⟩
def ji(f:Bool)(H:List aq)(h:aq):Option Nat→Bool
 |none=>h.there
 |some j=>h.there&&decide (ba f h.line (a8 H j).line<0)
def kn(f:Bool)(H:List aq):List aq→Nat→Option Nat→Option Nat
 | [],_,k=>k
 |h::l,i,k=>kn f H l (i+1) (if ji f H h k then some i else k)
def eU(f:Bool)(H:List aq):Option Nat:=kn f H H 0 none
def kI:Option Nat→Int
 |none=> -1
 |some k=>k
def gi:List Int→au→Int×au
 | [],d=>(0,d)
 |no::l,d=>if(cF d no).1≠0 then cF d no else gi l (cF d no).2
def lZ(f:Bool)(no:Int):Nat→List aq→au→Int×au
 |0,_,d=>(0,d)
 |n+1,H,d=>match eU f H with
  |none=>(0,d)
  |some k=>
   if(bU d no (cj (a8 H k).line)).1≠0 then bU d no (cj (a8 H k).line)
   else if(cc (a8 H k) (bU d no (cj (a8 H k).line)).2).1≠0 then((cc (a8 H k) (bU d no (cj (a8 H k).line)).2).1,(cc (a8 H k) (bU d no (cj (a8 H k).line)).2).2.2)
   else lZ f no n (H.set k (cc (a8 H k) (bU d no (cj (a8 H k).line)).2).2.1) (cc (a8 H k) (bU d no (cj (a8 H k).line)).2).2.2
noncomputable def sy:Nat:=Classical.choose (⟨1000001,rfl⟩:∃n:Nat,n=1000001)
theorem adR:sy=1000001:=Classical.choose_spec (⟨1000001,rfl⟩:∃n:Nat,n=1000001)
noncomputable def gW(f:Bool)(l:List Int)(d:au):Int×Int×au:=
 match bH d with
 |(no,e,d1)=>if e≠0 then(0,e,d1)else match eB l [] d1 with
  |(e,H,d2)=>if e≠0 then(0,e,d2)else match lZ f no sy H d2 with
   |(e,d3)=>if e≠0 then(0,e,d3)else(no,gi l d3)
def cq(d:au)(no:Int):Nat:=((fileOf d.files no).map aoT).getD 0
def wl(h:aq):Nat:=if h.there then h.line.size+1 else 0
def fO(d:au)(h:aq):Nat:=cq d h.no-h.at_.toNat+wl h
def fj(d:au):List aq→Nat
 | []=>0
 |h::l=>fO d h+fj d l
structure o7(h:aq):Prop where
 jB:0≤h.at_
 lN:h.at_≤1000000
 line:h.line.size≤64
theorem PQ(d:au)(no p k:Int):(aP d no p k).2.2.files=d.files∧(aP d no p k).2.2.made=d.made∧(aP d no p k).2.2.bS=d.bS:=by
 unfold aP
 split
 ·exact⟨rfl,rfl,rfl⟩
 split
 ·exact⟨rfl,rfl,rfl⟩
 split
 ·exact⟨rfl,rfl,rfl⟩
 ·exact⟨rfl,rfl,rfl⟩
theorem ca.read{d:au}(h:ca d)(no p k:Int):ca (aP d no p k).2.2:=by
 unfold aP
 split
 ·exact h
 split
 ·exact h
 split
 ·exact h.us
 ·exact h.us
theorem BW(h:aq)(d:au):(cc h d).2.2.files=d.files∧(cc h d).2.2.made=d.made∧(cc h d).2.2.bS=d.bS:=by
 unfold cc
 split
 ·exact PQ _ _ _ _
 ·exact PQ _ _ _ _
theorem ca.cc{d:au}(hd:ca d)(h:aq):ca (cc h d).2.2:=by
 unfold Go.Proofs.YtnlkkgpcikkpoaaGreat.cc
 split
 ·exact hd.read _ _ _
 ·exact hd.read _ _ _
theorem PS{d:au}{no p:Int}(h:(aP d no p 65).2.1=0):0≤p∧p.toNat≤cq d no∧(aP d no p 65).1.size=min (cq d no-p.toNat) 65:=by
 unfold aP cq at*
 split at h
 ·cases h
 rename_i f e
 simp only[e]at h⊢
 split at h
 ·cases h
 rename_i h1
 split at h
 ·rename_i h2;exact absurd h h2
 rename_i h2
 rw[if_neg h1,if_neg h2]
 show 0≤p∧p.toNat≤f.size∧(f.extract p.toNat (p.toNat+min (f.size-p.toNat) (65:Int).toNat)).size=_
 refine⟨by omega,by omega,?_⟩
 rw[aro]
 show _=min (f.size-p.toNat) 65
 have:(65:Int).toNat=65:=rfl
 omega
theorem adS{d:au}(hd:ca d)(no:Int):cq d no≤1000000:=by
 unfold cq
 cases e:fileOf d.files no with
 |none=>simp
 |some f=>
  obtain⟨k,h1,_⟩:=ady e
  exact hd.size _ h1
theorem BX{h:aq}{d:au}(hd:ca d)(he:(cc h d).1=0):(cc h d).2.1.no=h.no∧o7 (cc h d).2.1∧cq d h.no-(cc h d).2.1.at_.toNat+wl (cc h d).2.1=cq d h.no-h.at_.toNat:=by
 unfold cc at he⊢
 split at he
 ·rename_i h1;exact absurd he h1
 rename_i h1
 rw[if_neg h1]
 have h1:(aP d h.no h.at_ 65).2.1=0:=aqD.1 h1
 obtain⟨p0,p1,p2⟩:=PS h1
 have p3:cq d h.no≤1000000:=adS hd _
 dsimp only
 generalize(aP d h.no h.at_ 65).1=b at p2⊢
 have k0:=PO b 10
 have k1:=BU b 10
 refine⟨rfl,⟨?_,?_,?_⟩,?_⟩
 ·show 0≤h.at_+(be b 10+1);omega
 ·show h.at_+(be b 10+1)≤1000000
  by_cases hk:0≤be b 10
  ·have:=k1 hk;omega
  ·omega
 ·show(b.extract 0 (max (be b 10) 0).toNat).size≤64
  rw[aro]
  by_cases hk:0≤be b 10
  ·have:=k1 hk;omega
  ·omega
 ·unfold BV wl
  by_cases hk:0≤be b 10
  ·have:=k1 hk
   simp only[hk,decide_true,if_true,aro]
   omega
  ·simp only[hk,decide_false,apT,if_false]
   omega
theorem qW{d d':au}(h:d'.files=d.files)(no:Int):cq d' no=cq d no:=by unfold cq;rw[h]
def eZ(d:au):List Int→Nat
 | []=>0
 |no::l=>cq d no+eZ d l
theorem wm(d:au)(a b:List Int):eZ d (a++b)=eZ d a+eZ d b:=by
 induction a with
 |nil=>show eZ d b=0+eZ d b;omega
 |cons x a ih=>show cq d x+eZ d (a++b)=cq d x+eZ d a+eZ d b;omega
theorem PT{d d':au}(h:d'.files=d.files)(l:List aq):fj d' l=fj d l:=by
 induction l with
 |nil=>rfl
 |cons x l ih=>unfold fj fO;rw[ih,qW h]
theorem adT(d:au)(a b:List aq):fj d (a++b)=fj d a+fj d b:=by
 induction a with
 |nil=>show fj d b=0+fj d b;omega
 |cons x a ih=>show fO d x+fj d (a++b)=fO d x+fj d a+fj d b;omega
structure PU(d:au)(l:List Int)(H:List aq):Prop where
 BZ:H.map (·.no)=l
 ok:∀h∈H,o7 h
 fO:fj d H≤eZ d l
theorem yR:∀(l:List Int) (H:List aq) (d:au),ca d→ca (eB l H d).2.2∧(eB l H d).2.2.files=d.files∧(eB l H d).2.2.made=d.made∧(eB l H d).2.2.bS=d.bS
 | [],H,d,h=>⟨h,rfl,rfl,rfl⟩
 |no::l,H,d,h=>by
  unfold eB
  obtain⟨f1,f2,f3⟩:=BW ⟨no,0,aoZ,false⟩ d
  have hd:=h.cc ⟨no,0,aoZ,false⟩
  split
  ·exact⟨hd,f1,f2,f3⟩
  ·obtain⟨g0,g1,g2,g3⟩:=yR l (H++[(cc ⟨no,0,aoZ,false⟩ d).2.1]) (cc ⟨no,0,aoZ,false⟩ d).2.2 hd
   exact⟨g0,g1.trans f1,g2.trans f2,g3.trans f3⟩
theorem B0:∀(l l0:List Int) (H:List aq) (d d0:au),ca d→d.files=d0.files→PU d0 l0 H→(eB l H d).1=0→PU d0 (l0++l) (eB l H d).2.1
 | [],l0,H,d,d0,hd,hf,ho,he=>by rw[aqm];exact ho
 |no::l,l0,H,d,d0,hd,hf,ho,he=>by
  unfold eB at he⊢
  split at he
  ·rename_i h1;exact absurd he h1
  rename_i h1
  rw[if_neg h1]
  obtain⟨f1,f2,f3⟩:=BW ⟨no,0,aoZ,false⟩ d
  obtain⟨r1,r2,r3⟩:=BX hd (aqD.1 h1)
  have:=B0 l (l0++[no]) (H++[(cc ⟨no,0,aoZ,false⟩ d).2.1]) (cc ⟨no,0,aoZ,false⟩ d).2.2 d0 (hd.cc _) (f1.trans hf) ⟨?_,?_,?_⟩ he
  ·rw[api]at this;exact this
  ·rw[apK,ho.BZ];exact congrArg (fun z=>l0++[z]) r1
  ·intro h hh
   rcases apo.1 hh with hh|hh
   ·exact ho.ok h hh
   ·rw[apP.1 hh];exact r2
  ·rw[adT,wm]
   have h2:=ho.fO
   have h3:fj d0 [(cc ⟨no,0,aoZ,false⟩ d).2.1]=fO d0 (cc ⟨no,0,aoZ,false⟩ d).2.1+0:=rfl
   have h4:eZ d0 [no]=cq d0 no+0:=rfl
   have h5:fO d0 (cc ⟨no,0,aoZ,false⟩ d).2.1≤cq d0 no:=by
    unfold fO
    rw[r1]
    have h6:cq d no=cq d0 no:=qW hf no
    rw[h6]at r3
    show cq d0 no-_+_≤_
    omega
   omega
theorem PV(f:Bool)(H:List aq):∀(l:List aq) (i:Nat) (k:Option Nat),H.drop i=l→(∀j,k=some j→j<H.length∧(a8 H j).there=true)→∀j,kn f H l i k=some j→j<H.length∧(a8 H j).there=true
 | [],i,k,hl,hk,j,h=>hk j h
 |h::l,i,k,hl,hk,j,hj=>by
  unfold kn at hj
  have hi:i<H.length:=by
   have:=congrArg aoM hl
   rw[ap0,apC]at this
   omega
  refine PV f H l (i+1) _ (by rw[←List.tail_drop,hl];rfl) ?_ j hj
  intro j' kD
  split at kD
  ·rename_i hc
   cases kD
   refine⟨hi,?_⟩
   have e:a8 H i=h:=by
    unfold a8
    rw[aqB]
    have:(H.drop i)[0]?=some h:=by rw[hl];rfl
    rw[aqb,aq8]at this
    rw[this];rfl
   rw[e]
   unfold ji at hc
   split at hc
   ·exact hc
   ·rw[ao3]at hc;exact hc.1
  ·exact hk j' kD
theorem B2{f:Bool}{H:List aq}{k:Nat}(h:eU f H=some k):k<H.length∧(a8 H k).there=true:=
 PV f H H 0 none rfl (fun j hj=>by cases hj) k h
theorem PW(d:au)(no:Int)(b:ByteArray):cq (bU d no b).2 no≤cq d no+b.size:=by
 cases e:fileOf (bU d no b).2.files no with
 |none=>unfold cq;rw[e];simp
 |some f=>
  obtain⟨g,g1,g2⟩:=HC e
  unfold cq;rw[e,g1];exact g2
theorem adU{l:List (Nat×ByteArray)}{no m:Int}{b:ByteArray}(h:m≠no):fileOf (lk l no b) m=fileOf l m:=by
 unfold fileOf lk
 induction l with
 |nil=>rfl
 |cons p l ih=>
  rw[apM,ary,ary]
  by_cases e:(p.1:Int)=no
  ·have e1:((p.1:Int)==no)=true:=by simpa using e
   have e2:((p.1:Int)==m)=false:=by rw[beq_eq_false_iff_ne];omega
   simp only[e1,if_true,e2]
   exact ih
  ·have e1:((p.1:Int)==no)=false:=by simpa using e
   simp only[e1,apT,if_false]
   cases e2:((p.1:Int)==m)with
   |true=>rfl
   |false=>exact ih
theorem HR(d:au){no m:Int}(b:ByteArray)(h:m≠no):cq (bU d no b).2 m=cq d m:=by
 unfold bU
 split
 ·rfl
 split
 ·rfl
 split
 ·rfl
 ·unfold cq;rw[show(au.files {fF d with files:=lk d.files no b})=lk d.files no b from rfl,adU h]
theorem PX(d:au)(no m:Int):cq (cF d no).2 m≤cq d m:=by
 unfold cF
 split
 ·exact apn _
 split
 ·exact apn _
 ·unfold cq
  show((fileOf (ll d.files no) m).map aoT).getD 0≤_
  by_cases e:m=no
  ·subst e
   have:fileOf (ll d.files m) m=none:=by
    unfold fileOf ll
    rw[Option.map_eq_none_iff,ars]
    intro p hp
    rw[arv]at hp
    simpa using hp.2
   rw[this];exact apN _
  ·have:fileOf (ll d.files no) m=fileOf d.files m:=by
    unfold fileOf ll
    induction d.files with
    |nil=>rfl
    |cons p l ih=>
     rw[List.filter_cons,ary]
     by_cases e1:(p.1:Int)=no
     ·have e2:((p.1:Int)==m)=false:=by rw[beq_eq_false_iff_ne];omega
      have e3:((p.1:Int)==no)=true:=by simpa using e1
      simp only[e3,Bool.not_true,apT,if_false,e2]
      exact ih
     ·have e3:((p.1:Int)==no)=false:=by simpa using e1
      simp only[e3,Bool.not_false,if_true,ary]
      cases e2:((p.1:Int)==m)with
      |true=>rfl
      |false=>exact ih
   rw[this];exact apn _
theorem ca.remove{d:au}(h:ca d)(no:Int):ca (cF d no).2∧(cF d no).2.made=d.made:=by
 unfold cF
 split
 ·exact⟨h,rfl⟩
 split
 ·exact⟨h.us,rfl⟩
 ·refine⟨⟨h.bW,h.made,fun p hp=>h.keys p (arv.1 hp).1,?_,fun p hp=>h.size p (arv.1 hp).1,wh _⟩,rfl⟩
  exact h.fH.sublist (aur _ List.filter_sublist)
theorem HS:∀(l:List Int) (d:au),ca d→ca (gi l d).2∧(gi l d).2.made=d.made∧∀m,cq (gi l d).2 m≤cq d m
 | [],d,h=>⟨h,rfl,fun m=>apn _⟩
 |no::l,d,h=>by
  unfold gi
  obtain⟨h1,h2⟩:=h.remove no
  split
  ·exact⟨h1,h2,fun m=>PX d no m⟩
  ·obtain⟨g1,g2,g3⟩:=HS l (cF d no).2 h1
   exact⟨g1,g2.trans h2,fun m=>arp (g3 m) (PX d no m)⟩
noncomputable section
noncomputable def adV:List (apr×Sum):=[(43,Sum.dp aoL Hu)]
theorem PY:dk aoL (dB aoL (dE adV) 50 40):=dI de mixed (dR (.cons adh .nil)) 50 40
noncomputable def adW:List (apr×Sum):=[(79,Hy),(80,Sum.of HQ)]
theorem PZ:dk aoL (dB aoL (dE adW) 50 40):=dI de mixed (dR (.cons adi (.cons adQ .nil))) 50 40
noncomputable def B3:List apw:=bd (dC aoL 78)
noncomputable def P0:List apw:=bd (dC aoL 54)
open Tree renaming aW→mN,dn→mF,eS→mL,fA→mQ,dD→mR,fK→mE
noncomputable abbrev HT:List apw:=(bd (inner (bd (inner (B3.drop 2)))))
def P1:Nat→Bool→Bool→Tree→Tree
 |0,_,_,t=>t
 |n+1,d,b,t=>.cM d b (P1 n d b t)
theorem P2{R:bj→ai→Prop}{c v:Bool}{t:Tree}(n:Nat)(h1:c=v)(h2:t.ok R):(P1 n c v t).ok R:=by
 induction n with
 |zero=>exact h2
 |succ n ih=>exact⟨h1,ih⟩
abbrev uv:=fun S L R H d=>([ab (aM S 1 2 3 4) 89,.abs d,ab (ao L) 9,ab (ap R) 3,ab (aj H) 114]:List ak)
abbrev P3:=fun S L R H d (o n:Nat)=>(⟨[(0,al 0),(8,ct 3 o n n),(9,aa n),(10,aa 0)],uv S L R H d⟩:ai)
abbrev adX:=fun S L R H d (o n:Nat)=>(⟨[(0,al 0),(1,ct 3 o n n)],uv S L R H d⟩:ai)
theorem adY(S L R H d)(o n:Nat)(pH:(aj H).all ag=true){Q:aY}(l3:an aoL 24 5 (B3.drop 2) (P3 S L R H d o n) Q):an aoL 24 5 B3 (adX S L R H d o n) Q:=
 aZ bt 2 (.leaf [0,8,9,10] [0,1,2,3,4] [2,3,4]) (fun u=>by kernel_rfl) (aL L R H (mQ l3))
abbrev adZ:=fun S L R H d (o n:Nat) (i:Int)=>(⟨[(0,al 0),(8,ct 3 o n n),(9,aa n),(10,aa i)],uv S L R H d⟩:ai)
noncomputable abbrev ad0(S:ad)(L:List ByteArray)(R:List Int)(H:List aq)(d:au)(o n:Nat)(i:Int):ai:=⟨[],uv S L R H d⟩
abbrev P4:=fun S L R H d (o n:Nat) (i:Int)=>(⟨[(0,al 0),(8,ct 3 o n n),(9,aa n),(10,aa i)],uv S L R H d⟩:ai)
theorem ad1(S L R H d)(o n:Nat)(i:Int)(pH:(aj H).all ag=true){Q:aY}(l3:(decide (i<(↑n:Int)))=true→an aoL 24 5 (HT.drop 2) (adZ S L R H d o n i) Q)(l4:(decide (i<(↑n:Int)))=false→Q (.exit 0) (ad0 S L R H d o n i)):an aoL 24 5 HT (P4 S L R H d o n i) Q:=
 aZ bt 2 (.fork 0 (.leaf [0,8,9,10] [0,1,2,3,4] [2,3,4]) (.leaf [] [0,1,2,3,4] [2,3,4])) (fun u=>by kernel_rfl) (mF (c:=decide (i<(↑n:Int))) (fun h0=>(aL L R H (mQ (l3 h0)))) (fun h0=>(aL L R H (mE 0 (l4 h0)))))
abbrev B4:=fun S L R H d (o n:Nat) (i:Int)=>(⟨[(4,aa (aoY (cF d (ay (ap R) (o+aoO i*1)))))],[ab (aM S 1 2 3 4) 89,.abs (apG (cF d (ay (ap R) (o+aoO i*1)))),ab (ao L) 9,ab (ap R) 3,ab (aj H) 114]⟩:ai)
theorem ad2(S L R H d)(o n:Nat)(i:Int){Q:bo}(hq:Q (.ret (aa (aoY (cF d (ay (ap R) (o+aoO i*1)))))) [ab (aM S 1 2 3 4) 89,.abs (apG (cF d (ay (ap R) (o+aoO i*1)))),ab (ao L) 9,ab (ap R) 3,ab (aj H) 114]):aJ aoL 78 24 5 Q .ret (B4 S L R H d o n i):=aJ.ret (vs:=[aa (aoY (cF d (ay (ap R) (o+aoO i*1))))]) (l:=[]) (bs:=[0,1,2,3,4]) (pl:=[2,3,4]) (q:=[ao L,ap R,aj H]) (fun u=>by kernel_rfl) (by kernel_rfl) (fY L R H bi) hq
abbrev P5:=fun S L R H d (o n:Nat) (i:Int)=>(⟨[(0,al 0),(8,ct 3 o n n),(9,aa n),(10,.int .i64 (aoN .i64 (i+1)))],[ab (aM S 1 2 3 4) 89,.abs (apG (cF d (ay (ap R) (o+aoO i*1)))),ab (ao L) 9,ab (ap R) 3,ab (aj H) 114]⟩:ai)
theorem ad3(S L R H d)(o n:Nat)(i:Int)(pH:(aj H).all ag=true)(h0:0≤i)(h1:i<n)(h2:n≤1000000)(h3:aoN .i64 (i+1)=i+1){Q:aY}(n0:(cH ao2 (ap R) (o+aoO i*1))=true)(n1:(lQ d)=true)(l5:(aoY (cF d (ay (ap R) (o+aoO i*1))) != 0)=true→Q .ret (B4 S L R H d o n i))(l6:(aoY (cF d (ay (ap R) (o+aoO i*1))) != 0)=false→Q .normal (P5 S L R H d o n i)):an aoL 24 5 (HT.drop 2) (P4 S L R H d o n i) Q:=
 aZ PY 1000 (aA [0,1,1,0,1,5] (.fork 0 (.leaf [4] [0,1,2,3,4] [2,3,4]) (.leaf [0,8,9,10] [0,1,2,3,4] [2,3,4]))) (fun u=>by kernel_rfl) (mN (decide_eq_true (by omega):(decide (0≤i))=true) (mN (show(ao9 (aoO i) n)=true by simp at pH h0 h1 h2 h3⊢ <;>omega) (mN n0 (mN n1 (mF (c:=aoY (cF d (ay (ap R) (o+aoO i*1))) != 0) (fun h0=>(aL L R H (mR (l5 h0)))) (fun h0=>(aL L R H (mQ (an.done (by kernel_rfl) (l6 h0))))))))))
abbrev HU:=fun S L R H d (o n:Nat)=>(⟨[(4,aa 0)],uv S L R H d⟩:ai)
theorem ad4(S L R H d)(o n:Nat){Q:bo}(hq:Q (.ret (aa 0)) (HU S L R H d o n).objs):aJ aoL 78 24 5 Q .ret (HU S L R H d o n):=aJ.ret (vs:=[aa 0]) (l:=[]) (bs:=[0,1,2,3,4]) (pl:=[2,3,4]) (q:=[ao L,ap R,aj H]) (fun u=>by kernel_rfl) (by kernel_rfl) (fY L R H bi) hq
noncomputable abbrev ad5(S:ad)(L:List ByteArray)(R:List Int)(H:List aq)(d:au)(o n:Nat):ai:=⟨[],uv S L R H d⟩
theorem ad6(S L R H d)(o n:Nat)(pH:(aj H).all ag=true){Q:aY}(l3:Q .ret (HU S L R H d o n)):an aoL 24 5 (B3.drop 3) (ad5 S L R H d o n) Q:=
 aZ bt 1000 (.leaf [4] [0,1,2,3,4] [2,3,4]) (fun u=>by kernel_rfl) (aL L R H (mR l3))
abbrev P6:=fun S L R H d Hc (o:Nat)=>(⟨[(4,aa 0)],[ab (aM S 1 2 3 4) 89,.abs (apG (apG (aP d (ay Hc (o+0)) (ay Hc (o+1)) 65))),ab (ao L) 9,ab (ap R) 3,ab (aj H) 114,ab (bf (bf (bf Hc (o+3) [apV (decide (be (bp (af (aoY (aP d (ay Hc (o+0)) (ay Hc (o+1)) 65)))) 10 ≥ 0))]) (o+2) [apm (apB (apJ (apg (apO (cut (af (aoY (aP d (ay Hc (o+0)) (ay Hc (o+1)) 65))) 0 (aoO (if 0>be (bp (af (aoY (aP d (ay Hc (o+0)) (ay Hc (o+1)) 65)))) 10 then 0 else be (bp (af (aoY (aP d (ay Hc (o+0)) (ay Hc (o+1)) 65)))) 10)-0)) bytesOf) [])))]) (o+1) [aoW ao2 (aoN .i64 (ay (bf (bf Hc (o+3) [apV (decide (be (bp (af (aoY (aP d (ay Hc (o+0)) (ay Hc (o+1)) 65)))) 10 ≥ 0))]) (o+2) [apm (apB (apJ (apg (apO (cut (af (aoY (aP d (ay Hc (o+0)) (ay Hc (o+1)) 65))) 0 (aoO (if 0>be (bp (af (aoY (aP d (ay Hc (o+0)) (ay Hc (o+1)) 65)))) 10 then 0 else be (bp (af (aoY (aP d (ay Hc (o+0)) (ay Hc (o+1)) 65)))) 10)-0)) bytesOf) [])))]) (o+1)+aoN .i64 (be (bp (af (aoY (aP d (ay Hc (o+0)) (ay Hc (o+1)) 65)))) 10+1)))]) 114]⟩:ai)
theorem ad7(S L R H d Hc)(o:Nat){Q:bo}(GZ:aoS (bf (bf (bf Hc (o+3) [apV (decide (be (bp (af (aoY (aP d (ay Hc (o+0)) (ay Hc (o+1)) 65)))) 10 ≥ 0))]) (o+2) [apm (apB (apJ (apg (apO (cut (af (aoY (aP d (ay Hc (o+0)) (ay Hc (o+1)) 65))) 0 (aoO (if 0>be (bp (af (aoY (aP d (ay Hc (o+0)) (ay Hc (o+1)) 65)))) 10 then 0 else be (bp (af (aoY (aP d (ay Hc (o+0)) (ay Hc (o+1)) 65)))) 10)-0)) bytesOf) [])))]) (o+1) [aoW ao2 (aoN .i64 (ay (bf (bf Hc (o+3) [apV (decide (be (bp (af (aoY (aP d (ay Hc (o+0)) (ay Hc (o+1)) 65)))) 10 ≥ 0))]) (o+2) [apm (apB (apJ (apg (apO (cut (af (aoY (aP d (ay Hc (o+0)) (ay Hc (o+1)) 65))) 0 (aoO (if 0>be (bp (af (aoY (aP d (ay Hc (o+0)) (ay Hc (o+1)) 65)))) 10 then 0 else be (bp (af (aoY (aP d (ay Hc (o+0)) (ay Hc (o+1)) 65)))) 10)-0)) bytesOf) [])))]) (o+1)+aoN .i64 (be (bp (af (aoY (aP d (ay Hc (o+0)) (ay Hc (o+1)) 65)))) 10+1)))]) ag=true)(hq:Q (.ret (aa 0)) [ab (aM S 1 2 3 4) 89,.abs (apG (apG (aP d (ay Hc (o+0)) (ay Hc (o+1)) 65))),ab (ao L) 9,ab (ap R) 3,ab (aj H) 114,ab (bf (bf (bf Hc (o+3) [apV (decide (be (bp (af (aoY (aP d (ay Hc (o+0)) (ay Hc (o+1)) 65)))) 10 ≥ 0))]) (o+2) [apm (apB (apJ (apg (apO (cut (af (aoY (aP d (ay Hc (o+0)) (ay Hc (o+1)) 65))) 0 (aoO (if 0>be (bp (af (aoY (aP d (ay Hc (o+0)) (ay Hc (o+1)) 65)))) 10 then 0 else be (bp (af (aoY (aP d (ay Hc (o+0)) (ay Hc (o+1)) 65)))) 10)-0)) bytesOf) [])))]) (o+1) [aoW ao2 (aoN .i64 (ay (bf (bf Hc (o+3) [apV (decide (be (bp (af (aoY (aP d (ay Hc (o+0)) (ay Hc (o+1)) 65)))) 10 ≥ 0))]) (o+2) [apm (apB (apJ (apg (apO (cut (af (aoY (aP d (ay Hc (o+0)) (ay Hc (o+1)) 65))) 0 (aoO (if 0>be (bp (af (aoY (aP d (ay Hc (o+0)) (ay Hc (o+1)) 65)))) 10 then 0 else be (bp (af (aoY (aP d (ay Hc (o+0)) (ay Hc (o+1)) 65)))) 10)-0)) bytesOf) [])))]) (o+1)+aoN .i64 (be (bp (af (aoY (aP d (ay Hc (o+0)) (ay Hc (o+1)) 65)))) 10+1)))]) 114]):aJ aoL 54 51 6 Q .ret (P6 S L R H d Hc o):=aJ.ret (vs:=[aa 0]) (l:=[]) (bs:=[0,1,2,3,4,5]) (pl:=[2,3,4,5]) (q:=[ao L,ap R,aj H,bf (bf (bf Hc (o+3) [apV (decide (be (bp (af (aoY (aP d (ay Hc (o+0)) (ay Hc (o+1)) 65)))) 10 ≥ 0))]) (o+2) [apm (apB (apJ (apg (apO (cut (af (aoY (aP d (ay Hc (o+0)) (ay Hc (o+1)) 65))) 0 (aoO (if 0>be (bp (af (aoY (aP d (ay Hc (o+0)) (ay Hc (o+1)) 65)))) 10 then 0 else be (bp (af (aoY (aP d (ay Hc (o+0)) (ay Hc (o+1)) 65)))) 10)-0)) bytesOf) [])))]) (o+1) [aoW ao2 (aoN .i64 (ay (bf (bf Hc (o+3) [apV (decide (be (bp (af (aoY (aP d (ay Hc (o+0)) (ay Hc (o+1)) 65)))) 10 ≥ 0))]) (o+2) [apm (apB (apJ (apg (apO (cut (af (aoY (aP d (ay Hc (o+0)) (ay Hc (o+1)) 65))) 0 (aoO (if 0>be (bp (af (aoY (aP d (ay Hc (o+0)) (ay Hc (o+1)) 65)))) 10 then 0 else be (bp (af (aoY (aP d (ay Hc (o+0)) (ay Hc (o+1)) 65)))) 10)-0)) bytesOf) [])))]) (o+1)+aoN .i64 (be (bp (af (aoY (aP d (ay Hc (o+0)) (ay Hc (o+1)) 65)))) 10+1)))]]) (fun u=>by kernel_rfl) (by kernel_rfl) (fY L R H (aF GZ bi)) hq
abbrev P7:=fun S L R H d Hc (o:Nat)=>(⟨[(4,aa (aoY (apG (aP d (ay Hc (o+0)) (ay Hc (o+1)) 65))))],[ab (aM S 1 2 3 4) 89,.abs (apG (apG (aP d (ay Hc (o+0)) (ay Hc (o+1)) 65))),ab (ao L) 9,ab (ap R) 3,ab (aj H) 114,ab Hc 114]⟩:ai)
theorem ad8(S L R H d Hc)(o:Nat){Q:bo}(bx:aoS Hc ag=true)(hq:Q (.ret (aa (aoY (apG (aP d (ay Hc (o+0)) (ay Hc (o+1)) 65))))) [ab (aM S 1 2 3 4) 89,.abs (apG (apG (aP d (ay Hc (o+0)) (ay Hc (o+1)) 65))),ab (ao L) 9,ab (ap R) 3,ab (aj H) 114,ab Hc 114]):aJ aoL 54 51 6 Q .ret (P7 S L R H d Hc o):=aJ.ret (vs:=[aa (aoY (apG (aP d (ay Hc (o+0)) (ay Hc (o+1)) 65)))]) (l:=[]) (bs:=[0,1,2,3,4,5]) (pl:=[2,3,4,5]) (q:=[ao L,ap R,aj H,Hc]) (fun u=>by kernel_rfl) (by kernel_rfl) (fY L R H (aF bx bi)) hq
abbrev ad9:=fun S L R H d Hc (o:Nat)=>(⟨[(0,al 0),(1,.pointer (some ⟨5,o,none⟩))],[ab (aM S 1 2 3 4) 89,.abs d,ab (ao L) 9,ab (ap R) 3,ab (aj H) 114,ab Hc 114]⟩:ai)
theorem aea(S L R H d)(Hc:List aoP)(o:Nat)(pH:(aj H).all ag=true)(pX:Hc.all ag=true)(x0:cH .i64 Hc o=true)(x1:cH .i64 Hc (o+1)=true)(x2:o+4≤(aoM Hc)){Q:aY}(n0:(lQ d)=true)(n1:(aoY (apG (aP d (ay Hc (o+0)) (ay Hc (o+1)) 65))==0)=true→(yQ (af (aoY (aP d (ay Hc (o+0)) (ay Hc (o+1)) 65))) 5 (aoT (aoY (aP d (ay Hc (o+0)) (ay Hc (o+1)) 65))) (aoT (aoY (aP d (ay Hc (o+0)) (ay Hc (o+1)) 65))))=true)(n2:(aoY (apG (aP d (ay Hc (o+0)) (ay Hc (o+1)) 65))==0)=true→(apf (aoO (if 0>be (bp (af (aoY (aP d (ay Hc (o+0)) (ay Hc (o+1)) 65)))) 10 then 0 else be (bp (af (aoY (aP d (ay Hc (o+0)) (ay Hc (o+1)) 65)))) 10)) (aoT (aoY (aP d (ay Hc (o+0)) (ay Hc (o+1)) 65))))=true)(n3:(aoY (apG (aP d (ay Hc (o+0)) (ay Hc (o+1)) 65))==0)=true→(arQ (apO (cut (af (aoY (aP d (ay Hc (o+0)) (ay Hc (o+1)) 65))) 0 (aoO (if 0>be (bp (af (aoY (aP d (ay Hc (o+0)) (ay Hc (o+1)) 65)))) 10 then 0 else be (bp (af (aoY (aP d (ay Hc (o+0)) (ay Hc (o+1)) 65)))) 10)-0)) bytesOf))=true)(n4:(aoY (apG (aP d (ay Hc (o+0)) (ay Hc (o+1)) 65))==0)=true→(apf (o+2+1) (aoM (bf Hc (o+3) [apV (decide (be (bp (af (aoY (aP d (ay Hc (o+0)) (ay Hc (o+1)) 65)))) 10 ≥ 0))])))=true)(n5:(aoY (apG (aP d (ay Hc (o+0)) (ay Hc (o+1)) 65))==0)=true→(cH ao2 (bf (bf Hc (o+3) [apV (decide (be (bp (af (aoY (aP d (ay Hc (o+0)) (ay Hc (o+1)) 65)))) 10 ≥ 0))]) (o+2) [apm (apB (apJ (apg (apO (cut (af (aoY (aP d (ay Hc (o+0)) (ay Hc (o+1)) 65))) 0 (aoO (if 0>be (bp (af (aoY (aP d (ay Hc (o+0)) (ay Hc (o+1)) 65)))) 10 then 0 else be (bp (af (aoY (aP d (ay Hc (o+0)) (ay Hc (o+1)) 65)))) 10)-0)) bytesOf) [])))]) (o+1))=true)(n6:(aoY (apG (aP d (ay Hc (o+0)) (ay Hc (o+1)) 65))==0)=true→(apf (o+1+1) (aoM (bf (bf Hc (o+3) [apV (decide (be (bp (af (aoY (aP d (ay Hc (o+0)) (ay Hc (o+1)) 65)))) 10 ≥ 0))]) (o+2) [apm (apB (apJ (apg (apO (cut (af (aoY (aP d (ay Hc (o+0)) (ay Hc (o+1)) 65))) 0 (aoO (if 0>be (bp (af (aoY (aP d (ay Hc (o+0)) (ay Hc (o+1)) 65)))) 10 then 0 else be (bp (af (aoY (aP d (ay Hc (o+0)) (ay Hc (o+1)) 65)))) 10)-0)) bytesOf) [])))])))=true)(aX:aoS (ao L) ag=true)(bh:aoS (ap R) ag=true)(bD:aoS (aj H) ag=true)(jU:(aoY (apG (aP d (ay Hc (o+0)) (ay Hc (o+1)) 65))==0)=true→Q .ret (P6 S L R H d Hc o))(bx:aoS Hc ag=true)(jS:(aoY (apG (aP d (ay Hc (o+0)) (ay Hc (o+1)) 65))==0)=false→Q .ret (P7 S L R H d Hc o)):an aoL 51 6 P0 (ad9 S L R H d Hc o) Q:=
 aZ PZ 1000 (aA [2,1,0,1,3] (.fork 0 (aA [1,5,1,1,0,1,2,1,3,0,1,0,1,0,1,0,1] (.leaf [4] [0,1,2,3,4,5] [2,3,4,5])) (aA [1] (.leaf [4] [0,1,2,3,4,5] [2,3,4,5])))) (fun u=>by kernel_rfl) (mN (show(cH ao2 Hc (o+0))=true by assumption) (mN (show(cH ao2 Hc (o+1))=true by assumption) (mN n0 (mF (c:=aoY (apG (aP d (ay Hc (o+0)) (ay Hc (o+1)) 65))==0) (fun h0=>(P2 2 (aH (aoY (aP d (ay Hc (o+0)) (ay Hc (o+1)) 65))) (mN (n1 h0) (mN (aH (aoY (aP d (ay Hc (o+0)) (ay Hc (o+1)) 65))) (mN (show(apf (o+3+1) (aoM Hc))=true by simp at pH pX x0 x1 x2 h0⊢ <;>omega) (mN (decide_eq_true (by omega):(decide (0≤if 0>be (bp (af (aoY (aP d (ay Hc (o+0)) (ay Hc (o+1)) 65)))) 10 then 0 else be (bp (af (aoY (aP d (ay Hc (o+0)) (ay Hc (o+1)) 65)))) 10))=true) (mN (n2 h0) (mN (n3 h0) (mN (n4 h0) (mN (n5 h0) (mN (n6 h0) (aL L R H (mN (show(aoS (bf (bf (bf Hc (o+3) [apV (decide (be (bp (af (aoY (aP d (ay Hc (o+0)) (ay Hc (o+1)) 65)))) 10 ≥ 0))]) (o+2) [apm (apB (apJ (apg (apO (cut (af (aoY (aP d (ay Hc (o+0)) (ay Hc (o+1)) 65))) 0 (aoO (if 0>be (bp (af (aoY (aP d (ay Hc (o+0)) (ay Hc (o+1)) 65)))) 10 then 0 else be (bp (af (aoY (aP d (ay Hc (o+0)) (ay Hc (o+1)) 65)))) 10)-0)) bytesOf) [])))]) (o+1) [aoW ao2 (aoN .i64 (ay (bf (bf Hc (o+3) [apV (decide (be (bp (af (aoY (aP d (ay Hc (o+0)) (ay Hc (o+1)) 65)))) 10 ≥ 0))]) (o+2) [apm (apB (apJ (apg (apO (cut (af (aoY (aP d (ay Hc (o+0)) (ay Hc (o+1)) 65))) 0 (aoO (if 0>be (bp (af (aoY (aP d (ay Hc (o+0)) (ay Hc (o+1)) 65)))) 10 then 0 else be (bp (af (aoY (aP d (ay Hc (o+0)) (ay Hc (o+1)) 65)))) 10)-0)) bytesOf) [])))]) (o+1)+aoN .i64 (be (bp (af (aoY (aP d (ay Hc (o+0)) (ay Hc (o+1)) 65)))) 10+1)))]) ag)=true by exact aE (aE (aE (by assumption) rfl _) rfl _) rfl _) (mR (jU h0))))))))))))))) (fun h0=>(mN (show(aoY (apG (aP d (ay Hc (o+0)) (ay Hc (o+1)) 65)) != 0)=true by simp at pH pX x0 x1 x2 h0⊢ <;>omega) (aL L R H (mN bx (mR (jS h0))))))))))
abbrev P8:=fun S L R d Hc (o:Nat)=>(⟨[(4,aa 0)],[ab (aM S 1 2 3 4) 89,.abs (apG (apG (aP d (ay Hc (o+0)) (ay Hc (o+1)) 65))),ab (ao L) 9,ab (ap R) 3,ab (bf (bf (bf Hc (o+3) [apV (decide (be (bp (af (aoY (aP d (ay Hc (o+0)) (ay Hc (o+1)) 65)))) 10 ≥ 0))]) (o+2) [apm (apB (apJ (apg (apO (cut (af (aoY (aP d (ay Hc (o+0)) (ay Hc (o+1)) 65))) 0 (aoO (if 0>be (bp (af (aoY (aP d (ay Hc (o+0)) (ay Hc (o+1)) 65)))) 10 then 0 else be (bp (af (aoY (aP d (ay Hc (o+0)) (ay Hc (o+1)) 65)))) 10)-0)) bytesOf) [])))]) (o+1) [aoW ao2 (aoN .i64 (ay (bf (bf Hc (o+3) [apV (decide (be (bp (af (aoY (aP d (ay Hc (o+0)) (ay Hc (o+1)) 65)))) 10 ≥ 0))]) (o+2) [apm (apB (apJ (apg (apO (cut (af (aoY (aP d (ay Hc (o+0)) (ay Hc (o+1)) 65))) 0 (aoO (if 0>be (bp (af (aoY (aP d (ay Hc (o+0)) (ay Hc (o+1)) 65)))) 10 then 0 else be (bp (af (aoY (aP d (ay Hc (o+0)) (ay Hc (o+1)) 65)))) 10)-0)) bytesOf) [])))]) (o+1)+aoN .i64 (be (bp (af (aoY (aP d (ay Hc (o+0)) (ay Hc (o+1)) 65)))) 10+1)))]) 114]⟩:ai)
theorem aeb(S L R d Hc)(o:Nat){Q:bo}(rT:aoS (bf (bf (bf Hc (o+3) [apV (decide (be (bp (af (aoY (aP d (ay Hc (o+0)) (ay Hc (o+1)) 65)))) 10 ≥ 0))]) (o+2) [apm (apB (apJ (apg (apO (cut (af (aoY (aP d (ay Hc (o+0)) (ay Hc (o+1)) 65))) 0 (aoO (if 0>be (bp (af (aoY (aP d (ay Hc (o+0)) (ay Hc (o+1)) 65)))) 10 then 0 else be (bp (af (aoY (aP d (ay Hc (o+0)) (ay Hc (o+1)) 65)))) 10)-0)) bytesOf) [])))]) (o+1) [aoW ao2 (aoN .i64 (ay (bf (bf Hc (o+3) [apV (decide (be (bp (af (aoY (aP d (ay Hc (o+0)) (ay Hc (o+1)) 65)))) 10 ≥ 0))]) (o+2) [apm (apB (apJ (apg (apO (cut (af (aoY (aP d (ay Hc (o+0)) (ay Hc (o+1)) 65))) 0 (aoO (if 0>be (bp (af (aoY (aP d (ay Hc (o+0)) (ay Hc (o+1)) 65)))) 10 then 0 else be (bp (af (aoY (aP d (ay Hc (o+0)) (ay Hc (o+1)) 65)))) 10)-0)) bytesOf) [])))]) (o+1)+aoN .i64 (be (bp (af (aoY (aP d (ay Hc (o+0)) (ay Hc (o+1)) 65)))) 10+1)))]) ag=true)(hq:Q (.ret (aa 0)) [ab (aM S 1 2 3 4) 89,.abs (apG (apG (aP d (ay Hc (o+0)) (ay Hc (o+1)) 65))),ab (ao L) 9,ab (ap R) 3,ab (bf (bf (bf Hc (o+3) [apV (decide (be (bp (af (aoY (aP d (ay Hc (o+0)) (ay Hc (o+1)) 65)))) 10 ≥ 0))]) (o+2) [apm (apB (apJ (apg (apO (cut (af (aoY (aP d (ay Hc (o+0)) (ay Hc (o+1)) 65))) 0 (aoO (if 0>be (bp (af (aoY (aP d (ay Hc (o+0)) (ay Hc (o+1)) 65)))) 10 then 0 else be (bp (af (aoY (aP d (ay Hc (o+0)) (ay Hc (o+1)) 65)))) 10)-0)) bytesOf) [])))]) (o+1) [aoW ao2 (aoN .i64 (ay (bf (bf Hc (o+3) [apV (decide (be (bp (af (aoY (aP d (ay Hc (o+0)) (ay Hc (o+1)) 65)))) 10 ≥ 0))]) (o+2) [apm (apB (apJ (apg (apO (cut (af (aoY (aP d (ay Hc (o+0)) (ay Hc (o+1)) 65))) 0 (aoO (if 0>be (bp (af (aoY (aP d (ay Hc (o+0)) (ay Hc (o+1)) 65)))) 10 then 0 else be (bp (af (aoY (aP d (ay Hc (o+0)) (ay Hc (o+1)) 65)))) 10)-0)) bytesOf) [])))]) (o+1)+aoN .i64 (be (bp (af (aoY (aP d (ay Hc (o+0)) (ay Hc (o+1)) 65)))) 10+1)))]) 114]):aJ aoL 54 51 5 Q .ret (P8 S L R d Hc o):=aJ.ret (vs:=[aa 0]) (l:=[]) (bs:=[0,1,2,3,4]) (pl:=[2,3,4]) (q:=[ao L,ap R,bf (bf (bf Hc (o+3) [apV (decide (be (bp (af (aoY (aP d (ay Hc (o+0)) (ay Hc (o+1)) 65)))) 10 ≥ 0))]) (o+2) [apm (apB (apJ (apg (apO (cut (af (aoY (aP d (ay Hc (o+0)) (ay Hc (o+1)) 65))) 0 (aoO (if 0>be (bp (af (aoY (aP d (ay Hc (o+0)) (ay Hc (o+1)) 65)))) 10 then 0 else be (bp (af (aoY (aP d (ay Hc (o+0)) (ay Hc (o+1)) 65)))) 10)-0)) bytesOf) [])))]) (o+1) [aoW ao2 (aoN .i64 (ay (bf (bf Hc (o+3) [apV (decide (be (bp (af (aoY (aP d (ay Hc (o+0)) (ay Hc (o+1)) 65)))) 10 ≥ 0))]) (o+2) [apm (apB (apJ (apg (apO (cut (af (aoY (aP d (ay Hc (o+0)) (ay Hc (o+1)) 65))) 0 (aoO (if 0>be (bp (af (aoY (aP d (ay Hc (o+0)) (ay Hc (o+1)) 65)))) 10 then 0 else be (bp (af (aoY (aP d (ay Hc (o+0)) (ay Hc (o+1)) 65)))) 10)-0)) bytesOf) [])))]) (o+1)+aoN .i64 (be (bp (af (aoY (aP d (ay Hc (o+0)) (ay Hc (o+1)) 65)))) 10+1)))]]) (fun u=>by kernel_rfl) (by kernel_rfl) (aF (aV L) (aF (aQ R) (aF rT bi))) hq
abbrev P9:=fun S L R d Hc (o:Nat)=>(⟨[(4,aa (aoY (apG (aP d (ay Hc (o+0)) (ay Hc (o+1)) 65))))],[ab (aM S 1 2 3 4) 89,.abs (apG (apG (aP d (ay Hc (o+0)) (ay Hc (o+1)) 65))),ab (ao L) 9,ab (ap R) 3,ab Hc 114]⟩:ai)
theorem aec(S L R d Hc)(o:Nat){Q:bo}(bD:aoS Hc ag=true)(hq:Q (.ret (aa (aoY (apG (aP d (ay Hc (o+0)) (ay Hc (o+1)) 65))))) [ab (aM S 1 2 3 4) 89,.abs (apG (apG (aP d (ay Hc (o+0)) (ay Hc (o+1)) 65))),ab (ao L) 9,ab (ap R) 3,ab Hc 114]):aJ aoL 54 51 5 Q .ret (P9 S L R d Hc o):=aJ.ret (vs:=[aa (aoY (apG (aP d (ay Hc (o+0)) (ay Hc (o+1)) 65)))]) (l:=[]) (bs:=[0,1,2,3,4]) (pl:=[2,3,4]) (q:=[ao L,ap R,Hc]) (fun u=>by kernel_rfl) (by kernel_rfl) (aF (aV L) (aF (aQ R) (aF bD bi))) hq
abbrev aed:=fun S L R d Hc (o:Nat)=>(⟨[(0,al 0),(1,.pointer (some ⟨4,o,none⟩))],[ab (aM S 1 2 3 4) 89,.abs d,ab (ao L) 9,ab (ap R) 3,ab Hc 114]⟩:ai)
theorem aee(S L R d)(Hc:List aoP)(o:Nat)(pX:Hc.all ag=true)(x0:cH .i64 Hc o=true)(x1:cH .i64 Hc (o+1)=true)(x2:o+4≤(aoM Hc)){Q:aY}(n0:(lQ d)=true)(n1:(aoY (apG (aP d (ay Hc (o+0)) (ay Hc (o+1)) 65))==0)=true→(yQ (af (aoY (aP d (ay Hc (o+0)) (ay Hc (o+1)) 65))) 5 (aoT (aoY (aP d (ay Hc (o+0)) (ay Hc (o+1)) 65))) (aoT (aoY (aP d (ay Hc (o+0)) (ay Hc (o+1)) 65))))=true)(n2:(aoY (apG (aP d (ay Hc (o+0)) (ay Hc (o+1)) 65))==0)=true→(apf (aoO (if 0>be (bp (af (aoY (aP d (ay Hc (o+0)) (ay Hc (o+1)) 65)))) 10 then 0 else be (bp (af (aoY (aP d (ay Hc (o+0)) (ay Hc (o+1)) 65)))) 10)) (aoT (aoY (aP d (ay Hc (o+0)) (ay Hc (o+1)) 65))))=true)(n3:(aoY (apG (aP d (ay Hc (o+0)) (ay Hc (o+1)) 65))==0)=true→(arQ (apO (cut (af (aoY (aP d (ay Hc (o+0)) (ay Hc (o+1)) 65))) 0 (aoO (if 0>be (bp (af (aoY (aP d (ay Hc (o+0)) (ay Hc (o+1)) 65)))) 10 then 0 else be (bp (af (aoY (aP d (ay Hc (o+0)) (ay Hc (o+1)) 65)))) 10)-0)) bytesOf))=true)(n4:(aoY (apG (aP d (ay Hc (o+0)) (ay Hc (o+1)) 65))==0)=true→(apf (o+2+1) (aoM (bf Hc (o+3) [apV (decide (be (bp (af (aoY (aP d (ay Hc (o+0)) (ay Hc (o+1)) 65)))) 10 ≥ 0))])))=true)(n5:(aoY (apG (aP d (ay Hc (o+0)) (ay Hc (o+1)) 65))==0)=true→(cH ao2 (bf (bf Hc (o+3) [apV (decide (be (bp (af (aoY (aP d (ay Hc (o+0)) (ay Hc (o+1)) 65)))) 10 ≥ 0))]) (o+2) [apm (apB (apJ (apg (apO (cut (af (aoY (aP d (ay Hc (o+0)) (ay Hc (o+1)) 65))) 0 (aoO (if 0>be (bp (af (aoY (aP d (ay Hc (o+0)) (ay Hc (o+1)) 65)))) 10 then 0 else be (bp (af (aoY (aP d (ay Hc (o+0)) (ay Hc (o+1)) 65)))) 10)-0)) bytesOf) [])))]) (o+1))=true)(n6:(aoY (apG (aP d (ay Hc (o+0)) (ay Hc (o+1)) 65))==0)=true→(apf (o+1+1) (aoM (bf (bf Hc (o+3) [apV (decide (be (bp (af (aoY (aP d (ay Hc (o+0)) (ay Hc (o+1)) 65)))) 10 ≥ 0))]) (o+2) [apm (apB (apJ (apg (apO (cut (af (aoY (aP d (ay Hc (o+0)) (ay Hc (o+1)) 65))) 0 (aoO (if 0>be (bp (af (aoY (aP d (ay Hc (o+0)) (ay Hc (o+1)) 65)))) 10 then 0 else be (bp (af (aoY (aP d (ay Hc (o+0)) (ay Hc (o+1)) 65)))) 10)-0)) bytesOf) [])))])))=true)(aX:aoS (ao L) ag=true)(bh:aoS (ap R) ag=true)(l9:(aoY (apG (aP d (ay Hc (o+0)) (ay Hc (o+1)) 65))==0)=true→Q .ret (P8 S L R d Hc o))(bD:aoS Hc ag=true)(gJ:(aoY (apG (aP d (ay Hc (o+0)) (ay Hc (o+1)) 65))==0)=false→Q .ret (P9 S L R d Hc o)):an aoL 51 5 P0 (aed S L R d Hc o) Q:=
 aZ PZ 1000 (aA [2,1,0,1,3] (.fork 0 (aA [1,5,1,1,0,1,2,1,3,0,1,0,1,0,1,0,1] (.leaf [4] [0,1,2,3,4] [2,3,4])) (aA [1] (.leaf [4] [0,1,2,3,4] [2,3,4])))) (fun u=>by kernel_rfl) (mN (show(cH ao2 Hc (o+0))=true by assumption) (mN (show(cH ao2 Hc (o+1))=true by assumption) (mN n0 (mF (c:=aoY (apG (aP d (ay Hc (o+0)) (ay Hc (o+1)) 65))==0) (fun h0=>(P2 2 (aH (aoY (aP d (ay Hc (o+0)) (ay Hc (o+1)) 65))) (mN (n1 h0) (mN (aH (aoY (aP d (ay Hc (o+0)) (ay Hc (o+1)) 65))) (mN (show(apf (o+3+1) (aoM Hc))=true by simp at pX x0 x1 x2 h0⊢ <;>omega) (mN (decide_eq_true (by omega):(decide (0≤if 0>be (bp (af (aoY (aP d (ay Hc (o+0)) (ay Hc (o+1)) 65)))) 10 then 0 else be (bp (af (aoY (aP d (ay Hc (o+0)) (ay Hc (o+1)) 65)))) 10))=true) (mN (n2 h0) (mN (n3 h0) (mN (n4 h0) (mN (n5 h0) (mN (n6 h0) (mN (aV L) (mN (aQ R) (mN (show(aoS (bf (bf (bf Hc (o+3) [apV (decide (be (bp (af (aoY (aP d (ay Hc (o+0)) (ay Hc (o+1)) 65)))) 10 ≥ 0))]) (o+2) [apm (apB (apJ (apg (apO (cut (af (aoY (aP d (ay Hc (o+0)) (ay Hc (o+1)) 65))) 0 (aoO (if 0>be (bp (af (aoY (aP d (ay Hc (o+0)) (ay Hc (o+1)) 65)))) 10 then 0 else be (bp (af (aoY (aP d (ay Hc (o+0)) (ay Hc (o+1)) 65)))) 10)-0)) bytesOf) [])))]) (o+1) [aoW ao2 (aoN .i64 (ay (bf (bf Hc (o+3) [apV (decide (be (bp (af (aoY (aP d (ay Hc (o+0)) (ay Hc (o+1)) 65)))) 10 ≥ 0))]) (o+2) [apm (apB (apJ (apg (apO (cut (af (aoY (aP d (ay Hc (o+0)) (ay Hc (o+1)) 65))) 0 (aoO (if 0>be (bp (af (aoY (aP d (ay Hc (o+0)) (ay Hc (o+1)) 65)))) 10 then 0 else be (bp (af (aoY (aP d (ay Hc (o+0)) (ay Hc (o+1)) 65)))) 10)-0)) bytesOf) [])))]) (o+1)+aoN .i64 (be (bp (af (aoY (aP d (ay Hc (o+0)) (ay Hc (o+1)) 65)))) 10+1)))]) ag)=true by exact aE (aE (aE (by assumption) rfl _) rfl _) rfl _) (mR (l9 h0)))))))))))))))) (fun h0=>(mN (show(aoY (apG (aP d (ay Hc (o+0)) (ay Hc (o+1)) 65)) != 0)=true by simp at pX x0 x1 x2 h0⊢ <;>omega) (mN (aV L) (mN (aQ R) (mN bD (mR (gJ h0)))))))))))
end
theorem B5{H:List aq}{k:Nat}(h:k<H.length):H[k]?=some (a8 H k):=by
 unfold a8
 rw[aqB,aoV h]
 rfl
theorem yS{H:List aq}{k:Nat}(h:k<H.length):a8 H k∈H:=apy (B5 h)
theorem Qa(d:au):∀(H:List aq) (k:Nat) (h:aq),k<H.length→fj d (H.set k h)+fO d (a8 H k)=fj d H+fO d h
 | [],k,h,hk=>by cases hk
 |x::H,0,h,hk=>by
  show fO d h+fj d H+fO d x=fO d x+fj d H+fO d h
  omega
 |x::H,k+1,h,hk=>by
  have:=Qa d H k h (Nat.lt_of_succ_lt_succ hk)
  show fO d x+fj d (H.set k h)+fO d (a8 H k)=fO d x+fj d H+fO d h
  omega
structure sA(no:Int)(F:Nat)(H:List aq)(d:au):Prop where
 db:ca d
 ok:∀h∈H,o7 h∧h.no≠no
 bW:cq d no+fj d H≤F
theorem sA.write{no:Int}{F:Nat}{H:List aq}{d:au}(hm:sA no F H d)(hF:F≤1000000){k:Nat}(hk:k<H.length)(ht:(a8 H k).there=true):
 ca (bU d no (cj (a8 H k).line)).2∧(∀f,fileOf d.files no=some f→f.size+(cj (a8 H k).line).size≤1000000)∧
 cq (bU d no (cj (a8 H k).line)).2 no≤cq d no+((a8 H k).line.size+1)∧(a8 H k).line.size+1≤fj d H:=by
 have h1:fO d (a8 H k)≤fj d H:=by
  have key:∀(l:List aq),a8 H k∈l→fO d (a8 H k)≤fj d l:=by
   intro l
   induction l with
   |nil=>intro h;cases h
   |cons x l ih=>
    intro h
    show _≤fO d x+fj d l
    rcases ao8.1 h with h|h
    ·rw[h];omega
    ·have:=ih h;omega
  exact key H (yS hk)
 have h2:(a8 H k).line.size+1≤fO d (a8 H k):=by
  unfold fO wl
  rw[ht,if_pos rfl]
  omega
 have hf:=hm.bW
 have hs:∀f,fileOf d.files no=some f→f.size+(cj (a8 H k).line).size≤1000000:=fun f e=>by
  have:cq d no=f.size:=by unfold cq;rw[e];rfl
  rw[lW]
  omega
 refine⟨hm.db.write hs,hs,?_,by omega⟩
 have:=PW d no (cj (a8 H k).line)
 rw[lW]at this
 exact this
theorem sA.next{no:Int}{F:Nat}{H:List aq}{d:au}(hm:sA no F H d)(hF:F≤1000000){k:Nat}(hk:k<H.length)(ht:(a8 H k).there=true)
 (hr:(cc (a8 H k) (bU d no (cj (a8 H k).line)).2).1=0):
 sA no F (H.set k (cc (a8 H k) (bU d no (cj (a8 H k).line)).2).2.1) (cc (a8 H k) (bU d no (cj (a8 H k).line)).2).2.2∧
 fj (cc (a8 H k) (bU d no (cj (a8 H k).line)).2).2.2 (H.set k (cc (a8 H k) (bU d no (cj (a8 H k).line)).2).2.1)<fj d H:=by
 obtain⟨w1,w2,w3,w4⟩:=hm.write hF hk ht
 generalize li:(bU d no (cj (a8 H k).line)).2=d1 at*
 have yT:∀m,m≠no→cq d1 m=cq d m:=fun m h=>by rw[←li];exact HR d _ h
 obtain⟨r1,r2,r3⟩:=BX w1 hr
 obtain⟨f1,f2,f3⟩:=BW (a8 H k) d1
 have hok:=hm.ok _ (yS hk)
 have gh:=hok.2
 have wo:wl (a8 H k)=(a8 H k).line.size+1:=by unfold wl;rw[ht];rfl
 have jA:fj d1 H=fj d H:=by
  have key:∀l:List aq,(∀h∈l,h.no≠no)→fj d1 l=fj d l:=by
   intro l
   induction l with
   |nil=>intro _;rfl
   |cons x l ih=>
    intro h
    show fO d1 x+fj d1 l=fO d x+fj d l
    rw[ih fun y hy=>h y (apc _ hy)]
    unfold fO
    rw[yT _ (h x ape)]
  exact key H fun h hh=>(hm.ok h hh).2
 have Ln:=Qa d1 H k (cc (a8 H k) d1).2.1 hk
 have anZ:fO d1 (a8 H k)=cq d1 (a8 H k).no-(a8 H k).at_.toNat+((a8 H k).line.size+1):=by unfold fO;rw[wo]
 have an0:fO d1 (cc (a8 H k) d1).2.1=cq d1 (a8 H k).no-(a8 H k).at_.toNat:=by unfold fO;rw[r1];exact r3
 have jI:fj (cc (a8 H k) d1).2.2 (H.set k (cc (a8 H k) d1).2.1)=fj d1 (H.set k (cc (a8 H k) d1).2.1):=PT f1 _
 have hf:=hm.bW
 refine⟨⟨w1.cc _,fun h hh=>?_,?_⟩,?_⟩
 ·rcases List.mem_or_eq_of_mem_set hh with hh|rfl
  ·exact hm.ok h hh
  ·exact⟨r2,by rw[r1];exact gh⟩
 ·rw[qW f1,jI]
  omega
 ·rw[jI]
  omega
theorem Qb(f:Bool)(no:Int):∀(n F:Nat) (H:List aq) (d:au),F≤1000000→sA no F H d→ca (lZ f no n H d).2∧(lZ f no n H d).2.made=d.made∧cq (lZ f no n H d).2 no≤F∧∀m,m≠no→cq (lZ f no n H d).2 m=cq d m
 |0,F,H,d,hF,hm=>⟨hm.db,rfl,by have:=hm.bW;show cq d no≤F;omega,fun m _=>rfl⟩
 |n+1,F,H,d,hF,hm=>by
  unfold lZ
  cases hk:eU f H with
  |none=>exact⟨hm.db,rfl,by have:=hm.bW;show cq d no≤F;omega,fun m _=>rfl⟩
  |some k=>
   obtain⟨k1,k2⟩:=B2 hk
   obtain⟨w1,w2,w3,w4⟩:=hm.write hF k1 k2
   have yT:∀m,m≠no→cq (bU d no (cj (a8 H k).line)).2 m=cq d m:=fun m h=>HR d _ h
   have HV:=HH d no (cj (a8 H k).line)
   have hf:=hm.bW
   dsimp only
   split
   ·exact⟨w1,HV,by omega,yT⟩
   obtain⟨f1,f2,f3⟩:=BW (a8 H k) (bU d no (cj (a8 H k).line)).2
   split
   ·exact⟨w1.cc _,f2.trans HV,by rw[qW f1];omega,fun m h=>by rw[qW f1];exact yT m h⟩
   ·rename_i hr
    obtain⟨n1,_⟩:=hm.next hF k1 k2 (aqD.1 hr)
    obtain⟨g1,g2,g3,g4⟩:=Qb f no n F _ _ hF n1
    exact⟨g1,g2.trans (f2.trans HV),g3,fun m h=>by rw[g4 m h,qW f1];exact yT m h⟩
theorem B6{d:au}(h:(bH d).2.1=0):(bH d).1=(d.made:Int)+1:=by
 unfold bH at h⊢
 split at h
 ·cases h
 ·rename_i h1
  rw[if_neg h1]
  split at h
  ·rename_i h2;exact absurd h h2
  ·rename_i h2
   rw[if_neg h2]
theorem HW(d:au)(m:Int)(hm:m≤d.made):cq (bH d).2.2 m=cq d m:=by
 unfold bH
 split
 ·rfl
 split
 ·rfl
 ·unfold cq fileOf
  show((atW _ (d.files++[_])).map _|>.map _).getD 0=_
  rw[List.find?_append]
  have:(atW (fun p:Nat×ByteArray=>(p.1:Int)==m) [(d.made+1,aoZ)])=none:=by
   rw[ars]
   intro p hp
   rw[apP.1 hp]
   simp only[beq_iff_eq]
   omega
  rw[this,Option.or_none]
theorem Qc{d:au}(hd:ca d)(h:(bH d).2.1=0):cq (bH d).2.2 (bH d).1=0:=by
 unfold cq
 rw[BN hd h]
 rfl
structure jC(d:au)(l:List Int):Prop where
 db:ca d
 old:∀r∈l,r≤d.made
 bW:eZ d l≤1000000
theorem jC.opened{d:au}{l:List Int}(h:jC d l)(he:(bH d).2.1=0)(ho:(eB l [] (bH d).2.2).1=0):
 sA (bH d).1 (eZ d l) (eB l [] (bH d).2.2).2.1 (eB l [] (bH d).2.2).2.2:=by
 have li:=h.db.uu
 obtain⟨o1,o2,o3,o4⟩:=yR l [] _ li
 have cX:=B0 l [] [] (bH d).2.2 (bH d).2.2 li rfl ⟨rfl,fun _ h=>(by cases h),apn _⟩ ho
 rw[aqw]at cX
 refine⟨o1,fun x hx=>⟨cX.ok x hx,?_⟩,?_⟩
 ·have:x.no∈l:=by rw[←cX.BZ];exact List.mem_map_of_mem hx
  have:=h.old _ this
  rw[B6 he]
  omega
 ·rw[qW o2,Qc h.db he,PT o2]
  have h1:=cX.fO
  have h2:eZ (bH d).2.2 l=eZ d l:=by
   have key:∀l:List Int,(∀r∈l,r≤d.made)→eZ (bH d).2.2 l=eZ d l:=by
    intro l
    induction l with
    |nil=>intro _;rfl
    |cons x l ih=>
     intro h
     unfold eZ
     rw[ih fun y hy=>h y (apc _ hy),HW d x (h x ape)]
   exact key l h.old
  omega
structure aef(d:au)(l:List Int)(r:Int×Int×au):Prop where
 db:ca r.2.2
 made:d.made≤r.2.2.made
 no:r.2.1=0→r.1=(d.made:Int)+1∧r.2.2.made=d.made+1∧cq r.2.2 r.1≤eZ d l
 old:∀m:Int,m≤d.made→cq r.2.2 m≤cq d m
theorem Qd(f:Bool){l:List Int}{d:au}(h:jC d l):aef d l (gW f l d):=by
 have li:=h.db.uu
 have nN:=HJ (d:=d)
 have jf:∀m:Int,m≤d.made→cq (bH d).2.2 m=cq d m:=fun m hm=>HW d m hm
 have cX:=h.opened
 obtain⟨o1,o2,o3,o4⟩:=yR l [] _ li
 have gh:=B6 (d:=d)
 unfold gW
 generalize bH d=c at*
 obtain⟨no,e,d1⟩:=c
 dsimp only at*
 split
 ·rename_i he
  rw[if_neg he]at nN
  exact⟨li,by dsimp only;omega,fun h=>absurd h he,fun m hm=>aq7 (jf m hm)⟩
 rename_i he
 have he:e=0:=aqD.1 he
 rw[if_pos he]at nN
 have cX:=cX he
 have gh:=gh he
 generalize eB l [] d1=q at*
 obtain⟨e2,H,d2⟩:=q
 dsimp only at*
 split
 ·rename_i eT
  exact⟨o1,by dsimp only;omega,fun h=>absurd h eT,fun m hm=>aq7 ((qW o2 m).trans (jf m hm))⟩
 rename_i eT
 have cX:=cX (aqD.1 eT)
 obtain⟨m1,m2,m3,m4⟩:=Qb f no sy (eZ d l) H d2 h.bW cX
 generalize lZ f no sy H d2=q at*
 obtain⟨e3,d3⟩:=q
 dsimp only at*
 have hold:∀m:Int,m≤d.made→cq d3 m=cq d m:=fun m hm=>by rw[m4 m (by omega),qW o2,jf m hm]
 split
 ·rename_i qU
  exact⟨m1,by dsimp only;omega,fun h=>absurd h qU,fun m hm=>aq7 (hold m hm)⟩
 obtain⟨g1,g2,g3⟩:=HS l d3 m1
 refine⟨g1,by dsimp only;omega,fun _=>⟨gh,by dsimp only;omega,arp (g3 no) m3⟩,fun m hm=>arp (g3 m) (aq7 (hold m hm))⟩
noncomputable section
def aeg(S:ad)(L:List ByteArray)(R:List Int)(H:List aq)(d:au)(no e:Int)(y:aq)(dd:au):List (apr×Sum):=[(54,Sum.one (fun _ _=>some [0,1,2,3,4,6]) [al 0,al 5] (aO S L R H d++[ab (kl ⟨no,0,aoZ,false⟩) 114]) (.ret (aa e)) (aO S L R H dd++[ab (kl y) 114]))]
theorem aeh(S:ad)(L:List ByteArray)(R:List Int)(H:List aq)(d:au)(no e:Int)(y:aq)(dd:au)(dq:aI aoL 54 [al 0,al 5] (aO S L R H d++[ab (kl ⟨no,0,aoZ,false⟩) 114]) fun r o=>r=.ret (aa e)∧o=aO S L R H dd++[ab (kl y) 114]):dk aoL (dB aoL (dE (aeg S L R H d no e y dd)) 50 40):=
 dI de mixed (dR (.cons (bB.one dq) .nil)) 50 40
noncomputable def B7:List apw:=bd (dC aoL 76)
noncomputable def uw:List apw:=bd (dC aoL 53)
open Tree renaming aW→mN,dn→mF,eS→mL,fA→mQ,dD→mR,fK→mE
noncomputable abbrev sB:List apw:=(bd (inner (bd (inner (uw.drop 3)))))
noncomputable abbrev HX:List apw:=(bd (inner (bd (inner (B7.drop 3)))))
def Qe:Nat→Bool→Bool→Tree→Tree
 |0,_,_,t=>t
 |n+1,d,b,t=>.cM d b (Qe n d b t)
theorem pW{R:bj→ai→Prop}{c v:Bool}{t:Tree}(n:Nat)(h1:c=v)(h2:t.ok R):(Qe n c v t).ok R:=by
 induction n with
 |zero=>exact h2
 |succ n ih=>exact⟨h1,ih⟩
abbrev lq:=fun S L R H d=>([ab (aM S 1 2 3 4) 89,.abs d,ab (ao L) 9,ab (ap R) 3,ab (aj H) 114]:List ak)
abbrev aei:=fun S L R H d (o n:Nat)=>(⟨[(0,al 0),(6,cm),(11,ct 3 o n n),(12,aa n),(13,aa 0)],lq S L R H d⟩:ai)
abbrev aej:=fun S L R H d (o n:Nat)=>(⟨[(0,al 0),(1,ct 3 o n n)],lq S L R H d⟩:ai)
theorem aek(S L R H d)(o n:Nat)(pH:(aj H).all ag=true){Q:aY}(l3:an aoL 30 5 (B7.drop 3) (aei S L R H d o n) Q):an aoL 30 5 B7 (aej S L R H d o n) Q:=
 aZ bt 3 (.leaf [0,6,11,12,13] [0,1,2,3,4] [2,3,4]) (fun u=>by kernel_rfl) (aL L R H (mQ l3))
abbrev jr:=fun S L R H d l=>([ab (aM S 1 2 3 4) 89,.abs d,ab (ao L) 9,ab (ap R) 3,ab (aj H) 114,ab (aj l) 114]:List ak)
abbrev ael:=fun S L R H d l (o n:Nat) (i:Int)=>(⟨[(0,al 0),(6,ah 5 (aoM l)),(11,ct 3 o n n),(12,aa n),(13,aa i)],jr S L R H d l⟩:ai)
abbrev aem:=fun S L R H d l (o n:Nat) (i:Int)=>(⟨[(6,ah 5 (aoM l))],jr S L R H d l⟩:ai)
abbrev aen:=fun S L R H d l (o n:Nat) (i:Int)=>(⟨[(0,al 0),(6,ah 5 (aoM l)),(11,ct 3 o n n),(12,aa n),(13,aa i)],jr S L R H d l⟩:ai)
theorem aeo(S L R H d l)(o n:Nat)(i:Int)(pH:(aj H).all ag=true)(pL:(aj l).all ag=true){Q:aY}(l4:(decide (i<(↑n:Int)))=true→an aoL 30 5 (HX.drop 2) (ael S L R H d l o n i) Q)(l5:(decide (i<(↑n:Int)))=false→Q (.exit 0) (aem S L R H d l o n i)):an aoL 30 5 HX (aen S L R H d l o n i) Q:=
 aZ bt 2 (.fork 0 (.leaf [0,6,11,12,13] [0,1,2,3,4,5] [2,3,4,5]) (.leaf [6] [0,1,2,3,4,5] [2,3,4,5])) (fun u=>by kernel_rfl) (mF (c:=decide (i<(↑n:Int))) (fun h0=>(aL L R H (mN (a7 l) (mQ (l4 h0))))) (fun h0=>(aL L R H (mN (a7 l) (mE 0 (l5 h0))))))
abbrev Qf:=fun S L R H (d:au) (l:List aq) (o n:Nat) (no e:Int) (y:aq) dd (i:Int)=>(⟨[(4,cm),(5,aa e)],[ab (aM S 1 2 3 4) 89,.abs dd,ab (ao L) 9,ab (ap R) 3,ab (aj H) 114]⟩:ai)
theorem aep(S L R H d l)(o n:Nat)(no e:Int)(y dd)(i:Int){Q:bo}(hq:Q (.ret (.tuple #[cm,aa e])) [ab (aM S 1 2 3 4) 89,.abs dd,ab (ao L) 9,ab (ap R) 3,ab (aj H) 114]):aJ aoL 76 30 5 Q .ret (Qf S L R H d l o n no e y dd i):=aJ.ret (vs:=[cm,aa e]) (l:=[]) (bs:=[0,1,2,3,4]) (pl:=[2,3,4]) (q:=[ao L,ap R,aj H]) (fun u=>by kernel_rfl) (by kernel_rfl) (fY L R H bi) hq
abbrev Qg:=fun S L R H (d:au) l (o n:Nat) (no e:Int) y dd (i:Int)=>(⟨[(0,al 0),(6,ah 5 (aoM l+1)),(11,ct 3 o n n),(12,aa n),(13,.int .i64 (aoN .i64 (i+1)))],[ab (aM S 1 2 3 4) 89,.abs dd,ab (ao L) 9,ab (ap R) 3,ab (aj H) 114,ab (aj l++[aa (aq.no y),aa (aq.at_ y),apm (aq.line y),apV (aq.there y)]) 114]⟩:ai)
abbrev aeq:=fun S L R H d l (o n:Nat) (no e:Int) (y:aq) (dd:au) (i:Int)=>(⟨[(0,al 0),(6,ah 5 (aoM l)),(11,ct 3 o n n),(12,aa n),(13,aa i)],jr S L R H d l⟩:ai)
theorem aer(S L R H d l)(o n:Nat)(no e:Int)(y dd)(i:Int)(pH:(aj H).all ag=true)(pL:(aj l).all ag=true)(dq:aI aoL 54 [al 0,al 5] (aO S L R H d++[ab (kl ⟨no,0,aoZ,false⟩) 114]) fun r o=>r=.ret (aa e)∧o=aO S L R H dd++[ab (kl y) 114])(h0:0≤i)(h1:i<n)(h2:n≤1000000)(h3:aoN .i64 (i+1)=i+1)(h4:(aoM l)≤1000000){Q:aY}(n0:(cH ao2 (ap R) (o+aoO i*1))=true)(n1:(dW [al 0,al 5] [al 0,al 5] [ab (aM S 1 2 3 4) 89,ak.abs d,ab (ao L) 9,ab (ap R) 3,ab (aj H) 114,ab [aa (ay (ap R) (o+aoO i*1)),aa 0,apm (apB #[]),apV false] 114] (aO S L R H d++[ab [aa no,aa 0,apm aoZ,apV false] 114]))=true)(aX:aoS (ao L) ag=true)(bh:aoS (ap R) ag=true)(bD:aoS (aj H) ag=true)(l5:(e != 0)=true→Q .ret (Qf S L R H d l o n no e y dd i))(n6:(e != 0)=false→(apf (aoM l+1) 1000000)=true)(n7:(e != 0)=false→(ao6 (0+aoM l*4) (aoM (aj l)))=true)(l8:(e != 0)=false→Q .normal (Qg S L R H d l o n no e y dd i)):an aoL 30 5 (HX.drop 2) (aeq S L R H d l o n no e y dd i) Q:=
 aZ (aeh S L R H d no e y dd dq) 1000 (aA [0,1,1,0,1,5,1,1,3,1,1,1] (.fork 1 (.leaf [4,5] [0,1,2,3,4] [2,3,4]) (aA [2,3,5,1] (.leaf [0,6,11,12,13] [0,1,2,3,4,8] [2,3,4,8])))) (fun u=>by kernel_rfl) (mN (decide_eq_true (by omega):(decide (0≤i))=true) (mN (show(ao9 (aoO i) n)=true by simp at pH pL dq h0 h1 h2 h3 h4⊢ <;>omega) (mN n0 (aL L R H (mN n1 (aL L R H (mF (c:=e != 0) (fun h0=>(aL L R H (mR (l5 h0)))) (fun h0=>(mN (n6 h0) (mN (lh _:(full (aoM l) (aoM l))=true) (mN (n7 h0) (aL L R H (mN (show(aoS (aj l++[aa (aq.no y),aa (aq.at_ y),apm (aq.line y),apV (aq.there y)]) ag)=true by exact aC (by assumption) rfl) (mQ (an.done (by kernel_rfl) (l8 h0))))))))))))))))
abbrev Qh:=fun S L R H d l=>(⟨[(4,ah 5 (aoM l)),(5,aa 0)],jr S L R H d l⟩:ai)
theorem aes(S L R H d l){Q:bo}(hq:Q (.ret (.tuple #[ah 5 (aoM l),aa 0])) (jr S L R H d l)):aJ aoL 76 30 5 Q .ret (Qh S L R H d l):=aJ.ret (vs:=[ah 5 (aoM l),aa 0]) (l:=[]) (bs:=[0,1,2,3,4,5]) (pl:=[2,3,4,5]) (q:=[ao L,ap R,aj H,aj l]) (fun u=>by kernel_rfl) (by kernel_rfl) (fY L R H (aF (a7 l) bi)) hq
abbrev aet:=fun S L R H d l=>(⟨[(6,ah 5 (aoM l))],jr S L R H d l⟩:ai)
theorem aeu(S L R H d l)(pH:(aj H).all ag=true)(pL:(aj l).all ag=true){Q:aY}(l4:Q .ret (Qh S L R H d l)):an aoL 30 5 (B7.drop 4) (aet S L R H d l) Q:=
 aZ bt 1000 (.leaf [4,5] [0,1,2,3,4,5] [2,3,4,5]) (fun u=>by kernel_rfl) (aL L R H (mN (a7 l) (mR l4)))
abbrev aev:=fun S L R H d l=>(⟨[(0,al 0),(1,ah 5 (aoM l)),(5,aa (-1)),(8,ah 5 (aoM l)),(9,aa (aoM l)),(10,aa 0)],jr S L R H d l⟩:ai)
abbrev aew:=fun S L R H d l=>(⟨[(0,al 0),(1,ah 5 (aoM l))],jr S L R H d l⟩:ai)
theorem aex(S L R H d l)(pH:(aj H).all ag=true)(pL:(aj l).all ag=true){Q:aY}(l4:an aoL 36 6 (uw.drop 3) (aev S L R H d l) Q):an aoL 36 6 uw (aew S L R H d l) Q:=
 aZ bt 3 (.leaf [0,1,5,8,9,10] [0,1,2,3,4,5] [2,3,4,5]) (fun u=>by kernel_rfl) (aL L R H (mN (a7 l) (mQ l4)))
abbrev aey:=fun S L R H d l (k i:Int)=>(⟨[(0,al 0),(1,ah 5 (aoM l)),(5,aa k),(8,ah 5 (aoM l)),(9,aa (aoM l)),(10,aa i)],jr S L R H d l⟩:ai)
abbrev aez:=fun S L R H d l (k i:Int)=>(⟨[(5,aa k)],jr S L R H d l⟩:ai)
abbrev aeA:=fun S L R H d l (k i:Int)=>(⟨[(0,al 0),(1,ah 5 (aoM l)),(5,aa k),(8,ah 5 (aoM l)),(9,aa (aoM l)),(10,aa i)],jr S L R H d l⟩:ai)
theorem aeB(S L R H d l)(k i:Int)(pH:(aj H).all ag=true)(pL:(aj l).all ag=true){Q:aY}(l4:(decide (i<(↑(aoM l):Int)))=true→an aoL 36 6 (sB.drop 2) (aey S L R H d l k i) Q)(l5:(decide (i<(↑(aoM l):Int)))=false→Q (.exit 0) (aez S L R H d l k i)):an aoL 36 6 sB (aeA S L R H d l k i) Q:=
 aZ bt 2 (.fork 0 (.leaf [0,1,5,8,9,10] [0,1,2,3,4,5] [2,3,4,5]) (.leaf [5] [0,1,2,3,4,5] [2,3,4,5])) (fun u=>by kernel_rfl) (mF (c:=decide (i<(↑(aoM l):Int))) (fun h0=>(aL L R H (mN (a7 l) (mQ (l4 h0))))) (fun h0=>(aL L R H (mN (a7 l) (mE 0 (l5 h0))))))
abbrev Qi:=fun S L R H d l (i:Int)=>(⟨[(0,al 0),(1,ah 5 (aoM l)),(5,aa i),(8,ah 5 (aoM l)),(9,aa (aoM l)),(10,.int .i64 (aoN .i64 (i+1)))],jr S L R H d l⟩:ai)
abbrev Qj:=fun S L R H d l (i:Int)=>(⟨[(0,al 0),(1,ah 5 (aoM l)),(5,aa (-1)),(8,ah 5 (aoM l)),(9,aa (aoM l)),(10,.int .i64 (aoN .i64 (i+1)))],jr S L R H d l⟩:ai)
abbrev aeC:=fun S L R H d l (i:Int)=>(⟨[(0,al 0),(1,ah 5 (aoM l)),(5,aa (-1)),(8,ah 5 (aoM l)),(9,aa (aoM l)),(10,aa i)],jr S L R H d l⟩:ai)
theorem aeD(S L R H d l)(i:Int)(pH:(aj H).all ag=true)(pL:(aj l).all ag=true)(h0:0≤i)(h1:i<(aoM l))(h2:(aoM l)≤1000000)(h3:aoN .i64 (i+1)=i+1){Q:aY}(n0:(apf (0+aoO i*4+4) (aoM (aj l)))=true)(n1:(cH ao2 (aj l) (0+aoO i*4))=true)(n2:(cH ao2 (aj l) (0+aoO i*4+1))=true)(n3:(eQ (aj l) (0+aoO i*4+1+1))=true)(n4:(oN (aj l) (0+aoO i*4+1+1+1))=true)(l9:(gQ (aj l) (0+aoO i*4+1+1+1))=true→Q .normal (Qi S L R H d l i))(jU:(gQ (aj l) (0+aoO i*4+1+1+1))=false→Q .normal (Qj S L R H d l i)):an aoL 36 6 (sB.drop 2) (aeC S L R H d l i) Q:=
 aZ su 1000 (aA [0,1,1,0,1,1,1,1,1] (.fork 2 (aA [1,1,21,3] (.leaf [0,1,5,8,9,10] [0,1,2,3,4,5] [2,3,4,5])) (aA [0,0,0,0] (.leaf [0,1,5,8,9,10] [0,1,2,3,4,5] [2,3,4,5])))) (fun u=>by kernel_rfl) (mN (decide_eq_true (by omega):(decide (0≤i))=true) (mN (show(ao9 (aoO i) (aoM l))=true by simp at pH pL h0 h1 h2 h3⊢ <;>omega) (mN n0 (mN n1 (mN n2 (mN n3 (mN n4 (mF (c:=gQ (aj l) (0+aoO i*4+1+1+1)) (fun h0=>(pW 4 h0 (aL L R H (mN (a7 l) (mQ (an.done (by kernel_rfl) (l9 h0))))))) (fun h0=>(pW 4 h0 (aL L R H (mN (a7 l) (mQ (an.done (by kernel_rfl) (jU h0)))))))))))))))
abbrev Qk:=fun S L R H d l (k:Nat) (i:Int)=>(⟨[(0,al 0),(1,ah 5 (aoM l)),(5,aa i),(8,ah 5 (aoM l)),(9,aa (aoM l)),(10,.int .i64 (aoN .i64 (i+1)))],jr S L R H d l⟩:ai)
abbrev Ql:=fun S L R H d l (k:Nat) (i:Int)=>(⟨[(0,al 0),(1,ah 5 (aoM l)),(5,aa k),(8,ah 5 (aoM l)),(9,aa (aoM l)),(10,.int .i64 (aoN .i64 (i+1)))],jr S L R H d l⟩:ai)
abbrev Qm:=fun S L R H d l (k:Nat) (i:Int)=>(⟨[(0,al 0),(1,ah 5 (aoM l)),(5,aa k),(8,ah 5 (aoM l)),(9,aa (aoM l)),(10,.int .i64 (aoN .i64 (i+1)))],jr S L R H d l⟩:ai)
abbrev aeE:=fun S L R H d l (k:Nat) (i:Int)=>(⟨[(0,al 0),(1,ah 5 (aoM l)),(5,aa k),(8,ah 5 (aoM l)),(9,aa (aoM l)),(10,aa i)],jr S L R H d l⟩:ai)
theorem aeF(S L R H d l)(k:Nat)(i:Int)(pH:(aj H).all ag=true)(pL:(aj l).all ag=true)(h0:0≤i)(h1:i<(aoM l))(h2:(aoM l)≤1000000)(h3:aoN .i64 (i+1)=i+1)(h4:k<(aoM l)){Q:aY}(n0:(apf (0+aoO i*4+4) (aoM (aj l)))=true)(n1:(cH ao2 (aj l) (0+aoO i*4))=true)(n2:(cH ao2 (aj l) (0+aoO i*4+1))=true)(n3:(eQ (aj l) (0+aoO i*4+1+1))=true)(n4:(oN (aj l) (0+aoO i*4+1+1+1))=true)(n5:(gQ (aj l) (0+aoO i*4+1+1+1))=true→(eQ (aj l) (0+aoO (↑k:Int)*4+2))=true)(n6:(gQ (aj l) (0+aoO i*4+1+1+1))=true→(qS [ab (aM S 1 2 3 4) 89,ak.abs d,ab (ao L) 9,ab (ap R) 3,ab (aj H) 114])=true)(gJ:(gQ (aj l) (0+aoO i*4+1+1+1))=true→(decide (ba (ad.aD S) (bc (aj l) (0+aoO i*4+1+1)) (bc (aj l) (0+aoO (↑k:Int)*4+2))<0))=true→Q .normal (Qk S L R H d l k i))(jS:(gQ (aj l) (0+aoO i*4+1+1+1))=true→(decide (ba (ad.aD S) (bc (aj l) (0+aoO i*4+1+1)) (bc (aj l) (0+aoO (↑k:Int)*4+2))<0))=false→Q .normal (Ql S L R H d l k i))(lr:(gQ (aj l) (0+aoO i*4+1+1+1))=false→Q .normal (Qm S L R H d l k i)):an aoL 36 6 (sB.drop 2) (aeE S L R H d l k i) Q:=
 aZ su 1000 (aA [0,1,1,0,1,1,1,1,1] (.fork 2 (aA [1,1,14,3,4,1,5,1,1,1,1,1,1,3,3] (.fork 0 (.leaf [0,1,5,8,9,10] [0,1,2,3,4,5] [2,3,4,5]) (.leaf [0,1,5,8,9,10] [0,1,2,3,4,5] [2,3,4,5]))) (aA [0,0,0,0] (.leaf [0,1,5,8,9,10] [0,1,2,3,4,5] [2,3,4,5])))) (fun u=>by kernel_rfl) (mN (decide_eq_true (by omega):(decide (0≤i))=true) (mN (show(ao9 (aoO i) (aoM l))=true by simp at pH pL h0 h1 h2 h3 h4⊢ <;>omega) (mN n0 (mN n1 (mN n2 (mN n3 (mN n4 (mF (c:=gQ (aj l) (0+aoO i*4+1+1+1)) (fun h0=>(pW 2 h0 (mN (show(ao9 (aoO (↑k:Int)) (aoM l))=true by simp at pH pL h0 h1 h2 h3 h4 h0⊢ <;>omega) (mN (n5 h0) (aL L R H (mN (n6 h0) (aL L R H (pW 2 h0 (mF (c:=decide (ba (ad.aD S) (bc (aj l) (0+aoO i*4+1+1)) (bc (aj l) (0+aoO (↑k:Int)*4+2))<0)) (fun h1=>(aL L R H (mN (a7 l) (mQ (an.done (by kernel_rfl) (gJ h0 h1)))))) (fun h1=>(aL L R H (mN (a7 l) (mQ (an.done (by kernel_rfl) (jS h0 h1))))))))))))))) (fun h0=>(pW 4 h0 (aL L R H (mN (a7 l) (mQ (an.done (by kernel_rfl) (lr h0)))))))))))))))
abbrev HY:=fun S L R H d l (k:Int)=>(⟨[(4,aa k)],jr S L R H d l⟩:ai)
theorem aeG(S L R H d l)(k:Int){Q:bo}(hq:Q (.ret (aa k)) (HY S L R H d l k).objs):aJ aoL 53 36 6 Q .ret (HY S L R H d l k):=aJ.ret (vs:=[aa k]) (l:=[]) (bs:=[0,1,2,3,4,5]) (pl:=[2,3,4,5]) (q:=[ao L,ap R,aj H,aj l]) (fun u=>by kernel_rfl) (by kernel_rfl) (fY L R H (aF (a7 l) bi)) hq
abbrev aeH:=fun S L R H d l (k:Int)=>(⟨[(5,aa k)],jr S L R H d l⟩:ai)
theorem aeI(S L R H d l)(k:Int)(pH:(aj H).all ag=true)(pL:(aj l).all ag=true){Q:aY}(l4:Q .ret (HY S L R H d l k)):an aoL 36 6 (uw.drop 4) (aeH S L R H d l k) Q:=
 aZ bt 1000 (.leaf [4] [0,1,2,3,4,5] [2,3,4,5]) (fun u=>by kernel_rfl) (aL L R H (mN (a7 l) (mR l4)))
abbrev aeJ:=fun S L R H d=>(⟨[(0,al 0),(1,ah 4 (aoM H)),(5,aa (-1)),(8,ah 4 (aoM H)),(9,aa (aoM H)),(10,aa 0)],lq S L R H d⟩:ai)
abbrev aeK:=fun S L R H d=>(⟨[(0,al 0),(1,ah 4 (aoM H))],lq S L R H d⟩:ai)
theorem aeL(S L R H d)(pH:(aj H).all ag=true){Q:aY}(l3:an aoL 36 5 (uw.drop 3) (aeJ S L R H d) Q):an aoL 36 5 uw (aeK S L R H d) Q:=
 aZ bt 3 (.leaf [0,1,5,8,9,10] [0,1,2,3,4] [2,3,4]) (fun u=>by kernel_rfl) (aL L R H (mQ l3))
abbrev aeM:=fun S L R H d (k i:Int)=>(⟨[(0,al 0),(1,ah 4 (aoM H)),(5,aa k),(8,ah 4 (aoM H)),(9,aa (aoM H)),(10,aa i)],lq S L R H d⟩:ai)
abbrev aeN:=fun S L R H d (k i:Int)=>(⟨[(5,aa k)],lq S L R H d⟩:ai)
abbrev aeO:=fun S L R H d (k i:Int)=>(⟨[(0,al 0),(1,ah 4 (aoM H)),(5,aa k),(8,ah 4 (aoM H)),(9,aa (aoM H)),(10,aa i)],lq S L R H d⟩:ai)
theorem aeP(S L R H d)(k i:Int)(pH:(aj H).all ag=true){Q:aY}(l3:(decide (i<(↑(aoM H):Int)))=true→an aoL 36 5 (sB.drop 2) (aeM S L R H d k i) Q)(l4:(decide (i<(↑(aoM H):Int)))=false→Q (.exit 0) (aeN S L R H d k i)):an aoL 36 5 sB (aeO S L R H d k i) Q:=
 aZ bt 2 (.fork 0 (.leaf [0,1,5,8,9,10] [0,1,2,3,4] [2,3,4]) (.leaf [5] [0,1,2,3,4] [2,3,4])) (fun u=>by kernel_rfl) (mF (c:=decide (i<(↑(aoM H):Int))) (fun h0=>(aL L R H (mQ (l3 h0)))) (fun h0=>(aL L R H (mE 0 (l4 h0)))))
abbrev Qn:=fun S L R H d (i:Int)=>(⟨[(0,al 0),(1,ah 4 (aoM H)),(5,aa i),(8,ah 4 (aoM H)),(9,aa (aoM H)),(10,.int .i64 (aoN .i64 (i+1)))],lq S L R H d⟩:ai)
abbrev Qo:=fun S L R H d (i:Int)=>(⟨[(0,al 0),(1,ah 4 (aoM H)),(5,aa (-1)),(8,ah 4 (aoM H)),(9,aa (aoM H)),(10,.int .i64 (aoN .i64 (i+1)))],lq S L R H d⟩:ai)
abbrev aeQ:=fun S L R H d (i:Int)=>(⟨[(0,al 0),(1,ah 4 (aoM H)),(5,aa (-1)),(8,ah 4 (aoM H)),(9,aa (aoM H)),(10,aa i)],lq S L R H d⟩:ai)
theorem aeR(S L R H d)(i:Int)(pH:(aj H).all ag=true)(h0:0≤i)(h1:i<(aoM H))(h2:(aoM H)≤1000000)(h3:aoN .i64 (i+1)=i+1){Q:aY}(n0:(apf (0+aoO i*4+4) (aoM (aj H)))=true)(n1:(cH ao2 (aj H) (0+aoO i*4))=true)(n2:(cH ao2 (aj H) (0+aoO i*4+1))=true)(n3:(eQ (aj H) (0+aoO i*4+1+1))=true)(n4:(oN (aj H) (0+aoO i*4+1+1+1))=true)(l8:(gQ (aj H) (0+aoO i*4+1+1+1))=true→Q .normal (Qn S L R H d i))(l9:(gQ (aj H) (0+aoO i*4+1+1+1))=false→Q .normal (Qo S L R H d i)):an aoL 36 5 (sB.drop 2) (aeQ S L R H d i) Q:=
 aZ su 1000 (aA [0,1,1,0,1,1,1,1,1] (.fork 2 (aA [1,1,21,3] (.leaf [0,1,5,8,9,10] [0,1,2,3,4] [2,3,4])) (aA [0,0,0,0] (.leaf [0,1,5,8,9,10] [0,1,2,3,4] [2,3,4])))) (fun u=>by kernel_rfl) (mN (decide_eq_true (by omega):(decide (0≤i))=true) (mN (show(ao9 (aoO i) (aoM H))=true by simp at pH h0 h1 h2 h3⊢ <;>omega) (mN n0 (mN n1 (mN n2 (mN n3 (mN n4 (mF (c:=gQ (aj H) (0+aoO i*4+1+1+1)) (fun h0=>(pW 4 h0 (aL L R H (mQ (an.done (by kernel_rfl) (l8 h0)))))) (fun h0=>(pW 4 h0 (aL L R H (mQ (an.done (by kernel_rfl) (l9 h0))))))))))))))
abbrev Qp:=fun S L R H d (k:Nat) (i:Int)=>(⟨[(0,al 0),(1,ah 4 (aoM H)),(5,aa i),(8,ah 4 (aoM H)),(9,aa (aoM H)),(10,.int .i64 (aoN .i64 (i+1)))],lq S L R H d⟩:ai)
abbrev Qq:=fun S L R H d (k:Nat) (i:Int)=>(⟨[(0,al 0),(1,ah 4 (aoM H)),(5,aa k),(8,ah 4 (aoM H)),(9,aa (aoM H)),(10,.int .i64 (aoN .i64 (i+1)))],lq S L R H d⟩:ai)
abbrev Qr:=fun S L R H d (k:Nat) (i:Int)=>(⟨[(0,al 0),(1,ah 4 (aoM H)),(5,aa k),(8,ah 4 (aoM H)),(9,aa (aoM H)),(10,.int .i64 (aoN .i64 (i+1)))],lq S L R H d⟩:ai)
abbrev aeS:=fun S L R H d (k:Nat) (i:Int)=>(⟨[(0,al 0),(1,ah 4 (aoM H)),(5,aa k),(8,ah 4 (aoM H)),(9,aa (aoM H)),(10,aa i)],lq S L R H d⟩:ai)
theorem aeT(S L R H d)(k:Nat)(i:Int)(pH:(aj H).all ag=true)(h0:0≤i)(h1:i<(aoM H))(h2:(aoM H)≤1000000)(h3:aoN .i64 (i+1)=i+1)(h4:k<(aoM H)){Q:aY}(n0:(apf (0+aoO i*4+4) (aoM (aj H)))=true)(n1:(cH ao2 (aj H) (0+aoO i*4))=true)(n2:(cH ao2 (aj H) (0+aoO i*4+1))=true)(n3:(eQ (aj H) (0+aoO i*4+1+1))=true)(n4:(oN (aj H) (0+aoO i*4+1+1+1))=true)(n5:(gQ (aj H) (0+aoO i*4+1+1+1))=true→(eQ (aj H) (0+aoO (↑k:Int)*4+2))=true)(n6:(gQ (aj H) (0+aoO i*4+1+1+1))=true→(qS [ab (aM S 1 2 3 4) 89,ak.abs d,ab (ao L) 9,ab (ap R) 3,ab (aj H) 114])=true)(jU:(gQ (aj H) (0+aoO i*4+1+1+1))=true→(decide (ba (ad.aD S) (bc (aj H) (0+aoO i*4+1+1)) (bc (aj H) (0+aoO (↑k:Int)*4+2))<0))=true→Q .normal (Qp S L R H d k i))(gJ:(gQ (aj H) (0+aoO i*4+1+1+1))=true→(decide (ba (ad.aD S) (bc (aj H) (0+aoO i*4+1+1)) (bc (aj H) (0+aoO (↑k:Int)*4+2))<0))=false→Q .normal (Qq S L R H d k i))(jS:(gQ (aj H) (0+aoO i*4+1+1+1))=false→Q .normal (Qr S L R H d k i)):an aoL 36 5 (sB.drop 2) (aeS S L R H d k i) Q:=
 aZ su 1000 (aA [0,1,1,0,1,1,1,1,1] (.fork 2 (aA [1,1,14,3,4,1,5,1,1,1,1,1,1,3,3] (.fork 0 (.leaf [0,1,5,8,9,10] [0,1,2,3,4] [2,3,4]) (.leaf [0,1,5,8,9,10] [0,1,2,3,4] [2,3,4]))) (aA [0,0,0,0] (.leaf [0,1,5,8,9,10] [0,1,2,3,4] [2,3,4])))) (fun u=>by kernel_rfl) (mN (decide_eq_true (by omega):(decide (0≤i))=true) (mN (show(ao9 (aoO i) (aoM H))=true by simp at pH h0 h1 h2 h3 h4⊢ <;>omega) (mN n0 (mN n1 (mN n2 (mN n3 (mN n4 (mF (c:=gQ (aj H) (0+aoO i*4+1+1+1)) (fun h0=>(pW 2 h0 (mN (show(ao9 (aoO (↑k:Int)) (aoM H))=true by simp at pH h0 h1 h2 h3 h4 h0⊢ <;>omega) (mN (n5 h0) (aL L R H (mN (n6 h0) (aL L R H (pW 2 h0 (mF (c:=decide (ba (ad.aD S) (bc (aj H) (0+aoO i*4+1+1)) (bc (aj H) (0+aoO (↑k:Int)*4+2))<0)) (fun h1=>(aL L R H (mQ (an.done (by kernel_rfl) (jU h0 h1))))) (fun h1=>(aL L R H (mQ (an.done (by kernel_rfl) (gJ h0 h1)))))))))))))) (fun h0=>(pW 4 h0 (aL L R H (mQ (an.done (by kernel_rfl) (jS h0))))))))))))))
abbrev HZ:=fun S L R H d (k:Int)=>(⟨[(4,aa k)],lq S L R H d⟩:ai)
theorem aeU(S L R H d)(k:Int){Q:bo}(hq:Q (.ret (aa k)) (HZ S L R H d k).objs):aJ aoL 53 36 5 Q .ret (HZ S L R H d k):=aJ.ret (vs:=[aa k]) (l:=[]) (bs:=[0,1,2,3,4]) (pl:=[2,3,4]) (q:=[ao L,ap R,aj H]) (fun u=>by kernel_rfl) (by kernel_rfl) (fY L R H bi) hq
abbrev aeV:=fun S L R H d (k:Int)=>(⟨[(5,aa k)],lq S L R H d⟩:ai)
theorem aeW(S L R H d)(k:Int)(pH:(aj H).all ag=true){Q:aY}(l3:Q .ret (HZ S L R H d k)):an aoL 36 5 (uw.drop 4) (aeV S L R H d k) Q:=
 aZ bt 1000 (.leaf [4] [0,1,2,3,4] [2,3,4]) (fun u=>by kernel_rfl) (aL L R H (mR l3))
end
theorem H0{R:List Int}{k:Nat}{x:Int}(h:R[k]?=some x):ay (ap R) k=x∧cH .i64 (ap R) k=true:=by
 have hk:k<R.length:=(ao0.1 h).1
 refine⟨?_,FI hk⟩
 rw[FH hk]
 exact(ao0.1 h).2
theorem Qs{R:List Int}{o n i:Nat}(h:i<n)(hr:o+n≤R.length):∃x,R[o+i]?=some x∧((R.drop o).take n).drop i=x::((R.drop o).take n).drop (i+1):=by
 refine⟨R[o+i],aoV (by omega),?_⟩
 have hl:i<((R.drop o).take n).length:=by rw[apI,ap0];omega
 rw[aqF hl]
 congr 1
 rw[List.getElem_take,List.getElem_drop]
def H2(S:ad)(L:List ByteArray)(R:List Int)(H:List aq)(o n:Nat)(s:Nat×au):ai:=⟨[(0,.pointer (some ⟨0,0,none⟩)),(8,.slice (some ⟨3,o,none⟩) n n),(9,iZ n),(10,iZ s.1)],aO S L R H s.2⟩
structure aeX(l:List Int)(d0:au)(s:Nat×au):Prop where
 i:s.1≤l.length
 e:gi (l.drop s.1) s.2=gi l d0
 ok:ca s.2
theorem Qt(S:ad)(L:List ByteArray)(R:List Int)(H:List aq)(d:au)(o n:Nat)(wq:o+n≤R.length)(hn:n≤1000000)(hd:ca d):
 aI aoL 78 [.pointer (some ⟨0,0,none⟩),.slice (some ⟨3,o,none⟩) n n] (aO S L R H d) fun r q=>r=.ret (.int .i64 (gi ((R.drop o).take n) d).1)∧q=aO S L R H (gi ((R.drop o).take n) d).2:=by
 have pH:=a7 H
 refine aI.cY (n:=cp aoL 78) (by kernel_rfl) ?_
 have nJ:((R.drop o).take n).length=n:=by rw[apI,ap0];omega
 apply adY S L R H d o n pH
 ·
  rw[show P3 S L R H d o n=H2 S L R H o n (0,d)from rfl]
  refine an.eO 2 0 (by kernel_rfl) ?_
  refine an.fL (H2 S L R H o n) (fun t=>n-t.1) (aeX ((R.drop o).take n) d) (0,d) (by kernel_rfl) ⟨apN _,by simp,hd⟩ ?_
  clear hd
  rintro⟨i,d1⟩ ⟨h1,h2,h3⟩
  dsimp only at h1 h2 h3
  apply ad1 S L R H d1 o n i pH
  case l4=>
   intro g
   have g:=of_decide_eq_false g
   rw[aqq (by omega)]at h2
   have h2:(0,d1)=gi ((R.drop o).take n) d:=h2
   rw[←h2]
   with_reducible (repeat first|refine QL.ret ?_|refine QL.exit ?_|refine QB.ret ?_|refine QB.cx ?_|refine QB.normal ?_|refine QB.cG (by rfl) ?_)
   apply ad6 S L R H d1 o n pH
   ·exact ad4 S L R H d1 o n ⟨rfl,rfl⟩
  case l3=>
   intro g
   have g:=of_decide_eq_true g
   obtain⟨x,hx,nr⟩:=Qs (R:=R) (o:=o) (n:=n) (i:=i) (by omega) wq
   obtain⟨e1,e2⟩:=H0 hx
   rw[nr]at h2
   have hr:=h3.remove x
   apply ad3 S L R H d1 o n i pH (by omega) g hn (bL (by omega) (by omega))
   case n0=>rw[show o+aoO (i:Int)*1=o+i by simp];exact e2
   case n1=>exact nl.2 h3
   case l5=>
    intro ge
    rw[show o+aoO (i:Int)*1=o+i by simp,e1]at ge
    have ge:(cF d1 x).1≠0:=by simpa using ge
    have h2:(if(cF d1 x).1≠0 then cF d1 x else gi (((R.drop o).take n).drop (i+1)) (cF d1 x).2)=gi ((R.drop o).take n) d:=h2
    rw[if_pos ge]at h2
    rw[←h2]
    with_reducible (repeat first|refine QL.ret ?_|refine QL.exit ?_|refine QB.ret ?_|refine QB.cx ?_|refine QB.normal ?_|refine QB.cG (by rfl) ?_)
    unfold B4
    rw[show o+aoO (i:Int)*1=o+i by simp,e1]
    have:=ad2 S L R H d1 o n i (Q:=fun r q=>r=.ret (.int .i64 (cF d1 x).1)∧q=aO S L R H (cF d1 x).2) (by rw[show o+aoO (i:Int)*1=o+i by simp,e1];exact⟨rfl,rfl⟩)
    unfold B4 at this
    rw[show o+aoO (i:Int)*1=o+i by simp,e1]at this
    exact this
   case l6=>
    intro ge
    rw[show o+aoO (i:Int)*1=o+i by simp,e1]at ge
    have ge:¬(cF d1 x).1≠0:=by simpa using ge
    have h2:(if(cF d1 x).1≠0 then cF d1 x else gi (((R.drop o).take n).drop (i+1)) (cF d1 x).2)=gi ((R.drop o).take n) d:=h2
    rw[if_neg ge]at h2
    refine QL.to (i+1,(cF d1 x).2) ⟨by dsimp only;omega,h2,hr.1⟩ (by dsimp only;omega) ?_
    unfold P5 H2
    rw[show o+aoO (i:Int)*1=o+i by simp,e1,ff (by omega)]
    rfl
theorem aeY(A C:List aoP)(a b c e x y z:aoP):bf (bf (bf (A++([a,b,c,e]++C)) (A.length+3) [x]) (A.length+2) [y]) (A.length+1) [z]=A++([a,z,y,x]++C):=by
 have one:∀(U V:List aoP) (u v:aoP),bf (U++(u::V)) U.length [v]=U++(v::V):=fun U V u v=>by
  unfold bf
  rw[auC,api,show U.length+[v].length=(U++[u]).length by simp,show U++u::V=(U++[u])++V by simp,auK]
  ·rfl
  ·rfl
 have s1:bf (A++([a,b,c,e]++C)) (A.length+3) [x]=A++([a,b,c,x]++C):=by
  have:=one (A++[a,b,c]) C e x
  simpa using this
 have s2:bf (A++([a,b,c,x]++C)) (A.length+2) [y]=A++([a,b,y,x]++C):=by
  have:=one (A++[a,b]) (x::C) c y
  simpa using this
 have s3:bf (A++([a,b,y,x]++C)) (A.length+1) [z]=A++([a,z,y,x]++C):=by
  have:=one (A++[a]) (y::x::C) b z
  simpa using this
 rw[s1,s2,s3]
theorem aeZ(A C:List aoP)(a b c e x y:aoP):bf (bf (A++([a,b,c,e]++C)) (A.length+3) [x]) (A.length+2) [y]=A++([a,b,y,x]++C):=by
 have one:∀(U V:List aoP) (u v:aoP),bf (U++(u::V)) U.length [v]=U++(v::V):=fun U V u v=>by
  unfold bf
  rw[auC,api,show U.length+[v].length=(U++[u]).length by simp,show U++u::V=(U++[u])++V by simp,auK]
  ·rfl
  ·rfl
 have s1:bf (A++([a,b,c,e]++C)) (A.length+3) [x]=A++([a,b,c,x]++C):=by
  have:=one (A++[a,b,c]) C e x
  simpa using this
 have s2:bf (A++([a,b,c,x]++C)) (A.length+2) [y]=A++([a,b,y,x]++C):=by
  have:=one (A++[a,b]) (x::C) c y
  simpa using this
 rw[s1,s2]
theorem oD{a b:List aoP}{n:Nat}(h:n+b.length≤a.length):(bf a n b).length=a.length:=by
 unfold bf
 simp only[ao5,apI,ap0]
 omega
theorem Qu{H:List aq}{k:Nat}(hk:k<H.length):∃A C:List aoP,aj H=A++(kl (a8 H k)++C)∧A.length=k*4∧∀h',aj (H.set k h')=A++(kl h'++C):=by
 refine⟨aj (H.take k),aj (H.drop (k+1)),?_,?_,fun h'=>?_⟩
 ·conv=>lhs;rw[←ap6 k H]
  unfold aj
  rw[apK,as1,aqF hk]
  have:H[k]=a8 H k:=by
   have:=B5 hk
   rw[aoV hk]at this
   exact asc this
  rw[this]
  rfl
 ·rw[yw,apI];rw[show min k H.length=k by omega]
 ·rw[List.set_eq_take_append_cons_drop,if_pos hk]
  unfold aj
  rw[apK,as1]
  rfl
theorem Qv(A C:List aoP)(a b c e:aoP):(A++([a,b,c,e]++C))[A.length]?=some a∧(A++([a,b,c,e]++C))[A.length+1]?=some b∧(A++([a,b,c,e]++C))[A.length+2]?=some c∧(A++([a,b,c,e]++C))[A.length+3]?=some e:=by
 refine⟨?_,?_,?_,?_⟩
 ·simp
 ·rw[apz (by omega),show A.length+1-A.length=1 by omega];rfl
 ·rw[apz (by omega),show A.length+2-A.length=2 by omega];rfl
 ·rw[apz (by omega),show A.length+3-A.length=3 by omega];rfl
theorem bytesOf_take(b:ByteArray)(n:Nat):bytesOf ((af b).take n)=some (b.data.toList.take n):=by
 unfold af
 rw[←avA]
 exact MA _
theorem B8(b:ByteArray)(n:Nat)(h:n≤b.size):(cut (af b) 0 n).bind bytesOf=some (b.data.toList.take n):=by
 unfold cut
 rw[show apf (0+n) (af b).length=true from apu (by rw[mH];omega)]
 exact bytesOf_take b n
theorem Qw(b:ByteArray)(n:Nat):apB (b.data.toList.take n).toArray=b.extract 0 n:=by
 apply ByteArray.ext
 apply aqI
 simp
theorem H3(k:Int):(if 0>k then 0 else k)=max k 0:=by
 by_cases h:0>k
 ·rw[if_pos h];omega
 ·rw[if_neg h];omega
theorem H4{H:List aq}{k:Nat}(hk:k<H.length):(aj H)[k*4]?=some (.int .i64 (a8 H k).no)∧(aj H)[k*4+1]?=some (.int .i64 (a8 H k).at_)∧(aj H)[k*4+2]?=some (.string (a8 H k).line)∧(aj H)[k*4+3]?=some (.bool (a8 H k).there):=by
 obtain⟨A,C,h1,h2,_⟩:=Qu hk
 rw[h1,←h2]
 exact Qv A C _ _ _ _
theorem Qx{H:List aq}{k:Nat}(hk:k<H.length):ay (aj H) (k*4)=(a8 H k).no∧cH .i64 (aj H) (k*4)=true:=by
 unfold ay cH;rw[(H4 hk).1];exact⟨rfl,rfl⟩
theorem Qy{H:List aq}{k:Nat}(hk:k<H.length):ay (aj H) (k*4+1)=(a8 H k).at_∧cH .i64 (aj H) (k*4+1)=true:=by
 unfold ay cH;rw[(H4 hk).2.1];exact⟨rfl,rfl⟩
theorem B9{H:List aq}{k:Nat}(hk:k<H.length)(b:ByteArray)(h0:0≤(a8 H k).at_)(h1:(a8 H k).at_≤1000000)(hb:b.size≤65):
 bf (bf (bf (aj H) (k*4+3) [apV (decide (be b 10 ≥ 0))]) (k*4+2) [apm (apB (apJ (apg (apO (cut (af b) 0 (aoO (if 0>be b 10 then 0 else be b 10)-0)) bytesOf) [])))]) (k*4+1) [aoW ao2 (aoN .i64 (ay (bf (bf (aj H) (k*4+3) [apV (decide (be b 10 ≥ 0))]) (k*4+2) [apm (apB (apJ (apg (apO (cut (af b) 0 (aoO (if 0>be b 10 then 0 else be b 10)-0)) bytesOf) [])))]) (k*4+1)+aoN .i64 (be b 10+1)))]=aj (H.set k (BV (a8 H k) b))∧
 cH .i64 (bf (bf (aj H) (k*4+3) [apV (decide (be b 10 ≥ 0))]) (k*4+2) [apm (apB (apJ (apg (apO (cut (af b) 0 (aoO (if 0>be b 10 then 0 else be b 10)-0)) bytesOf) [])))]) (k*4+1)=true:=by
 obtain⟨A,C,e1,e2,e3⟩:=Qu hk
 have k0:=PO b 10
 have k1:=BU b 10
 rw[H3,ara]
 have hn:(max (be b 10) 0).toNat≤b.size:=by
  by_cases h:0≤be b 10
  ·have:=k1 h;omega
  ·omega
 have an1:be b 10≤64:=by
  by_cases h:0≤be b 10
  ·have:=k1 h;omega
  ·omega
 rw[B8 b _ hn,Option.getD_some,Qw,e3,e1,←e2]
 have hm:(bf (bf (A++(kl (a8 H k)++C)) (A.length+3) [apV (decide (be b 10 ≥ 0))]) (A.length+2) [apm (b.extract 0 (max (be b 10) 0).toNat)])[A.length+1]?=some (.int .i64 (a8 H k).at_):=by
  unfold kl
  rw[aeZ]
  exact(Qv A C _ _ _ _).2.1
 have hi:ay (bf (bf (A++(kl (a8 H k)++C)) (A.length+3) [apV (decide (be b 10 ≥ 0))]) (A.length+2) [apm (b.extract 0 (max (be b 10) 0).toNat)]) (A.length+1)=(a8 H k).at_:=by
  unfold ay;rw[hm]
 refine⟨?_,?_⟩
 ·rw[hi,bL (z:=be b 10+1) (by omega) (by omega),bL (by omega) (by omega)]
  unfold kl
  rw[aeY]
  rfl
 ·unfold cH;rw[hm];rfl
theorem Ca{d:au}{no p:Int}(h:(aP d no p 65).2.1=0):(aP d no p 65).1.size≤65:=by
 have:=(PS h).2.2
 omega
theorem Qz{H:List aq}{k:Nat}(hk:k<H.length):H.set k (a8 H k)=H:=by
 apply List.ext_getElem?
 intro i
 rw[List.getElem?_set]
 split
 ·rename_i e
  subst e
  exact(B5 hk).symm
 ·rfl
theorem QC{h:aq}{d:au}(e:(aP d h.no h.at_ 65).2.1=0):cc h d=(0,BV h (aP d h.no h.at_ 65).1,(aP d h.no h.at_ 65).2.2):=by
 unfold cc;rw[if_neg (fun g=>g e)]
theorem QD{h:aq}{d:au}(e:(aP d h.no h.at_ 65).2.1≠0):cc h d=((aP d h.no h.at_ 65).2.1,h,(aP d h.no h.at_ 65).2.2):=by
 unfold cc;rw[if_pos e]
theorem QF(S:ad)(L:List ByteArray)(R:List Int)(H:List aq)(d:au)(l:List aq)(k:Nat)(hk:k<l.length)(hok:o7 (a8 l k))(hd:ca d):
 aI aoL 54 [.pointer (some ⟨0,0,none⟩),.pointer (some ⟨5,k*4,none⟩)] (aO S L R H d++[.cells (aj l) 114 false]) fun r q=>
  r=.ret (.int .i64 (cc (a8 l k) d).1)∧q=aO S L R H (cc (a8 l k) d).2.2++[.cells (aj (l.set k (cc (a8 l k) d).2.1)) 114 false]:=by
 have pH:=a7 H
 have pl:=a7 l
 obtain⟨a0,b0⟩:=Qx hk
 obtain⟨a1,b1⟩:=Qy hk
 have hlen:k*4+4≤(aj l).length:=by rw[yw];omega
 have a0:ay (aj l) (k*4+0)=(a8 l k).no:=a0
 have k0:∀b:ByteArray,(if 0>be b 10 then 0 else be b 10).toNat≤b.size:=fun b=>by
  have:=BU b 10
  rw[H3]
  by_cases h:0≤be b 10
  ·have:=this h;omega
  ·omega
 refine aI.cY (n:=cp aoL 54) (by kernel_rfl) ?_
 apply aea S L R H d (aj l) (k*4) pH pl b0 b1 hlen
 case aX=>simp
 case bh=>simp
 case bD=>exact pH
 case bx=>exact pl
 case n0=>exact nl.2 hd
 case n1=>intro _;exact HP.2 ⟨_,rfl,rfl,rfl,rfl⟩
 case n2=>intro _;rw[a0,a1,jg];exact apu (k0 _)
 case n3=>intro _;rw[a0,a1,jg,ara,B8 _ _ (k0 _)];rfl
 case n4=>intro _;rw[oD (by show k*4+3+1≤_;omega)];exact apu (by omega)
 case n6=>
  intro _
  rw[oD (by rw[oD (by show k*4+3+1≤_;omega)];show k*4+2+1≤_;omega),oD (by show k*4+3+1≤_;omega)]
  exact apu (by omega)
 case n5=>
  intro g
  rw[a0,a1]at g
  have g:(aP d (a8 l k).no (a8 l k).at_ 65).2.1=0:=by simpa using g
  rw[a0,a1,jg]
  exact(B9 hk _ hok.jB hok.lN (Ca g)).2
 case jU=>
  intro g
  rw[a0,a1]at g
  have g:(aP d (a8 l k).no (a8 l k).at_ 65).2.1=0:=by simpa using g
  have hn:=(B9 hk _ hok.jB hok.lN (Ca g)).1
  refine ad7 S L R H d (aj l) (k*4) ?_ ?_
  ·rw[a0,a1,jg,hn];exact a7 _
  ·rw[a0,a1,jg,hn,QC g];exact⟨rfl,rfl⟩
 case jS=>
  intro g
  rw[a0,a1]at g
  have g:(aP d (a8 l k).no (a8 l k).at_ 65).2.1≠0:=by simpa using g
  refine ad8 S L R H d (aj l) (k*4) pl ?_
  rw[a0,a1,QD g,Qz hk];exact⟨rfl,rfl⟩
theorem ae0(S:ad)(L:List ByteArray)(R:List Int)(l:List aq)(d:au)(k:Nat)(hk:k<l.length)(hok:o7 (a8 l k))(hd:ca d):
 aI aoL 54 [.pointer (some ⟨0,0,none⟩),.pointer (some ⟨4,k*4,none⟩)] (aO S L R l d) fun r q=>
  r=.ret (.int .i64 (cc (a8 l k) d).1)∧q=aO S L R (l.set k (cc (a8 l k) d).2.1) (cc (a8 l k) d).2.2:=by
 have pl:=a7 l
 obtain⟨a0,b0⟩:=Qx hk
 obtain⟨a1,b1⟩:=Qy hk
 have hlen:k*4+4≤(aj l).length:=by rw[yw];omega
 have a0:ay (aj l) (k*4+0)=(a8 l k).no:=a0
 have k0:∀b:ByteArray,(if 0>be b 10 then 0 else be b 10).toNat≤b.size:=fun b=>by
  have:=BU b 10
  rw[H3]
  by_cases h:0≤be b 10
  ·have:=this h;omega
  ·omega
 refine aI.cY (n:=cp aoL 54) (by kernel_rfl) ?_
 apply aee S L R d (aj l) (k*4) pl b0 b1 hlen
 case aX=>simp
 case bh=>simp
 case bD=>exact pl
 case n0=>exact nl.2 hd
 case n1=>intro _;exact HP.2 ⟨_,rfl,rfl,rfl,rfl⟩
 case n2=>intro _;rw[a0,a1,jg];exact apu (k0 _)
 case n3=>intro _;rw[a0,a1,jg,ara,B8 _ _ (k0 _)];rfl
 case n4=>intro _;rw[oD (by show k*4+3+1≤_;omega)];exact apu (by omega)
 case n6=>
  intro _
  rw[oD (by rw[oD (by show k*4+3+1≤_;omega)];show k*4+2+1≤_;omega),oD (by show k*4+3+1≤_;omega)]
  exact apu (by omega)
 case n5=>
  intro g
  rw[a0,a1]at g
  have g:(aP d (a8 l k).no (a8 l k).at_ 65).2.1=0:=by simpa using g
  rw[a0,a1,jg]
  exact(B9 hk _ hok.jB hok.lN (Ca g)).2
 case l9=>
  intro g
  rw[a0,a1]at g
  have g:(aP d (a8 l k).no (a8 l k).at_ 65).2.1=0:=by simpa using g
  have hn:=(B9 hk _ hok.jB hok.lN (Ca g)).1
  refine aeb S L R d (aj l) (k*4) ?_ ?_
  ·rw[a0,a1,jg,hn];exact a7 _
  ·rw[a0,a1,jg,hn,QC g];exact⟨rfl,rfl⟩
 case gJ=>
  intro g
  rw[a0,a1]at g
  have g:(aP d (a8 l k).no (a8 l k).at_ 65).2.1≠0:=by simpa using g
  refine aec S L R d (aj l) (k*4) pl ?_
  rw[a0,a1,QD g,Qz hk];exact⟨rfl,rfl⟩
theorem QG:b7 aoL 114=some 4:=by kernel_rfl
def pY(S:ad)(L:List ByteArray)(R:List Int)(H:List aq)(x:Int×List aq×au)(r:bO)(q:List ak):Prop:=
 if x.1=0 then r=.ret (.tuple #[.slice (some ⟨5,0,none⟩) x.2.1.length x.2.1.length,.int .i64 0])∧q=aO S L R H x.2.2++[.cells (aj x.2.1) 114 false]
 else r=.ret (.tuple #[.slice none 0 0,.int .i64 x.1])∧q=aO S L R H x.2.2
def QH(S:ad)(L:List ByteArray)(R:List Int)(H:List aq)(x:Int×List aq×au):Bool→QT (bO×List ak)
 |true=>.done (.ret (.tuple #[.slice (some ⟨5,0,none⟩) x.2.1.length x.2.1.length,.int .i64 0]),aO S L R H x.2.2++[.cells (aj x.2.1) 114 false])
 |false=>.done (.ret (.tuple #[.slice none 0 0,.int .i64 x.1]),aO S L R H x.2.2)
noncomputable def yU(S:ad)(L:List ByteArray)(R:List Int)(H:List aq)(d:au)(o n:Nat)(x:Int×List aq×au):Sum:=⟨fun _ _=>some [0,1,2,3,4],fun a ob=>.tL (dW a [.pointer (some ⟨0,0,none⟩),.slice (some ⟨3,o,none⟩) n n] ob (aO S L R H d)) (.ask (x.1==0) (QH S L R H x))⟩
theorem ae1{a args:List aoP}{o objs:List ak}(h:dW a args o objs=true):a=args∧o=objs:=by
 unfold dW at h
 exact @of_decide_eq_true _ (apj _) h
theorem QI{S:ad}{L:List ByteArray}{R:List Int}{H:List aq}{d:au}{o n:Nat}{x:Int×List aq×au}(h:aI aoL 76 [.pointer (some ⟨0,0,none⟩),.slice (some ⟨3,o,none⟩) n n] (aO S L R H d) (pY S L R H x)):
 bB aoL 76 (yU S L R H d o n x):=by
 intro a ob r o' hg
 unfold yU at hg
 dsimp only at hg
 obtain⟨h1,AP⟩:=QT.vz hg
 obtain⟨rfl,rfl⟩:=ae1 h1
 refine h.mono fun r1 o1 hp=>?_
 unfold pY at hp
 have hg:(QH S L R H x (x.1==0)).run=some (r,o'):=AP
 cases hk:(x.1==0)with
 |true=>
  rw[hk]at hg
  cases hg
  rw[if_pos (by simpa using hk)]at hp
  exact hp
 |false=>
  rw[hk]at hg
  cases hg
  rw[if_neg (by simpa using hk)]at hp
  exact hp
structure ae2(l:List aq)(i:Nat):Prop where
 n0:apf (0+aoO (i:Int)*4+4) (aj l).length=true
 n1:cH .i64 (aj l) (0+aoO (i:Int)*4)=true
 n2:cH .i64 (aj l) (0+aoO (i:Int)*4+1)=true
 n3:eQ (aj l) (0+aoO (i:Int)*4+1+1)=true
 n4:oN (aj l) (0+aoO (i:Int)*4+1+1+1)=true
 b:gQ (aj l) (0+aoO (i:Int)*4+1+1+1)=(a8 l i).there
 s:bc (aj l) (0+aoO (i:Int)*4+1+1)=(a8 l i).line
 s2:bc (aj l) (0+aoO (i:Int)*4+2)=(a8 l i).line
 n5:eQ (aj l) (0+aoO (i:Int)*4+2)=true
theorem rowAt{l:List aq}{i:Nat}(h:i<l.length):ae2 l i:=by
 obtain⟨a,b,c,d⟩:=H4 h
 have e:0+aoO (i:Int)*4=i*4:=by simp
 refine⟨?_,?_,?_,?_,?_,?_,?_,?_,?_⟩
 ·rw[e,yw];exact apu (by omega)
 ·rw[e];unfold cH;rw[a];rfl
 ·rw[e];unfold cH;rw[b];rfl
 ·rw[e];unfold eQ;rw[show i*4+1+1=i*4+2 from rfl,c]
 ·rw[e];unfold oN;rw[show i*4+1+1+1=i*4+3 from rfl,d]
 ·rw[e];unfold gQ;rw[show i*4+1+1+1=i*4+3 from rfl,d]
 ·rw[e];unfold bc;rw[show i*4+1+1=i*4+2 from rfl,c]
 ·rw[e];unfold bc;rw[c]
 ·rw[e];unfold eQ;rw[c]
def H5(S:ad)(L:List ByteArray)(R:List Int)(H:List aq)(o n:Nat)(s:Nat×List aq×au):ai:=
 ⟨[(0,.pointer (some ⟨0,0,none⟩)),(6,.slice (some ⟨5,0,none⟩) s.2.1.length s.2.1.length),(11,.slice (some ⟨3,o,none⟩) n n),(12,.int .i64 n),(13,iZ s.1)],aO S L R H s.2.2++[.cells (aj s.2.1) 114 false]⟩
structure ae3(l:List Int)(d0:au)(s:Nat×List aq×au):Prop where
 i:s.1≤l.length
 e:eB (l.drop s.1) s.2.1 s.2.2=eB l [] d0
 ok:ca s.2.2
 bW:s.2.1.length=s.1
theorem ae4(l:List aq)(y:aq):aj l++[aoW ao2 y.no,aoW ao2 y.at_,apm y.line,apV y.there]=aj (l++[y]):=by
 unfold aj
 rw[apK,as1]
 simp[kl]
theorem QJ(S:ad)(L:List ByteArray)(R:List Int)(H:List aq)(d:au)(o n:Nat)(wq:o+n≤R.length)(hn:n≤900000)(hd:ca d):
 aI aoL 76 [.pointer (some ⟨0,0,none⟩),.slice (some ⟨3,o,none⟩) n n] (aO S L R H d) (pY S L R H (eB ((R.drop o).take n) [] d)):=by
 have pH:=a7 H
 have nJ:((R.drop o).take n).length=n:=by rw[apI,ap0];omega
 refine aI.cY (n:=cp aoL 76) (by kernel_rfl) ?_
 apply aek S L R H d o n pH
 ·
  refine an.AZ 6 114 (s:=4) QG (by rfl) (by rfl) (by rfl:_=H5 S L R H o n (0,[],d)) ?_
  refine an.eO 3 0 (by kernel_rfl) ?_
  refine an.fL (H5 S L R H o n) (fun t=>n-t.1) (ae3 ((R.drop o).take n) d) (0,[],d) (by kernel_rfl) ⟨apN _,by simp,hd,rfl⟩ ?_
  clear hd
  rintro⟨i,l,d1⟩ ⟨h1,h2,h3,h4⟩
  dsimp only at h1 h2 h3 h4
  have pl:=a7 l
  apply aeo S L R H d1 l o n i pH pl
  case l5=>
   intro g
   have g:=of_decide_eq_false g
   rw[aqq (by omega)]at h2
   have h2:(0,l,d1)=eB ((R.drop o).take n) [] d:=h2
   rw[←h2]
   with_reducible (repeat first|refine QL.ret ?_|refine QL.exit ?_|refine QB.ret ?_|refine QB.cx ?_|refine QB.normal ?_|refine QB.cG (by rfl) ?_)
   apply aeu S L R H d1 l pH pl
   ·
    refine aes S L R H d1 l ?_
    unfold pY
    rw[if_pos rfl]
    exact⟨rfl,rfl⟩
  case l4=>
   intro g
   have g:=of_decide_eq_true g
   obtain⟨x,hx,nr⟩:=Qs (R:=R) (o:=o) (n:=n) (i:=i) (by omega) wq
   obtain⟨e1,e2⟩:=H0 hx
   rw[nr]at h2
   have ei:o+aoO (i:Int)*1=o+i:=by simp
   have fX:=QF S L R H d1 [⟨x,0,aoZ,false⟩] 0 (by simp) ⟨Int.le_refl _,by show(0:Int)≤1000000;omega,apN _⟩ h3
   have h5:=h3.cc ⟨x,0,aoZ,false⟩
   have h2:(if(cc ⟨x,0,aoZ,false⟩ d1).1≠0 then((cc ⟨x,0,aoZ,false⟩ d1).1,[],(cc ⟨x,0,aoZ,false⟩ d1).2.2)else eB (((R.drop o).take n).drop (i+1)) (l++[(cc ⟨x,0,aoZ,false⟩ d1).2.1]) (cc ⟨x,0,aoZ,false⟩ d1).2.2)=eB ((R.drop o).take n) [] d:=h2
   have fX:aI aoL 54 [.pointer (some ⟨0,0,none⟩),.pointer (some ⟨5,0,none⟩)] (aO S L R H d1++[.cells (kl ⟨x,0,aoZ,false⟩) 114 false]) fun r q=>r=.ret (.int .i64 (cc ⟨x,0,aoZ,false⟩ d1).1)∧q=aO S L R H (cc ⟨x,0,aoZ,false⟩ d1).2.2++[.cells (kl (cc ⟨x,0,aoZ,false⟩ d1).2.1) 114 false]:=by
    refine fX.mono fun r q hq=>?_
    obtain⟨q1,q2⟩:=hq
    refine⟨q1,q2.trans ?_⟩
    show aO S L R H _++[.cells (aj [_]) _ false]=_
    unfold aj
    rw[apM,List.map_nil,List.flatten_cons,List.flatten_nil,aqm]
    rfl
   generalize cc ⟨x,0,aoZ,false⟩ d1=rr at fX h5 h2
   obtain⟨e,y,dd⟩:=rr
   dsimp only at fX h5 h2
   apply aer S L R H d1 l o n x e y dd i pH pl fX (by omega) g (by omega) (bL (by omega) (by omega)) (by omega)
   case aX=>simp
   case bh=>simp
   case bD=>exact pH
   case n0=>rw[ei];exact e2
   case n1=>rw[ei,e1];exact e8 rfl rfl
   case n6=>intro _;exact apu (by omega)
   case n7=>intro _;rw[yw,Nat.zero_add];exact apY _
   case l5=>
    intro ge
    have ge:e≠0:=by simpa using ge
    rw[if_pos ge]at h2
    rw[←h2]
    with_reducible (repeat first|refine QL.ret ?_|refine QL.exit ?_|refine QB.ret ?_|refine QB.cx ?_|refine QB.normal ?_|refine QB.cG (by rfl) ?_)
    refine aep S L R H d1 l o n x e y dd i ?_
    unfold pY
    rw[if_neg ge]
    exact⟨rfl,rfl⟩
   case l8=>
    intro ge
    have ge:¬e≠0:=by simpa using ge
    rw[if_neg ge]at h2
    refine QL.to (i+1,l++[y],dd) ⟨by dsimp only;omega,h2,h5,by dsimp only;rw[ao5,h4];rfl⟩ (by dsimp only;omega) ?_
    unfold Qg H5
    rw[ae4,ff (by omega)]
    dsimp only
    rw[ao5]
    rfl
def leI(ob:List ak)(b:Nat)(H:List aq)(s:Nat×Option Nat):ai:=
 ⟨[(0,.pointer (some ⟨0,0,none⟩)),(1,.slice (some ⟨b,0,none⟩) H.length H.length),(5,.int .i64 (kI s.2)),(8,.slice (some ⟨b,0,none⟩) H.length H.length),(9,.int .i64 (H.length:Int)),(10,iZ s.1)],ob⟩
structure Cb(f:Bool)(H:List aq)(s:Nat×Option Nat):Prop where
 i:s.1≤H.length
 e:kn f H (H.drop s.1) s.1 s.2=eU f H
 k:∀j,s.2=some j→j<H.length
theorem H6{H:List aq}{i:Nat}(h:i<H.length):H.drop i=a8 H i::H.drop (i+1):=by
 rw[aqF h]
 congr 1
 have:=B5 h
 rw[aoV h]at this
 exact asc this
theorem QK(S:ad)(L:List ByteArray)(R:List Int)(H:List aq)(d:au)(l:List aq)(hl:l.length≤1000000):
 aI aoL 53 [.pointer (some ⟨0,0,none⟩),.slice (some ⟨5,0,none⟩) l.length l.length] (aO S L R H d++[.cells (aj l) 114 false]) fun r q=>
  r=.ret (.int .i64 (kI (eU S.aD l)))∧q=aO S L R H d++[.cells (aj l) 114 false]:=by
 have pH:=a7 H
 have pl:=a7 l
 refine aI.cY (n:=cp aoL 53) (by kernel_rfl) ?_
 apply aex S L R H d l pH pl
 ·
  refine an.eO 3 0 (by kernel_rfl) ?_
  refine an.fL (leI (aO S L R H d++[.cells (aj l) 114 false]) 5 l) (fun t=>l.length-t.1) (Cb S.aD l) (0,none) (by kernel_rfl) ⟨apN _,rfl,fun j h=>by cases h⟩ ?_
  rintro⟨i,k⟩ ⟨h1,h2,h3⟩
  dsimp only at h1 h2 h3
  apply aeB S L R H d l (kI k) i pH pl
  case l5=>
   intro g
   have g:=of_decide_eq_false g
   rw[aqq (by omega)]at h2
   have h2:k=eU S.aD l:=h2
   rw[←h2]
   with_reducible (repeat first|refine QL.ret ?_|refine QL.exit ?_|refine QB.ret ?_|refine QB.cx ?_|refine QB.normal ?_|refine QB.cG (by rfl) ?_)
   apply aeI S L R H d l (kI k) pH pl
   ·exact aeG S L R H d l (kI k) ⟨rfl,rfl⟩
  case l4=>
   intro g
   have g:=of_decide_eq_true g
   have hi:i<l.length:=by omega
   obtain⟨n0,n1,n2,n3,n4,xb,xs,QM,n5⟩:=rowAt hi
   rw[H6 hi]at h2
   have h2:kn S.aD l (l.drop (i+1)) (i+1) (if ji S.aD l (a8 l i) k then some i else k)=eU S.aD l:=h2
   have next:∀k',kn S.aD l (l.drop (i+1)) (i+1) k'=eU S.aD l→(∀j,k'=some j→j<l.length)→Cb S.aD l (i+1,k'):=fun k' a b=>⟨hi,a,b⟩
   cases k with
   |none=>
    apply aeD S L R H d l i pH pl (by omega) g hl (bL (by omega) (by omega)) n0 n1 n2 n3 n4
    case l9=>
     intro gb
     rw[xb]at gb
     rw[show ji S.aD l (a8 l i) none=true from gb,if_pos rfl]at h2
     refine QL.to (i+1,some i) (next _ h2 fun j h=>by cases h;exact hi) (by dsimp only;omega) ?_
     unfold Qi leI
     rw[ff (by omega)]
     rfl
    case jU=>
     intro gb
     rw[xb]at gb
     rw[show ji S.aD l (a8 l i) none=false from gb,if_neg (by simp)]at h2
     refine QL.to (i+1,none) (next _ h2 fun j h=>by cases h) (by dsimp only;omega) ?_
     unfold Qj leI
     rw[ff (by omega)]
     rfl
   |some k=>
    have hk:=h3 k rfl
    have r2:=rowAt hk
    apply aeF S L R H d l k i pH pl (by omega) g hl (bL (by omega) (by omega)) hk n0 n1 n2 n3 n4
    case n5=>intro _;exact r2.n5
    case n6=>intro _;exact v7 rfl
    case gJ=>
     intro gb gc
     rw[xb]at gb
     rw[xs,r2.s2]at gc
     rw[show ji S.aD l (a8 l i) (some k)=true by show((a8 l i).there&&decide (ba S.aD (a8 l i).line (a8 l k).line<0))=true;rw[gb,gc];rfl,if_pos rfl]at h2
     refine QL.to (i+1,some i) (next _ h2 fun j h=>by cases h;exact hi) (by dsimp only;omega) ?_
     unfold Qk leI
     rw[ff (by omega)]
     rfl
    case jS=>
     intro gb gc
     rw[xs,r2.s2]at gc
     rw[show ji S.aD l (a8 l i) (some k)=false by show((a8 l i).there&&decide (ba S.aD (a8 l i).line (a8 l k).line<0))=false;rw[gc,auL],if_neg (by simp)]at h2
     refine QL.to (i+1,some k) (next _ h2 fun j h=>by cases h;exact hk) (by dsimp only;omega) ?_
     unfold Ql leI
     rw[ff (by omega)]
     rfl
    case lr=>
     intro gb
     rw[xb]at gb
     rw[show ji S.aD l (a8 l i) (some k)=false by show((a8 l i).there&&decide (ba S.aD (a8 l i).line (a8 l k).line<0))=false;rw[gb,asp],if_neg (by simp)]at h2
     refine QL.to (i+1,some k) (next _ h2 fun j h=>by cases h;exact hk) (by dsimp only;omega) ?_
     unfold Qm leI
     rw[ff (by omega)]
     rfl
theorem ae5(S:ad)(L:List ByteArray)(R:List Int)(d:au)(l:List aq)(hl:l.length≤1000000):
 aI aoL 53 [.pointer (some ⟨0,0,none⟩),.slice (some ⟨4,0,none⟩) l.length l.length] (aO S L R l d) fun r q=>
  r=.ret (.int .i64 (kI (eU S.aD l)))∧q=aO S L R l d:=by
 have pl:=a7 l
 refine aI.cY (n:=cp aoL 53) (by kernel_rfl) ?_
 apply aeL S L R l d pl
 ·
  refine an.eO 3 0 (by kernel_rfl) ?_
  refine an.fL (leI (aO S L R l d) 4 l) (fun t=>l.length-t.1) (Cb S.aD l) (0,none) (by kernel_rfl) ⟨apN _,rfl,fun j h=>by cases h⟩ ?_
  rintro⟨i,k⟩ ⟨h1,h2,h3⟩
  dsimp only at h1 h2 h3
  apply aeP S L R l d (kI k) i pl
  case l4=>
   intro g
   have g:=of_decide_eq_false g
   rw[aqq (by omega)]at h2
   have h2:k=eU S.aD l:=h2
   rw[←h2]
   with_reducible (repeat first|refine QL.ret ?_|refine QL.exit ?_|refine QB.ret ?_|refine QB.cx ?_|refine QB.normal ?_|refine QB.cG (by rfl) ?_)
   apply aeW S L R l d (kI k) pl
   ·exact aeU S L R l d (kI k) ⟨rfl,rfl⟩
  case l3=>
   intro g
   have g:=of_decide_eq_true g
   have hi:i<l.length:=by omega
   obtain⟨n0,n1,n2,n3,n4,xb,xs,QM,n5⟩:=rowAt hi
   rw[H6 hi]at h2
   have h2:kn S.aD l (l.drop (i+1)) (i+1) (if ji S.aD l (a8 l i) k then some i else k)=eU S.aD l:=h2
   have next:∀k',kn S.aD l (l.drop (i+1)) (i+1) k'=eU S.aD l→(∀j,k'=some j→j<l.length)→Cb S.aD l (i+1,k'):=fun k' a b=>⟨hi,a,b⟩
   cases k with
   |none=>
    apply aeR S L R l d i pl (by omega) g hl (bL (by omega) (by omega)) n0 n1 n2 n3 n4
    case l8=>
     intro gb
     rw[xb]at gb
     rw[show ji S.aD l (a8 l i) none=true from gb,if_pos rfl]at h2
     refine QL.to (i+1,some i) (next _ h2 fun j h=>by cases h;exact hi) (by dsimp only;omega) ?_
     unfold Qn leI
     rw[ff (by omega)]
     rfl
    case l9=>
     intro gb
     rw[xb]at gb
     rw[show ji S.aD l (a8 l i) none=false from gb,if_neg (by simp)]at h2
     refine QL.to (i+1,none) (next _ h2 fun j h=>by cases h) (by dsimp only;omega) ?_
     unfold Qo leI
     rw[ff (by omega)]
     rfl
   |some k=>
    have hk:=h3 k rfl
    have r2:=rowAt hk
    apply aeT S L R l d k i pl (by omega) g hl (bL (by omega) (by omega)) hk n0 n1 n2 n3 n4
    case n5=>intro _;exact r2.n5
    case n6=>intro _;exact v7 rfl
    case jU=>
     intro gb gc
     rw[xb]at gb
     rw[xs,r2.s2]at gc
     rw[show ji S.aD l (a8 l i) (some k)=true by show((a8 l i).there&&decide (ba S.aD (a8 l i).line (a8 l k).line<0))=true;rw[gb,gc];rfl,if_pos rfl]at h2
     refine QL.to (i+1,some i) (next _ h2 fun j h=>by cases h;exact hi) (by dsimp only;omega) ?_
     unfold Qp leI
     rw[ff (by omega)]
     rfl
    case gJ=>
     intro gb gc
     rw[xs,r2.s2]at gc
     rw[show ji S.aD l (a8 l i) (some k)=false by show((a8 l i).there&&decide (ba S.aD (a8 l i).line (a8 l k).line<0))=false;rw[gc,auL],if_neg (by simp)]at h2
     refine QL.to (i+1,some k) (next _ h2 fun j h=>by cases h;exact hk) (by dsimp only;omega) ?_
     unfold Qq leI
     rw[ff (by omega)]
     rfl
    case jS=>
     intro gb
     rw[xb]at gb
     rw[show ji S.aD l (a8 l i) (some k)=false by show((a8 l i).there&&decide (ba S.aD (a8 l i).line (a8 l k).line<0))=false;rw[gb,asp],if_neg (by simp)]at h2
     refine QL.to (i+1,some k) (next _ h2 fun j h=>by cases h;exact hk) (by dsimp only;omega) ?_
     unfold Qr leI
     rw[ff (by omega)]
     rfl
noncomputable section
noncomputable def ae6:List (apr×Sum):=[(97,Sum.dp aoL BJ)]
theorem ae7:dk aoL (dB aoL (dE ae6) 50 40):=dI de mixed (dR (.cons Pr .nil)) 50 40
noncomputable def ae8(S:ad)(L:List ByteArray)(R:List Int)(H:List aq)(d:au)(o n:Nat)(e:Int)(l:List aq)(dd:au):List (apr×Sum):=[(76,yU S L R H d o n (e,l,dd))]
theorem ae9(S:ad)(L:List ByteArray)(R:List Int)(H:List aq)(d:au)(o n:Nat)(e:Int)(l:List aq)(dd:au)(dq:aI aoL 76 [al 0,ct 3 o n n] (aO S L R H d) (pY S L R H (e,l,dd))):dk aoL (dB aoL (dE (ae8 S L R H d o n e l dd)) 50 40):=
 dI de mixed (dR (.cons (QI dq) .nil)) 50 40
def afa(S:ad)(L:List ByteArray)(R:List Int)(H:List aq)(d:au)(l:List aq)(k:Int):List (apr×Sum):=[(53,Sum.one (fun _ _=>some [0,1,2,3,4,5]) [al 0,ah 5 l.length] (aO S L R H d++[ab (aj l) 114]) (.ret (aa k)) (aO S L R H d++[ab (aj l) 114]))]
theorem QN(S:ad)(L:List ByteArray)(R:List Int)(H:List aq)(d:au)(l:List aq)(k:Int)(hle:aI aoL 53 [al 0,ah 5 (aoM l)] (aO S L R H d++[ab (aj l) 114]) fun r q=>r=.ret (aa k)∧q=aO S L R H d++[ab (aj l) 114]):dk aoL (dB aoL (dE (afa S L R H d l k)) 50 40):=
 dI de mixed (dR (.cons (bB.one hle) .nil)) 50 40
noncomputable def afb:List (apr×Sum):=[(98,Sum.dp aoL BK)]
theorem afc:dk aoL (dB aoL (dE afb) 50 40):=dI de mixed (dR (.cons Pt .nil)) 50 40
def afd(S:ad)(L:List ByteArray)(R:List Int)(H:List aq)(d:au)(l:List aq)(k:Nat)(e:Int)(l1:List aq)(dd:au):List (apr×Sum):=[(54,Sum.one (fun _ _=>some [0,1,2,3,4,5]) [al 0,.pointer (some ⟨5,k*4,none⟩)] (aO S L R H d++[ab (aj l) 114]) (.ret (aa e)) (aO S L R H dd++[ab (aj l1) 114]))]
theorem afe(S:ad)(L:List ByteArray)(R:List Int)(H:List aq)(d:au)(l:List aq)(k:Nat)(e:Int)(l1:List aq)(dd:au)(fX:aI aoL 54 [al 0,.pointer (some ⟨5,k*4,none⟩)] (aO S L R H d++[ab (aj l) 114]) fun r q=>r=.ret (aa e)∧q=aO S L R H dd++[ab (aj l1) 114]):dk aoL (dB aoL (dE (afd S L R H d l k e l1 dd)) 50 40):=
 dI de mixed (dR (.cons (bB.one fX) .nil)) 50 40
def aff(S:ad)(L:List ByteArray)(R:List Int)(H:List aq)(d:au)(o n:Nat)(e:Int)(dd:au):List (apr×Sum):=[(78,Sum.one (fun _ _=>some [0,1,2,3,4]) [al 0,ct 3 o n n] (aO S L R H d) (.ret (aa e)) (aO S L R H dd))]
theorem afg(S:ad)(L:List ByteArray)(R:List Int)(H:List aq)(d:au)(o n:Nat)(e:Int)(dd:au)(iv:aI aoL 78 [al 0,ct 3 o n n] (aO S L R H d) fun r q=>r=.ret (aa e)∧q=aO S L R H dd):dk aoL (dB aoL (dE (aff S L R H d o n e dd)) 50 40):=
 dI de mixed (dR (.cons (bB.one iv) .nil)) 50 40
noncomputable def sC:List apw:=bd (dC aoL 102)
open Tree renaming aW→mN,dn→mF,eS→mL,fA→mQ,dD→mR,fK→mE
noncomputable abbrev Cc:List apw:=(bd (inner (bd (inner (sC.drop 8)))))
noncomputable abbrev H7:List apw:=(bd (inner (Cc.drop 2)))
abbrev H8:=fun S L R H d (o n:Nat)=>(⟨[(4,aa 0),(5,aa (aoY (apG (bH d))))],[ab (aM S 1 2 3 4) 89,.abs (apG (apG (bH d))),ab (ao L) 9,ab (ap R) 3,ab (aj H) 114]⟩:ai)
theorem afh(S L R H d)(o n:Nat){Q:bo}(hq:Q (.ret (.tuple #[aa 0,aa (aoY (apG (bH d)))])) (H8 S L R H d o n).objs):aJ aoL 102 68 5 Q .ret (H8 S L R H d o n):=aJ.ret (vs:=[aa 0,aa (aoY (apG (bH d)))]) (l:=[]) (bs:=[0,1,2,3,4]) (pl:=[2,3,4]) (q:=[ao L,ap R,aj H]) (fun u=>by kernel_rfl) (by kernel_rfl) (fY L R H bi) hq
abbrev QO:=fun S L R H d (o n:Nat)=>(⟨[(0,al 0),(1,ct 3 o n n),(6,aa (aoY (bH d)))],[ab (aM S 1 2 3 4) 89,.abs (apG (apG (bH d))),ab (ao L) 9,ab (ap R) 3,ab (aj H) 114]⟩:ai)
abbrev Cd:=fun S L R H d=>([ab (aM S 1 2 3 4) 89,.abs d,ab (ao L) 9,ab (ap R) 3,ab (aj H) 114]:List ak)
abbrev afi:=fun S L R H d (o n:Nat)=>(⟨[(0,al 0),(1,ct 3 o n n)],Cd S L R H d⟩:ai)
theorem afj(S L R H d)(o n:Nat)(pH:(aj H).all ag=true){Q:aY}(n0:(lQ d)=true)(l4:(aoY (apG (bH d)) != 0)=true→Q .ret (H8 S L R H d o n))(l5:(aoY (apG (bH d)) != 0)=false→an aoL 68 5 (sC.drop 4) (QO S L R H d o n) Q):an aoL 68 5 sC (afi S L R H d o n) Q:=
 aZ ae7 4 (aA [5] (.fork 0 (.leaf [4,5] [0,1,2,3,4] [2,3,4]) (.leaf [0,1,6] [0,1,2,3,4] [2,3,4]))) (fun u=>by kernel_rfl) (mN n0 (mF (c:=aoY (apG (bH d)) != 0) (fun h0=>(aL L R H (mR (l4 h0)))) (fun h0=>(aL L R H (mQ (l5 h0))))))
abbrev afk:=fun S L R H (d:au) (o n:Nat) (e:Int) l dd (no:Int)=>(⟨[(0,al 0),(1,ct 3 o n n),(6,aa no),(8,ah 5 (aoM l))],[ab (aM S 1 2 3 4) 89,.abs dd,ab (ao L) 9,ab (ap R) 3,ab (aj H) 114,ab (aj l) 114]⟩:ai)
abbrev H9:=fun S L R H dd=>([ab (aM S 1 2 3 4) 89,.abs dd,ab (ao L) 9,ab (ap R) 3,ab (aj H) 114]:List ak)
abbrev Ia:=fun S L R H (d:au) (o n:Nat) (e:Int) (l:List aq) dd (no:Int)=>(⟨[(4,aa 0),(5,aa e)],H9 S L R H dd⟩:ai)
theorem afl(S L R H d)(o n:Nat)(e:Int)(l dd)(no:Int){Q:bo}(hq:Q (.ret (.tuple #[aa 0,aa e])) (Ia S L R H d o n e l dd no).objs):aJ aoL 102 68 5 Q .ret (Ia S L R H d o n e l dd no):=aJ.ret (vs:=[aa 0,aa e]) (l:=[]) (bs:=[0,1,2,3,4]) (pl:=[2,3,4]) (q:=[ao L,ap R,aj H]) (fun u=>by kernel_rfl) (by kernel_rfl) (fY L R H bi) hq
abbrev afm:=fun S L R H d (o n:Nat) (e:Int) (l:List aq) (dd:au) (no:Int)=>(⟨[(0,al 0),(1,ct 3 o n n),(6,aa no)],Cd S L R H d⟩:ai)
theorem afn(S L R H d)(o n:Nat)(e:Int)(l dd)(no:Int)(pH:(aj H).all ag=true)(pL:(aj l).all ag=true)(dq:aI aoL 76 [al 0,ct 3 o n n] (aO S L R H d) (pY S L R H (e,l,dd))){Q:aY}(l4:(e==0)=true→an aoL 68 5 ((sC.drop 4).drop 3) (afk S L R H d o n e l dd no) Q)(l5:(e==0)=false→Q .ret (Ia S L R H d o n e l dd no)):an aoL 68 5 (sC.drop 4) (afm S L R H d o n e l dd no) Q:=
 aZ (ae9 S L R H d o n e l dd dq) 3 (aA [3,1,1,1] (.fork 0 (aA [1,1,1,1] (.leaf [0,1,6,8] [0,1,2,3,4,5] [2,3,4,5])) (aA [1,1,1,1] (.leaf [4,5] [0,1,2,3,4] [2,3,4])))) (fun u=>by kernel_rfl) (aL L R H (mN (kM [al 0,ct 3 o n n] (aO S L R H d)) (mF (c:=e==0) (fun h0=>(aL L R H (mN (a7 l) (aL L R H (mN (a7 l) (mQ (l4 h0))))))) (fun h0=>(aL L R H (mN (show(e != 0)=true by simp at pH pL dq h0⊢ <;>omega) (aL L R H (mR (l5 h0)))))))))
abbrev ux:=fun S L R H d l=>([ab (aM S 1 2 3 4) 89,.abs d,ab (ao L) 9,ab (ap R) 3,ab (aj H) 114,ab (aj l) 114]:List ak)
abbrev afo:=fun S L R H d l (o n:Nat) (no k:Int)=>(⟨[(0,al 0),(1,ct 3 o n n),(6,aa no),(8,ah 5 (aoM l)),(9,aa k)],ux S L R H d l⟩:ai)
abbrev QP:=fun S L R H d l (o n:Nat) (no k:Int)=>(⟨[(0,al 0),(1,ct 3 o n n),(6,aa no),(8,ah 5 (aoM l))],ux S L R H d l⟩:ai)
theorem afp(S L R H d l)(o n:Nat)(no k:Int)(pH:(aj H).all ag=true)(pL:(aj l).all ag=true)(hle:aI aoL 53 [al 0,ah 5 (aoM l)] (aO S L R H d++[ab (aj l) 114]) fun r q=>r=.ret (aa k)∧q=aO S L R H d++[ab (aj l) 114]){Q:aY}(l5:an aoL 68 5 ((sC.drop 7).drop 1) (afo S L R H d l o n no k) Q):an aoL 68 5 (sC.drop 7) (QP S L R H d l o n no k) Q:=
 aZ (QN S L R H d l k hle) 1 (aA [3,1,1,1,1,1,1,1,1] (.leaf [0,1,6,8,9] [0,1,2,3,4,5] [2,3,4,5])) (fun u=>by kernel_rfl) (aL L R H (mN (a7 l) (mN (kM [al 0,ah 5 (aoM l)] (aO S L R H d++[ab (aj l) 114])) (aL L R H (mN (a7 l) (aL L R H (mN (a7 l) (mQ l5))))))))
abbrev afq:=fun S L R H d l (o n:Nat) (no k:Int)=>(⟨[(0,al 0),(1,ct 3 o n n),(6,aa no),(8,ah 5 (aoM l)),(9,aa k)],ux S L R H d l⟩:ai)
abbrev afr:=fun S L R H d (l:List aq) (o n:Nat) (no k:Int)=>(⟨[(0,al 0),(1,ct 3 o n n),(6,aa no)],Cd S L R H d⟩:ai)
abbrev afs:=fun S L R H d l (o n:Nat) (no k:Int)=>(⟨[(0,al 0),(1,ct 3 o n n),(6,aa no),(8,ah 5 (aoM l)),(9,aa k)],ux S L R H d l⟩:ai)
theorem aft(S L R H d l)(o n:Nat)(no k:Int)(pH:(aj H).all ag=true)(pL:(aj l).all ag=true){Q:aY}(l4:(decide (k ≥ 0))=true→an aoL 68 5 (Cc.drop 2) (afq S L R H d l o n no k) Q)(l5:(decide (k ≥ 0))=false→Q (.exit 0) (afr S L R H d l o n no k)):an aoL 68 5 Cc (afs S L R H d l o n no k) Q:=
 aZ bt 2 (.fork 0 (.leaf [0,1,6,8,9] [0,1,2,3,4,5] [2,3,4,5]) (.leaf [0,1,6] [0,1,2,3,4] [2,3,4])) (fun u=>by kernel_rfl) (mF (c:=decide (k ≥ 0)) (fun h0=>(aL L R H (mN (a7 l) (mQ (l4 h0))))) (fun h0=>(aL L R H (mE 0 (l5 h0)))))
abbrev QQ:=fun S L R H d l (o n:Nat) (no:Int) (k:Nat)=>(⟨[(4,aa 0),(5,aa (aoY (bU d no (bp (apv (fun b=>aoW apb (↑(apt b):Int)) (apd (aoT (bc (aj l) (0+aoO (↑k:Int)*4+2))) (app (aph (bc (aj l) (0+aoO (↑k:Int)*4+2)))))++[aoW apb 10])))))],[ab (aM S 1 2 3 4) 89,.abs (apG (bU d no (bp (apv (fun b=>aoW apb (↑(apt b):Int)) (apd (aoT (bc (aj l) (0+aoO (↑k:Int)*4+2))) (app (aph (bc (aj l) (0+aoO (↑k:Int)*4+2)))))++[aoW apb 10])))),ab (ao L) 9,ab (ap R) 3,ab (aj H) 114]⟩:ai)
theorem afu(S L R H d l)(o n:Nat)(no:Int)(k:Nat){Q:bo}(hq:Q (.ret (.tuple #[aa 0,aa (aoY (bU d no (bp (apv (fun b=>aoW apb (↑(apt b):Int)) (apd (aoT (bc (aj l) (0+aoO (↑k:Int)*4+2))) (app (aph (bc (aj l) (0+aoO (↑k:Int)*4+2)))))++[aoW apb 10]))))])) [ab (aM S 1 2 3 4) 89,.abs (apG (bU d no (bp (apv (fun b=>aoW apb (↑(apt b):Int)) (apd (aoT (bc (aj l) (0+aoO (↑k:Int)*4+2))) (app (aph (bc (aj l) (0+aoO (↑k:Int)*4+2)))))++[aoW apb 10])))),ab (ao L) 9,ab (ap R) 3,ab (aj H) 114]):aJ aoL 102 68 5 Q .ret (QQ S L R H d l o n no k):=aJ.ret (vs:=[aa 0,aa (aoY (bU d no (bp (apv (fun b=>aoW apb (↑(apt b):Int)) (apd (aoT (bc (aj l) (0+aoO (↑k:Int)*4+2))) (app (aph (bc (aj l) (0+aoO (↑k:Int)*4+2)))))++[aoW apb 10]))))]) (l:=[]) (bs:=[0,1,2,3,4]) (pl:=[2,3,4]) (q:=[ao L,ap R,aj H]) (fun u=>by kernel_rfl) (by kernel_rfl) (fY L R H bi) hq
abbrev QR:=fun S L R H d l (o n:Nat) (no:Int) (k:Nat)=>(⟨[(0,al 0),(1,ct 3 o n n),(6,aa no),(8,ah 5 (aoM l)),(9,aa k)],[ab (aM S 1 2 3 4) 89,.abs (apG (bU d no (bp (apv (fun b=>aoW apb (↑(apt b):Int)) (apd (aoT (bc (aj l) (0+aoO (↑k:Int)*4+2))) (app (aph (bc (aj l) (0+aoO (↑k:Int)*4+2)))))++[aoW apb 10])))),ab (ao L) 9,ab (ap R) 3,ab (aj H) 114,ab (aj l) 114]⟩:ai)
abbrev afv:=fun S L R H d l (o n:Nat) (no:Int) (k:Nat)=>(⟨[(0,al 0),(1,ct 3 o n n),(6,aa no),(8,ah 5 (aoM l)),(9,aa k)],ux S L R H d l⟩:ai)
theorem afw(S L R H d l)(o n:Nat)(no:Int)(k:Nat)(pH:(aj H).all ag=true)(pL:(aj l).all ag=true)(h0:k<(aoM l))(h1:(aoM l)≤1000000){Q:aY}(n0:(eQ (aj l) (0+aoO (↑k:Int)*4+2))=true)(n1:(apf (0+aoT (bc (aj l) (0+aoO (↑k:Int)*4+2))) 1000000)=true)(n2:(aoS (apv (fun b=>aoW apb (↑(apt b):Int)) (apd (aoT (bc (aj l) (0+aoO (↑k:Int)*4+2))) (app (aph (bc (aj l) (0+aoO (↑k:Int)*4+2)))))) Value.oneCell')=true)(n3:(apf (aoT (bc (aj l) (0+aoO (↑k:Int)*4+2))+1) 1000000)=true)(n4:(aoS (apv (fun b=>aoW apb (↑(apt b):Int)) (apd (aoT (bc (aj l) (0+aoO (↑k:Int)*4+2))) (app (aph (bc (aj l) (0+aoO (↑k:Int)*4+2)))))++[aoW apb 10]) ag)=true)(n5:(yM d no (apv (fun b=>aoW apb (↑(apt b):Int)) (apd (aoT (bc (aj l) (0+aoO (↑k:Int)*4+2))) (app (aph (bc (aj l) (0+aoO (↑k:Int)*4+2)))))++[aoW apb 10]) 5 false (aoT (bc (aj l) (0+aoO (↑k:Int)*4+2))+1) (aoT (bc (aj l) (0+aoO (↑k:Int)*4+2))+1))=true)(l9:(aoY (bU d no (bp (apv (fun b=>aoW apb (↑(apt b):Int)) (apd (aoT (bc (aj l) (0+aoO (↑k:Int)*4+2))) (app (aph (bc (aj l) (0+aoO (↑k:Int)*4+2)))))++[aoW apb 10]))) != 0)=true→Q .ret (QQ S L R H d l o n no k))(gJ:(aoY (bU d no (bp (apv (fun b=>aoW apb (↑(apt b):Int)) (apd (aoT (bc (aj l) (0+aoO (↑k:Int)*4+2))) (app (aph (bc (aj l) (0+aoO (↑k:Int)*4+2)))))++[aoW apb 10]))) != 0)=false→an aoL 68 5 (H7.drop 3) (QR S L R H d l o n no k) Q):an aoL 68 5 H7 (afv S L R H d l o n no k) Q:=
 aZ afc 3 (aA [2,3,0,1,10,1,1,1,2,3,5,1,5,1,1] (.fork 0 (.leaf [4,5] [0,1,2,3,4] [2,3,4]) (.leaf [0,1,6,8,9] [0,1,2,3,4,5] [2,3,4,5]))) (fun u=>by kernel_rfl) (mN (show(ao9 (aoO (↑k:Int)) (aoM l))=true by simp at pH pL h0 h1⊢ <;>omega) (mN n0 (mN n1 (mN n2 (mN (show(ao6 (aoM (apv (fun b=>aoW apb (↑(apt b):Int)) (apd (aoT (bc (aj l) (0+aoO (↑k:Int)*4+2))) (app (aph (bc (aj l) (0+aoO (↑k:Int)*4+2))))))) (aoT (bc (aj l) (0+aoO (↑k:Int)*4+2))*1))=true by simp) (mN n3 (mN (lh _:(full (aoT (bc (aj l) (0+aoO (↑k:Int)*4+2))) (aoT (bc (aj l) (0+aoO (↑k:Int)*4+2))))=true) (mN (show(ao6 (0+aoT (bc (aj l) (0+aoO (↑k:Int)*4+2))*1) (aoM (apv (fun b=>aoW apb (↑(apt b):Int)) (apd (aoT (bc (aj l) (0+aoO (↑k:Int)*4+2))) (app (aph (bc (aj l) (0+aoO (↑k:Int)*4+2))))))))=true by simp) (mN n4 (mN n5 (mN n4 (mF (c:=aoY (bU d no (bp (apv (fun b=>aoW apb (↑(apt b):Int)) (apd (aoT (bc (aj l) (0+aoO (↑k:Int)*4+2))) (app (aph (bc (aj l) (0+aoO (↑k:Int)*4+2)))))++[aoW apb 10]))) != 0) (fun h0=>(aL L R H (mR (l9 h0)))) (fun h0=>(aL L R H (mN (a7 l) (mQ (gJ h0)))))))))))))))))
abbrev Ib:=fun S L R H (d:au) (l:List aq) (o n:Nat) (no:Int) (k:Nat) (e:Int) (l1:List aq) dd=>(⟨[(4,aa 0),(5,aa e)],H9 S L R H dd⟩:ai)
theorem afx(S L R H d l)(o n:Nat)(no:Int)(k:Nat)(e:Int)(l1 dd){Q:bo}(hq:Q (.ret (.tuple #[aa 0,aa e])) (Ib S L R H d l o n no k e l1 dd).objs):aJ aoL 102 68 5 Q .ret (Ib S L R H d l o n no k e l1 dd):=aJ.ret (vs:=[aa 0,aa e]) (l:=[]) (bs:=[0,1,2,3,4]) (pl:=[2,3,4]) (q:=[ao L,ap R,aj H]) (fun u=>by kernel_rfl) (by kernel_rfl) (fY L R H bi) hq
abbrev QS:=fun S L R H (d:au) (l:List aq) (o n:Nat) (no:Int) (k:Nat) (e:Int) l1 dd=>(⟨[(0,al 0),(1,ct 3 o n n),(6,aa no),(8,ah 5 (aoM l))],[ab (aM S 1 2 3 4) 89,.abs dd,ab (ao L) 9,ab (ap R) 3,ab (aj H) 114,ab (aj l1) 114]⟩:ai)
abbrev afy:=fun S L R H d l (o n:Nat) (no:Int) (k:Nat) (e:Int) (l1:List aq) (dd:au)=>(⟨[(0,al 0),(1,ct 3 o n n),(6,aa no),(8,ah 5 (aoM l)),(9,aa k)],ux S L R H d l⟩:ai)
theorem afz(S L R H d l)(o n:Nat)(no:Int)(k:Nat)(e:Int)(l1 dd)(pH:(aj H).all ag=true)(pL:(aj l).all ag=true)(p1:(aj l1).all ag=true)(fX:aI aoL 54 [al 0,.pointer (some ⟨5,k*4,none⟩)] (aO S L R H d++[ab (aj l) 114]) fun r q=>r=.ret (aa e)∧q=aO S L R H dd++[ab (aj l1) 114])(h0:k<(aoM l))(h1:(aoM l)≤1000000){Q:aY}(n0:(dW [al 0,apZ (some (Addr.mk 5 (0+aoO (↑k:Int)*4) none))] [al 0,apZ (some (Addr.mk 5 (k*4) none))] [ab (aM S 1 2 3 4) 89,ak.abs d,ab (ao L) 9,ab (ap R) 3,ab (aj H) 114,ab (aj l) 114] (aO S L R H d++[ab (aj l) 114]))=true)(l4:(e != 0)=true→Q .ret (Ib S L R H d l o n no k e l1 dd))(l5:(e != 0)=false→Q .normal (QS S L R H d l o n no k e l1 dd)):an aoL 68 5 (H7.drop 3) (afy S L R H d l o n no k e l1 dd) Q:=
 aZ (afe S L R H d l k e l1 dd fX) 1000 (aA [0,3,3,1,1,1,1,1,1,1,1] (.fork 0 (.leaf [4,5] [0,1,2,3,4] [2,3,4]) (.leaf [0,1,6,8] [0,1,2,3,4,5] [2,3,4,5]))) (fun u=>by kernel_rfl) (mN (show(ao9 (aoO (↑k:Int)) (aoM l))=true by simp at pH pL p1 fX h0 h1⊢ <;>omega) (aL L R H (mN (a7 l) (mN n0 (aL L R H (mN (a7 l1) (mF (c:=e != 0) (fun h0=>(aL L R H (mR (l4 h0)))) (fun h0=>(aL L R H (mN (a7 l1) (mQ (an.done (by kernel_rfl) (l5 h0)))))))))))))
abbrev afA:=fun S L R H d l (o n:Nat) (no k:Int)=>(⟨[(0,al 0),(1,ct 3 o n n),(6,aa no),(8,ah 5 (aoM l)),(9,aa k)],ux S L R H d l⟩:ai)
theorem afB(S L R H d l)(o n:Nat)(no k:Int)(pH:(aj H).all ag=true)(pL:(aj l).all ag=true)(hle:aI aoL 53 [al 0,ah 5 (aoM l)] (aO S L R H d++[ab (aj l) 114]) fun r q=>r=.ret (aa k)∧q=aO S L R H d++[ab (aj l) 114]){Q:aY}(l5:Q .normal (afA S L R H d l o n no k)):an aoL 68 5 (Cc.drop 3) (QP S L R H d l o n no k) Q:=
 aZ (QN S L R H d l k hle) 1000 (aA [3,1,1,1,1,1,1,1,1] (.leaf [0,1,6,8,9] [0,1,2,3,4,5] [2,3,4,5])) (fun u=>by kernel_rfl) (aL L R H (mN (a7 l) (mN (kM [al 0,ah 5 (aoM l)] (aO S L R H d++[ab (aj l) 114])) (aL L R H (mN (a7 l) (aL L R H (mN (a7 l) (mQ (an.done (by kernel_rfl) l5)))))))))
abbrev Ic:=fun S L R H (d:au) (o n:Nat) (no e:Int) dd=>(⟨[(4,aa no),(5,aa e)],H9 S L R H dd⟩:ai)
theorem afC(S L R H d)(o n:Nat)(no e:Int)(dd){Q:bo}(hq:Q (.ret (.tuple #[aa no,aa e])) (Ic S L R H d o n no e dd).objs):aJ aoL 102 68 5 Q .ret (Ic S L R H d o n no e dd):=aJ.ret (vs:=[aa no,aa e]) (l:=[]) (bs:=[0,1,2,3,4]) (pl:=[2,3,4]) (q:=[ao L,ap R,aj H]) (fun u=>by kernel_rfl) (by kernel_rfl) (fY L R H bi) hq
abbrev afD:=fun S L R H d (o n:Nat) (no e:Int) (dd:au)=>(⟨[(0,al 0),(1,ct 3 o n n),(6,aa no)],Cd S L R H d⟩:ai)
theorem afE(S L R H d)(o n:Nat)(no e:Int)(dd)(pH:(aj H).all ag=true)(iv:aI aoL 78 [al 0,ct 3 o n n] (aO S L R H d) fun r q=>r=.ret (aa e)∧q=aO S L R H dd){Q:aY}(l4:Q .ret (Ic S L R H d o n no e dd)):an aoL 68 5 (sC.drop 9) (afD S L R H d o n no e dd) Q:=
 aZ (afg S L R H d o n e dd iv) 1000 (aA [3,1,1,1,1,1,1] (.leaf [4,5] [0,1,2,3,4] [2,3,4])) (fun u=>by kernel_rfl) (aL L R H (mN (kM [al 0,ct 3 o n n] (aO S L R H d)) (aL L R H (aL L R H (mR l4)))))
end
def afF(S:ad)(L:List ByteArray)(R:List Int)(H:List aq)(o n:Nat)(no:Int)(s:Option Nat×List aq×au×Nat):ai:=
 ⟨[(0,.pointer (some ⟨0,0,none⟩)),(1,.slice (some ⟨3,o,none⟩) n n),(6,.int .i64 no),(8,.slice (some ⟨5,0,none⟩) s.2.1.length s.2.1.length),(9,.int .i64 (kI s.1))],aO S L R H s.2.2.1++[.cells (aj s.2.1) 114 false]⟩
structure afG(f:Bool)(no:Int)(F N:Nat)(v:Int×au)(s:Option Nat×List aq×au×Nat):Prop where
 k:s.1=eU f s.2.1
 ok:sA no F s.2.1 s.2.2.1
 e:lZ f no s.2.2.2 s.2.1 s.2.2.1=v
 m:fj s.2.2.1 s.2.1<s.2.2.2
 len:s.2.1.length=N
theorem afH{f:Bool}{no:Int}{m:Nat}{l:List aq}{d:au}(h:eU f l=none):lZ f no m l d=(0,d):=by
 cases m with
 |zero=>rfl
 |succ m=>unfold lZ;rw[h]
theorem afI(S:ad)(L:List ByteArray)(R:List Int)(H:List aq)(d:au)(o n:Nat)(wq:o+n≤R.length)(hn:n≤900000)(hr:jC d ((R.drop o).take n)):
 aI aoL 102 [.pointer (some ⟨0,0,none⟩),.slice (some ⟨3,o,none⟩) n n] (aO S L R H d) fun r q=>
  r=.ret (.tuple #[.int .i64 (gW S.aD ((R.drop o).take n) d).1,.int .i64 (gW S.aD ((R.drop o).take n) d).2.1])∧q=aO S L R H (gW S.aD ((R.drop o).take n) d).2.2:=by
 have pH:=a7 H
 have nJ:((R.drop o).take n).length=n:=by rw[apI,ap0];omega
 generalize hl:(R.drop o).take n=runs at*
 refine aI.cY (n:=cp aoL 102) (by kernel_rfl) ?_
 apply afj S L R H d o n pH
 case n0=>exact nl.2 hr.db
 case l4=>
  intro g
  have g:(bH d).2.1≠0:=by simpa using g
  have e:gW S.aD runs d=(0,(bH d).2.1,(bH d).2.2):=by
   unfold gW
   generalize bH d=c at g⊢
   obtain⟨no,e,d1⟩:=c
   exact if_pos g
  rw[e]
  exact afh S L R H d o n ⟨rfl,rfl⟩
 case l5=>
  intro g
  have g:(bH d).2.1=0:=by simpa using g
  unfold QO
  have li:=hr.db.uu
  have cX:=hr.opened g
  have QU:gW S.aD runs d=match eB runs [] (bH d).2.2 with
   |(e,H,d2)=>if e≠0 then(0,e,d2)else match lZ S.aD (bH d).1 sy H d2 with
    |(e,d3)=>if e≠0 then(0,e,d3)else((bH d).1,gi runs d3):=by
   unfold gW
   generalize bH d=c at g⊢
   obtain⟨no,e,d1⟩:=c
   exact if_neg (fun h=>h g)
  rw[QU]
  clear QU
  have yj:=QJ S L R H (bH d).2.2 o n wq hn li
  rw[hl]at yj
  have Mo:=yR runs [] (bH d).2.2 li
  generalize(bH d).1=no at*
  generalize(bH d).2.2=d1 at*
  have hlen:(eB runs [] d1).1=0→(eB runs [] d1).2.1.length=n:=fun h=>by
   have:=(B0 runs [] [] d1 d1 li rfl ⟨rfl,fun _ h=>(by cases h),apn _⟩ h).BZ
   have:=congrArg aoM this
   rw[List.length_map]at this
   rw[this]
   exact nJ
  generalize eB runs [] d1=q at*
  obtain⟨e,l,d2⟩:=q
  dsimp only at*
  have pl:=a7 l
  apply afn S L R H d1 o n e l d2 no pH pl yj
  case l5=>
   intro ge
   have ge:e≠0:=by simpa using ge
   rw[if_pos ge]
   exact afl S L R H d1 o n e l d2 no ⟨rfl,rfl⟩
  case l4=>
   intro ge
   have ge:e=0:=by simpa using ge
   rw[if_neg (fun h=>h ge)]
   have cX:=cX ge
   have hlen:=hlen ge
   apply afp S L R H d2 l o n no (kI (eU S.aD l)) pH pl (QK S L R H d2 l (by omega))
   ·
    have afJ:=adR
    have jb:=cX.bW
    have hF:=hr.bW
    rw[ap2]
    refine an.eO 8 0 (by kernel_rfl) ?_
    refine an.fL (afF S L R H o n no) (fun t=>t.2.2.2) (afG S.aD no (eZ d runs) n (lZ S.aD no sy l d2)) (eU S.aD l,l,d2,sy) (by kernel_rfl) ⟨rfl,cX,rfl,by dsimp only;omega,hlen⟩ ?_
    clear cX pl yj hlen jb
    rintro⟨k,l1,d3,m⟩ ⟨h1,h2,h3,h4,h5⟩
    dsimp only at h1 h2 h3 h4 h5
    have pl:=a7 l1
    apply aft S L R H d3 l1 o n no (kI k) pH pl
    case l5=>
     intro gk
     have gk:=of_decide_eq_false gk
     have hk:k=none:=by
      cases k with
      |none=>rfl
      |some k=>exact absurd (show(0:Int)≤(k:Int)by omega) gk
     rw[hk]at h1
     rw[afH h1.symm]at h3
     rw[←h3]
     rw[if_neg (fun h=>h rfl)]
     have iv:=Qt S L R H d3 o n wq (by omega) h2.db
     rw[hl]at iv
     with_reducible (repeat first|refine QL.ret ?_|refine QL.exit ?_|refine QB.ret ?_|refine QB.cx ?_|refine QB.normal ?_|refine QB.cG (by rfl) ?_)
     apply afE S L R H d3 o n no (gi runs d3).1 (gi runs d3).2 pH iv
     ·exact afC S L R H d3 o n no (gi runs d3).1 (gi runs d3).2 ⟨rfl,rfl⟩
    case l4=>
     intro gk
     have gk:=of_decide_eq_true gk
     cases k with
     |none=>exact absurd gk (by show¬(0:Int)≤-1;omega)
     |some k=>
      obtain⟨k1,k2⟩:=B2 h1.symm
      have r:=rowAt k1
      obtain⟨w1,w2,w3,w4⟩:=h2.write (by omega) k1 k2
      have hok:=h2.ok _ (yS k1)
      have an2:=hok.1.line
      have QV:=h2.next (by omega) k1 k2
      cases m with
      |zero=>omega
      |succ m=>
      have h3:(match eU S.aD l1 with
       |none=>(0,d3)
       |some k=>if(bU d3 no (cj (a8 l1 k).line)).1≠0 then bU d3 no (cj (a8 l1 k).line)
        else if(cc (a8 l1 k) (bU d3 no (cj (a8 l1 k).line)).2).1≠0 then((cc (a8 l1 k) (bU d3 no (cj (a8 l1 k).line)).2).1,(cc (a8 l1 k) (bU d3 no (cj (a8 l1 k).line)).2).2.2)
        else lZ S.aD no m (l1.set k (cc (a8 l1 k) (bU d3 no (cj (a8 l1 k).line)).2).2.1) (cc (a8 l1 k) (bU d3 no (cj (a8 l1 k).line)).2).2.2)=lZ S.aD no sy l d2:=h3
      rw[←h1]at h3
      dsimp only at h3
      refine an.eO 2 1 (by kernel_rfl) ?_
      have hex:=r.s2
      apply afw S L R H d3 l1 o n no k pH pl k1 (by omega) r.n5
      case n1=>rw[hex];exact apu (by omega)
      case n2=>rw[hex,ap8 (by exact apn _)];exact FO _
      case n3=>rw[hex];exact apu (by omega)
      case n4=>rw[hex,join_eq];exact aU _
      case n5=>
       rw[hex,join_eq]
       exact Hx.2 ⟨h2.db,cj _,rfl,(lW _).symm,(lW _).symm,rfl,rfl,w2⟩
      case l9=>
       intro g3
       rw[hex,join_eq,jg]at g3
       have g3:(bU d3 no (cj (a8 l1 k).line)).1≠0:=by simpa using g3
       rw[if_pos g3]at h3
       rw[←h3,if_pos g3]
       with_reducible (repeat first|refine QL.ret ?_|refine QL.exit ?_|refine QB.ret ?_|refine QB.cx ?_|refine QB.normal ?_|refine QB.cG (by rfl) ?_)
       refine afu S L R H d3 l1 o n no k ⟨?_,?_⟩
       ·rw[hex,join_eq,jg]
       ·rw[hex,join_eq,jg];rfl
      case gJ=>
       intro g3
       rw[hex,join_eq,jg]at g3
       have g3:(bU d3 no (cj (a8 l1 k).line)).1=0:=by simpa using g3
       rw[if_neg (fun h=>h g3)]at h3
       unfold QR
       rw[hex,join_eq,jg]
       have fX:=QF S L R H (bU d3 no (cj (a8 l1 k).line)).2 l1 k k1 hok.1 w1
       generalize(bU d3 no (cj (a8 l1 k).line)).2=d4 at*
       generalize cc (a8 l1 k) d4=rr at*
       obtain⟨e4,y,d5⟩:=rr
       dsimp only at*
       apply afz S L R H d4 l1 o n no k e4 (l1.set k y) d5 pH pl (a7 _) fX k1 (by omega)
       case n0=>exact e8 (by rw[show 0+aoO (k:Int)*4=k*4 by simp]) rfl
       case l4=>
        intro g5
        have g5:e4≠0:=by simpa using g5
        rw[if_pos g5]at h3
        rw[←h3,if_pos g5]
        with_reducible (repeat first|refine QL.ret ?_|refine QL.exit ?_|refine QB.ret ?_|refine QB.cx ?_|refine QB.normal ?_|refine QB.cG (by rfl) ?_)
        exact afx S L R H d4 l1 o n no k e4 (l1.set k y) d5 ⟨rfl,rfl⟩
       case l5=>
        intro g5
        have g5:e4=0:=by simpa using g5
        rw[if_neg (fun h=>h g5)]at h3
        obtain⟨n1,n2⟩:=QV g5
        have QW:(l1.set k y).length=l1.length:=List.length_set
        unfold QS
        rw[←QW]
        with_reducible (repeat first|refine QL.ret ?_|refine QL.exit ?_|refine QB.ret ?_|refine QB.cx ?_|refine QB.normal ?_|refine QB.cG (by rfl) ?_)
        have Ie:=a7 (l1.set k y)
        apply afB S L R H d5 (l1.set k y) o n no (kI (eU S.aD (l1.set k y))) pH Ie (QK S L R H d5 _ (by omega))
        ·
         exact QL.to (eU S.aD (l1.set k y),l1.set k y,d5,m) ⟨rfl,n1,h3,by dsimp only;omega,by dsimp only;omega⟩ (by dsimp only;omega) rfl
end Go.Proofs.YtnlkkgpcikkpoaaGreat
/-
 A law of the walk for a region that draws its order, over any program: if each operation, begun where what it hangs on is done, keeps the prover's word, then the region does, whatever the order.
 Conditions: the table of what each operation hangs on (D), of the effects (c), and of the phases (R) meets the closed check regOk.
-/
namespace Go.Proofs.YtnlkkgpcikkpoaaGreat
structure an3(V:aoP→ao4→Prop)(E:ao4→ao4→Prop)(S:ao4→Prop)(dst:Option Tmp)(a:Act)(w:ao4)(a':Act)(w':ao4):Prop where
 v:∃v,a'=a.put dst v∧V v w'
 e:E w w'
 s:S w'
section
variable {P:ao7} {l:List Oper} {Q:Exit→Act→ao4→Prop} {a:Act}
end
structure an4(E:ao4→ao4→Prop) where
 V:aoP→ao4→Prop
 h:∀v w w',E w w'→V v w→V v w'
end Go.Proofs.YtnlkkgpcikkpoaaGreat
namespace Go.Proofs.YtnlkkgpcikkpoaaGreat
open Go.RowKit
section
variable {w:ao4} {g:Nat} {cs:Array aoP}
end
end Go.Proofs.YtnlkkgpcikkpoaaGreat
namespace Go.Proofs.YtnlkkgpcikkpoaaGreat
open Go.RowKit
end Go.Proofs.YtnlkkgpcikkpoaaGreat
namespace Go.Proofs.YtnlkkgpcikkpoaaGreat
open Go.RowKit Go.Shelf
attribute [local go_sem] Oper.semAt_some
set_option maxRecDepth 100000 in
set_option maxHeartbeats 2000000 in
theorem afK(bs ss bn sn aN sh N:Nat)(hN:N≤1000000)(n:Nat)(hn:2≤n)(l:Nat)(J:Nat→ao4→Prop)(E:ao4→Prop)(W:ao4)
 (QX:∀k A,J k A→(∃cap,N≤cap∧A.cell? ⟨bs,ss,none⟩=some (.slice (some ⟨aN,sh,none⟩) N cap))∧A.cell? ⟨bn,sn,none⟩=some (.int .i64 3))
 (hY:∀k W0,3*k<N→J k W0→avB aqO (n-1) aoL l #[.slice (some ⟨aN,sh+3*k,none⟩) (min 3 (N-3*k)) (min 3 (N-3*k))] W0 fun e W'=>e=.returned (.bool true)∧J (k+1) W'∨e=.returned (.bool false)∧E W')
 (afL:∀k A,J k A→J k A.drew)(h0:J 0 W):CallsIn aqO n aoL 124 (#[.func (.yield l) #[] #[]]++ #[.pointer (some ⟨bs,ss,none⟩),.pointer (some ⟨bn,sn,none⟩)]) W fun e W'=>(∃v,e=.returned v)∧(J ((N+2)/3) W'∨E W'):=by
 refine callsIn_of_wp avC rfl trivial ?_ rfl
 simp only[Tryz.ntmps124,List.size_toArray,apC,List.length_nil,Nat.reduceAdd,Nat.reduceSub,Array.replicate_succ,Array.replicate_zero,List.push_toArray,List.append_toArray,aqw,List.cons_append]
 gi_wp2
 gi_loopw [4] (fun i wr=>∃k:Nat,3*k<N+3∧i=.int .i64 (3*k:Nat)∧J k wr) (fun i _=>N+3-(intOf i).toNat)
 case atStart=>exact⟨0,by omega,rfl,h0⟩
 case round=>
  obtain⟨k,hk,rfl,Ce⟩:=hrel
  obtain⟨⟨cap,hc,c1⟩,c2⟩:=QX k _ Ce
  by_cases gN:3*k<N
  ·have an5:=Lib.hid (hY k _ gN Ce)
   have g1:(0:Int)≤(3*k:Nat):=by omega
   have g2:((3*k:Nat):Int)≤N:=by omega
   gi_wp2
   gi_region
   obtain⟨fn,tmps,assign,body,hy,hR⟩:=hY k _ gN (afL k _ Ce)
   replace hR:=Lib.hid hR
   gi_wp2
   all_goals
    first
     |rw[show((3*(k:Int)+((N-3*k:Nat):Int)).toNat-3*k)=min 3 (N-3*k)by omega,hy]
     |rw[show((3*(k:Int)+3).toNat-3*k)=min 3 (N-3*k)by omega,hy]
     |rw[show((3*(k:Int)+min 3 ((N-3*k:Nat):Int)).toNat-3*k)=min 3 (N-3*k)by omega,hy]
    refine⟨fun _=>by omega,?_⟩
    refine hR.out.mono ?_
    rintro e w3 (⟨rfl,QY⟩|⟨rfl,sD⟩)
    ·obtain⟨⟨QZ,UQ,c3⟩,c4⟩:=QX _ _ QY
     gi_wp2
     go_roundw
     case rel=>exact⟨k+1,by omega,by go_num,QY⟩
     case measure=>simp[intOf];omega
    ·gi_wp2
     try simp only[Exit.inBlock,Exit.then]
     refine bodyPost_ret (results_none rfl _ _ _) rfl ?_
     exact⟨⟨_,rfl⟩,.inr sD⟩
  ·gi_wp2
   go_end0
   exact⟨⟨_,rfl⟩,.inl (by rw[show(N+2)/3=k by omega];exact Ce)⟩
end Go.Proofs.YtnlkkgpcikkpoaaGreat
namespace Go.Proofs.YtnlkkgpcikkpoaaGreat.Vm
open Go.RowKit
def Q0(P:ao7)(gf:apr)(cap:List aoP)(K:Nat)(O:Nat→List ak)(N:Nat)(X:Nat→List aoP)(Y:Nat→List ak):Prop:=
 ∀(B:Nat→Prop) (w₀:ao4) (ρ:Ren) (lb:Array aoP) (l:Nat) (Ex:Nat→ao4→Prop) (Es:ao4→Prop) (W:ao4),LR ρ cap lb.toList→(∀k A A',Ex k A→A.grownBy A' none→Ex k A')→(∀A A',Es A→A.grownBy A' none→Es A')→Full ρ→
  (∀k W' (xs:Array aoP),k<N→(∃ρ':Ren,Full ρ'∧(∀x,x<K→ρ' x=ρ x)∧WR P B w₀ ρ' (cw (O k++Y k)) W'∧LR ρ' (X k) xs.toList)→Ex k W'→
   avB aqO 3 P l xs W' fun e Ig=>e=.returned (.bool true)∧St P B w₀ ρ K (O (k+1)) Ig∧Ex (k+1) Ig∨e=.returned (.bool false)∧Es Ig)→
  St P B w₀ ρ K (O 0) W→Ex 0 W→CallsIn aqO 4 P gf (#[.func (.yield l) #[] #[]]++lb) W fun e W'=>(∃v,e=.returned v)∧(St P B w₀ ρ K (O N) W'∧Ex N W'∨Es W')
theorem an.afM{P:ao7}{n k g:Nat}{ps:List Nat}{L:List apw}{K N:Nat}{sl:List (Nat×aoP)}{Q:bj→ai→Prop}{gf:apr}{cap:List aoP}{O:Nat→List ak}{X:Nat→List aoP}{Y:Nat→List ak}
 (hl:MP L=some (g,ps))(eg:∀args w,(callFunc gf args).run P w=.ok (.enter gf args) w)(cx:Q0 P gf cap K O N X Y)(G:Nat→Prop)(QE:List ak→Prop)(hG:G 0)
 (hg:jx sl g=some (.func (.func gf) #[] cap.toArray))(iv:ao9 g n=true)(hX:∀j,j<N→(X j).length=ps.length)
 (tA:vt (FZ K) (sl.map (·.1)) (sl.map (·.2))=some sl)
 (hc:(iG (sl.map (·.1))&&sl.all (fun p=>ao9 p.1 n&& !(ps.any (ao6 p.1)))&&iG ps&&ps.all (fun p=>ao9 p n)&&apf k K&&apf n 1024)=true)
 (hO:∀j,j≤N→(O j).length≤262144)(hK:K≤(O 0).length)(hY:∀j,j<N→(O j++Y j).length≤262144)(afN:(((O 0).take K).drop k).all XD=true)
 (afO:∀j,j<N→G j→jO P n K (bd (MQ L)) ⟨sl++ps.zip (X j),O j++Y j⟩ fun x d1=>x=.normal∧jO P n K (bd (FY L)) d1 fun x d2=>x=.normal∧d2.objs=O (j+1)∧G (j+1)∨x=.ret∧QE d2.objs)
 (afP:∀o,QE o→Q .ret ⟨sl,o⟩)
 (hdone:G N→an P n k L.tail ⟨sl,O N⟩ Q):an P n k L ⟨sl,O 0⟩ Q:=by
 intro Cx hn hk a w hd
 subst hn hk
 obtain⟨ρ,u,M,hd⟩:=hd
 unfold MP at hl
 split at hl
 ·rename_i g' ma qX body rest
  simp only[aoU,aoX]at hl
  obtain⟨rfl,rfl⟩:=hl
  simp only[ao3]at hc
  obtain⟨⟨⟨⟨⟨c1,c2⟩,c3⟩,c4⟩,c5⟩,c6⟩:=hc
  have c5:=apk c5
  have c6:=apk c6
  have cd:a.tmps.size=Cx.n:=by have:=hd.fr.size;rw[this];show(gz Cx.n u sl).length=_;unfold gz;simp[lJ]
  have tx:a.defers=M.map eN:=hd.fr.rH rfl
  -- the slots
  have cn:∀q∈sl,VR ρ q.2 (a.tmps.getD q.1 undef):=fun q hq=>by
   have h8:=hd.fr.at_ q.1
   have:=aps.1 c2 q hq
   simp only[ao3]at this
   rwa[Fr.xR,vw c6 (dV.1 this.1) (vI c1 q hq)]at h8
  have Ih:∀ρ':Ren,(∀x,x<K→ρ' x=ρ x)→∀q∈sl,VR ρ' q.2 (a.tmps.getD q.1 undef):=fun ρ' hρ q hq=>by
   obtain⟨j,v,h1,h2,h3⟩:=Fl tA q hq
   rw[List.getElem?_map]at h1 h2
   cases hj:sl[j]?with
   |none=>rw[hj]at h1;cases h1
   |some q'=>
    rw[hj]at h1 h2
    simp only[Option.map_some,aoU]at h1 h2
    have h4:=cn q' (apy hj)
    rw[h1,h2]at h4
    refine qF (τ:=FZ K) (ρ:=ρ) (fun y i r hy hr=>?_) 6 _ _ _ h3 h4
    unfold FZ at hy
    split at hy
    ·rename_i hb
     cases hy
     rw[hρ _ (dV.1 hb)];exact hr
    ·cases hy
  -- the iterator
  obtain⟨f',lb,afQ,afR,tg⟩:∃f' lb,a.eval (.tmp g')=.func (.func gf) f' lb∧LR ρ [] f'.toList∧LR ρ cap lb.toList:=by
   have h8:=hd.fr.at_ g'
   rw[Fr.xR,vw c6 (dV.1 iv) hg]at h8
   obtain⟨f',c',e1,e2,e3⟩:=h8.xj
   exact⟨f',c',e1,by simpa using e2,by simpa using e3⟩
  have afS:f'= #[]:=by apply aqI;rw[afR.kx]
  subst afS
  have Ii:∀ρ':Ren,Full ρ'→∀i,∃u,VR ρ' u (a.tmps.getD i undef):=fun ρ' hf i=>(hd.fr.at_ i).full hf
  have afT:=hd.mem.size
  refine(wpIn_wide (n:=5)).1 (wpIn_rangeFunc fun fn gH=>?_)
  obtain⟨rec,lH⟩:∃rec:LoopState→Loop,rec=fun st=>{state:=st,pending:=none,fn,tmps:=a.tmps,params:=ma,assign:=qX,body,defers:=w.heap.size}:=⟨_,rfl⟩
  obtain⟨W1,wu⟩:∃W1,(w.alloc (.deferred (some []))).alloc (.loop (rec .ready))=W1:=⟨_,rfl⟩
  have BP:W1.heap[w.heap.size+1]?=some (.loop (rec .ready)):=by
   rw[←wu]
   have:=atX (w.alloc (.deferred (some []))) (.loop (rec .ready))
   rwa[World.size_alloc]at this
  have hold:∀D,D<w.heap.size→W1.heap[D]?=w.heap[D]? :=fun D hD=>by
   rw[←wu]
   exact(ark _ _ _ (by simp;omega)).trans (ark _ _ _ hD)
  have afU:W1.heap[w.heap.size]?=some (.deferred (some [])):=by
   rw[←wu];exact(ark _ _ _ (by simp)).trans (atX w _)
  have pK:w.grownBy W1 none:=by
   rw[←wu]
   exact⟨rfl,rfl,rfl,by simp;omega,fun D hD _=>by rw[wu];exact hold D hD⟩
  have Q2:∀D,Cx.B D→D<w.heap.size:=afT
  have nB:¬Cx.B (w.heap.size+1):=fun h=>by have:=Q2 _ h;omega
  have Q3:¬Cx.B w.heap.size:=fun h=>by have:=Q2 _ h;omega
  have sE:∀D∈M,D<w.heap.size:=fun D hD=>(apQ.1 (hd.quiet D hD)).1
  -- what the rounds keep besides
  obtain⟨Ex,uy⟩:∃Ex:Nat→ao4→Prop,Ex=fun k W=>G k∧W.heap[w.heap.size+1]?=some (.loop (rec .ready))∧W.heap[w.heap.size]?=some (.deferred (some []))∧∀D∈M,W.heap[D]?=some (.deferred (some [])):=⟨_,rfl⟩
  obtain⟨Es,Cf⟩:∃Es:ao4→Prop,Es=fun W=>∃o,QE o∧o.length≤262144∧St P Cx.B Cx.w₀ ρ K o W∧W.heap[w.heap.size+1]?=some (.loop {state:=.done,pending:=some .ret,fn,tmps:=a.tmps,params:=ma,assign:=qX,body,defers:=w.heap.size})∧W.heap[w.heap.size]?=some (.deferred (some []))∧∀D∈M,W.heap[D]?=some (.deferred (some [])):=⟨_,rfl⟩
  refine⟨w.heap.size+1,[eN w.heap.size],W1,{target:=.fn (.func gf) lb,args:= #[.func (.yield (w.heap.size+1)) #[] #[]]},W1,gf, #[.func (.yield (w.heap.size+1)) #[] #[]]++lb,W1,?_,?_,?_,?_,fun _=>by omega,?_⟩
  ·rw[←wu,lH];exact run_enterLoop_outer _ _ _ _ _
  ·simp only[resolve,afQ]
   simp[go_sem]
  ·intro an6 an7;trivial
  ·simp[invoke,go_sem,eg]
  ·refine(cx Cx.B Cx.w₀ ρ lb (w.heap.size+1) Ex Es W1 tg ?_ ?_ hd.full ?_ ⟨ρ,hd.full,fun _ _=>rfl,hd.mem.F1 pK⟩ (by rw[uy];exact⟨hG,BP,afU,fun D hD=>(hold D (sE D hD)).trans (hd.quiet D hD)⟩)).mono ?_
   ·intro k A A' hA la
    rw[uy]at hA⊢
    exact⟨hA.1,vJ la hA.2.1,vJ la hA.2.2.1,fun D hD=>vJ la (hA.2.2.2 D hD)⟩
   ·intro A A' hA la
    rw[Cf]at hA⊢
    obtain⟨o,q1,q2,⟨ρ',q3,q4,q5⟩,q6,q7,q8⟩:=hA
    exact⟨o,q1,q2,⟨ρ',q3,q4,q5.F1 la⟩,vJ la q6,vJ la q7,fun D hD=>vJ la (q8 D hD)⟩
   ·rintro j W xs hj ⟨ρ1,rL,vE,gP,fR⟩ hE
    rw[uy]at hE
    obtain⟨afV,pZ,wv,sD⟩:=hE
    have j9:ma.toList.length=xs.toList.length:=by rw[←hX j hj,fR.len]
    have hy:=run_yield (P:=P) (args:=xs) pZ (by rw[lH];have:=j9;simp at this;exact this.symm)
    refine⟨_,_,_,_,hy,roundIn_of_wpIn (by rw[lH];exact gH) ?_⟩
    rw[lH]at pZ⊢
    dsimp only
    -- the frame of a round
    obtain⟨t1,tz⟩:∃t1,(ma.zip xs).foldl (fun tmps (x:Nat×aoP)=>tmps.setIfInBounds x.1 x.2) a.tmps=t1:=⟨_,rfl⟩
    have mz:t1=(ma.toList.zip xs.toList).foldl (fun t p=>t.setIfInBounds p.1 p.2) a.tmps:=by
     rw[←tz,←Array.foldl_toList,Array.toList_zip]
    have afW:(ma.zip xs).foldl (fun tmps (t,a)=>tmps.setIfInBounds t a) a.tmps=t1:=tz
    rw[afW]
    have hM:∀V:ao4,V.heap[w.heap.size+1]?=W.heap[w.heap.size+1]? ∨(∃r,V.heap[w.heap.size+1]?=some (.loop r))→V.heap[w.heap.size]?=some (.deferred (some []))→(∀D∈M,V.heap[D]?=some (.deferred (some [])))→
     ∀D∈(w.heap.size+1)::w.heap.size::M,∃o,V.heap[D]?=some o∧rJ o=true:=by
     intro V h1 h2 h3 D hD
     rcases ao8.1 hD with rfl|hD
     ·rcases h1 with h1|⟨r,h1⟩
      ·exact⟨_,h1.trans pZ,rfl⟩
      ·exact⟨_,h1,rfl⟩
     ·rcases ao8.1 hD with rfl|hD
      ·exact⟨_,h2,rfl⟩
      ·exact⟨_,h3 D hD,rfl⟩
    have Q4:=hM W (.inl rfl) wv sD
    have lg:∀x,x<K→∃r,ρ1 x=some r:=fun x hx=>by
     rw[vE x hx]
     by_cases pB:x<Cx.k
     ·rw[hd.kept x pB];exact Cx.named x pB
     have an8:=hO 0 (apN _)
     have iX:small x=true:=gT.2 (by have:(2:Nat)^18=262144:=rfl;omega)
     have ho:(O 0)[x]?=some (O 0)[x]:=aoV (by omega)
     refine hd.mem.named x (O 0)[x] (by rw[cD iX];exact ho) fun e=>?_
     have:=aps.1 afN _ (apy (i:=x-Cx.k) (by rw[aqb,List.getElem?_take,show Cx.k+(x-Cx.k)=x by omega,if_pos hx];exact ho))
     rw[e]at this
     cases this
    have jb:(O j++Y j).length≤262144:=hY j hj
    obtain⟨u1,vb⟩:∃u1:Nat→aoP,FR ρ1 ((eJ Cx.n u1 (sl++ma.toList.zip (X j))).dL (([]:List Nat).map eN)) {tmps:=t1,defers:=[]}:=by
     refine FR.make (b:=[]) (by rw[mz];show((ma.toList.zip xs.toList).foldl _ a.tmps).size=_;rw[MR];exact cd) c6 rfl (fun i=>?_) fun q hq=>?_
     ·show∃u,VR ρ1 u (t1.getD i undef)
      rw[mz]
      refine MT _ _ (fun q hq=>?_) (Ii ρ1 rL) i
      obtain⟨i',fo⟩:=aqg (atB hq).2
      have hlt:i'<(X j).length:=by rw[fR.len];exact(ao0.1 fo).1
      exact⟨_,fR.at_ i' _ _ (aoV hlt) fo⟩
     ·show q.1<Cx.n∧VR ρ1 q.2 (t1.getD q.1 undef)
      rcases apo.1 hq with hq|hq
      ·have h2:=aps.1 c2 q hq
       simp only[ao3,Bool.not_eq_true',List.any_eq_false]at h2
       refine⟨dV.1 h2.1,?_⟩
       rw[mz,F0 _ _ fun q' afX e=>?_]
       ·exact Ih ρ1 vE q hq
       ·have:=h2.2 q'.1 (atB afX).1
        rw[e,apY]at this
        exact this rfl
      ·obtain⟨i',fo⟩:=aqg hq
       have hz:ma.toList[i']?=some q.1∧(X j)[i']?=some q.2:=by
        have:=List.getElem?_zip_eq_some.1 fo
        exact this
       have hp:=aps.1 c4 q.1 (apy hz.1)
       refine⟨dV.1 hp,?_⟩
       obtain⟨v',fV,afY⟩:=fR.get hz.2
       rw[mz,MU _ _ _ c3 j9 i' q.1 v' hz.1 fV (by rw[cd];exact dV.1 hp)]
       exact afY
    have afZ:Holds P ⟨fun D=>Cx.B D∨D∈(w.heap.size+1)::w.heap.size::M,W,K,ρ1,Cx.n,lg⟩ ⟨sl++ma.toList.zip (X j),O j++Y j⟩ {tmps:=t1,defers:=[]} W:=
     ⟨ρ1,u1,[],rL,fun _ _=>rfl,vb,gP.Al Q4,jb,(fun D hD=>by cases hD),.nil,fun D hD=>by cases hD⟩
    have af0:=afO j hj afV ⟨fun D=>Cx.B D∨D∈(w.heap.size+1)::w.heap.size::M,W,K,ρ1,Cx.n,lg⟩ rfl rfl (some (w.heap.size+1)) _ W afZ
    refine wpIn_mono (MV (m:=3) (MN af0)) fun e a2 W2 he=>?_
    obtain⟨x,d1,⟨rfl,af1⟩,dH,ρ2,u2,M2,lL⟩:=he
    cases dH
    have kB:∀D,D∈(w.heap.size+1)::w.heap.size::M→W2.heap[D]?=W.heap[D]? :=fun D hD=>lL.mem.An hD
    have jK:W2.heap[w.heap.size+1]?=some (.loop {state:=.ready,pending:=none,fn,tmps:=a.tmps,params:=ma,assign:=qX,body,defers:=w.heap.size}):=(kB _ ape).trans pZ
    refine⟨_,run_beginRound jK rfl,?_⟩
    obtain⟨W3,Cg⟩:∃W3,W2.putObj (w.heap.size+1) (.loop {state:=.busy,pending:=none,fn,tmps:=a.tmps,params:=ma,assign:=qX,body,defers:=w.heap.size})=W3:=⟨_,rfl⟩
    have dK:=lL.mem.Am gP.env gP.below gP.size Q4
    have np:WR P Cx.B Cx.w₀ ρ2 (cw d1.objs) W3:=by rw[←Cg];exact dK.vy nB jK rfl _
    have xA:W3.heap[w.heap.size+1]?=some (.loop {state:=.busy,pending:=none,fn,tmps:=a.tmps,params:=ma,assign:=qX,body,defers:=w.heap.size}):=by
     rw[←Cg];exact asv (apQ.1 jK).1
    have Ij:∀D,D≠w.heap.size+1→W3.heap[D]?=W2.heap[D]? :=fun D hD=>by rw[←Cg];exact aqd hD
    have Ik:W3.heap[w.heap.size]?=some (.deferred (some [])):=(Ij _ (by omega)).trans ((kB _ (apc _ ape)).trans wv)
    have Il:∀D∈M,W3.heap[D]?=some (.deferred (some [])):=fun D hD=>(Ij _ (by have:=sE D hD;omega)).trans ((kB _ (apc _ (apc _ hD))).trans (sD D hD))
    have Q5:=hM W3 (.inr ⟨_,xA⟩) Ik Il
    have af2:∀D∈M2,D∉(w.heap.size+1)::w.heap.size::M:=fun D hD fq=>lL.outside D hD (.inr fq)
    have af3:Holds P ⟨fun D=>Cx.B D∨D∈(w.heap.size+1)::w.heap.size::M,W3,K,ρ1,Cx.n,lg⟩ d1 a2 W3:=
     ⟨ρ2,u2,M2,lL.full,lL.kept,lL.fr,np.Al Q5,lL.bW,fun D hD=>(Ij D (fun e=>af2 D hD (e▸ape))).trans (lL.quiet D hD),lL.fH,lL.outside⟩
    have af4:=af1 ⟨fun D=>Cx.B D∨D∈(w.heap.size+1)::w.heap.size::M,W3,K,ρ1,Cx.n,lg⟩ rfl rfl (some (w.heap.size+1)) a2 W3 af3
    rw[Cg]
    refine wpIn_mono (MV (m:=3) (MN af4)) fun e a3 W4 he=>?_
    obtain⟨x,d2,jM,dH,ρ4,u4,M4,uz⟩:=he
    have yV:∀D,D∈(w.heap.size+1)::w.heap.size::M→W4.heap[D]?=W3.heap[D]? :=fun D hD=>uz.mem.An hD
    have ww:=(yV _ ape).trans xA
    have Bt:=uz.mem.Am np.env np.below np.size Q5
    rcases jM with⟨rfl,nR,af5⟩|⟨rfl,nR⟩
    ·cases dH
     rw[nR]at Bt
     refine⟨_,_,run_endRound (P:=P) none ww,.inl ⟨rfl,⟨ρ4,uz.full,fun x hx=>(uz.kept x hx).trans (vE x hx),Bt.vy nB ww rfl _⟩,?_⟩⟩
     rw[uy,lH]
     refine⟨af5,asv (apQ.1 ww).1,?_,fun D hD=>?_⟩
     ·exact(aqd (by omega)).trans ((yV _ (apc _ ape)).trans Ik)
     ·exact(aqd (by have:=sE D hD;omega)).trans ((yV _ (apc _ (apc _ hD))).trans (Il D hD))
    ·cases dH
     refine⟨_,_,run_endRound (P:=P) (some .ret) ww,.inr ⟨rfl,?_⟩⟩
     rw[Cf]
     refine⟨_,nR,uz.bW,⟨ρ4,uz.full,fun x hx=>(uz.kept x hx).trans (vE x hx),Bt.vy nB ww rfl _⟩,asv (apQ.1 ww).1,?_,fun D hD=>?_⟩
     ·exact(aqd (by omega)).trans ((yV _ (apc _ ape)).trans Ik)
     ·exact(aqd (by have:=sE D hD;omega)).trans ((yV _ (apc _ (apc _ hD))).trans (Il D hD))
   ·rintro e Wf ⟨⟨v,rfl⟩,⟨⟨ρf,uj,iY,sF⟩,hE⟩|hS⟩
    ·rw[uy]at hE
     obtain⟨af6,pZ,wv,sD⟩:=hE
     have tq:=run_endLoop (P:=P) pZ (by rw[lH];simp)
     rw[lH]at tq
     refine⟨none,_,tq,?_⟩
     have qY:=sF.vy nB pZ rfl (.loop {state:=.exhausted,pending:=none,fn,tmps:=a.tmps,params:=ma,assign:=qX,body,defers:=w.heap.size})
     obtain⟨uf,Im⟩:∃uf:Nat→aoP,FR ρf ((eJ Cx.n uf sl).dL ((w.heap.size::M).map eN)) {a with defers:=[eN w.heap.size]++a.defers}:=by
      refine FR.make (a:={a with defers:=[eN w.heap.size]++a.defers}) (b:=(w.heap.size::M).map eN) cd c6 (by show[eN w.heap.size]++a.defers=_;rw[tx];rfl) (Ii ρf uj) fun q hq=>?_
      have h2:=aps.1 c2 q hq
      simp only[ao3]at h2
      exact⟨dV.1 h2.1,Ih ρf iY q hq⟩
     refine hdone af6 Cx rfl rfl _ _ ⟨ρf,uf,w.heap.size::M,uj,fun x hx=>(iY x (by omega)).trans (hd.kept x hx),Im,qY,?_,fun D hD=>?_,?_,fun D hD=>?_⟩
     ·show(O N).length≤262144
      exact hO N (apn _)
     ·rcases ao8.1 hD with rfl|hD
      ·exact(aqd (by omega)).trans wv
      ·exact(aqd (by have:=sE D hD;omega)).trans (sD D hD)
     ·exact aqa.2 ⟨fun h=>by have:=sE _ h;omega,hd.fH⟩
     ·rcases ao8.1 hD with rfl|hD
      ·exact Q3
      ·exact hd.outside D hD
    ·rw[Cf]at hS
     obtain⟨o,ho,hJ,⟨ρf,uj,iY,sF⟩,pZ,wv,sD⟩:=hS
     have tq:=run_endLoop (P:=P) pZ (by simp)
     refine⟨some .ret,_,tq,wpIn_ret ?_⟩
     have qY:=sF.vy nB pZ rfl (.loop {state:=.exhausted,pending:=some .ret,fn,tmps:=a.tmps,params:=ma,assign:=qX,body,defers:=w.heap.size})
     obtain⟨uf,Im⟩:∃uf:Nat→aoP,FR ρf ((eJ Cx.n uf sl).dL ((w.heap.size::M).map eN)) {a with defers:=[eN w.heap.size]++a.defers}:=by
      refine FR.make (a:={a with defers:=[eN w.heap.size]++a.defers}) (b:=(w.heap.size::M).map eN) cd c6 (by show[eN w.heap.size]++a.defers=_;rw[tx];rfl) (Ii ρf uj) fun q hq=>?_
      have h2:=aps.1 c2 q hq
      simp only[ao3]at h2
      exact⟨dV.1 h2.1,Ih ρf iY q hq⟩
     refine⟨.ret,⟨sl,o⟩,afP o ho,.ret,ρf,uf,w.heap.size::M,uj,fun x hx=>(iY x (by omega)).trans (hd.kept x hx),Im,qY,?_,fun D hD=>?_,?_,fun D hD=>?_⟩
     ·exact hJ
     ·rcases ao8.1 hD with rfl|hD
      ·exact(aqd (by omega)).trans wv
      ·exact(aqd (by have:=sE D hD;omega)).trans (sD D hD)
     ·exact aqa.2 ⟨fun h=>by have:=sE _ h;omega,hd.fH⟩
     ·rcases ao8.1 hD with rfl|hD
      ·exact Q3
      ·exact hd.outside D hD
 ·cases hl
end Go.Proofs.YtnlkkgpcikkpoaaGreat.Vm
namespace Go.Proofs.YtnlkkgpcikkpoaaGreat
open Go Vm Go.RowKit
theorem cell_of{P:ao7}{B:Nat→Prop}{w₀ w:ao4}{ρ:Vm.Ren}{O:List ak}{xb:Nat}{v:aoP}{el:ao1}{r:Vm.bT}(h:WR P B w₀ ρ (cw O) w)(hl:O.length≤262144)(ho:O[xb]?=some (.cells [v] el false))(hr:ρ xb=some r):∃v',w.cell? ⟨r.aN,r.sh,none⟩=some v'∧VR ρ v v':=by
 have hx:xb<O.length:=(ao0.1 ho).1
 have hm:cw O xb=some (.cells [v] el false):=by rw[cD (gT.2 (by have:(2:Nat)^18=262144:=rfl;omega))];exact ho
 obtain⟨o',h1,h2,_⟩:=h.live xb _ r hm hr (oq (by simp))
 cases h2 with
 |cells _ _ b8 _ c' fr hp vg he hz hf hc=>
  obtain⟨v',q1,q2⟩:=hc 0 v rfl
  refine⟨v',?_,q2⟩
  simp only[World.cell?,h1]
  exact q1
theorem Vm.af7{F:Fence}{m:Nat}{P:ao7}{l:Nat}{args:Array aoP}{W:ao4}{R R':Ending→ao4→Prop}(h:avB F m P l args W R)(hr:∀e w,R e w→R' e w):avB F m P l args W R':=by
 obtain⟨fn,tmps,qX,body,h1,h2⟩:=h
 exact⟨fn,tmps,qX,body,h1,h2.mono hr⟩
theorem af8{K xb bs bn N:Nat}{O:Nat→List ak}(hN:N≤1000000)(af9:0<N)(hK:K<262144){el1 el2:ao1}
 (hO:∀j,j≤(N+2)/3→(O j).length≤262144)(qo:bs<K)(aga:bn<K)(hs:∀j,j≤(N+2)/3→(O j)[bs]?=some (.cells [.slice (some ⟨xb,0,none⟩) N N] el1 false))(hn:∀j,j≤(N+2)/3→(O j)[bn]?=some (.cells [.int .i64 3] el2 false))(Q6:xb<K):
 Q0 aoL 124 [.pointer (some ⟨bs,0,none⟩),.pointer (some ⟨bn,0,none⟩)] K O ((N+2)/3)
  (fun j=>[.slice (some ⟨xb,3*j,none⟩) (min 3 (N-3*j)) (min 3 (N-3*j))]) (fun _=>[]):=by
 intro B w₀ ρ lb l Ex Es W tg uy Cf gI hY Q7 hE
 obtain⟨v1,l1,e1,e2,e3⟩:=tg.gG
 obtain⟨v2,l2,e4,e5,e6⟩:=e3.gG
 rw[e6.kx]at e4
 obtain⟨r1,FN,rfl⟩:=e2.ky
 obtain⟨r2,eL,rfl⟩:=e5.ky
 have agb:lb= #[.pointer (some ⟨r1.aN,r1.sh+0,none⟩),.pointer (some ⟨r2.aN,r2.sh+0,none⟩)]:=by rw[←Array.toArray_toList (xs:=lb),e1,e4]
 subst agb
 rw[aq8,aq8]
 have eh:∀j W,j≤(N+2)/3→St aoL B w₀ ρ K (O j) W→∃r,ρ xb=some r∧(∃cap,N≤cap∧W.cell? ⟨r1.aN,r1.sh,none⟩=some (.slice (some ⟨r.aN,r.sh,none⟩) N cap))∧W.cell? ⟨r2.aN,r2.sh,none⟩=some (.int .i64 3):=fun j W hj ⟨ρ',_,hk,hw⟩=>by
  obtain⟨u1,q1,q2⟩:=cell_of hw (hO j hj) (hs j hj) ((hk bs qo).trans FN)
  obtain⟨u2,q3,q4⟩:=cell_of hw (hO j hj) (hn j hj) ((hk bn aga).trans eL)
  have:=q4.jG
  subst this
  cases q2 with
  |bM _ h=>cases h
  |eD=>exact absurd af9 (by omega)
  |sl _ _ _ _ bI q hq hc=>
   refine⟨q,(hk xb Q6).symm.trans hq,⟨bI,?_,q1⟩,q3⟩
   unfold Df at hc
   omega
 obtain⟨r,hr,_,_⟩:=eh 0 W (apN _) Q7
 refine(afK r1.aN r1.sh r2.aN r2.sh r.aN r.sh N hN 4 (by omega) l (fun j W=>j≤(N+2)/3∧St aoL B w₀ ρ K (O j) W∧Ex j W) Es W ?_ ?_ ?_ ⟨apN _,Q7,hE⟩).mono ?_
 ·rintro j A ⟨hj,hA,_⟩
  obtain⟨r',vi,h1,h2⟩:=eh j A hj hA
  rw[hr]at vi
  cases vi
  exact⟨h1,h2⟩
 ·rintro j W0 hj ⟨abw,⟨ρ',a1,a2,a3⟩,hA⟩
  have hx:=hY j W0 #[.slice (some ⟨r.aN,r.sh+3*j,none⟩) (min 3 (N-3*j)) (min 3 (N-3*j))] (by omega) ⟨ρ',a1,a2,by rw[aqm];exact a3,LR.cons (.sl _ _ _ _ _ r ((a2 xb Q6).trans hr) (.inl rfl)) (LR.nil _)⟩ hA
  exact Vm.af7 hx fun e W' h=>h.imp (fun⟨k1,k2,k3⟩=>⟨k1,by omega,k2,k3⟩) id
 ·rintro j A ⟨hj,⟨ρ',a1,a2,a3⟩,hA⟩
  have hg:A.grownBy A.drew none:=⟨rfl,by simp,rfl,apn _,fun k hk _=>rfl⟩
  exact⟨hj,⟨ρ',a1,a2,a3.F1 hg⟩,uy _ _ _ hA hg⟩
 ·rintro e W' ⟨hv,⟨_,h1,h2⟩|h⟩
  ·exact⟨hv,.inl ⟨h1,h2⟩⟩
  ·exact⟨hv,.inr h⟩
noncomputable section
def agc(S:ad)(L:List ByteArray)(R:List Int)(H:List aq)(d:au)(o n:Nat)(no e:Int)(dd:au):List (apr×Sum):=[(102,Sum.one (fun _ _=>some [0,1,2,10,4]) [al 0,ct 3 o n n] (aO S L R H d) (.ret (.tuple #[aa no,aa e])) (aO S L R H dd))]
theorem agd(S:ad)(L:List ByteArray)(R:List Int)(H:List aq)(d:au)(o n:Nat)(no e:Int)(dd:au)(uA:aI aoL 102 [al 0,ct 3 o n n] (aO S L R H d) fun r q=>r=.ret (.tuple #[aa no,aa e])∧q=aO S L R H dd):dk aoL (dB aoL (dE (agc S L R H d o n no e dd)) 50 40):=
 dI de mixed (dR (.cons (bB.one uA) .nil)) 50 40
noncomputable def Ch:List apw:=bd (dC aoL 75)
open Tree renaming aW→mN,dn→mF,eS→mL,fA→mQ,dD→mR,fK→mE
noncomputable abbrev Ip:List apw:=(bd (inner (Ch.drop 3)))
abbrev age:=fun S L R H d=>(⟨[(1,al 5),(2,al 6),(3,al 7),(11,.func (.func 124) #[] #[al 8,al 9])],[ab (aM S 1 2 10 4) 89,.abs d,ab (ao L) 9,.dead,ab (aj H) 114,ab [al 0] 37,ab [aa 0] 26,ab [cm] 25,ab [ah 10 (ad.sn S)] 25,ab [aa 3] 3,ab (ap R) 3]⟩:ai)
abbrev agf:=fun S L R H d=>(⟨[(0,al 0)],[ab (aM S 1 2 5 4) 89,.abs d,ab (ao L) 9,.dead,ab (aj H) 114,ab (ap R) 3]⟩:ai)
theorem agh(S:ad)(L R H d)(pH:(aj H).all ag=true)(hR:(aoM R)=S.sn){Q:aY}(l3:an aoL 39 5 (Ch.drop 3) (age S L R H d) Q):an aoL 39 5 Ch (agf S L R H d) Q:=
 aZ bt 3 (.leaf [1,2,3,11] [0,1,2,3,4,6,7,8,9,10,5] [2,4,5]) (fun u=>by kernel_rfl) (mN (aV L) (mN (a7 H) (mN (aQ R) (mQ l3))))
abbrev agi:=fun S L R H d nx (o n:Nat)=>(⟨[(1,al 5),(2,al 6),(3,al 7),(4,ct 10 o n n)],[ab (aM S 1 2 10 4) 89,.abs d,ab (ao L) 9,.dead,ab (aj H) 114,ab [al 0] 37,ab [aa 0] 26,ab [ah 11 (aoM nx)] 25,ab [ah 10 (ad.sn S)] 25,ab [aa 3] 3,ab (ap R) 3,ab (ap nx) 3]⟩:ai)
theorem agj(S:ad)(L R H d nx)(o n:Nat)(pH:(aj H).all ag=true){Q:aY}(l4:Q .normal (agi S L R H d nx o n)):jO aoL 39 11 (bd (MQ Ip)) ⟨[(1,al 5),(2,al 6),(3,al 7),(11,.func (.func 124) #[] #[al 8,al 9]),(12,ct 10 o n n)],[ab (aM S 1 2 10 4) 89,.abs d,ab (ao L) 9,.dead,ab (aj H) 114,ab [al 0] 37,ab [aa 0] 26,ab [ah 11 (aoM nx)] 25,ab [ah 10 S.sn] 25,ab [aa 3] 3,ab (ap R) 3,ab (ap nx) 3]⟩ Q:=
 jO.tree de mixed bt (lf:=50) (m:=1000) (s:=(.leaf [1,2,3,4] [0,1,2,3,4,5,6,7,8,9,10,11] [2,4,10,11])) (fun u=>by kernel_rfl) (mN (aV L) (mN (a7 H) (mN (aQ R) (mN (aQ nx) (mQ (jO.done (by kernel_rfl) l4))))))
abbrev agk:=fun S L R H d nx (o n:Nat)=>(⟨[],[ab (aM S 1 2 10 4) 89,.abs d,ab (ao L) 9,.dead,ab (aj H) 114,ab [al 0] 37,ab [aa 0] 26,ab [ah 11 (aoM nx+1)] 25,ab [ah 10 (ad.sn S)] 25,ab [aa 3] 3,ab (ap R) 3,ab (ap nx++[aa (ay (ap R) (o+0))]) 3]⟩:ai)
theorem agl(S:ad)(L R H d nx)(o n:Nat)(pH:(aj H).all ag=true)(hR:(aoM R)=S.sn)(h0:n=1)(h1:o<(aoM R))(h2:(aoM nx)≤1000000){Q:aY}(n0:(cH ao2 (ap R) (o+0))=true)(n1:(apf (aoM nx+1) 1000000)=true)(aX:aoS (ao L) ag=true)(bh:aoS (aj H) ag=true)(bD:aoS (ap R) ag=true)(l5:Q .normal (agk S L R H d nx o n)):jO aoL 39 11 (bd (FY Ip)) ⟨[(1,al 5),(2,al 6),(3,al 7),(4,ct 10 o n n)],[ab (aM S 1 2 10 4) 89,.abs d,ab (ao L) 9,.dead,ab (aj H) 114,ab [al 0] 37,ab [aa 0] 26,ab [ah 11 (aoM nx)] 25,ab [ah 10 S.sn] 25,ab [aa 3] 3,ab (ap R) 3,ab (ap nx) 3]⟩ Q:=
 jO.tree de mixed bt (lf:=50) (m:=1000) (s:=(aA [3,2,3,0,1,0,3,5,1] (.leaf [] [0,1,2,3,4,5,6,7,8,9,10,13] [2,4,10,13]))) (fun u=>by kernel_rfl) (mN (decide_eq_true (by omega):((↑n:Int)==1)=true) (mN (show(ao9 0 n)=true by simp at pH hR h0 h1 h2⊢ <;>omega) (mN n0 (mN n1 (mN (lh _:(full (aoM nx) (aoM nx))=true) (mN (show(ao6 (0+aoM nx*1) (aoM (ap nx)))=true by simp) (mN (aV L) (mN (a7 H) (mN (aQ R) (mN (show(aoS (ap nx++[aa (ay (ap R) (o+0))]) ag)=true by simp) (mQ (jO.done (by kernel_rfl) l5))))))))))))
abbrev agm:=fun S L R H (d:au) nx (o n:Nat) (no e:Int) dd=>(⟨[(2,al 6)],[ab (aM S 1 2 10 4) 89,.abs dd,ab (ao L) 9,.dead,ab (aj H) 114,ab [al 0] 37,ab [aa e] 26,ab [ah 11 (aoM nx)] 25,ab [ah 10 (ad.sn S)] 25,ab [aa 3] 3,ab (ap R) 3,ab (ap nx) 3]⟩:ai)
abbrev agn:=fun S L R H (d:au) nx (o n:Nat) (no e:Int) dd=>(⟨[],[ab (aM S 1 2 10 4) 89,.abs dd,ab (ao L) 9,.dead,ab (aj H) 114,ab [al 0] 37,ab [aa 0] 26,ab [ah 11 (aoM nx+1)] 25,ab [ah 10 (ad.sn S)] 25,ab [aa 3] 3,ab (ap R) 3,ab (ap nx++[aa no]) 3]⟩:ai)
theorem ago(S:ad)(L R H d nx)(o n:Nat)(no e:Int)(dd:au)(pH:(aj H).all ag=true)(hR:(aoM R)=S.sn)(uA:aI aoL 102 [al 0,ct 3 o n n] (aO S L R H d) fun r q=>r=.ret (.tuple #[aa no,aa e])∧q=aO S L R H dd)(h0:n≠1)(h1:(aoM nx)≤1000000){Q:aY}(n0:(dW [al 0,ct 3 o n n] [al 0,ct 3 o n n] [ab (aM S 1 2 3 4) 89,ak.abs d,ab (ao L) 9,ab (ap R) 3,ab (aj H) 114] (aO S L R H d))=true)(aX:aoS (ao L) ag=true)(bh:aoS (aj H) ag=true)(bD:aoS (ap R) ag=true)(bx:aoS (ap nx) ag=true)(l5:(e != 0)=true→Q .ret (agm S L R H d nx o n no e dd))(n6:(e != 0)=false→(apf (aoM nx+1) 1000000)=true)(l7:(e != 0)=false→Q .normal (agn S L R H d nx o n no e dd)):jO aoL 39 11 (bd (FY Ip)) ⟨[(1,al 5),(2,al 6),(3,al 7),(4,ct 10 o n n)],[ab (aM S 1 2 10 4) 89,.abs d,ab (ao L) 9,.dead,ab (aj H) 114,ab [al 0] 37,ab [aa 0] 26,ab [ah 11 (aoM nx)] 25,ab [ah 10 S.sn] 25,ab [aa 3] 3,ab (ap R) 3,ab (ap nx) 3]⟩ Q:=
 jO.tree de mixed (agd S L R H d o n no e dd uA) (lf:=50) (m:=1000) (s:=(aA [2,5,1,1,1,1,1,1] (.fork 0 (.leaf [2] [0,1,2,3,4,5,6,7,8,9,10,11] [2,4,10,11]) (aA [2,3,5,1] (.leaf [] [0,1,2,3,4,5,6,7,8,9,10,13] [2,4,10,13]))))) (fun u=>by kernel_rfl) (mN (decide_eq_false (by omega):((↑n:Int)==1)=false) (aL L R H (mN n0 (aL L R H (mF (c:=e != 0) (fun h0=>(mN (aV L) (mN (a7 H) (mN (aQ R) (mN (aQ nx) (mR (l5 h0))))))) (fun h0=>(mN (n6 h0) (mN (lh _:(full (aoM nx) (aoM nx))=true) (mN (show(ao6 (0+aoM nx*1) (aoM (ap nx)))=true by simp) (mN (aV L) (mN (a7 H) (mN (aQ R) (mN (show(aoS (ap nx++[aa no]) ag)=true by simp) (mQ (jO.done (by kernel_rfl) (l7 h0))))))))))))))))
abbrev Q8:=fun S L (R:List Int) H d nx=>(⟨[(2,al 5)],[ab (aM (ad.mk (ad.at_ S) (ad.more S) (ad.bE S) (ad.B S) (ad.n S) (ad.failed S) (ad.aD S) (ad.ro S) (ad.rn S) (ad.bN S) (aoM nx) (ad.hn S) (ad.dX S) (ad.raw S) (ad.closed S)) 1 2 6 4) 89,.abs d,ab (ao L) 9,.dead,ab (aj H) 114,ab [aa 0] 26,ab (ap nx) 3]⟩:ai)
theorem agp(S L R H d nx){Q:bo}(hq:Q (.ret (aa 0)) [ab (aM (ad.mk (ad.at_ S) (ad.more S) (ad.bE S) (ad.B S) (ad.n S) (ad.failed S) (ad.aD S) (ad.ro S) (ad.rn S) (ad.bN S) (aoM nx) (ad.hn S) (ad.dX S) (ad.raw S) (ad.closed S)) 1 2 5 4) 89,.abs d,ab (ao L) 9,.dead,ab (aj H) 114,ab (ap nx) 3]):aJ aoL 75 39 5 Q .ret (Q8 S L R H d nx):=aJ.ret (vs:=[aa 0]) (l:=[5]) (bs:=[0,1,2,3,4,6]) (pl:=[2,4,6]) (q:=[ao L,aj H,ap nx]) (fun u=>by kernel_rfl) (by kernel_rfl) (aF (aV L) (aF (a7 H) (aF (aQ nx) bi))) hq
abbrev agq:=fun(S:ad) L R H d nx=>(⟨[(1,al 5),(2,al 6),(3,al 7),(11,.func (.func 124) #[] #[al 8,al 9])],[ab (aM S 1 2 10 4) 89,.abs d,ab (ao L) 9,.dead,ab (aj H) 114,ab [al 0] 37,ab [aa 0] 26,ab [ah 11 (aoM nx)] 25,ab [ah 10 S.sn] 25,ab [aa 3] 3,ab (ap R) 3,ab (ap nx) 3]⟩:ai)
theorem agr(S:ad)(L R H d nx)(pH:(aj H).all ag=true)(hR:(aoM R)=S.sn){Q:aY}(l3:Q .ret (Q8 S L R H d nx)):an aoL 39 5 (Ch.drop 4) (agq S L R H d nx) Q:=
 aZ bt 1000 (.leaf [2] [0,1,2,3,4,6,11] [2,4,11]) (fun u=>by kernel_rfl) (mN (aV L) (mN (a7 H) (mN (aQ nx) (mR l3))))
end
def gK(R:List Int)(j:Nat):List Int:=(R.drop (3*j)).take (min 3 (R.length-3*j))
noncomputable def jV(f:Bool)(R:List Int)(j:Nat)(s:List Int×au):Int×List Int×au:=
 if min 3 (R.length-3*j)=1 then(0,s.1++gK R j,s.2)else((gW f (gK R j) s.2).2.1,s.1++[(gW f (gK R j) s.2).1],(gW f (gK R j) s.2).2.2)
noncomputable def e7(f:Bool)(R:List Int)(d:au):Nat→List Int×au
 |0=>([],d)
 |j+1=>(jV f R j (e7 f R d j)).2
noncomputable def p8(f:Bool)(R:List Int):Nat→Nat→List Int×au→Int×List Int×au
 |0,_,s=>(0,s)
 |n+1,j,s=>if(jV f R j s).1≠0 then jV f R j s else p8 f R n (j+1) (jV f R j s).2
noncomputable def gj(f:Bool)(R:List Int)(d:au):Int×List Int×au:=p8 f R ((R.length+2)/3) 0 ([],d)
theorem Q9(R:List Int)(j:Nat):gK R j=(R.drop (3*j)).take 3:=by
 unfold gK
 by_cases h:3≤R.length-3*j
 ·rw[show min 3 (R.length-3*j)=3 by omega]
 ·rw[show min 3 (R.length-3*j)=R.length-3*j by omega,ap8 (by rw[ap0];omega),ap8 (by rw[ap0];omega)]
theorem ags(R:List Int)(j:Nat):(gK R j).length=min 3 (R.length-3*j):=by
 unfold gK;rw[apI,ap0];omega
theorem Ra(R:List Int)(j:Nat):R.drop (3*j)=gK R j++R.drop (3*(j+1)):=by
 rw[Q9]
 conv=>lhs;rw[←ap6 3 (R.drop (3*j))]
 rw[ap2,show 3*j+3=3*(j+1)by omega]
theorem agt{R:List Int}{j:Nat}{r:Int}(h:r∈gK R j):r∈R:=ar3 (List.mem_of_mem_take h)
structure mc(d0:au)(R:List Int)(j:Nat)(s:List Int×au):Prop where
 db:ca s.2
 made:d0.made≤s.2.made
 len:s.1.length=j
 old:∀r∈s.1,r≤s.2.made
 bW:eZ s.2 s.1+eZ s.2 (R.drop (3*j))≤eZ d0 R
theorem Rb{d d':au}{l:List Int}(h:∀r∈l,cq d' r≤cq d r):eZ d' l≤eZ d l:=by
 induction l with
 |nil=>exact apn _
 |cons x l ih=>
  have h1:=h x ape
  have h2:=ih fun y hy=>h y (apc _ hy)
  unfold eZ
  omega
theorem mc.zero{d:au}{R:List Int}(h:jC d R):mc d R 0 ([],d):=
 ⟨h.db,apn _,rfl,(fun _ h=>by cases h),by show 0+eZ d R≤_;omega⟩
theorem mc.runs{d0:au}{R:List Int}{j:Nat}{s:List Int×au}(h:mc d0 R j s)(h0:jC d0 R):jC s.2 (gK R j):=by
 refine⟨h.db,fun r hr=>?_,?_⟩
 ·have:=h0.old r (agt hr)
  have:=h.made
  omega
 ·have h1:=h.bW
  have h2:=h0.bW
  rw[Ra,wm]at h1
  omega
theorem mc.next(f:Bool){d0:au}{R:List Int}{j:Nat}{s:List Int×au}(h:mc d0 R j s)(h0:jC d0 R)(hj:3*j<R.length)(he:(jV f R j s).1=0):mc d0 R (j+1) (jV f R j s).2:=by
 have xm:=h.runs h0
 have hm:=Qd f xm
 have eh:=ags R j
 have hold:∀r∈R.drop (3*(j+1)),r≤s.2.made:=fun r hr=>by
  have:=h0.old r (ar3 hr)
  have:=h.made
  omega
 have jb:=h.bW
 rw[Ra,wm]at jb
 unfold jV at he⊢
 by_cases h1:min 3 (R.length-3*j)=1
 ·rw[if_pos h1]
  refine⟨h.db,h.made,by dsimp only;rw[ao5,h.len,eh,h1],fun r hr=>?_,?_⟩
  ·rcases apo.1 hr with hr|hr
   ·exact h.old r hr
   ·exact xm.old r hr
  ·dsimp only
   rw[wm]
   omega
 ·rw[if_neg h1]at he⊢
  obtain⟨m1,m2,m3,m4⟩:=hm
  obtain⟨n1,n2,n3⟩:=m3 he
  refine⟨m1,by have:=h.made;dsimp only;omega,by dsimp only;rw[ao5,h.len];rfl,fun r hr=>?_,?_⟩
  ·dsimp only at hr⊢
   rcases apo.1 hr with hr|hr
   ·have:=h.old r hr;omega
   ·rw[apP.1 hr,n1,n2];omega
  ·dsimp only
   rw[wm]
   have a1:=Rb (d:=s.2) (d':=(gW f (gK R j) s.2).2.2) (l:=s.1) fun r hr=>m4 r (h.old r hr)
   have a2:=Rb (d:=s.2) (d':=(gW f (gK R j) s.2).2.2) (l:=R.drop (3*(j+1))) fun r hr=>m4 r (hold r hr)
   have a3:eZ (gW f (gK R j) s.2).2.2 [(gW f (gK R j) s.2).1]=cq (gW f (gK R j) s.2).2.2 (gW f (gK R j) s.2).1+0:=rfl
   omega
theorem mc.agu(f:Bool){d0:au}{R:List Int}{j:Nat}{s:List Int×au}(h:mc d0 R j s)(h0:jC d0 R):ca (jV f R j s).2.2:=by
 unfold jV
 split
 ·exact h.db
 ·exact(Qd f (h.runs h0)).db
theorem Rc(f:Bool){d0:au}{R:List Int}(h0:jC d0 R):∀(n j:Nat) (s:List Int×au),j+n=(R.length+2)/3→mc d0 R j s→ca (p8 f R n j s).2.2∧((p8 f R n j s).1=0→mc d0 R ((R.length+2)/3) (p8 f R n j s).2)
 |0,j,s,hn,hs=>⟨hs.db,fun _=>by rw[←hn];exact hs⟩
 |n+1,j,s,hn,hs=>by
  unfold p8
  split
  ·rename_i he
   exact⟨hs.agu f h0,fun h=>absurd h he⟩
  ·rename_i he
   exact Rc f h0 n (j+1) _ (by omega) (hs.next f h0 (by omega) (aqD.1 he))
theorem Re(f:Bool){d:au}{R:List Int}(h:jC d R):ca (gj f R d).2.2∧((gj f R d).1=0→jC (gj f R d).2.2 (gj f R d).2.1∧(gj f R d).2.1.length=(R.length+2)/3∧eZ (gj f R d).2.2 (gj f R d).2.1≤eZ d R):=by
 obtain⟨h1,h2⟩:=Rc f h ((R.length+2)/3) 0 ([],d) (by omega) (mc.zero h)
 unfold gj
 generalize p8 f R ((R.length+2)/3) 0 ([],d)=x at*
 refine⟨h1,fun he=>?_⟩
 obtain⟨a,b,c,e,g⟩:=h2 he
 have:=h.bW
 exact⟨⟨a,e,by omega⟩,c,by omega⟩
def wx(S:ad)(L:List ByteArray)(R:List Int)(H:List aq)(d:au):List ak:=[.cells (aM S 1 2 5 4) 89 false,.abs d,.cells (ao L) 9 false,.dead,.cells (aj H) 114 false,.cells (ap R) 3 false]
def sG(S:ad)(R:List Int)(x:Int×List Int×au):ad×List Int:=if x.1=0 then({S with sn:=x.2.1.length},x.2.1)else(S,R)
def uB(S:ad)(L:List ByteArray)(R:List Int)(H:List aq)(s:List Int×au):List ak:=
 [.cells (aM S 1 2 10 4) 89 false,.abs s.2,.cells (ao L) 9 false,.dead,.cells (aj H) 114 false,.cells [.pointer (some ⟨0,0,none⟩)] 37 false,.cells [.int .i64 0] 26 false,.cells [.slice (some ⟨11,0,none⟩) s.1.length s.1.length] 25 false,.cells [.slice (some ⟨10,0,none⟩) S.sn S.sn] 25 false,.cells [.int .i64 3] 3 false,.cells (ap R) 3 false,.cells (ap s.1) 3 false]
def Rf(S:ad)(L:List ByteArray)(R:List Int)(H:List aq)(e:Int)(nx:List Int)(d:au):List ak:=
 [.cells (aM S 1 2 10 4) 89 false,.abs d,.cells (ao L) 9 false,.dead,.cells (aj H) 114 false,.cells [.pointer (some ⟨0,0,none⟩)] 37 false,.cells [.int .i64 e] 26 false,.cells [.slice (some ⟨11,0,none⟩) nx.length nx.length] 25 false,.cells [.slice (some ⟨10,0,none⟩) S.sn S.sn] 25 false,.cells [.int .i64 3] 3 false,.cells (ap R) 3 false,.cells (ap nx) 3 false]
abbrev Iq:List (Nat×aoP):=[(1,.pointer (some ⟨5,0,none⟩)),(2,.pointer (some ⟨6,0,none⟩)),(3,.pointer (some ⟨7,0,none⟩)),(11,.func (.func 124) #[] #[.pointer (some ⟨8,0,none⟩),.pointer (some ⟨9,0,none⟩)])]
theorem agv(S:ad)(L:List ByteArray)(R:List Int)(H:List aq)(e:Int)(nx:List Int)(d:au){Q:bO→List ak→Prop}(hq:Q (.ret (.int .i64 e)) (wx S L R H d)):
 aJ aoL 75 (cp aoL 75) 5 Q .ret ⟨Iq,Rf S L R H e nx d⟩:=
 aJ.ret (vs:=[.int .i64 (e)]) (l:=[6]) (bs:=[0,1,2,3,4,10]) (pl:=[2,4,10]) (q:=[ao L,aj H,ap R]) (fun u=>by kernel_rfl) (by kernel_rfl) (aF (by simp) (aF (a7 H) (aF (by simp) bi))) hq
theorem agw{S:ad}{L:List ByteArray}{R:List Int}{H:List aq}{d:au}{o n:Nat}{x:Int×List aq×au}(h:aI aoL 76 [.pointer (some ⟨0,0,none⟩),.slice (some ⟨3,o,none⟩) n n] (aO S L R H d) (pY S L R H x))(agx:List aoP→(Nat→Option ak)→Option (List Nat)):
 bB aoL 76 ⟨agx,(yU S L R H d o n x).spec⟩:=fun a ob r q hq=>QI h a ob r q hq
theorem Rg(l:List Int)(x:Int):ap l++[aoW ao2 x]=ap (l++[x]):=by unfold ap;rw[apK];rfl
theorem agy(S:ad)(L:List ByteArray)(R:List Int)(H:List aq)(d:au)(hR:R.length=S.sn)(h0:0<R.length)(hl:R.length≤900000)(hr:jC d R):
 aI aoL 75 [.pointer (some ⟨0,0,none⟩)] (aO S L R H d) fun r q=>
  r=.ret (.int .i64 (gj S.aD R d).1)∧q=wx (sG S R (gj S.aD R d)).1 L (sG S R (gj S.aD R d)).2 H (gj S.aD R d).2.2:=by
 have pH:=a7 H
 refine aI.cY (n:=cp aoL 75) (by kernel_rfl) ?_
 refine an.move (d':=⟨[(0,.pointer (some ⟨0,0,none⟩))],wx S L R H d⟩) [some 0,some 1,some 2,none,some 4,some 3] [2,4,3] (q:=[ao L,aj H,ap R]) (by kernel_rfl) (aF (by simp) (aF pH (aF (by simp) bi))) (by kernel_rfl) (by kernel_rfl) ?_
 apply agh S L R H d pH hR
 ·
  refine an.nh 7 0 3 (s:=1) (c:=[.slice none 0 0]) (e:=25) (by kernel_rfl) (by rfl) (by rfl) (d':=⟨Iq,uB S L R H ([],d)⟩) (by kernel_rfl) (by kernel_rfl) ?_
  refine an.eO 3 0 (by kernel_rfl) ?_
  have hN:R.length≤1000000:=by omega
  obtain⟨N,Rh⟩:∃N,N=(R.length+2)/3:=⟨_,rfl⟩
  obtain⟨f,hf⟩:∃f,f=S.aD:=⟨_,rfl⟩
  rw[←hf]
  have cx:=af8 (K:=11) (xb:=10) (bs:=8) (bn:=9) (N:=R.length) (O:=fun j=>uB S L R H (e7 f R d j)) (el1:=25) (el2:=3) hN h0 (by decide) (fun j _=>by show 12≤262144;decide) (by decide) (by decide) (fun j _=>by rw[hR];rfl) (fun j _=>rfl) (by decide)
  rw[←Rh]at cx
  refine an.afM (g:=11) (ps:=[12]) (K:=11) (N:=N) (sl:=Iq) (O:=fun j=>uB S L R H (e7 f R d j)) (by kernel_rfl) (enters_of avC (by kernel_rfl) rfl) cx
   (fun j=>mc d R j (e7 f R d j)∧gj f R d=p8 f R (N-j) j (e7 f R d j)) (fun o=>∃e nx dd,e≠0∧(gj f R d).1=e∧(gj f R d).2.2=dd∧o=Rf S L R H e nx dd)
   ⟨mc.zero hr,by rw[Rh];rfl⟩ (by rfl) (by kernel_rfl) (fun j _=>rfl) (by rfl) (by kernel_rfl) (fun j _=>by show 12≤262144;decide) (by show 11≤12;decide) (fun j _=>by show 12≤262144;decide) (by rfl) (fun j hj hG=>?_) ?_ ?_
  ·obtain⟨g1,g2⟩:=hG
   have yW:3*j<R.length:=by omega
   have QV:=g1.len
   apply agj S L R H (e7 f R d j).2 (e7 f R d j).1 (3*j) (min 3 (R.length-3*j)) pH
   ·
    refine⟨rfl,?_⟩
    obtain⟨m,hm⟩:∃m,N-j=m+1:=⟨N-j-1,by omega⟩
    have lP:N-(j+1)=m:=by omega
    rw[hm]at g2
    have g2:gj f R d=if(jV f R j (e7 f R d j)).1≠0 then jV f R j (e7 f R d j)else p8 f R m (j+1) (jV f R j (e7 f R d j)).2:=g2
    have Ri:(jV f R j (e7 f R d j)).1=0→mc d R (j+1) (e7 f R d (j+1))∧gj f R d=p8 f R (N-(j+1)) (j+1) (e7 f R d (j+1)):=fun he=>by
     refine⟨g1.next f hr yW he,?_⟩
     rw[g2,if_neg (fun h=>h he),lP]
     rfl
    by_cases hc:min 3 (R.length-3*j)=1
    ·have dJ:jV f R j (e7 f R d j)=(0,(e7 f R d j).1++gK R j,(e7 f R d j).2):=by unfold jV;rw[if_pos hc]
     have ko:gK R j=[R[3*j]]:=by
      rw[Q9,aqF yW]
      have:R.drop (3*j+1)=[]:=aqq (by omega)
      rw[this];rfl
     have cn:ay (ap R) (3*j+0)=R[3*j]:=by rw[aq8];exact FH yW
     apply agl S L R H (e7 f R d j).2 (e7 f R d j).1 (3*j) (min 3 (R.length-3*j)) pH hR hc yW (by omega)
     case aX=>simp
     case bh=>exact pH
     case bD=>simp
     case n0=>rw[aq8];exact FI yW
     case n1=>exact apu (by omega)
     case l5=>
      refine .inl ⟨rfl,?_,Ri (by rw[dJ])⟩
      show _=uB S L R H (jV f R j (e7 f R d j)).2
      rw[dJ,ko]
      unfold uB
      dsimp only
      rw[cn,Rg,ao5]
      rfl
    ·have dJ:jV f R j (e7 f R d j)=((gW f (gK R j) (e7 f R d j).2).2.1,(e7 f R d j).1++[(gW f (gK R j) (e7 f R d j).2).1],(gW f (gK R j) (e7 f R d j).2).2.2):=by unfold jV;rw[if_neg hc]
     have uA:=afI S L R H (e7 f R d j).2 (3*j) (min 3 (R.length-3*j)) (by omega) (by omega) (g1.runs hr)
     rw[←hf]at uA
     rw[show(R.drop (3*j)).take (min 3 (R.length-3*j))=gK R j from rfl]at uA
     apply ago S L R H (e7 f R d j).2 (e7 f R d j).1 (3*j) (min 3 (R.length-3*j)) (gW f (gK R j) (e7 f R d j).2).1 (gW f (gK R j) (e7 f R d j).2).2.1 (gW f (gK R j) (e7 f R d j).2).2.2 pH hR uA hc (by omega)
     case n0=>exact e8 rfl rfl
     case aX=>simp
     case bh=>exact pH
     case bD=>simp
     case bx=>simp
     case l5=>
      intro ge
      have ge:(gW f (gK R j) (e7 f R d j).2).2.1≠0:=by simpa using ge
      refine .inr ⟨rfl,_,(e7 f R d j).1,_,ge,?_,?_,rfl⟩
      ·rw[g2,if_pos (by rw[dJ];exact ge),dJ]
      ·rw[g2,if_pos (by rw[dJ];exact ge),dJ]
     case n6=>intro _;exact apu (by omega)
     case l7=>
      intro ge
      have ge:(gW f (gK R j) (e7 f R d j).2).2.1=0:=by simpa using ge
      refine .inl ⟨rfl,?_,Ri (by rw[dJ];exact ge)⟩
      show _=uB S L R H (jV f R j (e7 f R d j)).2
      rw[dJ]
      unfold uB
      dsimp only
      rw[Rg,ao5]
      rfl
  ·rintro o ⟨e,nx,dd,he,h1,h2,rfl⟩
   with_reducible (repeat first|refine QL.ret ?_|refine QL.exit ?_|refine QB.ret ?_|refine QB.cx ?_|refine QB.normal ?_|refine QB.cG (by rfl) ?_)
   refine agv S L R H e nx dd ⟨?_,?_⟩
   ·rw[h1]
   ·unfold sG
    rw[h1,if_neg he,h2]
  ·rintro⟨g1,g2⟩
   refine an.done rfl ?_
   refine QB.normal ?_
   rw[Nat.sub_self]at g2
   have g2:gj f R d=(0,e7 f R d N):=g2
   apply agr S L R H (e7 f R d N).2 (e7 f R d N).1 pH hR
   ·
    refine agp S L R H (e7 f R d N).2 (e7 f R d N).1 ⟨?_,?_⟩
    ·rw[g2]
    ·rw[g2];unfold sG;rw[if_pos rfl];rfl
def qZ(B:Nat→Int)(n:Nat):List UInt8:=(arm n).map fun i=>arH (B i).toNat
def iU(S:ad):ByteArray:=⟨(qZ S.B S.n.toNat).toArray⟩
theorem agz(B:Nat→Int)(n:Nat):(qZ B n).length=n:=by unfold qZ;simp
theorem agA(B:Nat→Int):yv B=(arm 64).map fun i=>aoW .u8 (B i):=rfl
theorem agB(B:Nat→Int)(l:List Nat):bytesOf (l.map fun i=>aoW .u8 (B i))=some (l.map fun i=>arH (B i).toNat):=by
 induction l with
 |nil=>rfl
 |cons x l ih=>rw[apM,apM];show(match bytesOf (l.map _)with|some r=>some (_::r)|none=>none)=_;rw[ih]
theorem Ir(S:ad)(a b c e:Nat)(n:Nat)(hn:n≤64):(cut (aM S a b c e) 3 n).bind bytesOf=some (qZ S.B n):=by
 have hl:(aM S a b c e).length=78:=rfl
 have h1:apf (3+n) (aM S a b c e).length=true:=by rw[hl];exact apu (by omega)
 unfold cut
 rw[h1]
 show bytesOf (((aM S a b c e).drop 3).take n)=_
 have h2:((aM S a b c e).drop 3).take n=(yv S.B).take n:=by
  have:(aM S a b c e).drop 3=yv S.B++[.int .i64 S.n,.bool S.failed,.pointer (some ⟨a,0,none⟩),.bool S.aD,.slice (some ⟨b,S.ro,none⟩) S.rn S.rn,.int .i64 S.bN,.slice (some ⟨c,0,none⟩) S.sn S.sn,.slice (some ⟨e,0,none⟩) S.hn S.hn,.bool S.dX,.int .i64 S.raw,.bool S.closed]:=rfl
  rw[this,List.take_append_of_le_length (by show n≤64;exact hn)]
 rw[h2,agA,←avA,agB,List.take_range]
 rw[show min n 64=n by omega]
 rfl
def sH(S:ad)(x:UInt8):ad:={S with B:=fun j=>if j=S.n.toNat then(x.toNat:Int)else S.B j,n:=S.n+1}
def dS:List UInt8→ad→List ByteArray→Int×ad×List ByteArray
 | [],S,M=>(0,S,M)
 |x::l,S,M=>if x=10 then dS l {S with n:=0} (M++[iU S])else if S.n=64 then(20,{S with failed:=true,n:=0},M)else dS l (sH S x) M
structure jD(S:ad):Prop where
 n0:0≤S.n
 n1:S.n≤64
theorem jD.zero(S:ad):jD {S with n:=0}:=⟨by show(0:Int)≤0;omega,by show(0:Int)≤64;omega⟩
theorem jD.add{S:ad}(h:jD S)(hn:S.n≠64)(x:UInt8):jD (sH S x):=⟨by have:=h.n0;show 0≤S.n+1;omega,by have:=h.n1;show S.n+1≤64;omega⟩
noncomputable section
noncomputable def Ci:List apw:=bd (dC aoL 46)
open Tree renaming aW→mN,dn→mF,eS→mL,fA→mQ,dD→mR,fK→mE
noncomputable abbrev It:List apw:=(bd (inner (bd (inner (Ci.drop 5)))))
abbrev Iu:=fun S L R H d b=>([ab (aM S 1 2 3 4) 89,.abs d,ab (ao L) 9,ab (ap R) 3,ab (aj H) 114,ab (af b) 5]:List ak)
abbrev agC:=fun S L R H d b=>(⟨[(4,cm),(5,aa 20)],Iu S L R H d b⟩:ai)
abbrev agD:=fun S L R H d (b:ByteArray)=>(⟨[(0,.pointer (some ⟨0,3,none⟩)),(6,cm),(17,ah 5 b.size),(18,aa (b.size:Int)),(19,aa 0)],Iu S L R H d b⟩:ai)
abbrev agE:=fun S L R H d (b:ByteArray)=>(⟨[(0,.pointer (some ⟨0,3,none⟩)),(1,ah 5 b.size)],Iu S L R H d b⟩:ai)
theorem agF(S L R H d b)(pH:(aj H).all ag=true){Q:aY}(l4:(ad.failed S)=true→Q .ret (agC S L R H d b))(l5:(ad.failed S)=false→an aoL 72 6 (Ci.drop 5) (agD S L R H d b) Q):an aoL 72 6 Ci (agE S L R H d b) Q:=
 aZ bt 5 (.fork 6 (.leaf [4,5] [0,1,2,3,4,5] [2,3,4,5]) (.leaf [0,6,17,18,19] [0,1,2,3,4,5] [2,3,4,5])) (fun u=>by kernel_rfl) (mF (c:=ad.failed S) (fun h0=>(aL L R H (mN (aH b) (mR (l4 h0))))) (fun h0=>(aL L R H (mN (aH b) (mQ (l5 h0))))))
abbrev yX:=fun S L R H d b M=>([ab (aM S 1 2 3 4) 89,.abs d,ab (ao L) 9,ab (ap R) 3,ab (aj H) 114,ab (af b) 5,ab (ao M) 9]:List ak)
abbrev agG:=fun S L R H d (b:ByteArray) M (i:Int)=>(⟨[(0,.pointer (some ⟨0,3,none⟩)),(6,ah 6 (aoM M)),(17,ah 5 b.size),(18,aa (b.size:Int)),(19,aa i)],yX S L R H d b M⟩:ai)
abbrev agH:=fun S L R H d b M (i:Int)=>(⟨[(6,ah 6 (aoM M))],yX S L R H d b M⟩:ai)
abbrev Rj:=fun S L R H d (b:ByteArray) M (i:Int)=>(⟨[(0,.pointer (some ⟨0,3,none⟩)),(6,ah 6 (aoM M)),(17,ah 5 b.size),(18,aa b.size),(19,aa i)],yX S L R H d b M⟩:ai)
theorem agI(S L R H d)(b:ByteArray)(M)(i:Int)(pH:(aj H).all ag=true){Q:aY}(l5:(decide (i<(b.size:Int)))=true→an aoL 72 6 (It.drop 2) (agG S L R H d b M i) Q)(l6:(decide (i<(b.size:Int)))=false→Q (.exit 0) (agH S L R H d b M i)):an aoL 72 6 It (Rj S L R H d b M i) Q:=
 aZ bt 2 (.fork 0 (.leaf [0,6,17,18,19] [0,1,2,3,4,5,6] [2,3,4,5,6]) (.leaf [6] [0,1,2,3,4,5,6] [2,3,4,5,6])) (fun u=>by kernel_rfl) (mF (c:=decide (i<(b.size:Int))) (fun h0=>(aL L R H (mN (aH b) (mN (aV M) (mQ (l5 h0)))))) (fun h0=>(aL L R H (mN (aH b) (mN (aV M) (mE 0 (l6 h0)))))))
abbrev Rk:=fun S L R H d (b:ByteArray) M (i:Int)=>(⟨[(0,.pointer (some ⟨0,3,none⟩)),(6,ah 6 (aoM M+1)),(17,ah 5 b.size),(18,aa (b.size:Int)),(19,.int .i64 (aoN .i64 (i+1)))],[ab (aM (ad.mk (ad.at_ S) (ad.more S) (ad.bE S) (ad.B S) 0 (ad.failed S) (ad.aD S) (ad.ro S) (ad.rn S) (ad.bN S) (ad.sn S) (ad.hn S) (ad.dX S) (ad.raw S) (ad.closed S)) 1 2 3 4) 89,.abs d,ab (ao L) 9,ab (ap R) 3,ab (aj H) 114,ab (af b) 5,ab (ao M++[apm (apB (apJ (apg (apO (cut (aM S 1 2 3 4) 3 (aoO (ad.n S)-0)) bytesOf) [])))]) 9]⟩:ai)
abbrev Iv:=fun S L R H d b M (i:Int)=>(⟨[(4,ah 6 (aoM M)),(5,aa 20)],[ab (aM (ad.mk (ad.at_ S) (ad.more S) (ad.bE S) (ad.B S) 0 true (ad.aD S) (ad.ro S) (ad.rn S) (ad.bN S) (ad.sn S) (ad.hn S) (ad.dX S) (ad.raw S) (ad.closed S)) 1 2 3 4) 89,.abs d,ab (ao L) 9,ab (ap R) 3,ab (aj H) 114,ab (af b) 5,ab (ao M) 9]⟩:ai)
theorem agJ(S L R H d b M)(i:Int){Q:bo}(hq:Q (.ret (.tuple #[ah 6 (aoM M),aa 20])) (Iv S L R H d b M i).objs):aJ aoL 46 72 6 Q .ret (Iv S L R H d b M i):=aJ.ret (vs:=[ah 6 (aoM M),aa 20]) (l:=[]) (bs:=[0,1,2,3,4,5,6]) (pl:=[2,3,4,5,6]) (q:=[ao L,ap R,aj H,af b,ao M]) (fun u=>by kernel_rfl) (by kernel_rfl) (fY L R H (aF (aH b) (aF (aV M) bi))) hq
abbrev Rl:=fun S L R H d (b:ByteArray) M (i:Int)=>(⟨[(0,.pointer (some ⟨0,3,none⟩)),(6,ah 6 (aoM M)),(17,ah 5 b.size),(18,aa (b.size:Int)),(19,.int .i64 (aoN .i64 (i+1)))],[ab (aM (ad.mk (ad.at_ S) (ad.more S) (ad.bE S) (fun j=>bif ao6 (3+aoO (ad.n S)*1) (3+j)then ay (af b) (0+aoO i*1)else ad.B S j) (aoN .i64 (ad.n S+1)) (ad.failed S) (ad.aD S) (ad.ro S) (ad.rn S) (ad.bN S) (ad.sn S) (ad.hn S) (ad.dX S) (ad.raw S) (ad.closed S)) 1 2 3 4) 89,.abs d,ab (ao L) 9,ab (ap R) 3,ab (aj H) 114,ab (af b) 5,ab (ao M) 9]⟩:ai)
theorem agK(S:ad)(L R H d)(b:ByteArray)(M)(i:Int)(pH:(aj H).all ag=true)(h0:0≤i)(h1:i<b.size)(h2:b.size≤1000000)(h3:aoN .i64 (i+1)=i+1)(h4:0≤S.n)(h5:S.n≤64)(h6:(aoM M)≤100000)(h7:aoN .i64 (S.n+1)=S.n+1){Q:aY}(n0:(cH apb (af b) (0+aoO i*1))=true)(n1:(ay (af b) (0+aoO i*1)==10)=true→(arQ (apO (cut (aM S 1 2 3 4) 3 (aoO (ad.n S)-0)) bytesOf))=true)(aX:aoS (ao L) ag=true)(bh:aoS (ap R) ag=true)(bD:aoS (aj H) ag=true)(bx:aoS (af b) ag=true)(l6:(ay (af b) (0+aoO i*1)==10)=true→Q .normal (Rk S L R H d b M i))(lj:aoS (ao M) ag=true)(l8:(ay (af b) (0+aoO i*1)==10)=false→(ad.n S==64)=true→Q .ret (Iv S L R H d b M i))(l9:(ay (af b) (0+aoO i*1)==10)=false→(ad.n S==64)=false→Q .normal (Rl S L R H d b M i)):an aoL 72 6 (It.drop 2) (Rj S L R H d b M i) Q:=
 aZ bt 1000 (aA [0,1,1,0,1] (.fork 0 (aA [2,1,3,0,1,0,3,5,1] (.leaf [0,6,17,18,19] [0,1,2,3,4,5,8] [2,3,4,5,8])) (.fork 1 (.leaf [4,5] [0,1,2,3,4,5,6] [2,3,4,5,6]) (aA [2,1,1,0,1,0,0,0,0,0,0,0,0,0,0,0,0,0,0] (.leaf [0,6,17,18,19] [0,1,2,3,4,5,6] [2,3,4,5,6]))))) (fun u=>by kernel_rfl) (mN (decide_eq_true (by omega):(decide (0≤i))=true) (mN (show(ao9 (aoO i) b.size)=true by simp at pH h0 h1 h2 h3 h4 h5 h6 h7⊢ <;>omega) (mN n0 (mF (c:=ay (af b) (0+aoO i*1)==10) (fun h0=>(mN (decide_eq_true (by omega):(decide (0≤ad.n S))=true) (mN (show(apf (aoO (ad.n S)) 64)=true by simp at pH h0 h1 h2 h3 h4 h5 h6 h7 h0⊢ <;>omega) (mN (n1 h0) (mN (show(apf (aoM M+1) 1000000)=true by simp at pH h0 h1 h2 h3 h4 h5 h6 h7 h0⊢ <;>omega) (mN (lh _:(full (aoM M) (aoM M))=true) (mN (show(ao6 (0+aoM M*1) (aoM (ao M)))=true by simp) (aL L R H (mN (aH b) (mN (show(aoS (ao M++[apm (apB (apJ (apg (apO (cut (aM S 1 2 3 4) 3 (aoO (ad.n S)-0)) bytesOf) [])))]) ag)=true by simp) (mQ (an.done (by kernel_rfl) (l6 h0))))))))))))) (fun h0=>(mF (c:=ad.n S==64) (fun h1=>(aL L R H (mN (aH b) (mN (aV M) (mR (l8 h0 h1)))))) (fun h1=>(mN (decide_eq_true (by omega):(decide (0≤ad.n S))=true) (mN (show(ao9 (aoO (ad.n S)) 64)=true by simp at pH h0 h1 h2 h3 h4 h5 h6 h7 h0 h1⊢ <;>omega) (mN (show(ao9 (3+aoO (ad.n S)*1) (aoM (aM S 1 2 3 4)))=true by simp at pH h0 h1 h2 h3 h4 h5 h6 h7 h0 h1⊢ <;>omega) (mN (show(ao6 (3+aoO (ad.n S)*1) 0)=false by simp) (mN (show(ao6 (3+aoO (ad.n S)*1) 1)=false by simp at pH h0 h1 h2 h3 h4 h5 h6 h7 h0 h1⊢ <;>omega) (mN (show(ao6 (3+aoO (ad.n S)*1) 2)=false by simp at pH h0 h1 h2 h3 h4 h5 h6 h7 h0 h1⊢ <;>omega) (mN (show(ao6 (3+aoO (ad.n S)*1) 67)=false by simp at pH h0 h1 h2 h3 h4 h5 h6 h7 h0 h1⊢ <;>omega) (mN (show(ao6 (3+aoO (ad.n S)*1) 68)=false by simp at pH h0 h1 h2 h3 h4 h5 h6 h7 h0 h1⊢ <;>omega) (mN (show(ao6 (3+aoO (ad.n S)*1) 69)=false by simp at pH h0 h1 h2 h3 h4 h5 h6 h7 h0 h1⊢ <;>omega) (mN (show(ao6 (3+aoO (ad.n S)*1) 70)=false by simp at pH h0 h1 h2 h3 h4 h5 h6 h7 h0 h1⊢ <;>omega) (mN (show(ao6 (3+aoO (ad.n S)*1) 71)=false by simp at pH h0 h1 h2 h3 h4 h5 h6 h7 h0 h1⊢ <;>omega) (mN (show(ao6 (3+aoO (ad.n S)*1) 72)=false by simp at pH h0 h1 h2 h3 h4 h5 h6 h7 h0 h1⊢ <;>omega) (mN (show(ao6 (3+aoO (ad.n S)*1) 73)=false by simp at pH h0 h1 h2 h3 h4 h5 h6 h7 h0 h1⊢ <;>omega) (mN (show(ao6 (3+aoO (ad.n S)*1) 74)=false by simp at pH h0 h1 h2 h3 h4 h5 h6 h7 h0 h1⊢ <;>omega) (mN (show(ao6 (3+aoO (ad.n S)*1) 75)=false by simp at pH h0 h1 h2 h3 h4 h5 h6 h7 h0 h1⊢ <;>omega) (mN (show(ao6 (3+aoO (ad.n S)*1) 76)=false by simp at pH h0 h1 h2 h3 h4 h5 h6 h7 h0 h1⊢ <;>omega) (mN (show(ao6 (3+aoO (ad.n S)*1) 77)=false by simp at pH h0 h1 h2 h3 h4 h5 h6 h7 h0 h1⊢ <;>omega) (aL L R H (mN (aH b) (mN (aV M) (mQ (an.done (by kernel_rfl) (l9 h0 h1))))))))))))))))))))))))))))))
abbrev Iw:=fun S L R H d b M=>(⟨[(4,ah 6 (aoM M)),(5,aa 0)],yX S L R H d b M⟩:ai)
theorem agL(S L R H d b M){Q:bo}(hq:Q (.ret (.tuple #[ah 6 (aoM M),aa 0])) (Iw S L R H d b M).objs):aJ aoL 46 72 6 Q .ret (Iw S L R H d b M):=aJ.ret (vs:=[ah 6 (aoM M),aa 0]) (l:=[]) (bs:=[0,1,2,3,4,5,6]) (pl:=[2,3,4,5,6]) (q:=[ao L,ap R,aj H,af b,ao M]) (fun u=>by kernel_rfl) (by kernel_rfl) (fY L R H (aF (aH b) (aF (aV M) bi))) hq
abbrev agM:=fun S L R H d b M=>(⟨[(6,ah 6 (aoM M))],yX S L R H d b M⟩:ai)
theorem agN(S L R H d b M)(pH:(aj H).all ag=true){Q:aY}(l5:Q .ret (Iw S L R H d b M)):an aoL 72 6 (Ci.drop 6) (agM S L R H d b M) Q:=
 aZ bt 1000 (.leaf [4,5] [0,1,2,3,4,5,6] [2,3,4,5,6]) (fun u=>by kernel_rfl) (aL L R H (mN (aH b) (mN (aV M) (mR l5))))
end
end Go.Proofs.YtnlkkgpcikkpoaaGreat
