/- Part of the proof: Zql, Zrf, Lvp, Liv, Liw, Zra, Zrp, Zrb, Zse, Zsf, Lru, Lck, Lct, Spw, Dks, Dkt, Dku, Dkv, Zsm, Zsn. -/
import Derived.Test.YtnlkkgpcikkpoaaGreatJAh
import Derived.Shelf.SlIterI.Nil
import Derived.Shelf.SortM.Plain
import Derived.Shelf.SortM.SortNone
import Derived.Test.YtnlkkgpcikkpoaaGreatProg
import Derived.Test.YtnlkkgpcikkpoaaGreatChecked
import Derived.WalkKit
import Derived.Test.YtnlkkgpcikkpoaaGreatJAe
import Derived.Test.YtnlkkgpcikkpoaaGreatJAg
import Derived.KernelRfl
import Derived.Test.YtnlkkgpcikkpoaaGreatJAf
import Derived.Test.YtnlkkgpcikkpoaaGreatJAd
open Array renaming getElem?_eq_some_iff→apQ
open ByteArray renaming empty→aoZ,mk→apB,size→aoT
open Classical renaming propDecidable→apj
open Go renaming Code→apw,DataW→asW,FuncId→apr,Value→aoP,callsIn_wide→asP
open Go.DataW renaming insert→atx
open Go.Fence renaming wide→aqO
open Go.IntKind renaming i64→ao2,wrap→aoN
open Go.Maps renaming size→aue
open Go.Proofs.SlLaysM renaming n5→avs
open Go.Proofs.SlLaysZI renaming n6→avo,n7→avn
open Go.Proofs.Tryz renaming func61→avl,func62→avj,isAgg0→aup,isAgg25→aud,isAgg3→atJ,isAgg4→avk,isAgg97→au9,prog→aoL,prog→apq,sizeOf0→auc,sizeOf25→at2,sizeOf3→atv,sizeOf4→au8,sizeOf97→auU,underlying0→atu,underlying25→arY,underlying3→aqs,underlying4→asE,underlying97→auj,zeroValue0→atD,zeroValue25→atw,zeroValue3→asV,zeroValue4→auD,zeroValue97→aus
open Go.Shelf renaming Ren→aub
open Go.Value renaming agg→aqU,int→aoW,oneCell'→apR
open Go.WideElems renaming rd→avb,rg→asj
open Go.WideShapes renaming sorted_perm→avm
open Int renaming tmod→aqj,toNat→aoO,toNat_natCast→arj
open List renaming all→aoS,drop→aqz,eq_nil_of_length_eq_zero→apL,getElem?_eq_getElem→aoV,getElem?_eq_none→ap3,isEmpty→aqR,isEmpty_iff→aqJ,length→aoM,length_map→aqT,map_map→arN,mem_cons→ao8,mem_cons_of_mem→apc,mem_cons_self→ape,mem_filter→arv,mem_map→aqv,mem_map_of_mem→aqY,mem_singleton→apP,nil_append→aqw,nodup_cons→aqa,pairwise_map→arC,take→apd,take_of_length_le→ap8,toArray→apJ
open List.Nodup renaming not_mem_erase→ava
open List.Sublist renaming map→aur
open Nat renaming beq→ao6,ble→apf,blt→ao9,le_refl→apn,le_trans→arp,zero_add→aqr,zero_le→apN
open Option renaming bind→apO,getD→apg,isSome→arQ
open Option.some renaming injEq→aoU
open Prod renaming fst→aoY,snd→apG
open Prod.mk renaming injEq→aoX
set_option linter.unusedVariables false
set_option linter.unusedSimpArgs false
set_option maxRecDepth 100000
namespace Go.Proofs.YtnlkkgpcikkpoaaGreat
open Go Vm Go.RowKit
structure za(A B:ByteArray)(l:List aK)(sc:List (Int×Int))(C:List Int):Prop where
 az:A.size≤1000
 bz:B.size≤1000
 bW:l.length≤8
 SB:sc.length≤100
 each:∀s∈l,s.bytes.size≤4500
 SC:C.length≤3000
noncomputable def gS(A B:ByteArray)(l:List aK)(sc:List (Int×Int))(C:List Int):Bool:= !@decide (za A B l sc C) (apj _)
theorem uK{A B:ByteArray}{l:List aK}{sc:List (Int×Int)}{C:List Int}(h:¬za A B l sc C):gS A B l sc C=true:=by unfold gS;rw[@decide_eq_false _ (apj _) h];rfl
theorem ajZ{A B:ByteArray}{l:List aK}{sc:List (Int×Int)}{C:List Int}(h:za A B l sc C):gS A B l sc C=false:=by unfold gS;rw[@decide_eq_true _ (apj _) h];rfl
theorem SD{A B:ByteArray}{l:List aK}{sc:List (Int×Int)}{C:List Int}(h:gS A B l sc C=false):za A B l sc C:=by
 by_cases hl:za A B l sc C
 ·exact hl
 ·rw[uK hl]at h;cases h
abbrev mP(A B:ByteArray)(l:List aK)(sc:List (Int×Int))(C:List Int):List ak:=[.cells (af A) 5 true,.cells (af B) 5 true,gL l,.cells (aG sc) 77 true,.cells [.slice (some ⟨5,0,none⟩) C.length C.length] 25 false,.cells (ap C) 3 true]
theorem Jr(kd pn:Int)(A B:ByteArray)(l:List aK)(sc:List (Int×Int))(C:List Int):
 aI aoL 8 [.agg #[.int .i64 kd,.int .i64 pn,.slice (some ⟨0,0,none⟩) A.size A.size,.slice (some ⟨1,0,none⟩) B.size B.size],.slice (some ⟨2,0,none⟩) l.length l.length,.slice (some ⟨3,0,none⟩) sc.length sc.length,.slice (some ⟨4,0,none⟩) 1 1] (mP A B l sc C)
  fun r q=>r=.ret (.bool (gS A B l sc C))∧q=mP A B l sc C:=by
 have pp:=bb sc
 refine aI.cY (n:=cp aoL 8) (by kernel_rfl) ?_
 apply ajQ kd pn A B l sc C
 case l4=>intro g;have g:=of_decide_eq_true g;rw[uK fun h=>by have:=h.az;omega];exact ajL kd pn A B l sc C ⟨rfl,rfl⟩
 case l5=>intro _ g;have g:=of_decide_eq_true g;rw[uK fun h=>by have:=h.bz;omega];exact ajM kd pn A B l sc C ⟨rfl,rfl⟩
 case l6=>intro _ _ g;have g:=of_decide_eq_true g;rw[uK fun h=>by have:=h.bW;omega];exact ajN kd pn A B l sc C ⟨rfl,rfl⟩
 case l7=>intro _ _ _ g;have g:=of_decide_eq_true g;rw[uK fun h=>by have:=h.SB;omega];exact ajO kd pn A B l sc C ⟨rfl,rfl⟩
 case l8=>
  intro ga gb gl gs
  have ga:=of_decide_eq_false ga
  have gb:=of_decide_eq_false gb
  have gl:=of_decide_eq_false gl
  have gs:=of_decide_eq_false gs
  refine an.eO 4 0 (by kernel_rfl) ?_
  refine an.fL (fun i:Nat=>⟨[(1,.slice (some ⟨2,0,none⟩) l.length l.length),(3,.slice (some ⟨4,0,none⟩) 1 1),(9,.int .i64 (i:Nat))],mP A B l sc C⟩) (fun i=>l.length-i) (fun i=>i≤l.length∧∀s∈l.take i,s.bytes.size≤4500) 0 (by kernel_rfl) ⟨apN _,fun s h=>by simp at h⟩ ?_
  rintro i ⟨h1,h2⟩
  apply ajT kd pn A B l sc C i
  case l5=>
   intro g
   have g:=of_decide_eq_false g
   rw[ap8 (by omega)]at h2
   with_reducible (repeat first|refine QL.ret ?_|refine QL.exit ?_|refine QB.ret ?_|refine QB.cx ?_|refine QB.normal ?_|refine QB.cG (by rfl) ?_)
   apply ajY kd pn A B l sc C
   case l4=>intro gc;have gc:=of_decide_eq_true gc;rw[uK fun h=>by have:=h.SC;omega];exact ajW kd pn A B l sc C ⟨rfl,rfl⟩
   case l5=>intro gc;have gc:=of_decide_eq_false gc;rw[ajZ ⟨by omega,by omega,by omega,by omega,h2,by omega⟩];exact ajX kd pn A B l sc C ⟨rfl,rfl⟩
  case l4=>
   intro g
   have g:=of_decide_eq_true g
   have hi:i<l.length:=by omega
   have hs:(apg l[aoO (i:Int)]? dM)=l[i]:=by rw[show aoO (i:Int)=i by simp,aoV hi];rfl
   apply ajV kd pn A B l sc C i hi (by omega)
   case l4=>
    intro gs
    rw[hs]at gs
    have gs:=of_decide_eq_true gs
    rw[uK fun h=>by have:=h.each _ (List.getElem_mem hi);omega]
    with_reducible (repeat first|refine QL.ret ?_|refine QL.exit ?_|refine QB.ret ?_|refine QB.cx ?_|refine QB.normal ?_|refine QB.cG (by rfl) ?_)
    exact ajU kd pn A B l sc C i ⟨rfl,rfl⟩
   case l5=>
    intro gs
    rw[hs]at gs
    have gs:=of_decide_eq_false gs
    refine QL.to (i+1) ⟨by omega,fun s h=>?_⟩ (by omega) ?_
    ·rw[List.take_succ_eq_append_getElem hi]at h
     rcases List.mem_append.1 h with h|h
     ·exact h2 s h
     ·rw[apP.1 h];omega
    ·unfold SA
     rw[bL (z:=(i:Int)+1) (by omega) (by omega)]
     rfl
def sP(f:Bool):ad:=⟨0,false,false,fun _=>0,0,false,f,0,0,0,0,0,false,0,false⟩
def mS(sc:List (Int×Int)):au:=⟨sc,[],0,0,0⟩
def zb(f:Bool)(sc:List (Int×Int)):MS:=⟨sP f,[],[],[],mS sc⟩
theorem SE{sc:List (Int×Int)}(h:sc.length≤1000000):ca (mS sc):=⟨h,by show(0:Nat)≤64;omega,(fun p hp=>by cases hp),List.nodup_nil,(fun p hp=>by cases hp),by show aoN .i64 0=0;decide⟩
theorem SF(f:Bool){sc:List (Int×Int)}(h:sc.length≤1000000):ny 0 (zb f sc):=
 ⟨⟨⟨⟨rfl,rfl,SE h,apN _,rfl,apN _⟩,(fun r hr=>by cases hr),apn _⟩,⟨Int.le_refl _,by show(0:Int)≤64;omega⟩,rfl,rfl,rfl⟩,⟨(fun x hx=>by cases hx),apN _⟩,rfl,rfl,rfl,rfl⟩
structure Fin(x:MS):Prop where
 db:ca x.d
 cl:x.S.closed=false
theorem Fin.fail{x:MS}(h:Fin x)(e:Int):Fin (x.fail e):=⟨h.db,h.cl⟩
theorem Js(S:ad)(L:List ByteArray)(R:List Int)(d:au):(dZ S L R d).2.1.closed=S.closed:=by unfold dZ;split;rfl;split;rfl;rfl
theorem Cv:∀(l:List ByteArray) (s:cJ),(eY l s).2.1.closed=s.1.closed
 | [],s=>rfl
 |x::l,s=>by
  unfold eY
  split
  ·split
   ·exact Js _ _ _ _
   ·exact(Cv l _).trans (Js _ _ _ _)
  ·exact Cv l _
theorem Jt(S:ad)(R:List Int)(H:List aq)(d:au):(dy S R H d).2.1.closed=S.closed:=by unfold dy;split<;>rfl
theorem Ju{S:ad}{R:List Int}{H:List aq}{d:au}(h:ca d):ca (dy S R H d).2.2:=by
 unfold dy
 split
 ·exact h
 ·exact(HS R d h).1
theorem Fin.feed{F:Nat}{x:MS}(h:ny F x)(hf:Fin x)(b:ByteArray):Fin (iV x b).2:=by
 obtain⟨S,L,R,H,d⟩:=x
 obtain⟨⟨hg,hc,hH,KP,cn⟩,eE,gh,dw,sN,Sl⟩:=h
 dsimp only[MS.z]at*
 obtain⟨c1,c2,c3,c4⟩:=y3 b.data.toList S [] hc fun x hx=>by cases hx
 obtain⟨s1,s2,s3,s4,s5,s6,s7,s8,s9,RZ,R1,IW,IX⟩:=wA b.data.toList S []
 unfold iV
 dsimp only
 generalize dS b.data.toList S []=o at*
 obtain⟨e,S1,M⟩:=o
 dsimp only at*
 have pK:Good F (S1,L,R,d):=⟨⟨by rw[show((S1,L,R,d):cJ).1.rn=S1.rn from rfl,s6];exact hg.ok.len,by rw[show((S1,L,R,d):cJ).1.sn=S1.sn from rfl,s8];exact hg.ok.runs,hg.ok.db,hg.ok.made,by rw[show((S1,L,R,d):cJ).1.bN=S1.bN from rfl,s7];exact hg.ok.bN,hg.ok.bW⟩,hg.old,hg.bW⟩
 have h3:=(y0 M F (S1,L,R,d) pK c2).1
 have h4:=Cv M (S1,L,R,d)
 generalize eY M (S1,L,R,d)=o at*
 obtain⟨f,t⟩:=o
 dsimp only at*
 have ft:Fin (jW t H):=⟨h3.db,h4.trans (IW.trans hf.cl)⟩
 split
 ·exact ft.fail _
 split
 ·exact ft.fail _
 ·exact ft
theorem SG(s:cJ):(gB s).2.1.closed=s.1.closed:=by
 unfold gB
 split
 ·rfl
 ·exact Cv _ _
theorem aj0(s:cJ)(H:List aq):(mK s H).2.1.1.closed=s.1.closed:=by
 unfold mK
 split
 ·rfl
 ·generalize e9 s.1.aD s.2.2.1.length s.2.2.1 s.2.2.2=o
  obtain⟨a,R,d⟩:=o
  dsimp only
  generalize eB R [] d=o
  obtain⟨e,l,dd⟩:=o
  dsimp only
  split<;>rfl
theorem aj1(s:cJ)(H:List aq):(jE s H).2.1.1.closed=s.1.closed:=by
 unfold jE
 split
 ·exact SG s
 have h:(mg (gB s).2).1.closed=s.1.closed:=SG s
 unfold uC
 split
 ·exact h
 unfold sJ
 have h2:(im (mg (gB s).2)).2.1.closed=s.1.closed:=by
  unfold im
  split
  ·exact(Js _ _ _ _).trans h
  ·exact h
 split
 ·exact h2
 ·exact(aj0 _ _).trans h2
theorem Fin.ends{F:Nat}{x:MS}(h:ny F x)(hf:Fin x)(hF:F≤800000):Fin (iM x).2:=by
 have hl:=I0 (s:=x.z) (H:=x.H) h.ok.q9 h.ok.cut hF h.ok.jX
 have hc:=aj1 x.z x.H
 unfold iM
 generalize jE x.z x.H=o at*
 obtain⟨e,t,G⟩:=o
 dsimp only at*
 have ft:Fin (jW t G):=⟨hl.db,hc.trans hf.cl⟩
 split
 ·exact ft.fail _
 have h2:=Ju (S:=t.1) (R:=t.2.2.1) (H:=G) ft.db
 have h3:=Jt t.1 t.2.2.1 G t.2.2.2
 have h2:ca (dy t.1 t.2.2.1 G t.2.2.2).2.2:=h2
 generalize dy t.1 t.2.2.1 G t.2.2.2=o at*
 obtain⟨f,U,d3⟩:=o
 dsimp only at*
 have fu:Fin ⟨U,t.2.1,t.2.2.1,G,d3⟩:=⟨h2,h3.trans ft.cl⟩
 split
 ·exact fu.fail _
 ·exact fu
theorem Fin.more{x:MS}(hf:Fin x):Fin (js x).2.2:=by
 unfold js
 split
 ·have h2:ca (dy x.S.pop x.R x.H x.d).2.2:=Ju hf.db
  have h3:(dy x.S.pop x.R x.H x.d).2.1.closed=x.S.closed:=Jt _ _ _ _
  generalize dy x.S.pop x.R x.H x.d=o at*
  obtain⟨f,U,d3⟩:=o
  dsimp only at*
  have fu:Fin ⟨U,x.L,x.R,x.H,d3⟩:=⟨h2,h3.trans hf.cl⟩
  split
  ·exact fu.fail _
  ·exact fu
 ·split
  ·exact hf
  ·rename_i k _
   have h1:=ca.cc hf.db (a8 x.H k)
   generalize cc (a8 x.H k) x.d=o at*
   obtain⟨e,y,dd⟩:=o
   dsimp only at*
   have fy:Fin ⟨x.S,x.L,x.R,x.H.set k y,dd⟩:=⟨h1,hf.cl⟩
   split
   ·exact fy.fail _
   have h2:ca (dy x.S x.R (x.H.set k y) dd).2.2:=Ju h1
   have h3:(dy x.S x.R (x.H.set k y) dd).2.1.closed=x.S.closed:=Jt _ _ _ _
   generalize dy x.S x.R (x.H.set k y) dd=o at*
   obtain⟨f,U,d3⟩:=o
   dsimp only at*
   have fu:Fin ⟨U,x.L,x.R,x.H.set k y,d3⟩:=⟨h2,h3.trans hf.cl⟩
   split
   ·exact fu.fail _
   ·exact fu
theorem Cw(s:aK)(C:List Int)(hs:s.bytes.size≤800000):∀(m k:Nat) (g:DS),kS s k g→Fin g.x→Fin (jF s C m k g).x
 |0,k,g,h,hf=>hf
 |m+1,k,g,h,hf=>by
  unfold jF
  by_cases hc:g.er=0∧g.nd≠-1
  ·rw[if_pos hc]
   unfold oc
   by_cases h2:g.nd= -2
   ·rw[if_pos h2]
    exact Cw s C hs m (k+1) _ (h.uH hc.1 h2) hf.more
   ·rw[if_neg h2]
    obtain⟨F,f1,f2,f3⟩:=h.feed hc.1 hc.2 h2
    by_cases ht:g.t<s.bytes.size
    ·rw[if_pos ht]
     exact Cw s C hs m (k+1) _ (h.sO hc.1 hc.2 h2 ht) (Fin.feed f1 hf _)
    ·rw[if_neg ht]
     by_cases he:s.ended=true∧g.w=false
     ·rw[if_pos he]
      have sQ:=h.t
      exact Cw s C hs m (k+1) _ (h.uI hc.1 hc.2 h2 hs) (Fin.ends f1 hf (by omega))
     ·rw[if_neg he]
      exact hf
  ·rw[if_neg hc]
   exact hf
theorem aj2(f:Bool)(sc:List (Int×Int))(s:aK)(C:List Int)(h:sc.length≤1000000)(hs:s.bytes.size≤4500)(m:Nat):Fin (jF s C m 0 (od (zb f sc))).x:=by
 have hx:=SF f h
 exact Cw s C (by omega) m 0 (od (zb f sc)) ⟨rfl,apN _,apn _,hx.inv,fun _=>.inr (.inr ⟨0,hx,rfl,rfl⟩),by show(0:Int)≤0∧(0:Int)≤320;omega⟩ ⟨SE h,rfl⟩
end Go.Proofs.YtnlkkgpcikkpoaaGreat
namespace Go.Proofs
open Go.Shelf
def Tryz.SH:aub:=⟨fun|7=>37|10=>62|n=>n,fun|23=>78|26=>3|3=>99|28=>97|0=>0|27=>96|33=>124|4=>4|n=>n,fun|n=>n⟩
theorem Tryz.SI:avn aoL Tryz.SH:={
 mixed:=by kernel_rfl
 f7:=⟨Tryz.f37.name,by decide,Tryz.func37.trans (congrArg some (by kernel_rfl))⟩
 f10:=⟨Tryz.f62.name,by decide,avj.trans (congrArg some (by kernel_rfl))⟩
 t0:=atu
 a0:=aup
 z0:=auc
 v0:=atD
 t4:=asE
 a4:=avk
 z4:=au8
 v4:=auD
 t23:=Tryz.underlying78
 a23:=Tryz.isAgg78
 z23:=Tryz.sizeOf78
 v23:=Tryz.zeroValue78
 t26:=aqs
 a26:=atJ
 z26:=atv
 v26:=asV
 t27:=Tryz.underlying96
 a27:=Tryz.isAgg96
 z27:=Tryz.sizeOf96
 v27:=Tryz.zeroValue96
 t28:=auj
 a28:=au9
 z28:=auU
 v28:=aus
 t33:=Tryz.underlying124
 a33:=Tryz.isAgg124
 z33:=Tryz.sizeOf124
 v33:=Tryz.zeroValue124}
def Tryz.SJ:aub:=⟨fun|6=>36|8=>60|9=>61|11=>87|13=>89|12=>88|23=>116|24=>117|14=>107|15=>108|16=>109|17=>110|18=>111|19=>112|20=>113|21=>114|22=>115|25=>128|26=>129|27=>130|28=>131|29=>132|30=>133|31=>138|n=>n,fun|26=>3|28=>97|24=>25|0=>0|3=>3|37=>153|48=>187|50=>189|4=>4|40=>179|39=>178|45=>184|5=>5|9=>9|51=>194|55=>198|57=>201|58=>202|33=>124|n=>n,fun|n=>n⟩
theorem Tryz.aj3:avo aoL Tryz.SJ:={
 mixed:=by kernel_rfl
 f6:=⟨Tryz.f36.name,by decide,Tryz.func36.trans (congrArg some (by kernel_rfl))⟩
 f8:=⟨Tryz.f60.name,by decide,Tryz.func60.trans (congrArg some (by kernel_rfl))⟩
 f11:=⟨Tryz.f87.name,by decide,Tryz.func87.trans (congrArg some (by kernel_rfl))⟩
 t0:=atu
 a0:=aup
 z0:=auc
 v0:=atD
 t24:=arY
 a24:=aud
 z24:=at2
 v24:=atw
 t26:=aqs
 a26:=atJ
 z26:=atv
 v26:=asV
 t28:=auj
 a28:=au9
 z28:=auU
 v28:=aus
 i26:=by kernel_rfl}
def Tryz.aj4:aub:=⟨fun|5=>61|8=>89|7=>88|19=>116|20=>117|10=>107|11=>108|12=>109|13=>110|14=>111|15=>112|16=>113|17=>114|18=>115|30=>128|31=>129|32=>130|33=>131|34=>132|35=>133|40=>138|n=>n,fun|23=>25|25=>3|3=>3|32=>153|22=>25|0=>0|44=>187|46=>189|4=>4|36=>179|35=>178|41=>184|5=>5|9=>9|53=>194|57=>198|63=>201|64=>202|n=>n,fun|n=>n⟩
theorem Tryz.SK:avs aoL Tryz.aj4:={
 mixed:=by kernel_rfl
 f5:=⟨Tryz.f61.name,by decide,avl.trans (congrArg some (by kernel_rfl))⟩
 f7:=⟨Tryz.f88.name,by decide,Tryz.func88.trans (congrArg some (by kernel_rfl))⟩
 f8:=Tryz.func89.trans (congrArg some (by kernel_rfl))
 f10:=⟨Tryz.f107.name,by decide,Tryz.func107.trans (congrArg some (by kernel_rfl))⟩
 f11:=⟨Tryz.f108.name,by decide,Tryz.func108.trans (congrArg some (by kernel_rfl))⟩
 f12:=⟨Tryz.f109.name,by decide,Tryz.func109.trans (congrArg some (by kernel_rfl))⟩
 f13:=⟨Tryz.f110.name,by decide,Tryz.func110.trans (congrArg some (by kernel_rfl))⟩
 f14:=⟨Tryz.f111.name,by decide,Tryz.func111.trans (congrArg some (by kernel_rfl))⟩
 f15:=⟨Tryz.f112.name,by decide,Tryz.func112.trans (congrArg some (by kernel_rfl))⟩
 f16:=⟨Tryz.f113.name,by decide,Tryz.func113.trans (congrArg some (by kernel_rfl))⟩
 f17:=⟨Tryz.f114.name,by decide,Tryz.func114.trans (congrArg some (by kernel_rfl))⟩
 f18:=⟨Tryz.f115.name,by decide,Tryz.func115.trans (congrArg some (by kernel_rfl))⟩
 f19:=Tryz.func116.trans (congrArg some (by kernel_rfl))
 f20:=Tryz.func117.trans (congrArg some (by kernel_rfl))
 f30:=⟨Tryz.f128.name,by decide,Tryz.func128.trans (congrArg some (by kernel_rfl))⟩
 f31:=Tryz.func129.trans (congrArg some (by kernel_rfl))
 f32:=Tryz.func130.trans (congrArg some (by kernel_rfl))
 f33:=⟨Tryz.f131.name,by decide,Tryz.func131.trans (congrArg some (by kernel_rfl))⟩
 f34:=⟨Tryz.f132.name,by decide,Tryz.func132.trans (congrArg some (by kernel_rfl))⟩
 f35:=⟨Tryz.f133.name,by decide,Tryz.func133.trans (congrArg some (by kernel_rfl))⟩
 f40:=⟨Tryz.f138.name,by decide,Tryz.func138.trans (congrArg some (by kernel_rfl))⟩
 t0:=atu
 a0:=aup
 z0:=auc
 v0:=atD
 t3:=aqs
 a3:=atJ
 z3:=atv
 v3:=asV
 t4:=asE
 a4:=avk
 z4:=au8
 v4:=auD
 t5:=Tryz.underlying5
 a5:=Tryz.isAgg5
 z5:=Tryz.sizeOf5
 v5:=Tryz.zeroValue5
 t9:=Tryz.underlying9
 a9:=Tryz.isAgg9
 z9:=Tryz.sizeOf9
 v9:=Tryz.zeroValue9
 t22:=arY
 a22:=aud
 z22:=at2
 v22:=atw
 t23:=arY
 a23:=aud
 z23:=at2
 v23:=atw
 t25:=aqs
 a25:=atJ
 z25:=atv
 v25:=asV
 t32:=Tryz.underlying153
 a32:=Tryz.isAgg153
 z32:=Tryz.sizeOf153
 v32:=Tryz.zeroValue153
 t35:=Tryz.underlying178
 a35:=Tryz.isAgg178
 z35:=Tryz.sizeOf178
 v35:=Tryz.zeroValue178
 t36:=Tryz.underlying179
 a36:=Tryz.isAgg179
 z36:=Tryz.sizeOf179
 v36:=Tryz.zeroValue179
 t41:=Tryz.underlying184
 a41:=Tryz.isAgg184
 z41:=Tryz.sizeOf184
 v41:=Tryz.zeroValue184
 t44:=Tryz.underlying187
 a44:=Tryz.isAgg187
 z44:=Tryz.sizeOf187
 v44:=Tryz.zeroValue187
 t46:=Tryz.underlying189
 a46:=Tryz.isAgg189
 z46:=Tryz.sizeOf189
 v46:=Tryz.zeroValue189
 t53:=Tryz.underlying194
 a53:=Tryz.isAgg194
 z53:=Tryz.sizeOf194
 v53:=Tryz.zeroValue194
 t57:=Tryz.underlying198
 a57:=Tryz.isAgg198
 z57:=Tryz.sizeOf198
 v57:=Tryz.zeroValue198
 t63:=Tryz.underlying201
 a63:=Tryz.isAgg201
 z63:=Tryz.sizeOf201
 v63:=Tryz.zeroValue201
 t64:=Tryz.underlying202
 a64:=Tryz.isAgg202
 z64:=Tryz.sizeOf202
 v64:=Tryz.zeroValue202}
end Go.Proofs
namespace Go.Proofs.YtnlkkgpcikkpoaaGreat
open Go.RowKit Go.Maps Go.Sort Go.Shelf
theorem aj5(m:Nat):AnyZI.SortsIn aoL Tryz.SJ aqO m:=
 ⟨fun aN off cap ss W hH wD cd=>asP.2 (AnyM.slices_Sort_int Tryz.SK aN off cap ss W hH wD cd),
  fun p cap W=>asP.2 (AnyM.slices_Sort_int_none Tryz.SK p cap W)⟩
set_option maxHeartbeats 1000000 in
theorem aj6{H:Type}(pb sh b nn:Nat)(D0:asW H)(R:aoP→Option (asW H×List MemPlace))(w:World)(pt:w.cell? ⟨pb,sh+1,none⟩=some (.map (some b)))(Cy:w.ownsMap aoL 3 R b nn D0)(DM:aue D0≤maxLen)(Cz:aue D0*8≤140737488355328):
 Calls aoL 15 #[.pointer (some ⟨pb,sh,none⟩)] w fun e w'=>∃(v:aoP) (ss:List Int),e=.returned v∧ss.Perm (intKeys D0)∧
  w'.ownsRow w.heap.size 3 1 v ss.length ((ss.mergeSort (fun x y=>decide (x≤y))).map encZ)∧(v=.slice none 0 0↔ss=[])∧Below w.heap.size w w':=by
 refine(asP (n:=6)).1 ?_
 have lK:=Cy.lt
 have aj7:SeqGives aqO 2 aoL 62 #[.pointer (some ⟨w.heap.size,0,none⟩)] encZ (fun ss=>ss.Perm (intKeys D0)) (aue D0) (w.alloc (.cells #[.map (some b)] 78)):=
  AnyZI.keys_gives (ρ:=Tryz.SH) {Tryz.SI with} aqO _ trivial rfl (by omega) w.heap.size b nn D0 _ (by simp) (by simp) (by
   obtain⟨es,clock,hb,Ft,hs,hD⟩:=Cy
   exact⟨es,clock,(Below.heap_alloc _ _ b lK).trans hb,Ft,hs,hD⟩)
 have cK:∀mb W,CallsIn aqO 5 aoL 37 #[.map mb] W fun e w'=>e=.returned (.func (.func 62) #[] #[.pointer (some ⟨W.heap.size,0,none⟩)])∧w'=W.alloc (.cells #[.map mb] 78):=fun mb W=>AnyZI.keys_in Tryz.SI aqO 5 trivial rfl mb W
 have cS:=AnyZI.sorted_in Tryz.aj3 aqO 5 trivial trivial trivial trivial rfl (by omega) (aj5 _) (enters_of avl (by kernel_rfl) rfl) 62 #[.pointer (some ⟨w.heap.size,0,none⟩)] trivial (enters_of avj (by kernel_rfl) rfl) _ _ DM Cz _ aj7
 change CallsIn _ _ aoL 36 _ _ _ at cS
 have aod:aqO.fn 37:=trivial
 have aoe:aqO.fn 36:=trivial
 refine callsIn_of_wp Tryz.func15 rfl trivial ?_ rfl
 simp only[Tryz.ntmps15,List.size_toArray,List.length_cons,List.length_nil,Nat.reduceAdd,Nat.reduceSub,Array.replicate_succ,Array.replicate_zero,List.push_toArray,List.append_toArray,aqw,List.cons_append]
 gi_wp2_with (first
  |(gi_at_call 37;refine(cK _ _).mono ?_;rintro e w' ⟨rfl,rfl⟩)
  |(gi_at_call 36;refine cS.mono ?_;rintro e w' ⟨v,ss,rfl,hS,kP,qk,hb⟩))
 go_ret
 exact⟨v,ss,rfl,hS,ownsRow_base_a kP (by simp),qk,((Below.refl _ w).alloc (apn _) _).trans (hb.mono (by simp))⟩
end Go.Proofs.YtnlkkgpcikkpoaaGreat
namespace Go.Proofs.YtnlkkgpcikkpoaaGreat
open Go Vm Go.RowKit Go.Maps Go.ChangeMaps Go.MapKept
def fU(d:au):List Int:=(d.files.map fun p=>(p.1:Int)).mergeSort fun x y=>decide (x≤y)
theorem zc(d:au):(fU d).length=d.files.length:=by unfold fU;rw[List.length_mergeSort,aqT]
def CA(d:au):bO×List ak:=if d.files=[]then(.ret (.slice none 0 0),[.abs d])else(.ret (.slice (some ⟨1,0,none⟩) d.files.length d.files.length),[.abs d,.cells (ap (fU d)) 3 false])
def ra:aoP→Option (asW Unit×List MemPlace):=fun _=>some (.lit (.bool true),[])
theorem SL{l:List (Nat×ByteArray)}{es:List MapEntry}{L:List (Nat×CO)}(h:fw l es L):es.map (·.key)=l.map (fun p=>aoW .i64 p.1)∧es.map (·.born)=l.map (fun p=>p.1-1)∧∀p∈l,1≤p.1:=by
 induction h with
 |nil=>exact⟨rfl,rfl,fun p hp=>by cases hp⟩
 |cons p k sh l es L L' hf ht hp ih=>
  refine⟨by simp[ih.1],by simp[ih.2.1],fun q hq=>?_⟩
  rcases ao8.1 hq with rfl|hq
  ·exact hp
  ·exact ih.2.2 q hq
theorem aj8{l:List (Nat×ByteArray)}{es:List MapEntry}{L:List (Nat×CO)}{made:Nat}(h:fw l es L)(hk:∀p∈l,p.1≤made)(hn:(l.map (·.1)).Nodup):Stamped es.toArray made:=by
 obtain⟨h1,h2,h3⟩:=SL h
 refine⟨fun x hx=>?_,?_,?_⟩
 ·have:x.born∈l.map (fun p=>p.1-1):=by rw[←h2];exact aqY hx
  obtain⟨p,hp,e⟩:=aqv.1 this
  have:=hk p hp
  have:=h3 p hp
  omega
 ·show(es.map (·.born)).Nodup
  rw[h2]
  refine arC.2 ?_
  have:=arC.1 hn
  exact this.imp_of_mem fun{p q} hp hq bu e=>bu (by have:=h3 p hp;have:=h3 q hq;omega)
 ·show(es.map (·.key)).Nodup
  rw[h1]
  refine arC.2 ((arC.1 hn).imp fun{p q} bu e=>bu ?_)
  injection e with _ e
  omega
theorem CB:∀(N:Nat) (l:List Nat),l.Nodup→(∀x∈l,x≤N)→l.length≤N+1
 |0,l,hn,h=>by
  match l,hn,h with
  | [],_,_=>exact apN _
  | [a],_,_=>exact apn _
  |a::b::r,hn,h=>
   have h1:=h a (by simp)
   have h2:=h b (by simp)
   have:a≠b:=fun e=>(aqa.1 hn).1 (by rw[e];simp)
   omega
 |N+1,l,hn,h=>by
  by_cases hm:N+1∈l
  ·have:=CB N (l.erase (N+1)) (hn.erase _) fun x hx=>by
    have h1:=h x (List.mem_of_mem_erase hx)
    have h2:x≠N+1:=fun e=>(ava hn) (e▸hx)
    omega
   rw[List.length_erase_of_mem hm]at this
   omega
  ·have:=CB N l hn fun x hx=>by
    have h1:=h x hx
    have h2:x≠N+1:=fun e=>hm (e▸hx)
    omega
   omega
theorem Vm.aj9{O:List ak}{o:ak}(hl:O.length<262144):cT (cw O) O.length o=cw (O++[o]):=by
 have tQ:small O.length=true:=gT.2 (by have:(2:Nat)^18=262144:=rfl;omega)
 funext x
 by_cases hx:x=O.length
 ·subst hx
  rw[fh,cD tQ]
  simp
 ·rw[ec _ hx]
  cases hs:small x with
  |false=>rw[ie hs,ie hs]
  |true=>
   rw[cD hs,cD hs]
   by_cases hl:x<O.length
   ·rw[List.getElem?_append_left hl]
   ·rw[ap3 (by omega),ap3 (by simp;omega)]
theorem Vm.aka{O:List ak}(hl:O.length<262144):cw O O.length=none:=by
 rw[cD (gT.2 (by have:(2:Nat)^18=262144:=rfl;omega))];simp
theorem Vm.akb{ρ:Vm.Ren}(h:Full ρ){x:Nat}(hx:small x=true)(r:Vm.bT):Full (ρ.put x r):=fun q=>by
 obtain⟨y,h1,h2⟩:=h q
 refine⟨y,h1,?_⟩
 rw[Ren.qj _ _ (by rintro rfl;rw[hx]at h1;cases h1)]
 exact h2
theorem Vm.WR.under{P:Program}{B:Nat→Prop}{w₀ w w':World}{ρ:Vm.Ren}{g:Nat→Option ak}(h:WR P B w₀ ρ g w)(hb:Below w.heap.size w w'):WR P B w₀ ρ g w' where
 env:=h.env
 below:=h.below.trans ⟨hb.os,hb.tape,hb.output,hb.size,fun k hk=>hb.block k (h.size k hk)⟩
 size:=fun k hk=>Nat.lt_of_lt_of_le (h.size k hk) hb.size
 live:=fun x o r hx hr hl=>by
  obtain⟨o',h1,h2⟩:=h.live x o r hx hr hl
  exact⟨o',(hb.block _ (apQ.1 h1).1).trans h1,h2⟩
 inj:=h.inj
 fresh:=h.fresh
 rows:=h.rows
 nil:=h.nil
 named:=h.named
 abs:=h.abs.next (fun x d hx=>⟨hx,rfl⟩) (fun k k1 a b=>⟨hb.block k k1,a,b⟩) hb.size
theorem Vm.WR.akc{B:Nat→Prop}{w₀ w w':World}{ρ:Vm.Ren}{O:List ak}(h:WR aoL B w₀ ρ (cw O) w)(hl:O.length<262144)(hb:Below w.heap.size w w'){g n:Nat}{wE:Array aoP}{ss:List Int}(hg:w.heap.size≤g)(hc:w'.heap[g]?=some (.cells wE 3 (0,0)))(hn:wE.toList.take n=ap ss)(hs:ss.length=n)(cd:n≤wE.size):
 WR aoL B w₀ (ρ.put O.length ⟨g,0,1,wE.size⟩) (cw (O++[.cells (ap ss) 3 false])) w':=by
 rw[←aj9 hl]
 refine h.put (aka hl) (fun y hy=>.inl (ec _ hy)) (fh _ _ _) ⟨hb.os,hb.tape,hb.output,hb.size,fun k hk=>hb.block k (h.size k hk)⟩ hb.size (fun y oy ry _ _ h1 h2 h3=>?_) (fun _=>⟨_,hc,?_,fun _ hB=>?_⟩) (fun _ y oy ry _ _ h1 h2 h3 _ e'=>?_) (fun k hk _ _=>⟨hb.block k hk,fun _ e=>?_⟩) (fun d e=>by cases e) (fun m sz row e'=>by cases e') (fun el ro e' k hk=>?_)
 ·obtain⟨o',q1,_,_⟩:=h.live y oy ry h1 h2 h3
  exact hb.block _ (apQ.1 q1).1
 ·refine .cells _ 3 3 false _ _ rfl (by dsimp only;rw[AV];omega) (fun _=>rfl) (fun n hn=>by rw[show b7 aoL 3=some 1 by kernel_rfl]at hn;cases hn;rfl) (fun _=>.inl rfl) fun i v hv=>?_
  refine⟨v,?_,?_⟩
  ·dsimp only
   rw[aqr]
   rw[←hn,List.getElem?_take]at hv
   split at hv
   ·simpa using hv
   ·cases hv
  ·refine .bM _ ?_
   exact List.all_eq_true.1 (aQ ss) v (List.mem_of_getElem? hv)
 ·have:=h.size _ hB
  dsimp only at this
  omega
 ·obtain⟨o',q1,_,_⟩:=h.live y oy ry h1 h2 h3
  have:=(apQ.1 q1).1
  rw[e']at this
  dsimp only at this
  omega
 ·dsimp only at e
  omega
 ·simp only[ak.cells.injEq]at e'
  rw[←e'.2.1,show b7 aoL 3=some 1 by kernel_rfl]at hk
  cases hk
  rfl
theorem akd(d:au)(hd:ca d):aI aoL 15 [.pointer (some ⟨0,0,none⟩)] [.abs d] fun r o=>r=(CA d).1∧o=(CA d).2:=by
 intro B w₀ ρ w args' gI AG gZ hw
 obtain⟨v1,l1,e1,h1,t1⟩:=gZ.gG
 have e2:=t1.kx
 obtain⟨q,hq,hv⟩:=VR.ky h1
 have ea:args'= #[v1]:=by rw[←Array.toArray_toList (xs:=args'),e1,e2]
 subst ea hv
 obtain⟨F,a1,a2,a3⟩:=hw.abs
 obtain⟨r,S,hr,⟨L,iW,hL⟩,hS⟩:=a1 0 d rfl
 rw[hq]at hr
 cases hr
 obtain⟨eL,v,m,es,L1,L2,kP,jP,dg⟩:=iW
 have c0:eK w q.aN (.cells [v,.map (some m),.int .i64 d.made,.int .i64 d.calls,.int .i64 d.raw] 80 q.sh q.dz):=hL.at_ (q.aN,_) (by rw[dg];exact ape)
 have c1:eK w m (.map es d.made):=hL.at_ (m,_) (by rw[dg];exact apc _ ape)
 obtain⟨c',fr,b1,b2,b3,b4,b5⟩:=c0
 have pt:w.cell? ⟨q.aN,q.sh+0+1,none⟩=some (.map (some m)):=by
  unfold World.cell?
  simp only[b1]
  exact b5 1 _ rfl
 obtain⟨f1,f2,f3⟩:=SL jP
 have SM:es.length=d.files.length:=aaa jP
 have jb:d.files.length≤65:=by
  have:=CB 64 (d.files.map (·.1)) hd.fH fun x hx=>by
   obtain⟨p,hp,rfl⟩:=aqv.1 hx
   exact arp (hd.keys p hp) hd.made
  rwa[aqT]at this
 have rF:∀x∈es,∃p∈d.files,x.key=aoW .i64 p.1:=fun x hx=>by
  have:x.key∈d.files.map (fun p=>aoW .i64 p.1):=by rw[←f1];exact aqY hx
  obtain⟨p,hp,e⟩:=aqv.1 this
  exact⟨p,hp,e.symm⟩
 have fX:∀x∈es,∃p∈d.files,x.key=aoW .i64 p.1∧avb aoL 3 ra x=some (.int .i64 p.1,.lit (.bool true)):=fun x hx=>by
  obtain⟨p,hp,e⟩:=rF x hx
  refine⟨p,hp,e,?_⟩
  have Cp:=arp (hd.keys p hp) hd.made
  have sF:(Lit.int .i64 (p.1:Int)).wf=true:=by
   have a:ao2.min= -9223372036854775808:=by decide
   have b:ao2.max=9223372036854775807:=by decide
   show(decide (ao2.min≤(p.1:Int))&&decide ((p.1:Int)≤ao2.max))=true
   rw[a,b,Bool.and_eq_true]
   exact⟨decide_eq_true (by omega),decide_eq_true (by omega)⟩
  unfold avb keyOf mapKey
  rw[e,aqs]
  simp[sF,ra]
 have Cy:w.ownsMap aoL 3 ra m es.toArray.size (.map ((es.toArray.toList.map (asj aoL 3 ra)).foldr atx [])):=by
  refine⟨es.toArray,d.made,c1,⟨?_,aj8 jP hd.keys hd.fH,?_⟩,apn _,rfl⟩
  ·have:es.toArray.size=d.files.length:=by simpa using SM
   unfold maxLen
   omega
  ·intro x hx
   obtain⟨p,_,_,h⟩:=fX x (by simpa using hx)
   exact⟨_,h⟩
 have uL:aue (.map ((es.toArray.toList.map (asj aoL 3 ra)).foldr atx []):asW Unit)=d.files.length:=by
  show(List.foldr atx [] _).length=_
  rw[length_sorted,aqT]
  simpa using SM
 have zd:(intKeys (.map ((es.toArray.toList.map (asj aoL 3 ra)).foldr atx []):asW Unit)).Perm (d.files.map fun p=>(p.1:Int)):=by
  refine((avm _).map _).trans ?_
  rw[arN]
  have:es.toArray.toList.map ((fun p=>Go.intOf p.1)∘asj aoL 3 ra)=d.files.map fun p=>(p.1:Int):=by
   have e3:d.files.map (fun p=>(p.1:Int))=(es.map (·.key)).map (fun v=>match v with| .int _ x=>x|_=>0):=by
    rw[f1,arN];rfl
   rw[e3,arN]
   show es.map _=_
   refine List.map_congr_left fun x hx=>?_
   obtain⟨p,_,k1,k2⟩:=fX x hx
   show Go.intOf (asj aoL 3 ra x).1=_
   unfold asj
   rw[k2]
   simp only[Function.comp,k1]
   rfl
  rw[this]
 refine(aj6 q.aN (q.sh+0) m _ _ ra w pt Cy (by rw[uL];unfold maxLen;omega) (by rw[uL];omega)).mono ?_
 rintro e w' ⟨v2,ss,rfl,ake,akf,akg,hb⟩
 have SN:=ake.trans zd
 have hlen:=SN.length_eq
 rw[aqT]at hlen
 have akh:ss.mergeSort (fun x y=>decide (x≤y))=fU d:=mergeSort_of_perm_i SN
 unfold CA
 by_cases h0:d.files=[]
 ·have:ss=[]:=apL (by rw[hlen,h0];rfl)
  have aki:=akg.2 this
  subst aki
  rw[if_pos h0]
  exact⟨_,_,ρ,⟨rfl,rfl⟩,VR.bM _ rfl,gI,hw.under hb,by simp,fun _ _=>rfl⟩
 ·rw[if_neg h0]
  have bu:ss≠[]:=fun e=>h0 (apL (by rw[←hlen,e];rfl))
  obtain⟨r1,⟨r2,r3⟩|⟨g,cap,wE,rfl,r3,r4,r5,r6,r7,r8⟩⟩:=akf
  ·exact absurd (apL r3) bu
  rw[akh]at r8
  have dK:=hw.akc (ss:=fU d) (n:=ss.length) (by simp) hb r3 r4 (by rw[←Nat.mul_one ss.length,r8];rfl) (by rw[zc,hlen]) (by omega)
  refine⟨_,_,_,⟨rfl,rfl⟩,?_,akb gI (by rfl) _,dK,by simp,fun x hx=>?_⟩
  ·rw[hlen]
   have:=VR.sl (ρ:=ρ.put 1 ⟨g,0,1,wE.size⟩) 1 0 d.files.length d.files.length cap _ (Ren.kC _ _ _) (.inr ⟨by omega,by dsimp only;omega⟩)
   show VR _ _ _
   simpa using this
  ·have hx:x<1:=hx
   exact Ren.qj _ _ (by show x≠1;omega)
noncomputable def ze:Sum:=⟨kN aoL,fun a o=>match a,o with
 | [.pointer (some ⟨0,0,none⟩)],[.abs d]=>.tL (lQ d) (.ask d.files.isEmpty fun b=>match b with
  |true=>.done (.ret (.slice none 0 0),[.abs d])
  |false=>.done (.ret (.slice (some ⟨1,0,none⟩) d.files.length d.files.length),[.abs d,.cells (ap (fU d)) 3 false]))
 |_,_=>.fail⟩
theorem Jv:bB aoL 15 ze:=by
 intro a o r o' hg
 unfold ze at hg
 dsimp only at hg
 split at hg
 ·rename_i d
  obtain⟨h1,hg⟩:=QT.vz hg
  have hg:(match d.files.isEmpty with|true=>_|false=>_:QT (bO×List ak)).run=some (r,o'):=hg
  refine(akd d (nl.1 h1)).mono fun r1 o1 h=>?_
  obtain⟨rfl,rfl⟩:=h
  unfold CA
  cases hk:d.files.isEmpty with
  |true=>
   rw[hk]at hg
   cases hg
   rw[if_pos (aqJ.1 hk)]
   exact⟨rfl,rfl⟩
  |false=>
   rw[hk]at hg
   cases hg
   rw[if_neg (fun e=>by rw[e]at hk;cases hk)]
   exact⟨rfl,rfl⟩
 ·cases hg
end Go.Proofs.YtnlkkgpcikkpoaaGreat
namespace Go.Proofs.YtnlkkgpcikkpoaaGreat
open Go Vm Go.RowKit
noncomputable section
noncomputable def akj:List (apr×Sum):=[(15,ze)]
theorem akk:dk aoL (dB aoL (dE akj) 50 40):=dI de mixed (dR (.cons Jv .nil)) 50 40
noncomputable def wF:List apw:=bd (dC aoL 25)
open Tree renaming aW→mN,dn→mF,eS→mL,fA→mQ,dD→mR,fK→mE
noncomputable abbrev CC:List apw:=(bd (inner (bd (inner (wF.drop 7)))))
def SO:Nat→Bool→Bool→Tree→Tree
 |0,_,_,t=>t
 |n+1,d,b,t=>.cM d b (SO n d b t)
theorem SP{R:bj→ai→Prop}{c v:Bool}{t:Tree}(n:Nat)(h1:c=v)(h2:t.ok R):(SO n c v t).ok R:=by
 induction n with
 |zero=>exact h2
 |succ n ih=>exact⟨h1,ih⟩
abbrev uM:=fun S L R H d=>([ab (aM S 1 2 3 4) 89,.abs d,ab (ao L) 9,ab (ap R) 3,ab (aj H) 114]:List ak)
abbrev Jw:=fun S L R H d=>(⟨[(2,aa 0)],uM S L R H d⟩:ai)
theorem akl(S L R H d){Q:bo}(hq:Q (.ret (aa 0)) (Jw S L R H d).objs):aJ aoL 25 47 5 Q .ret (Jw S L R H d):=aJ.ret (vs:=[aa 0]) (l:=[]) (bs:=[0,1,2,3,4]) (pl:=[2,3,4]) (q:=[ao L,ap R,aj H]) (fun u=>by kernel_rfl) (by kernel_rfl) (fY L R H bi) hq
abbrev SQ:=fun S L R H d=>(⟨[(0,al 0)],uM S L R H d⟩:ai)
theorem akm(S:ad)(L R H d)(pH:(aj H).all ag=true)(h0:S.closed=true){Q:aY}(aX:aoS (ao L) ag=true)(bh:aoS (ap R) ag=true)(bD:aoS (aj H) ag=true)(l3:Q .ret (Jw S L R H d)):an aoL 47 5 wF (SQ S L R H d) Q:=
 aZ bt 1000 (aA [13] (.leaf [2] [0,1,2,3,4] [2,3,4])) (fun u=>by kernel_rfl) (mN (show(ad.closed S)=true by assumption) (aL L R H (mR l3)))
abbrev SS:=fun S L R H d=>(⟨[(0,al 0),(3,aa 0),(26,cm),(27,aa 0),(28,aa 0)],[ab (aM (ad.mk (ad.at_ S) (ad.more S) true (ad.B S) (ad.n S) (ad.failed S) (ad.aD S) (ad.ro S) (ad.rn S) (ad.bN S) (ad.sn S) (ad.hn S) (ad.dX S) (ad.raw S) true) 1 2 3 4) 89,.abs d,ab (ao L) 9,ab (ap R) 3,ab (aj H) 114]⟩:ai)
abbrev Jx:=fun S L R H d=>(⟨[(0,al 0),(3,aa 0),(26,ah 5 (aoM (au.files d))),(27,aa (aoM (au.files d))),(28,aa 0)],[ab (aM (ad.mk (ad.at_ S) (ad.more S) true (ad.B S) (ad.n S) (ad.failed S) (ad.aD S) (ad.ro S) (ad.rn S) (ad.bN S) (ad.sn S) (ad.hn S) (ad.dX S) (ad.raw S) true) 1 2 3 4) 89,.abs d,ab (ao L) 9,ab (ap R) 3,ab (aj H) 114,ab (ap (fU d)) 3]⟩:ai)
theorem akn(S:ad)(L R H d)(pH:(aj H).all ag=true)(h0:S.closed=false){Q:aY}(n0:(lQ d)=true)(aX:aoS (ao L) ag=true)(bh:aoS (ap R) ag=true)(bD:aoS (aj H) ag=true)(l4:(aqR (au.files d))=true→an aoL 47 5 (wF.drop 7) (SS S L R H d) Q)(l5:(aqR (au.files d))=false→an aoL 47 5 (wF.drop 7) (Jx S L R H d) Q):an aoL 47 5 wF (SQ S L R H d) Q:=
 aZ akk 7 (aA [12,11] (.fork 0 (.leaf [0,3,26,27,28] [0,1,2,3,4] [2,3,4]) (aA [1] (.leaf [0,3,26,27,28] [0,1,2,3,4,5] [2,3,4,5])))) (fun u=>by kernel_rfl) (mN (show(ad.closed S)=false by assumption) (mN n0 (mF (c:=aqR (au.files d)) (fun h0=>(aL L R H (mQ (l4 h0)))) (fun h0=>(mN (aQ (fU d)) (aL L R H (mN (aQ (fU d)) (mQ (l5 h0)))))))))
abbrev ako:=fun S L R H d (f:Int)=>(⟨[(3,aa f)],uM S L R H d⟩:ai)
abbrev akp:=fun S L R H d (f:Int)=>(⟨[(0,al 0),(3,aa f),(26,cm),(27,aa 0),(28,aa 0)],uM S L R H d⟩:ai)
theorem akq(S L R H d)(f:Int)(pH:(aj H).all ag=true){Q:aY}(l3:Q (.exit 0) (ako S L R H d f)):an aoL 47 5 CC (akp S L R H d f) Q:=
 aZ bt 2 (.leaf [3] [0,1,2,3,4] [2,3,4]) (fun u=>by kernel_rfl) (aL L R H (mE 0 l3))
abbrev akr:=fun S L R H d l (f i:Int)=>(⟨[(0,al 0),(3,aa f),(26,ah 5 (aoM l)),(27,aa (aoM l)),(28,aa i)],[ab (aM S 1 2 3 4) 89,.abs d,ab (ao L) 9,ab (ap R) 3,ab (aj H) 114,ab (ap l) 3]⟩:ai)
abbrev aks:=fun S L R H d (l:List Int) (f i:Int)=>(⟨[(3,aa f)],uM S L R H d⟩:ai)
abbrev SU:=fun S L R H d l (f i:Int)=>(⟨[(0,al 0),(3,aa f),(26,ah 5 (aoM l)),(27,aa (aoM l)),(28,aa i)],[ab (aM S 1 2 3 4) 89,.abs d,ab (ao L) 9,ab (ap R) 3,ab (aj H) 114,ab (ap l) 3]⟩:ai)
theorem akt(S L R H d l)(f i:Int)(pH:(aj H).all ag=true){Q:aY}(l4:(decide (i<(↑(aoM l):Int)))=true→an aoL 47 5 (CC.drop 2) (akr S L R H d l f i) Q)(l5:(decide (i<(↑(aoM l):Int)))=false→Q (.exit 0) (aks S L R H d l f i)):an aoL 47 5 CC (SU S L R H d l f i) Q:=
 aZ bt 2 (.fork 0 (.leaf [0,3,26,27,28] [0,1,2,3,4,5] [2,3,4,5]) (.leaf [3] [0,1,2,3,4] [2,3,4])) (fun u=>by kernel_rfl) (mF (c:=decide (i<(↑(aoM l):Int))) (fun h0=>(aL L R H (mN (aQ l) (mQ (l4 h0))))) (fun h0=>(aL L R H (mE 0 (l5 h0)))))
abbrev SW:=fun S L R H d l (f i:Int)=>(⟨[(0,al 0),(3,aa (aoY (cF d (ay (ap l) (0+aoO i*1))))),(26,ah 5 (aoM l)),(27,aa (aoM l)),(28,.int .i64 (aoN .i64 (i+1)))],[ab (aM S 1 2 3 4) 89,.abs (apG (cF d (ay (ap l) (0+aoO i*1)))),ab (ao L) 9,ab (ap R) 3,ab (aj H) 114,ab (ap l) 3]⟩:ai)
abbrev SX:=fun S L R H d l (f i:Int)=>(⟨[(0,al 0),(3,aa f),(26,ah 5 (aoM l)),(27,aa (aoM l)),(28,.int .i64 (aoN .i64 (i+1)))],[ab (aM S 1 2 3 4) 89,.abs (apG (cF d (ay (ap l) (0+aoO i*1)))),ab (ao L) 9,ab (ap R) 3,ab (aj H) 114,ab (ap l) 3]⟩:ai)
abbrev SY:=fun S L R H d l (f i:Int)=>(⟨[(0,al 0),(3,aa f),(26,ah 5 (aoM l)),(27,aa (aoM l)),(28,.int .i64 (aoN .i64 (i+1)))],[ab (aM S 1 2 3 4) 89,.abs (apG (cF d (ay (ap l) (0+aoO i*1)))),ab (ao L) 9,ab (ap R) 3,ab (aj H) 114,ab (ap l) 3]⟩:ai)
theorem aku(S L R H d l)(f i:Int)(pH:(aj H).all ag=true)(h0:0≤i)(h1:i<(aoM l))(h2:(aoM l)≤1000000)(h3:aoN .i64 (i+1)=i+1){Q:aY}(n0:(cH ao2 (ap l) (0+aoO i*1))=true)(n1:(lQ d)=true)(l6:(aoY (cF d (ay (ap l) (0+aoO i*1))) != 0)=true→(f==0)=true→Q .normal (SW S L R H d l f i))(l7:(aoY (cF d (ay (ap l) (0+aoO i*1))) != 0)=true→(f==0)=false→Q .normal (SX S L R H d l f i))(l8:(aoY (cF d (ay (ap l) (0+aoO i*1))) != 0)=false→Q .normal (SY S L R H d l f i)):an aoL 47 5 (CC.drop 2) (SU S L R H d l f i) Q:=
 aZ PY 1000 (aA [0,1,1,0,1,5] (.fork 0 (aA [1,1] (.fork 0 (.leaf [0,3,26,27,28] [0,1,2,3,4,5] [2,3,4,5]) (.leaf [0,3,26,27,28] [0,1,2,3,4,5] [2,3,4,5]))) (aA [0,0] (.leaf [0,3,26,27,28] [0,1,2,3,4,5] [2,3,4,5])))) (fun u=>by kernel_rfl) (mN (decide_eq_true (by omega):(decide (0≤i))=true) (mN (show(ao9 (aoO i) (aoM l))=true by simp at pH h0 h1 h2 h3⊢ <;>omega) (mN n0 (mN n1 (mF (c:=aoY (cF d (ay (ap l) (0+aoO i*1))) != 0) (fun h0=>(SP 2 h0 (mF (c:=f==0) (fun h1=>(aL L R H (mN (aQ l) (mQ (an.done (by kernel_rfl) (l6 h0 h1)))))) (fun h1=>(aL L R H (mN (aQ l) (mQ (an.done (by kernel_rfl) (l7 h0 h1))))))))) (fun h0=>(SP 2 h0 (aL L R H (mN (aQ l) (mQ (an.done (by kernel_rfl) (l8 h0))))))))))))
abbrev Jy:=fun S L R H d (f:Int)=>(⟨[(2,aa f)],uM S L R H d⟩:ai)
theorem SZ(S L R H d)(f:Int){Q:bo}(hq:Q (.ret (aa f)) (Jy S L R H d f).objs):aJ aoL 25 47 5 Q .ret (Jy S L R H d f):=aJ.ret (vs:=[aa f]) (l:=[]) (bs:=[0,1,2,3,4]) (pl:=[2,3,4]) (q:=[ao L,ap R,aj H]) (fun u=>by kernel_rfl) (by kernel_rfl) (fY L R H bi) hq
abbrev akv:=fun S L R H d (f:Int)=>(⟨[(3,aa f)],uM S L R H d⟩:ai)
theorem S4(S L R H d)(f:Int)(pH:(aj H).all ag=true){Q:aY}(l3:Q .ret (Jy S L R H d f)):an aoL 47 5 (wF.drop 8) (akv S L R H d f) Q:=
 aZ bt 1000 (.leaf [2] [0,1,2,3,4] [2,3,4]) (fun u=>by kernel_rfl) (aL L R H (mR l3))
end
def nz(no:Int)(s:Int×au):Int×au:=(if(cF s.2 no).1≠0∧s.1=0 then(cF s.2 no).1 else s.1,(cF s.2 no).2)
def kp:List Int→Int×au→Int×au
 | [],s=>s
 |x::l,s=>kp l (nz x s)
def cN:Nat→Int→Int
 |0,c=>c
 |n+1,c=>cN n (aoN .i64 (c+1))
theorem S5:∀(n:Nat) (c:Int),aoN .i64 c=c→cN n c=aoN .i64 (c+n)
 |0,c,h=>by show c=_;rw[show c+((0:Nat):Int)=c by omega];exact h.symm
 |n+1,c,h=>by
  show cN n (aoN .i64 (c+1))=_
  rw[S5 n _ (wh _)]
  simp only[IntKind.wrap_i64]
  omega
theorem akw(d:au):ij d=0∨ij d=25:=by
 unfold ij cE
 split
 ·exact .inl rfl
 ·exact .inr rfl
theorem akx{l:List (Nat×ByteArray)}{p:Nat×ByteArray}{no:Int}(hp:p∈l)(h:(p.1:Int)=no):fileOf l no≠none:=by
 intro e
 unfold fileOf at e
 rw[Option.map_eq_none_iff,List.find?_eq_none]at e
 exact e p hp (by simpa using h)
theorem Jz{l:List (Nat×ByteArray)}{x:Int}{p:Nat×ByteArray}:p∈ll l x↔p∈l∧(p.1:Int)≠x:=by
 unfold ll
 rw[arv]
 simp
theorem ca.S6{d:au}(h:ca d)(no:Int):ca (cF d no).2:=by
 unfold cF
 split
 ·exact h
 split
 ·exact h.us
 ·refine⟨h.bW,h.made,fun p hp=>h.keys p (arv.1 hp).1,?_,fun p hp=>h.size p (arv.1 hp).1,wh _⟩
  exact h.fH.sublist (aur _ List.filter_sublist)
structure S7(l:List Int)(s r:Int×au):Prop where
 ok:ca r.2
 calls:r.2.calls=cN l.length s.2.calls
 e:r.1=0∨r.1=25
 q9:r.1=0→s.1=0∧∀p∈r.2.files,(p.1:Int)∉l∧p∈s.2.files
 bad:r.1≠0→s.1≠0∨∃p∈r.2.files,(p.1:Int)∈l
 JA:∀p∈s.2.files,(p.1:Int)∉l→p∈r.2.files
theorem JB:∀(l:List Int) (s:Int×au),ca s.2→l.Nodup→(∀x∈l,∃p∈s.2.files,(p.1:Int)=x)→(s.1=0∨s.1=25)→S7 l s (kp l s)
 | [],s,h1,h2,h3,h4=>⟨h1,rfl,h4,fun h=>⟨h,fun p hp=>⟨by simp,hp⟩⟩,fun h=>.inl h,fun p hp _=>hp⟩
 |x::l,s,h1,h2,h3,h4=>by
  obtain⟨p,hp,JC⟩:=h3 x (by simp)
  have hf:=akx hp JC
  obtain⟨hx,hl⟩:=aqa.1 h2
  show S7 (x::l) s (kp l (nz x s))
  by_cases he:ij s.2=0
  ·have hr:cF s.2 x=(0,{fF s.2 with files:=ll s.2.files x}):=by
    unfold cF
    split
    ·rename_i e;exact absurd e hf
    ·rw[if_neg (by simp[he])]
   have hs:nz x s=(s.1,{fF s.2 with files:=ll s.2.files x}):=by
    unfold nz;rw[hr];simp
   rw[hs]
   have hd:=(h1.S6 x)
   rw[hr]at hd
   have ih:=JB l (s.1,{fF s.2 with files:=ll s.2.files x}) hd hl (fun y hy=>by
    obtain⟨q,hq,S8⟩:=h3 y (by simp[hy])
    refine⟨q,Jz.2 ⟨hq,?_⟩,S8⟩
    rw[S8];rintro rfl;exact hx hy) h4
   refine⟨ih.ok,ih.calls,ih.e,fun h=>?_,fun h=>?_,fun q hq hn=>?_⟩
   ·obtain⟨a,b⟩:=ih.q9 h
    refine⟨a,fun q hq=>?_⟩
    obtain⟨c,e⟩:=b q hq
    have e:=Jz.1 e
    refine⟨fun hm=>?_,e.1⟩
    rcases ao8.1 hm with hm|hm
    ·exact e.2 hm
    ·exact c hm
   ·rcases ih.bad h with a|⟨q,hq,hm⟩
    ·exact .inl a
    ·exact .inr ⟨q,hq,apc _ hm⟩
   ·simp only[ao8,not_or]at hn
    exact ih.JA q (Jz.2 ⟨hq,hn.1⟩) hn.2
  ·have hr:cF s.2 x=(ij s.2,fF s.2):=by
    unfold cF
    split
    ·rename_i e;exact absurd e hf
    ·rw[if_pos he]
   have aky:ij s.2=25:=(akw s.2).resolve_left he
   have hs:nz x s=(25,fF s.2):=by
    unfold nz
    rw[hr,aky]
    rcases h4 with h|h<;>simp[h]
   rw[hs]
   have ih:=JB l (25,fF s.2) h1.us hl (fun y hy=>h3 y (by simp[hy])) (.inr rfl)
   refine⟨ih.ok,ih.calls,ih.e,fun h=>?_,fun h=>.inr ?_,fun q hq hn=>?_⟩
   ·have:=(ih.q9 h).1
    cases this
   ·exact⟨p,ih.JA p hp (by rw[JC];exact hx),by rw[JC];simp⟩
   ·simp only[ao8,not_or]at hn
    exact ih.JA q hq hn.2
theorem akz{d:au}(hd:ca d):ca (kp (fU d) (0,d)).2∧(kp (fU d) (0,d)).2.calls=aoN .i64 (d.calls+d.files.length)∧((kp (fU d) (0,d)).1=0∨(kp (fU d) (0,d)).1=25)∧
 ((kp (fU d) (0,d)).1=0↔(kp (fU d) (0,d)).2.files=[]):=by
 have zd:(fU d).Perm (d.files.map fun p=>(p.1:Int)):=List.mergeSort_perm _ _
 have hn:(fU d).Nodup:=zd.nodup_iff.2 (by
  refine arC.2 ((arC.1 hd.fH).imp fun{p q} h e=>h ?_)
  omega)
 have h:=JB (fU d) (0,d) hd hn (fun x hx=>by
  obtain⟨p,hp,e⟩:=aqv.1 (zd.mem_iff.1 hx)
  exact⟨p,hp,e⟩) (.inl rfl)
 refine⟨h.ok,?_,h.e,fun h0=>?_,fun h0=>?_⟩
 ·rw[h.calls,S5 _ _ hd.cin,zc]
 ·obtain⟨_,b⟩:=h.q9 h0
  refine List.eq_nil_iff_forall_not_mem.2 fun p hp=>?_
  obtain⟨c,e⟩:=b p hp
  exact c (zd.mem_iff.2 (aqv.2 ⟨p,e,rfl⟩))
 ·by_cases he:(kp (fU d) (0,d)).1=0
  ·exact he
  ·rcases h.bad he with a|⟨p,hp,_⟩
   ·exact absurd rfl a
   ·rw[h0]at hp;cases hp
def kT(S:ad):ad:={S with bE:=true,closed:=true}
def wG(S:ad)(L:List ByteArray)(R:List Int)(H:List aq)(l:List Int)(t:Nat×Int×au):ai:=⟨[(0,.pointer (some ⟨0,0,none⟩)),(3,.int .i64 t.2.1),(26,.slice (some ⟨5,0,none⟩) l.length l.length),(27,iZ l.length),(28,iZ t.1)],aO S L R H t.2.2++[.cells (ap l) 3 false]⟩
structure akA(l:List Int)(d0:au)(t:Nat×Int×au):Prop where
 i:t.1≤l.length
 ok:ca t.2.2
 e:kp (l.drop t.1) t.2=kp l (0,d0)
theorem akB(S:ad)(L:List ByteArray)(R:List Int)(H:List aq)(d:au)(hc:S.closed=true):
 aI aoL 25 [.pointer (some ⟨0,0,none⟩)] (aO S L R H d) fun r q=>r=.ret (.int .i64 0)∧q=aO S L R H d:=by
 have pH:=a7 H
 refine aI.cY (n:=cp aoL 25) (by kernel_rfl) ?_
 apply akm S L R H d pH hc
 case aX=>simp
 case bh=>simp
 case bD=>exact pH
 case l3=>exact akl S L R H d ⟨rfl,rfl⟩
theorem akC(S:ad)(L:List ByteArray)(R:List Int)(H:List aq)(d:au)(hd:ca d)(hc:S.closed=false):
 aI aoL 25 [.pointer (some ⟨0,0,none⟩)] (aO S L R H d) fun r q=>r=.ret (.int .i64 (kp (fU d) (0,d)).1)∧q=aO (kT S) L R H (kp (fU d) (0,d)).2:=by
 have pH:=a7 H
 have jb:(fU d).length≤1000000:=by
  rw[zc]
  have:=CB 64 (d.files.map (·.1)) hd.fH fun x hx=>by
   obtain⟨p,hp,rfl⟩:=aqv.1 hx
   exact arp (hd.keys p hp) hd.made
  rw[aqT]at this
  omega
 refine aI.cY (n:=cp aoL 25) (by kernel_rfl) ?_
 apply akn S L R H d pH hc
 case n0=>exact nl.2 hd
 case aX=>simp
 case bh=>simp
 case bD=>exact pH
 case l4=>
  intro g
  have hl:fU d=[]:=apL (by rw[zc,aqJ.1 g];rfl)
  rw[hl]
  refine an.eO 7 0 (by kernel_rfl) ?_
  refine an.fL (fun _:Nat=>SS S L R H d) (fun _=>0) (fun _=>True) 0 (by kernel_rfl) trivial ?_
  intro _ _
  apply akq (kT S) L R H d 0 pH
  ·
   with_reducible (repeat first|refine QL.ret ?_|refine QL.exit ?_|refine QB.ret ?_|refine QB.cx ?_|refine QB.normal ?_|refine QB.cG (by rfl) ?_)
   apply S4 (kT S) L R H d 0 pH
   ·exact SZ (kT S) L R H d 0 ⟨rfl,rfl⟩
 case l5=>
  intro g
  have e0:Jx S L R H d=wG (kT S) L R H (fU d) (0,0,d):=by
   unfold Jx wG
   rw[zc]
   rfl
  rw[e0]
  refine an.eO 7 0 (by kernel_rfl) ?_
  refine an.fL (wG (kT S) L R H (fU d)) (fun t=>(fU d).length-t.1) (akA (fU d) d) (0,0,d) (by kernel_rfl) ⟨apN _,hd,rfl⟩ ?_
  generalize fU d=l at*
  clear e0 hd g hc
  rintro⟨i,f,d1⟩ ⟨h1,h2,h3⟩
  dsimp only at h1 h2 h3
  apply akt (kT S) L R H d1 l f i pH
  case l5=>
   intro g
   have g:=of_decide_eq_false g
   rw[List.drop_of_length_le (by omega)]at h3
   have h3:(f,d1)=kp l (0,d):=h3
   rw[←h3]
   with_reducible (repeat first|refine QL.ret ?_|refine QL.exit ?_|refine QB.ret ?_|refine QB.cx ?_|refine QB.normal ?_|refine QB.cG (by rfl) ?_)
   apply S4 (kT S) L R H d1 f pH
   ·exact SZ (kT S) L R H d1 f ⟨rfl,rfl⟩
  case l4=>
   intro g
   have g:=of_decide_eq_true g
   have hi:i<l.length:=by omega
   obtain⟨e1,e2⟩:=H0 (R:=l) (k:=i) (x:=l[i]) (aoV hi)
   have ei:0+aoO (i:Int)*1=i:=by simp
   rw[List.drop_eq_getElem_cons hi]at h3
   have h3:kp (l.drop (i+1)) (nz l[i] (f,d1))=kp l (0,d):=h3
   have hr:=h2.S6 l[i]
   apply aku (kT S) L R H d1 l f i pH (by omega) g jb (bL (by omega) (by omega))
   case n0=>rw[ei];exact e2
   case n1=>exact nl.2 h2
   case l6=>
    intro ge gf
    rw[ei,e1]at ge
    have ge:(cF d1 l[i]).1≠0:=by simpa using ge
    have gf:f=0:=by simpa using gf
    have hs:nz l[i] (f,d1)=((cF d1 l[i]).1,(cF d1 l[i]).2):=by unfold nz;rw[if_pos ⟨ge,gf⟩]
    rw[hs]at h3
    refine QL.to (i+1,(cF d1 l[i]).1,(cF d1 l[i]).2) ⟨by dsimp only;omega,hr,h3⟩ (by dsimp only;omega) ?_
    unfold SW wG
    rw[ei,e1,ff (by omega)]
    rfl
   case l7=>
    intro ge gf
    rw[ei,e1]at ge
    have gf:f≠0:=by simpa using gf
    have hs:nz l[i] (f,d1)=(f,(cF d1 l[i]).2):=by unfold nz;rw[if_neg (fun h=>gf h.2)]
    rw[hs]at h3
    refine QL.to (i+1,f,(cF d1 l[i]).2) ⟨by dsimp only;omega,hr,h3⟩ (by dsimp only;omega) ?_
    unfold SX wG
    rw[ei,e1,ff (by omega)]
    rfl
   case l8=>
    intro ge
    rw[ei,e1]at ge
    have ge:¬(cF d1 l[i]).1≠0:=by simpa using ge
    have hs:nz l[i] (f,d1)=(f,(cF d1 l[i]).2):=by unfold nz;rw[if_neg (fun h=>ge h.1)]
    rw[hs]at h3
    refine QL.to (i+1,f,(cF d1 l[i]).2) ⟨by dsimp only;omega,hr,h3⟩ (by dsimp only;omega) ?_
    unfold SY wG
    rw[ei,e1,ff (by omega)]
    rfl
noncomputable section
def kq(s:aK)(bw:ByteArray)(b:Nat):List aoP:=[.slice (some ⟨b,0,none⟩) s.bytes.size bw.size,.bool s.ended,.int .i64 s.code,.int .i64 s.ir,.int .i64 s.id]
def akD(a:List aoP)(_:Nat→Option ak):Option (List Nat):=match a with
 | [_,_,.slice (some ⟨b,_,_⟩) _ _]=>some [0,1,11,12,13,b]
 |_=>none
def akE(S:ad)(L:List ByteArray)(R:List Int)(H:List aq)(d:au)(T:ad)(K:List ByteArray)(Rr:List Int)(G:List aq)(dd:au)(e z:Int)(x:ByteArray):List (apr×Sum):=[(29,Sum.one (kN aoL) [al 0] (aO S L R H d) (.ret (.tuple #[ah 5 1,aa e])) (aO T K Rr G dd++Cs x)),(30,Sum.one (kN aoL) [al 0] (aO T K Rr G dd) (.ret (aa z)) (aO T K Rr G dd))]
theorem akF(S:ad)(L:List ByteArray)(R:List Int)(H:List aq)(d:au)(T:ad)(K:List ByteArray)(Rr:List Int)(G:List aq)(dd:au)(e z:Int)(x:ByteArray)(sN:aI aoL 29 [al 0] (aO S L R H d) fun r q=>r=.ret (.tuple #[ah 5 1,aa e])∧q=aO T K Rr G dd++Cs x)(jm:aI aoL 30 [al 0] (aO T K Rr G dd) fun r q=>r=.ret (aa z)∧q=(aO T K Rr G dd)):dk aoL (dB aoL (dE (akE S L R H d T K Rr G dd e z x)) 50 40):=dI de mixed (dR (.cons (bB.one sN) (.cons (bB.one jm) .nil))) 50 40
def akG(S:ad)(L:List ByteArray)(R:List Int)(H:List aq)(d:au)(T:ad)(K:List ByteArray)(Rr:List Int)(G:List aq)(dd:au)(e z:Int)(c:ByteArray)(C:List Int)(k cv:Int):List (apr×Sum):=[(27,Sum.one akD [al 0,aa 0,ah 5 c.size] (aO S L R H d++[ab (af c) 5]) (.ret (.tuple #[cm,aa e])) (nY (ab (af c) 5) T K Rr G dd)),(30,Sum.one (kN aoL) [al 0] (aO T K Rr G dd) (.ret (aa z)) (aO T K Rr G dd)),(35,Sum.one (fun _ _=>some [6]) [ah 0 C.length,aa k] [.cells (ap C) 3 true] (.ret (aa cv)) [.cells (ap C) 3 true])]
theorem akH(S:ad)(L:List ByteArray)(R:List Int)(H:List aq)(d:au)(T:ad)(K:List ByteArray)(Rr:List Int)(G:List aq)(dd:au)(e z:Int)(c:ByteArray)(C:List Int)(k cv:Int)(pa:aI aoL 27 [al 0,aa 0,ah 5 c.size] (aO S L R H d++[ab (af c) 5]) fun r q=>r=.ret (.tuple #[cm,aa e])∧q=nY (ab (af c) 5) T K Rr G dd)(jm:aI aoL 30 [al 0] (aO T K Rr G dd) fun r q=>r=.ret (aa z)∧q=(aO T K Rr G dd))(qa:aI aoL 35 [ah 0 (aoM C),aa k] [.cells (ap C) 3 true] fun r q=>r=.ret (aa cv)∧q=[.cells (ap C) 3 true]):dk aoL (dB aoL (dE (akG S L R H d T K Rr G dd e z c C k cv)) 50 40):=dI de mixed (dR (.cons (bB.one pa) (.cons (bB.one jm) (.cons (bB.one qa) .nil)))) 50 40
def akI(S:ad)(L:List ByteArray)(R:List Int)(H:List aq)(d:au)(T:ad)(K:List ByteArray)(Rr:List Int)(G:List aq)(dd:au)(e z:Int):List (apr×Sum):=[(28,Sum.one (kN aoL) [al 0,aa 0] (aO S L R H d) (.ret (.tuple #[cm,aa e])) (jh T K Rr G dd)),(30,Sum.one (kN aoL) [al 0] (aO T K Rr G dd) (.ret (aa z)) (aO T K Rr G dd))]
theorem akJ(S:ad)(L:List ByteArray)(R:List Int)(H:List aq)(d:au)(T:ad)(K:List ByteArray)(Rr:List Int)(G:List aq)(dd:au)(e z:Int)(wH:aI aoL 28 [al 0,aa 0] (aO S L R H d) fun r q=>r=.ret (.tuple #[cm,aa e])∧q=jh T K Rr G dd)(jm:aI aoL 30 [al 0] (aO T K Rr G dd) fun r q=>r=.ret (aa z)∧q=(aO T K Rr G dd)):dk aoL (dB aoL (dE (akI S L R H d T K Rr G dd e z)) 50 40):=dI de mixed (dR (.cons (bB.one wH) (.cons (bB.one jm) .nil))) 50 40
open Tree renaming aW→mN,dn→mF,eS→mL,fA→mQ,dD→mR,fK→mE
noncomputable abbrev wI:List apw:=(bd (inner (bd (inner (y5.drop 4)))))
def S9:Nat→Bool→Bool→Tree→Tree
 |0,_,_,t=>t
 |n+1,d,b,t=>.cM d b (S9 n d b t)
theorem wJ{R:bj→ai→Prop}{c v:Bool}{t:Tree}(n:Nat)(h1:c=v)(h2:t.ok R):(S9 n c v t).ok R:=by
 induction n with
 |zero=>exact h2
 |succ n ih=>exact⟨h1,ih⟩
abbrev JD:=fun S L R H d s (bw:ByteArray) C=>(⟨[(0,.iface 37 (al 0)),(1,ah 5 1),(2,ah 6 (aoM C)),(6,al 8),(7,al 9),(8,al 10),(9,aa 0)],[ab (aM S 1 11 12 13) 89,.abs d,.dead,.dead,.dead,ab ([ct 7 0 (aoT (aK.bytes s)) bw.size,.bool (aK.ended s),aa (aK.code s),aa (aK.ir s),aa (aK.id s)]) 30,.cells (ap C) 3 true,ab (af bw) 5,ab ([.string (apB #[]),.string (apB #[]),.string (apB #[]),.string (apB #[]),aa 0,aa 0,aa 0,aa 0,aa 0,aa 0,aa 0,.bool false]) 43,ab ([.string (apB #[]),.string (apB #[]),.string (apB #[]),.string (apB #[]),aa (ad.at_ S),aa 0,aa 0,aa 0,aa 0,aa 0,aa 0,.bool false]) 43,ab ([.bool false,.bool false,.bool false,.bool false]) 92,ab (ao L) 9,ab (ap R) 3,ab (aj H) 114]⟩:ai)
abbrev akK:=fun S L R H d s bw C=>(⟨[(0,.iface 37 (al 0)),(1,ah 5 1),(2,ah 6 (aoM C))],[ab (aM S 1 8 9 10) 89,.abs d,.dead,.dead,.dead,ab (kq s bw 7) 30,.cells (ap C) 3 true,ab (af bw) 5,ab (ao L) 9,ab (ap R) 3,ab (aj H) 114]⟩:ai)
theorem akL(S:ad)(L R H d s bw C)(pH:(aj H).all ag=true)(h0:S.bE=false)(h1:S.more=false)(h2:S.at_=0){Q:aY}(aX:aoS (ap C) ag=true)(bh:aoS (af bw) ag=true)(bD:aoS (ao L) ag=true)(bx:aoS (ap R) ag=true)(lj:aoS (aj H) ag=true)(l5:an aoL 148 8 (y5.drop 4) (JD S L R H d s bw C) Q):an aoL 148 8 y5 (akK S L R H d s bw C) Q:=
 aZ bt 4 (aA [8,2] (.leaf [0,1,2,6,7,8,9] [0,1,2,3,4,5,6,7,11,12,13,8,9,10] [6,7,8,9,10])) (fun u=>by kernel_rfl) (mN (show(ad.bE S)=false by assumption) (mN (show(ad.more S)=false by assumption) (mN (aQ C) (mN (aH bw) (aL L R H (mQ l5))))))
abbrev wK:=fun S L R H d s (bw:ByteArray) C o (nd er hd t:Int) (w:Bool) (k:Int)=>(⟨[(0,.iface 37 (al 0)),(1,ah 5 1),(2,ah 6 (aoM C)),(6,al 8),(7,al 9),(8,al 10),(9,aa k)],[ab (aM S 1 11 12 13) 89,.abs d,.dead,.dead,.dead,ab ([ct 7 0 (aoT (aK.bytes s)) bw.size,.bool (aK.ended s),aa (aK.code s),aa (aK.ir s),aa (aK.id s)]) 30,.cells (ap C) 3 true,ab (af bw) 5,ab jj 43,ab (mh o nd er hd t) 43,ab (lv w) 92,ab (ao L) 9,ab (ap R) 3,ab (aj H) 114]⟩:ai)
abbrev JE:=fun S L R H d s (bw:ByteArray) C o (nd er hd t:Int)=>([ab (aM S 1 10 11 12) 89,.abs d,.dead,.dead,.dead,ab ([ct 7 0 (aoT (aK.bytes s)) bw.size,.bool (aK.ended s),aa (aK.code s),aa (aK.ir s),aa (aK.id s)]) 30,.cells (ap C) 3 true,ab (af bw) 5,ab jj 43,ab (mh o nd er hd t) 43,ab (ao L) 9,ab (ap R) 3,ab (aj H) 114]:List ak)
abbrev JF:=fun S L R H d s bw C o (nd er hd t:Int) (w:Bool) (k:Int)=>(⟨[(6,al 8),(7,al 9)],JE S L R H d s bw C o nd er hd t⟩:ai)
abbrev akM:=fun S L R H d s bw C o (nd er hd t:Int) (w:Bool) (k:Int)=>(⟨[(6,al 8),(7,al 9)],JE S L R H d s bw C o nd er hd t⟩:ai)
abbrev akN:=fun S L R H d s bw C o (nd er hd t:Int) (w:Bool) (k:Int)=>(⟨[(6,al 8),(7,al 9)],JE S L R H d s bw C o nd er hd t⟩:ai)
abbrev akO:=fun S L R H d s bw C o (nd er hd t:Int) (w:Bool) (k:Int)=>(⟨[(0,.iface 37 (al 0)),(1,ah 5 1),(2,ah 6 (aoM C)),(6,al 8),(7,al 9),(8,al 10),(9,aa k)],[ab (aM S 1 11 12 13) 89,.abs d,.dead,.dead,.dead,ab (kq s bw 7) 30,.cells (ap C) 3 true,ab (af bw) 5,ab jj 43,ab (mh o nd er hd t) 43,ab (lv w) 92,ab (ao L) 9,ab (ap R) 3,ab (aj H) 114]⟩:ai)
theorem akP(S L R H d s bw C o)(nd er hd t:Int)(w:Bool)(k:Int)(pH:(aj H).all ag=true){Q:aY}(l5:(decide (k<100000))=true→(er==0)=true→(nd != -1)=true→an aoL 148 8 (wI.drop 2) (wK S L R H d s bw C o nd er hd t w k) Q)(l6:(decide (k<100000))=true→(er==0)=true→(nd != -1)=false→Q (.exit 0) (JF S L R H d s bw C o nd er hd t w k))(l7:(decide (k<100000))=true→(er==0)=false→Q (.exit 0) (akM S L R H d s bw C o nd er hd t w k))(l8:(decide (k<100000))=false→Q (.exit 0) (akN S L R H d s bw C o nd er hd t w k)):an aoL 148 8 wI (akO S L R H d s bw C o nd er hd t w k) Q:=
 aZ bt 2 (.fork 0 (aA [1,3,1] (.fork 0 (aA [1,3,1] (.fork 0 (.leaf [0,1,2,6,7,8,9] [0,1,2,3,4,5,6,7,8,9,10,11,12,13] [6,7,11,12,13]) (.leaf [6,7] [0,1,2,3,4,5,6,7,8,9,11,12,13] [6,7,11,12,13]))) (aA [0,0,0] (.leaf [6,7] [0,1,2,3,4,5,6,7,8,9,11,12,13] [6,7,11,12,13])))) (aA [0,0,0] (.leaf [6,7] [0,1,2,3,4,5,6,7,8,9,11,12,13] [6,7,11,12,13]))) (fun u=>by kernel_rfl) (mF (c:=decide (k<100000)) (fun h0=>(wJ 3 h0 (mF (c:=er==0) (fun h1=>(wJ 3 h1 (mF (c:=nd != -1) (fun h2=>(mN (aQ C) (mN (aH bw) (aL L R H (mQ (l5 h0 h1 h2)))))) (fun h2=>(mN (aQ C) (mN (aH bw) (aL L R H (mE 0 (l6 h0 h1 h2))))))))) (fun h1=>(wJ 3 h1 (mN (aQ C) (mN (aH bw) (aL L R H (mE 0 (l7 h0 h1)))))))))) (fun h0=>(wJ 3 h0 (mN (aQ C) (mN (aH bw) (aL L R H (mE 0 (l8 h0))))))))
abbrev akQ:=fun(S:ad) (L:List ByteArray) (R:List Int) (H:List aq) (d:au) s (bw:ByteArray) C o (hd t:Int) (w:Bool) T K Rr G dd (e z:Int) (x:ByteArray) (k:Int)=>(⟨[(0,.iface 37 (al 0)),(1,ah 5 1),(2,ah 6 (aoM C)),(6,al 8),(7,al 9),(8,al 10),(9,.int .i64 (aoN .i64 (k+1)))],[ab (aM T 1 11 12 13) 89,.abs dd,.dead,.dead,.dead,ab ([ct 7 0 (aoT (aK.bytes s)) bw.size,.bool (aK.ended s),aa (aK.code s),aa (aK.ir s),aa (aK.id s)]) 30,.cells (ap C) 3 true,ab (af bw) 5,ab jj 43,ab ([.string (o++apB (apJ (apg (apO (cut (af (cj x)) 0 (x.size+1)) bytesOf) []))),.string (aoZ),.string (aoZ),.string (aoZ),aa (-1),aa e,aa (if z>hd then z else hd),aa t,aa 0,aa 0,aa 0,.bool true]) 43,ab (lv w) 92,ab (ao K) 9,ab (ap Rr) 3,ab (aj G) 114]⟩:ai)
abbrev akR:=fun(S:ad) (L:List ByteArray) (R:List Int) (H:List aq) (d:au) s (bw:ByteArray) C o (hd t:Int) (w:Bool) T K Rr G dd (e z:Int) (x:ByteArray) (k:Int)=>(⟨[(0,.iface 37 (al 0)),(1,ah 5 1),(2,ah 6 (aoM C)),(6,al 8),(7,al 9),(8,al 10),(9,.int .i64 (aoN .i64 (k+1)))],[ab (aM T 1 11 12 13) 89,.abs dd,.dead,.dead,.dead,ab ([ct 7 0 (aoT (aK.bytes s)) bw.size,.bool (aK.ended s),aa (aK.code s),aa (aK.ir s),aa (aK.id s)]) 30,.cells (ap C) 3 true,ab (af bw) 5,ab jj 43,ab ([.string (o++apB (apJ (apg (apO (cut (af (cj x)) 0 (x.size+1)) bytesOf) []))),.string (aoZ),.string (aoZ),.string (aoZ),aa (-2),aa e,aa (if z>hd then z else hd),aa t,aa 0,aa 0,aa 0,.bool true]) 43,ab (lv w) 92,ab (ao K) 9,ab (ap Rr) 3,ab (aj G) 114]⟩:ai)
abbrev akS:=fun(S:ad) (L:List ByteArray) (R:List Int) (H:List aq) (d:au) s (bw:ByteArray) C o (hd t:Int) (w:Bool) T K Rr G dd (e z:Int) (x:ByteArray) (k:Int)=>(⟨[(0,.iface 37 (al 0)),(1,ah 5 1),(2,ah 6 (aoM C)),(6,al 8),(7,al 9),(8,al 10),(9,.int .i64 (aoN .i64 (k+1)))],[ab (aM T 1 11 12 13) 89,.abs dd,.dead,.dead,.dead,ab ([ct 7 0 (aoT (aK.bytes s)) bw.size,.bool (aK.ended s),aa (aK.code s),aa (aK.ir s),aa (aK.id s)]) 30,.cells (ap C) 3 true,ab (af bw) 5,ab jj 43,ab ([.string (o++apB (apJ (apg (apO (cut (af (cj x)) 0 (x.size+1)) bytesOf) []))),.string (aoZ),.string (aoZ),.string (aoZ),aa (ad.at_ T),aa e,aa (if z>hd then z else hd),aa t,aa 0,aa 0,aa 0,.bool true]) 43,ab (lv w) 92,ab (ao K) 9,ab (ap Rr) 3,ab (aj G) 114]⟩:ai)
abbrev Ta:=fun(S:ad) (L:List ByteArray) (R:List Int) (H:List aq) (d:au) s (bw:ByteArray) C o (hd t:Int) (w:Bool) T K Rr G dd (e z:Int) (x:ByteArray) (k:Int)=>(⟨[(0,.iface 37 (al 0)),(1,ah 5 1),(2,ah 6 (aoM C)),(6,al 8),(7,al 9),(8,al 10),(9,.int .i64 (aoN .i64 (k+1)))],[ab (aM T 1 11 12 13) 89,.abs dd,.dead,.dead,.dead,ab ([ct 7 0 (aoT (aK.bytes s)) bw.size,.bool (aK.ended s),aa (aK.code s),aa (aK.ir s),aa (aK.id s)]) 30,.cells (ap C) 3 true,ab (af bw) 5,ab jj 43,ab ([.string (o++apB (apJ (apg (apO (cut (af (cj x)) 0 (x.size+1)) bytesOf) []))),.string (aoZ),.string (aoZ),.string (aoZ),aa (-1),aa e,aa (if z>hd then z else hd),aa t,aa 0,aa 0,aa 0,.bool false]) 43,ab (lv w) 92,ab (ao K) 9,ab (ap Rr) 3,ab (aj G) 114]⟩:ai)
abbrev Tb:=fun(S:ad) (L:List ByteArray) (R:List Int) (H:List aq) (d:au) s (bw:ByteArray) C o (hd t:Int) (w:Bool) T K Rr G dd (e z:Int) (x:ByteArray) (k:Int)=>(⟨[(0,.iface 37 (al 0)),(1,ah 5 1),(2,ah 6 (aoM C)),(6,al 8),(7,al 9),(8,al 10),(9,.int .i64 (aoN .i64 (k+1)))],[ab (aM T 1 11 12 13) 89,.abs dd,.dead,.dead,.dead,ab ([ct 7 0 (aoT (aK.bytes s)) bw.size,.bool (aK.ended s),aa (aK.code s),aa (aK.ir s),aa (aK.id s)]) 30,.cells (ap C) 3 true,ab (af bw) 5,ab jj 43,ab ([.string (o++apB (apJ (apg (apO (cut (af (cj x)) 0 (x.size+1)) bytesOf) []))),.string (aoZ),.string (aoZ),.string (aoZ),aa (-2),aa e,aa (if z>hd then z else hd),aa t,aa 0,aa 0,aa 0,.bool false]) 43,ab (lv w) 92,ab (ao K) 9,ab (ap Rr) 3,ab (aj G) 114]⟩:ai)
abbrev Tc:=fun(S:ad) (L:List ByteArray) (R:List Int) (H:List aq) (d:au) s (bw:ByteArray) C o (hd t:Int) (w:Bool) T K Rr G dd (e z:Int) (x:ByteArray) (k:Int)=>(⟨[(0,.iface 37 (al 0)),(1,ah 5 1),(2,ah 6 (aoM C)),(6,al 8),(7,al 9),(8,al 10),(9,.int .i64 (aoN .i64 (k+1)))],[ab (aM T 1 11 12 13) 89,.abs dd,.dead,.dead,.dead,ab ([ct 7 0 (aoT (aK.bytes s)) bw.size,.bool (aK.ended s),aa (aK.code s),aa (aK.ir s),aa (aK.id s)]) 30,.cells (ap C) 3 true,ab (af bw) 5,ab jj 43,ab ([.string (o++apB (apJ (apg (apO (cut (af (cj x)) 0 (x.size+1)) bytesOf) []))),.string (aoZ),.string (aoZ),.string (aoZ),aa (ad.at_ T),aa e,aa (if z>hd then z else hd),aa t,aa 0,aa 0,aa 0,.bool false]) 43,ab (lv w) 92,ab (ao K) 9,ab (ap Rr) 3,ab (aj G) 114]⟩:ai)
abbrev akT:=fun S L R H d s bw C o (hd t:Int) (w:Bool) (T:ad) (K:List ByteArray) (Rr:List Int) (G:List aq) (dd:au) (e z:Int) (x:ByteArray) (k:Int)=>(⟨[(0,.iface 37 (al 0)),(1,ah 5 1),(2,ah 6 (aoM C)),(6,al 8),(7,al 9),(8,al 10),(9,aa k)],[ab (aM S 1 11 12 13) 89,.abs d,.dead,.dead,.dead,ab (kq s bw 7) 30,.cells (ap C) 3 true,ab (af bw) 5,ab jj 43,ab (mh o (-2) 0 hd t) 43,ab (lv w) 92,ab (ao L) 9,ab (ap R) 3,ab (aj H) 114]⟩:ai)
theorem akU(S L R H d s bw C)(o:ByteArray)(hd t:Int)(w:Bool)(T K Rr G dd)(e z:Int)(x:ByteArray)(k:Int)(pH:(aj H).all ag=true)(pG:(aj G).all ag=true)(sN:aI aoL 29 [al 0] (aO S L R H d) fun r q=>r=.ret (.tuple #[ah 5 1,aa e])∧q=aO T K Rr G dd++Cs x)(jm:aI aoL 30 [al 0] (aO T K Rr G dd) fun r q=>r=.ret (aa z)∧q=(aO T K Rr G dd))(h0:aoN .i64 (k+1)=k+1)(h1:x.size≤64){Q:aY}(n1:(decide (aoN .i64 (0+(↑(x.size+1):Int))>1024))=true→(arQ (apO (cut (af (cj x)) 0 (x.size+1)) bytesOf))=true)(n2:(decide (aoN .i64 (0+(↑(x.size+1):Int))>1024))=true→(decide ((↑(o.size+aoT (apB (apJ (apg (apO (cut (af (cj x)) 0 (x.size+1)) bytesOf) [])))):Int)≤9223372036854775807))=true)(l6:(decide (aoN .i64 (0+(↑(x.size+1):Int))>1024))=true→(ad.bE T)=true→Q .normal (akQ S L R H d s bw C o hd t w T K Rr G dd e z x k))(l7:(decide (aoN .i64 (0+(↑(x.size+1):Int))>1024))=true→(ad.bE T)=false→(ad.more T)=true→Q .normal (akR S L R H d s bw C o hd t w T K Rr G dd e z x k))(l8:(decide (aoN .i64 (0+(↑(x.size+1):Int))>1024))=true→(ad.bE T)=false→(ad.more T)=false→Q .normal (akS S L R H d s bw C o hd t w T K Rr G dd e z x k))(n9:(decide (aoN .i64 (0+(↑(x.size+1):Int))>1024))=false→(arQ (apO (cut (af (cj x)) 0 (x.size+1)) bytesOf))=true)(n10:(decide (aoN .i64 (0+(↑(x.size+1):Int))>1024))=false→(decide ((↑(o.size+aoT (apB (apJ (apg (apO (cut (af (cj x)) 0 (x.size+1)) bytesOf) [])))):Int)≤9223372036854775807))=true)(jS:(decide (aoN .i64 (0+(↑(x.size+1):Int))>1024))=false→(ad.bE T)=true→Q .normal (Ta S L R H d s bw C o hd t w T K Rr G dd e z x k))(lr:(decide (aoN .i64 (0+(↑(x.size+1):Int))>1024))=false→(ad.bE T)=false→(ad.more T)=true→Q .normal (Tb S L R H d s bw C o hd t w T K Rr G dd e z x k))(uE:(decide (aoN .i64 (0+(↑(x.size+1):Int))>1024))=false→(ad.bE T)=false→(ad.more T)=false→Q .normal (Tc S L R H d s bw C o hd t w T K Rr G dd e z x k)):an aoL 148 8 (wI.drop 2) (akT S L R H d s bw C o hd t w T K Rr G dd e z x k) Q:=
 aZ (akF S L R H d T K Rr G dd e z x sN jm) 1000 (aA [7,1,1,1,1,1,1,1] (.fork 6 (aA [44,1,0,1,15,1,1,1,1,1,1] (.fork 6 (.leaf [0,1,2,6,7,8,9] [0,1,2,3,4,5,6,7,8,9,10,11,12,13] [6,7,11,12,13]) (.fork 1 (.leaf [0,1,2,6,7,8,9] [0,1,2,3,4,5,6,7,8,9,10,11,12,13] [6,7,11,12,13]) (.leaf [0,1,2,6,7,8,9] [0,1,2,3,4,5,6,7,8,9,10,11,12,13] [6,7,11,12,13])))) (aA [42,1,0,1,15,1,1,1,1,1,1] (.fork 6 (.leaf [0,1,2,6,7,8,9] [0,1,2,3,4,5,6,7,8,9,10,11,12,13] [6,7,11,12,13]) (.fork 1 (.leaf [0,1,2,6,7,8,9] [0,1,2,3,4,5,6,7,8,9,10,11,12,13] [6,7,11,12,13]) (.leaf [0,1,2,6,7,8,9] [0,1,2,3,4,5,6,7,8,9,10,11,12,13] [6,7,11,12,13])))))) (fun u=>by kernel_rfl) (aL L R H (mN (kM [al 0] (aO S L R H d)) (mN (aV K) (mN (aQ Rr) (mN (a7 G) (mN (aH (cj x)) (mF (c:=decide (aoN .i64 (0+(↑(x.size+1):Int))>1024)) (fun h0=>(mN (n1 h0) (mN (n2 h0) (mN (aV K) (mN (aQ Rr) (mN (a7 G) (mN (kM [al 0] (aO T K Rr G dd)) (mN (aV K) (mN (aQ Rr) (mN (a7 G) (mF (c:=ad.bE T) (fun h1=>(mN (aQ C) (mN (aH bw) (mN (aV K) (mN (aQ Rr) (mN (a7 G) (mQ (an.done (by kernel_rfl) (l6 h0 h1))))))))) (fun h1=>(mF (c:=ad.more T) (fun h2=>(mN (aQ C) (mN (aH bw) (mN (aV K) (mN (aQ Rr) (mN (a7 G) (mQ (an.done (by kernel_rfl) (l7 h0 h1 h2))))))))) (fun h2=>(mN (aQ C) (mN (aH bw) (mN (aV K) (mN (aQ Rr) (mN (a7 G) (mQ (an.done (by kernel_rfl) (l8 h0 h1 h2)))))))))))))))))))))) (fun h0=>(mN (n9 h0) (mN (n10 h0) (mN (aV K) (mN (aQ Rr) (mN (a7 G) (mN (kM [al 0] (aO T K Rr G dd)) (mN (aV K) (mN (aQ Rr) (mN (a7 G) (mF (c:=ad.bE T) (fun h1=>(mN (aQ C) (mN (aH bw) (mN (aV K) (mN (aQ Rr) (mN (a7 G) (mQ (an.done (by kernel_rfl) (jS h0 h1))))))))) (fun h1=>(mF (c:=ad.more T) (fun h2=>(mN (aQ C) (mN (aH bw) (mN (aV K) (mN (aQ Rr) (mN (a7 G) (mQ (an.done (by kernel_rfl) (lr h0 h1 h2))))))))) (fun h2=>(mN (aQ C) (mN (aH bw) (mN (aV K) (mN (aQ Rr) (mN (a7 G) (mQ (an.done (by kernel_rfl) (uE h0 h1 h2)))))))))))))))))))))))))))))
abbrev Td:=fun(S:ad) (L:List ByteArray) (R:List Int) (H:List aq) (d:au) s (bw:ByteArray) C o (hd t:Int) (w:Bool) T K Rr G dd (e z:Int) (c:ByteArray) (k cv:Int)=>(⟨[(0,.iface 37 (al 0)),(1,ah 5 1),(2,ah 6 (aoM C)),(6,al 8),(7,al 9),(8,al 10),(9,.int .i64 (aoN .i64 (k+1)))],[ab (aM T 1 11 12 13) 89,.abs dd,.dead,.dead,.dead,ab ([ct 7 0 (aoT (aK.bytes s)) bw.size,.bool (aK.ended s),aa (aK.code s),aa (aK.ir s),aa (aK.id s)]) 30,.cells (ap C) 3 true,ab (af bw) 5,ab jj 43,ab ([.string o,.string (aoZ),.string (aoZ),.string (aoZ),aa (-1),aa e,aa (if z>hd then z else hd),.int .i64 (if aoN .i64 (t+cv)<(↑(aoT (aK.bytes s)):Int)then aoN .i64 (t+cv)else(↑(aoT (aK.bytes s)):Int)),aa 0,aa 0,aa 0,.bool false]) 43,ab (lv w) 92,ab (ao K) 9,ab (ap Rr) 3,ab (aj G) 114]⟩:ai)
abbrev Te:=fun(S:ad) (L:List ByteArray) (R:List Int) (H:List aq) (d:au) s (bw:ByteArray) C o (hd t:Int) (w:Bool) T K Rr G dd (e z:Int) (c:ByteArray) (k cv:Int)=>(⟨[(0,.iface 37 (al 0)),(1,ah 5 1),(2,ah 6 (aoM C)),(6,al 8),(7,al 9),(8,al 10),(9,.int .i64 (aoN .i64 (k+1)))],[ab (aM T 1 11 12 13) 89,.abs dd,.dead,.dead,.dead,ab ([ct 7 0 (aoT (aK.bytes s)) bw.size,.bool (aK.ended s),aa (aK.code s),aa (aK.ir s),aa (aK.id s)]) 30,.cells (ap C) 3 true,ab (af bw) 5,ab jj 43,ab ([.string o,.string (aoZ),.string (aoZ),.string (aoZ),aa (-2),aa e,aa (if z>hd then z else hd),.int .i64 (if aoN .i64 (t+cv)<(↑(aoT (aK.bytes s)):Int)then aoN .i64 (t+cv)else(↑(aoT (aK.bytes s)):Int)),aa 0,aa 0,aa 0,.bool false]) 43,ab (lv w) 92,ab (ao K) 9,ab (ap Rr) 3,ab (aj G) 114]⟩:ai)
abbrev Tf:=fun(S:ad) (L:List ByteArray) (R:List Int) (H:List aq) (d:au) s (bw:ByteArray) C o (hd t:Int) (w:Bool) T K Rr G dd (e z:Int) (c:ByteArray) (k cv:Int)=>(⟨[(0,.iface 37 (al 0)),(1,ah 5 1),(2,ah 6 (aoM C)),(6,al 8),(7,al 9),(8,al 10),(9,.int .i64 (aoN .i64 (k+1)))],[ab (aM T 1 11 12 13) 89,.abs dd,.dead,.dead,.dead,ab ([ct 7 0 (aoT (aK.bytes s)) bw.size,.bool (aK.ended s),aa (aK.code s),aa (aK.ir s),aa (aK.id s)]) 30,.cells (ap C) 3 true,ab (af bw) 5,ab jj 43,ab ([.string o,.string (aoZ),.string (aoZ),.string (aoZ),aa (ad.at_ T),aa e,aa (if z>hd then z else hd),.int .i64 (if aoN .i64 (t+cv)<(↑(aoT (aK.bytes s)):Int)then aoN .i64 (t+cv)else(↑(aoT (aK.bytes s)):Int)),aa 0,aa 0,aa 0,.bool false]) 43,ab (lv w) 92,ab (ao K) 9,ab (ap Rr) 3,ab (aj G) 114]⟩:ai)
abbrev akV:=fun S L R H d s bw C o (hd t:Int) (w:Bool) (T:ad) (K:List ByteArray) (Rr:List Int) (G:List aq) (dd:au) (e z:Int) (c:ByteArray) (k cv:Int)=>(⟨[(0,.iface 37 (al 0)),(1,ah 5 1),(2,ah 6 (aoM C)),(6,al 8),(7,al 9),(8,al 10),(9,aa k)],[ab (aM S 1 11 12 13) 89,.abs d,.dead,.dead,.dead,ab (kq s bw 7) 30,.cells (ap C) 3 true,ab (af bw) 5,ab jj 43,ab (mh o 0 0 hd t) 43,ab (lv w) 92,ab (ao L) 9,ab (ap R) 3,ab (aj H) 114]⟩:ai)
theorem akW(S L R H d)(s:aK)(bw:ByteArray)(C o)(hd t:Int)(w:Bool)(T K Rr G dd)(e z:Int)(c:ByteArray)(k cv:Int)(pH:(aj H).all ag=true)(pG:(aj G).all ag=true)(pa:aI aoL 27 [al 0,aa 0,ah 5 c.size] (aO S L R H d++[ab (af c) 5]) fun r q=>r=.ret (.tuple #[cm,aa e])∧q=nY (ab (af c) 5) T K Rr G dd)(jm:aI aoL 30 [al 0] (aO T K Rr G dd) fun r q=>r=.ret (aa z)∧q=(aO T K Rr G dd))(qa:aI aoL 35 [ah 0 (aoM C),aa k] [.cells (ap C) 3 true] fun r q=>r=.ret (aa cv)∧q=[.cells (ap C) 3 true])(h0:aoN .i64 (k+1)=k+1)(h1:0≤t)(h2:t<s.bytes.size)(h3:s.bytes.size≤4500)(h4:s.bytes.size≤bw.size)(h5:bw.size≤4500)(h6:1≤cv)(h7:cv≤32)(h8:aoN .i64 (t+cv)=t+cv){Q:aY}(n1:(aoS (apd ((aoO (if aoN .i64 (t+cv)<(↑(aoT (aK.bytes s)):Int)then aoN .i64 (t+cv)else(↑(aoT (aK.bytes s)):Int))-aoO t)*1) (aqz (0+aoO t*1) (af bw))) apR)=true)(n2:(dW [al 0,aa 0,ah 5 (0+(aoO (if aoN .i64 (t+cv)<(↑(aoT (aK.bytes s)):Int)then aoN .i64 (t+cv)else(↑(aoT (aK.bytes s)):Int))-aoO t))] [al 0,aa 0,ah 5 c.size] [ab (aM S 1 2 3 4) 89,ak.abs d,ab (ao L) 9,ab (ap R) 3,ab (aj H) 114,ab ([]++apd ((aoO (if aoN .i64 (t+cv)<(↑(aoT (aK.bytes s)):Int)then aoN .i64 (t+cv)else(↑(aoT (aK.bytes s)):Int))-aoO t)*1) (aqz (0+aoO t*1) (af bw))) 5] (aO S L R H d++[ab (af c) 5]))=true)(l6:(ad.bE T)=true→Q .normal (Td S L R H d s bw C o hd t w T K Rr G dd e z c k cv))(l7:(ad.bE T)=false→(ad.more T)=true→Q .normal (Te S L R H d s bw C o hd t w T K Rr G dd e z c k cv))(l8:(ad.bE T)=false→(ad.more T)=false→Q .normal (Tf S L R H d s bw C o hd t w T K Rr G dd e z c k cv)):an aoL 148 8 (wI.drop 2) (akV S L R H d s bw C o hd t w T K Rr G dd e z c k cv) Q:=
 aZ (akH S L R H d T K Rr G dd e z c C k cv pa jm qa) 1000 (aA [27,9,1,6,1,1,1,1,0,1,1,1,1,11,1,1,1,1,1,1,1,1,13,1,1,1,1,1,1] (.fork 6 (.leaf [0,1,2,6,7,8,9] [0,1,2,3,4,5,6,7,8,9,10,16,17,18] [6,7,16,17,18]) (.fork 1 (.leaf [0,1,2,6,7,8,9] [0,1,2,3,4,5,6,7,8,9,10,16,17,18] [6,7,16,17,18]) (.leaf [0,1,2,6,7,8,9] [0,1,2,3,4,5,6,7,8,9,10,16,17,18] [6,7,16,17,18])))) (fun u=>by kernel_rfl) (mN (decide_eq_true (by omega):(decide (t<(↑(aoT (aK.bytes s)):Int)))=true) (mN (aQ C) (mN (kM [ah 0 (aoM C),aa k] [ak.cells (ap C) 3 true]) (mN (decide_eq_true (by omega):(decide (0≤t))=true) (mN (decide_eq_true (by omega):(decide (0≤if aoN .i64 (t+cv)<(↑(aoT (aK.bytes s)):Int)then aoN .i64 (t+cv)else(↑(aoT (aK.bytes s)):Int)))=true) (mN (show(apf (aoO t) (aoO (if aoN .i64 (t+cv)<(↑(aoT (aK.bytes s)):Int)then aoN .i64 (t+cv)else(↑(aoT (aK.bytes s)):Int))))=true by simp at pH pG pa jm qa h0 h1 h2 h3 h4 h5 h6 h7 h8⊢ <;>omega) (mN (show(apf (aoO (if aoN .i64 (t+cv)<(↑(aoT (aK.bytes s)):Int)then aoN .i64 (t+cv)else(↑(aoT (aK.bytes s)):Int))) bw.size)=true by simp at pH pG pa jm qa h0 h1 h2 h3 h4 h5 h6 h7 h8⊢ <;>omega) (mN (show(apf (0+aoO t*1+(aoO (if aoN .i64 (t+cv)<(↑(aoT (aK.bytes s)):Int)then aoN .i64 (t+cv)else(↑(aoT (aK.bytes s)):Int))-aoO t)*1) (aoM (af bw)))=true by simp at pH pG pa jm qa h0 h1 h2 h3 h4 h5 h6 h7 h8⊢ <;>omega) (mN (show(apf (0+(aoO (if aoN .i64 (t+cv)<(↑(aoT (aK.bytes s)):Int)then aoN .i64 (t+cv)else(↑(aoT (aK.bytes s)):Int))-aoO t)) 1000000)=true by simp at pH pG pa jm qa h0 h1 h2 h3 h4 h5 h6 h7 h8⊢ <;>omega) (mN n1 (mN (show(ao6 (aoM (apd ((aoO (if aoN .i64 (t+cv)<(↑(aoT (aK.bytes s)):Int)then aoN .i64 (t+cv)else(↑(aoT (aK.bytes s)):Int))-aoO t)*1) (aqz (0+aoO t*1) (af bw)))) ((aoO (if aoN .i64 (t+cv)<(↑(aoT (aK.bytes s)):Int)then aoN .i64 (t+cv)else(↑(aoT (aK.bytes s)):Int))-aoO t)*1))=true by simp at pH pG pa jm qa h0 h1 h2 h3 h4 h5 h6 h7 h8⊢ <;>omega) (aL L R H (mN (show(aoS ([]++apd ((aoO (if aoN .i64 (t+cv)<(↑(aoT (aK.bytes s)):Int)then aoN .i64 (t+cv)else(↑(aoT (aK.bytes s)):Int))-aoO t)*1) (aqz (0+aoO t*1) (af bw))) ag)=true by simp) (mN n2 (mN (aH c) (mN (aV K) (mN (aQ Rr) (mN (a7 G) (mN (aV K) (mN (aQ Rr) (mN (a7 G) (mN (kM [al 0] (aO T K Rr G dd)) (mN (aV K) (mN (aQ Rr) (mN (a7 G) (mF (c:=ad.bE T) (fun h0=>(mN (aQ C) (mN (aH bw) (mN (aV K) (mN (aQ Rr) (mN (a7 G) (mQ (an.done (by kernel_rfl) (l6 h0))))))))) (fun h0=>(mF (c:=ad.more T) (fun h1=>(mN (aQ C) (mN (aH bw) (mN (aV K) (mN (aQ Rr) (mN (a7 G) (mQ (an.done (by kernel_rfl) (l7 h0 h1))))))))) (fun h1=>(mN (aQ C) (mN (aH bw) (mN (aV K) (mN (aQ Rr) (mN (a7 G) (mQ (an.done (by kernel_rfl) (l8 h0 h1)))))))))))))))))))))))))))))))))))))
abbrev Tg:=fun(S:ad) (L:List ByteArray) (R:List Int) (H:List aq) (d:au) s (bw:ByteArray) C o (hd:Int) T K Rr G dd (e z k:Int)=>(⟨[(0,.iface 37 (al 0)),(1,ah 5 1),(2,ah 6 (aoM C)),(6,al 8),(7,al 9),(8,al 10),(9,.int .i64 (aoN .i64 (k+1)))],[ab (aM T 1 11 12 13) 89,.abs dd,.dead,.dead,.dead,ab ([ct 7 0 (aoT (aK.bytes s)) bw.size,.bool (aK.ended s),aa (aK.code s),aa (aK.ir s),aa (aK.id s)]) 30,.cells (ap C) 3 true,ab (af bw) 5,ab jj 43,ab ([.string o,.string (aoZ),.string (aoZ),.string (aoZ),aa (-1),aa e,aa (if z>hd then z else hd),aa (aoT (aK.bytes s)),aa 0,aa 0,aa 0,.bool false]) 43,ab ([.bool true,.bool false,.bool false,.bool false]) 92,ab (ao K) 9,ab (ap Rr) 3,ab (aj G) 114]⟩:ai)
abbrev Th:=fun(S:ad) (L:List ByteArray) (R:List Int) (H:List aq) (d:au) s (bw:ByteArray) C o (hd:Int) T K Rr G dd (e z k:Int)=>(⟨[(0,.iface 37 (al 0)),(1,ah 5 1),(2,ah 6 (aoM C)),(6,al 8),(7,al 9),(8,al 10),(9,.int .i64 (aoN .i64 (k+1)))],[ab (aM T 1 11 12 13) 89,.abs dd,.dead,.dead,.dead,ab ([ct 7 0 (aoT (aK.bytes s)) bw.size,.bool (aK.ended s),aa (aK.code s),aa (aK.ir s),aa (aK.id s)]) 30,.cells (ap C) 3 true,ab (af bw) 5,ab jj 43,ab ([.string o,.string (aoZ),.string (aoZ),.string (aoZ),aa (-2),aa e,aa (if z>hd then z else hd),aa (aoT (aK.bytes s)),aa 0,aa 0,aa 0,.bool false]) 43,ab ([.bool true,.bool false,.bool false,.bool false]) 92,ab (ao K) 9,ab (ap Rr) 3,ab (aj G) 114]⟩:ai)
abbrev Ti:=fun(S:ad) (L:List ByteArray) (R:List Int) (H:List aq) (d:au) s (bw:ByteArray) C o (hd:Int) T K Rr G dd (e z k:Int)=>(⟨[(0,.iface 37 (al 0)),(1,ah 5 1),(2,ah 6 (aoM C)),(6,al 8),(7,al 9),(8,al 10),(9,.int .i64 (aoN .i64 (k+1)))],[ab (aM T 1 11 12 13) 89,.abs dd,.dead,.dead,.dead,ab ([ct 7 0 (aoT (aK.bytes s)) bw.size,.bool (aK.ended s),aa (aK.code s),aa (aK.ir s),aa (aK.id s)]) 30,.cells (ap C) 3 true,ab (af bw) 5,ab jj 43,ab ([.string o,.string (aoZ),.string (aoZ),.string (aoZ),aa (ad.at_ T),aa e,aa (if z>hd then z else hd),aa (aoT (aK.bytes s)),aa 0,aa 0,aa 0,.bool false]) 43,ab ([.bool true,.bool false,.bool false,.bool false]) 92,ab (ao K) 9,ab (ap Rr) 3,ab (aj G) 114]⟩:ai)
abbrev akX:=fun S L R H d (s:aK) bw C o (hd:Int) (T:ad) (K:List ByteArray) (Rr:List Int) (G:List aq) (dd:au) (e z k:Int)=>(⟨[(0,.iface 37 (al 0)),(1,ah 5 1),(2,ah 6 (aoM C)),(6,al 8),(7,al 9),(8,al 10),(9,aa k)],[ab (aM S 1 11 12 13) 89,.abs d,.dead,.dead,.dead,ab (kq s bw 7) 30,.cells (ap C) 3 true,ab (af bw) 5,ab jj 43,ab (mh o 0 0 hd s.bytes.size) 43,ab (lv false) 92,ab (ao L) 9,ab (ap R) 3,ab (aj H) 114]⟩:ai)
theorem akY(S L R H d)(s:aK)(bw C o)(hd:Int)(T K Rr G dd)(e z k:Int)(pH:(aj H).all ag=true)(pG:(aj G).all ag=true)(wH:aI aoL 28 [al 0,aa 0] (aO S L R H d) fun r q=>r=.ret (.tuple #[cm,aa e])∧q=jh T K Rr G dd)(jm:aI aoL 30 [al 0] (aO T K Rr G dd) fun r q=>r=.ret (aa z)∧q=(aO T K Rr G dd))(h0:aoN .i64 (k+1)=k+1)(h1:s.ended=true){Q:aY}(n0:(dW [al 0,aa 0] [al 0,aa 0] [ab (aM S 1 2 3 4) 89,ak.abs d,ab (ao L) 9,ab (ap R) 3,ab (aj H) 114] (aO S L R H d))=true)(n1:(dW [al 0] [al 0] [ab (aM T 1 2 3 4) 89,ak.abs dd,ab (ao K) 9,ab (ap Rr) 3,ab (aj G) 114] (aO T K Rr G dd))=true)(aX:aoS (ap C) ag=true)(bh:aoS (af bw) ag=true)(l4:(ad.bE T)=true→Q .normal (Tg S L R H d s bw C o hd T K Rr G dd e z k))(l5:(ad.bE T)=false→(ad.more T)=true→Q .normal (Th S L R H d s bw C o hd T K Rr G dd e z k))(l6:(ad.bE T)=false→(ad.more T)=false→Q .normal (Ti S L R H d s bw C o hd T K Rr G dd e z k)):an aoL 148 8 (wI.drop 2) (akX S L R H d s bw C o hd T K Rr G dd e z k) Q:=
 aZ (akJ S L R H d T K Rr G dd e z wH jm) 1000 (aA [26,5,1,3,3,1,9,1,1,1,1,1,1,13,1,1,1,1,1,1] (.fork 6 (.leaf [0,1,2,6,7,8,9] [0,1,2,3,4,5,6,7,8,9,10,14,15,16] [6,7,14,15,16]) (.fork 1 (.leaf [0,1,2,6,7,8,9] [0,1,2,3,4,5,6,7,8,9,10,14,15,16] [6,7,14,15,16]) (.leaf [0,1,2,6,7,8,9] [0,1,2,3,4,5,6,7,8,9,10,14,15,16] [6,7,14,15,16])))) (fun u=>by kernel_rfl) (mN (show(decide ((↑(aoT (aK.bytes s)):Int)<(↑(aoT (aK.bytes s)):Int)))=false by simp) (wJ 5 (show(aK.ended s)=true by assumption) (aL L R H (mN n0 (mN (aV K) (mN (aQ Rr) (mN (a7 G) (mN (aV K) (mN (aQ Rr) (mN (a7 G) (mN n1 (mN (aV K) (mN (aQ Rr) (mN (a7 G) (mF (c:=ad.bE T) (fun h0=>(mN (aQ C) (mN (aH bw) (mN (aV K) (mN (aQ Rr) (mN (a7 G) (mQ (an.done (by kernel_rfl) (l4 h0))))))))) (fun h0=>(mF (c:=ad.more T) (fun h1=>(mN (aQ C) (mN (aH bw) (mN (aV K) (mN (aQ Rr) (mN (a7 G) (mQ (an.done (by kernel_rfl) (l5 h0 h1))))))))) (fun h1=>(mN (aQ C) (mN (aH bw) (mN (aV K) (mN (aQ Rr) (mN (a7 G) (mQ (an.done (by kernel_rfl) (l6 h0 h1))))))))))))))))))))))))))
abbrev Tj:=fun S L R H d (s:aK) (bw:ByteArray) C o (hd:Int) (w:Bool) (k:Int)=>(⟨[(6,al 8),(7,al 9)],[ab (aM S 1 10 11 12) 89,.abs d,.dead,.dead,.dead,ab ([ct 7 0 (aoT (aK.bytes s)) bw.size,.bool (aK.ended s),aa (aK.code s),aa (aK.ir s),aa (aK.id s)]) 30,.cells (ap C) 3 true,ab (af bw) 5,ab jj 43,ab (mh o 0 0 hd s.bytes.size) 43,ab (ao L) 9,ab (ap R) 3,ab (aj H) 114]⟩:ai)
abbrev JG:=fun S L R H d (s:aK) bw C o (hd:Int) (w:Bool) (k:Int)=>(⟨[(0,.iface 37 (al 0)),(1,ah 5 1),(2,ah 6 (aoM C)),(6,al 8),(7,al 9),(8,al 10),(9,aa k)],[ab (aM S 1 11 12 13) 89,.abs d,.dead,.dead,.dead,ab (kq s bw 7) 30,.cells (ap C) 3 true,ab (af bw) 5,ab jj 43,ab (mh o 0 0 hd s.bytes.size) 43,ab (lv w) 92,ab (ao L) 9,ab (ap R) 3,ab (aj H) 114]⟩:ai)
theorem akZ(S L R H d)(s:aK)(bw C o)(hd:Int)(w:Bool)(k:Int)(pH:(aj H).all ag=true)(h0:s.ended=false){Q:aY}(aX:aoS (ap C) ag=true)(bh:aoS (af bw) ag=true)(bD:aoS (ao L) ag=true)(bx:aoS (ap R) ag=true)(lj:aoS (aj H) ag=true)(l5:Q (.exit 0) (Tj S L R H d s bw C o hd w k)):an aoL 148 8 (wI.drop 2) (JG S L R H d s bw C o hd w k) Q:=
 aZ bt 1000 (aA [26,4,0,0,0,0] (.leaf [6,7] [0,1,2,3,4,5,6,7,8,9,11,12,13] [6,7,11,12,13])) (fun u=>by kernel_rfl) (mN (show(decide ((↑(aoT (aK.bytes s)):Int)<(↑(aoT (aK.bytes s)):Int)))=false by simp) (wJ 5 (show(aK.ended s)=false by assumption) (mN (aQ C) (mN (aH bw) (aL L R H (mE 0 l5))))))
abbrev Tk:=fun S L R H d s (bw:ByteArray) C o (nd er hd t:Int)=>(⟨[(6,al 8)],[ab (aM S 1 9 10 11) 89,.abs d,.dead,.dead,.dead,ab ([ct 7 0 (aoT (aK.bytes s)) bw.size,.bool (aK.ended s),aa (aK.code s),aa (aK.ir s),aa (aK.id s)]) 30,.cells (ap C) 3 true,ab (af bw) 5,ab ([.string o,.string (aoZ),.string (aoZ),.string (aoZ),aa nd,aa er,aa hd,aa t,aa 0,aa 0,aa 0,.bool false]) 43,ab (ao L) 9,ab (ap R) 3,ab (aj H) 114]⟩:ai)
theorem ak0(S L R H d s)(bw:ByteArray)(C o)(nd er hd t:Int){Q:bo}(hq:Q (.ret (.agg (apJ [.string o,.string (aoZ),.string (aoZ),.string (aoZ),aa nd,aa er,aa hd,aa t,aa 0,aa 0,aa 0,.bool false]))) [ab (aM S 1 8 9 10) 89,.abs d,.dead,.dead,.dead,ab ([ct 7 0 (aoT (aK.bytes s)) bw.size,.bool (aK.ended s),aa (aK.code s),aa (aK.ir s),aa (aK.id s)]) 30,.cells (ap C) 3 true,ab (af bw) 5,ab (ao L) 9,ab (ap R) 3,ab (aj H) 114]):aJ aoL 13 148 8 Q .ret (Tk S L R H d s bw C o nd er hd t):=aJ.ret (vs:=[.agg (apJ [.string o,.string (aoZ),.string (aoZ),.string (aoZ),aa nd,aa er,aa hd,aa t,aa 0,aa 0,aa 0,.bool false])]) (l:=[8]) (bs:=[0,1,2,3,4,5,6,7,9,10,11]) (pl:=[6,7,9,10,11]) (q:=[ap C,af bw,ao L,ap R,aj H]) (fun u=>by kernel_rfl) (by kernel_rfl) (aF (aQ C) (aF (aH bw) (fY L R H bi))) hq
abbrev ak1:=fun S L R H d s bw C o (nd er hd t:Int)=>(⟨[(6,al 8),(7,al 9)],[ab (aM S 1 10 11 12) 89,.abs d,.dead,.dead,.dead,ab (kq s bw 7) 30,.cells (ap C) 3 true,ab (af bw) 5,ab jj 43,ab (mh o nd er hd t) 43,ab (ao L) 9,ab (ap R) 3,ab (aj H) 114]⟩:ai)
theorem ak2(S L R H d s bw C o)(nd er hd t:Int)(pH:(aj H).all ag=true){Q:aY}(l5:Q .ret (Tk S L R H d s bw C o nd er hd t)):an aoL 148 8 (y5.drop 5) (ak1 S L R H d s bw C o nd er hd t) Q:=
 aZ bt 1000 (.leaf [6] [0,1,2,3,4,5,6,7,8,10,11,12] [6,7,10,11,12]) (fun u=>by kernel_rfl) (mN (aQ C) (mN (aH bw) (aL L R H (mR l5))))
end
def nD(s:aK)(bw:ByteArray)(C:List Int)(t:Nat×Nat×DS):ai:=
 ⟨[(0,.iface 37 (.pointer (some ⟨0,0,none⟩))),(1,.slice (some ⟨5,0,none⟩) 1 1),(2,.slice (some ⟨6,0,none⟩) C.length C.length),(6,.pointer (some ⟨8,0,none⟩)),(7,.pointer (some ⟨9,0,none⟩)),(8,.pointer (some ⟨10,0,none⟩)),(9,iZ t.1)],
  [.cells (aM t.2.2.x.S 1 11 12 13) 89 false,.abs t.2.2.x.d,.dead,.dead,.dead,.cells (kq s bw 7) 30 false,.cells (ap C) 3 true,.cells (af bw) 5 false,.cells jj 43 false,.cells (mh t.2.2.o t.2.2.nd t.2.2.er t.2.2.hd t.2.2.t) 43 false,.cells (lv t.2.2.w) 92 false,.cells (ao t.2.2.x.L) 9 false,.cells (ap t.2.2.x.R) 3 false,.cells (aj t.2.2.x.H) 114 false]⟩
def zf(x:MS)(s:aK)(bw:ByteArray)(C:List Int):List ak:=[.cells (aM x.S 1 8 9 10) 89 false,.abs x.d,.dead,.dead,.dead,.cells (kq s bw 7) 30 false,.cells (ap C) 3 true,.cells (af bw) 5 false,.cells (ao x.L) 9 false,.cells (ap x.R) 3 false,.cells (aj x.H) 114 false]
def JH(g:DS)(s:aK)(bw:ByteArray)(C:List Int)(r:bO)(q:List ak):Prop:=r=.ret (.agg (mh g.o g.nd g.er g.hd g.t).toArray)∧q=zf g.x s bw C
theorem ak3{b w:ByteArray}{n i j:Nat}(h:b=w.extract 0 n)(hj:j≤n):b.extract i j=w.extract i j:=by
 subst h
 rw[ByteArray.extract_extract]
 congr 1<;>omega
theorem ak4(x:MS)(s:aK)(bw:ByteArray)(C:List Int)(hx:ny 0 x)(hn:x.S.n=0)(hs:s.bytes.size≤4500)(ak5:s.bytes=bw.extract 0 s.bytes.size)(CD:s.bytes.size≤bw.size)(ak6:bw.size≤4500)(hC:C.length≤3000):
 aI aoL 13 [.iface 37 (.pointer (some ⟨0,0,none⟩)),.slice (some ⟨5,0,none⟩) 1 1,.slice (some ⟨6,0,none⟩) C.length C.length] (aO x.S x.L x.R x.H x.d++[.cells (kq s bw 7) 30 false,.cells (ap C) 3 true,.cells (af bw) 5 false])
  (JH (jF s C p9 0 (od x)) s bw C):=by
 have pH:=a7 x.H
 refine aI.cY (n:=cp aoL 13) (by kernel_rfl) ?_
 refine an.move (d':=⟨[(0,.iface 37 (.pointer (some ⟨0,0,none⟩))),(1,.slice (some ⟨5,0,none⟩) 1 1),(2,.slice (some ⟨6,0,none⟩) C.length C.length)],zf x s bw C⟩) [some 0,some 1,none,none,none,some 5,some 6,some 7,some 2,some 3,some 4] [6,7,2,3,4] (q:=[ap C,af bw,ao x.L,ap x.R,aj x.H]) (by kernel_rfl) (aF (by simp) (aF (by simp) (aF (by simp) (aF (by simp) (aF pH bi))))) (by kernel_rfl) (by kernel_rfl) ?_
 apply akL x.S x.L x.R x.H x.d s bw C pH hx.bE hx.more hx.ok.jB
 case aX=>simp
 case bh=>simp
 case bD=>simp
 case bx=>simp
 case lj=>exact pH
 case l5=>
  have cn:=hx.ok.jB
  refine an.eO 4 0 (by kernel_rfl) ?_
  have e0:JD x.S x.L x.R x.H x.d s bw C=nD s bw C (0,p9,od x):=by
   unfold JD nD
   rw[cn]
   rfl
  rw[e0]
  have afJ:=ajE
  have Tl:kS s 0 (od x):=⟨by show(0:Int)=jk x.S;rw[y9 hx.bE hx.more,cn],apN _,apn _,hx.inv,fun _=>.inr (.inr ⟨0,hx,by show 0+x.S.n.toNat=0;rw[hn];rfl,rfl⟩),by show(0:Int)≤0∧(0:Int)≤320;omega⟩
  refine an.fL (nD s bw C) (fun t=>t.2.1) (fun t=>t.2.1+t.1=100000∧kS s t.1 t.2.2∧jF s C t.2.1 t.1 t.2.2=jF s C p9 0 (od x)) (0,p9,od x) (by kernel_rfl) ⟨by dsimp only;omega,Tl,rfl⟩ ?_
  clear Tl e0 hx cn hn pH
  rintro⟨k,m,g⟩ ⟨h1,h2,h3⟩
  dsimp only at h1 h2 h3
  have pH:=a7 g.x.H
  have fin:∀{n:Nat} {d:ai},n=cp aoL 13→jF s C m k g=g→d=JF g.x.S g.x.L g.x.R g.x.H g.x.d s bw C g.o g.nd g.er g.hd g.t g.w k→QL (nD s bw C) (fun t=>t.2.1) (fun t=>t.2.1+t.1=100000∧kS s t.1 t.2.2∧jF s C t.2.1 t.1 t.2.2=jF s C p9 0 (od x)) (k,m,g)
   (QB 0 (fun d'=>an aoL n 8 (y5.drop (4+1)) d' (aJ aoL 13 n 8 (JH (jF s C p9 0 (od x)) s bw C))) (aJ aoL 13 n 8 (JH (jF s C p9 0 (od x)) s bw C))) (.exit 0) d:=fun zx dJ hd=>by
   subst zx hd
   rw[dJ]at h3
   rw[←h3]
   with_reducible (repeat first|refine QL.ret ?_|refine QL.exit ?_|refine QB.ret ?_|refine QB.cx ?_|refine QB.normal ?_|refine QB.cG (by rfl) ?_)
   apply ak2 g.x.S g.x.L g.x.R g.x.H g.x.d s bw C g.o g.nd g.er g.hd g.t pH
   ·exact ak0 g.x.S g.x.L g.x.R g.x.H g.x.d s bw C g.o g.nd g.er g.hd g.t ⟨rfl,rfl⟩
  apply akP g.x.S g.x.L g.x.R g.x.H g.x.d s bw C g.o g.nd g.er g.hd g.t g.w k pH
  case l8=>
   intro gk
   have gk:=of_decide_eq_false gk
   have hm:m=0:=by omega
   exact fin rfl (by rw[hm];rfl) rfl
  case l7=>
   intro gk ge
   have ge:¬g.er=0:=by simpa using ge
   exact fin rfl (Sy fun h=>ge h.1) rfl
  case l6=>
   intro gk ge gn
   have gn:g.nd= -1:=by simpa using gn
   exact fin rfl (Sy fun h=>h.2 gn) rfl
  case l5=>
   intro gk ge gn
   have gk:=of_decide_eq_true gk
   have ge:g.er=0:=by simpa using ge
   have gn:g.nd≠-1:=by simpa using gn
   obtain⟨m,rfl⟩:∃m',m=m'+1:=⟨m-1,by omega⟩
   have wk:aoN ao2 ((k:Int)+1)=(k:Int)+1:=bL (by omega) (by omega)
   by_cases cy:g.nd= -2
   ·obtain⟨o1,o2,o3⟩:=h2.more ge cy
    have dJ:oc s C k g=some (uH g):=by unfold oc;rw[if_pos cy]
    have hD:=h2.uH ge cy
    rw[Jg ⟨ge,gn⟩ dJ]at h3
    have sN:=ai8 g.x o3 o1 o2
    obtain⟨i1,i2,i3⟩:=Su h2.inv o3 o1
    have jm:=I6 (js g.x).2.2 i1.held.1
    have aof:=h2.o
    unfold Go.Proofs.YtnlkkgpcikkpoaaGreat.uH at hD h3
    clear dJ i3 o1 o2 o3
    generalize js g.x=r at*
    obtain⟨e,x1,y⟩:=r
    dsimp only at*
    obtain⟨zg,Tm⟩:=ajI x1
    have QW:=lW x1
    have w1:aoN ao2 (0+((x1.size+1:Nat):Int))=((x1.size+1:Nat):Int):=by rw[bL (by omega) (by omega)];omega
    unfold wK
    rw[cy,ge]
    apply akU g.x.S g.x.L g.x.R g.x.H g.x.d s bw C g.o g.hd g.t g.w y.S y.L y.R y.H y.d e (jY y) x1 k pH (a7 _) sN jm wk i2
    case n1=>intro _;exact Tm
    case n9=>intro _;exact Tm
    case n2=>intro _;rw[zg];exact decide_eq_true (by omega)
    case n10=>intro _;rw[zg];exact decide_eq_true (by omega)
    case l6=>intro gw;rw[w1]at gw;have gw:=of_decide_eq_true gw;omega
    case l7=>intro gw;rw[w1]at gw;have gw:=of_decide_eq_true gw;omega
    case l8=>intro gw;rw[w1]at gw;have gw:=of_decide_eq_true gw;omega
    case jS=>
     intro _ go
     refine QL.to (k+1,m,⟨y,g.o++cj x1,jk y.S,e,mj g.hd (jY y),g.t,g.w⟩) ⟨by dsimp only;omega,hD,h3⟩ (by dsimp only;omega) ?_
     unfold Ta nD
     rw[zg,ff (by omega),Jh go]
     rfl
    case lr=>
     intro _ go gm
     refine QL.to (k+1,m,⟨y,g.o++cj x1,jk y.S,e,mj g.hd (jY y),g.t,g.w⟩) ⟨by dsimp only;omega,hD,h3⟩ (by dsimp only;omega) ?_
     unfold Tb nD
     rw[zg,ff (by omega),Ji go gm]
     rfl
    case uE=>
     intro _ go gm
     refine QL.to (k+1,m,⟨y,g.o++cj x1,jk y.S,e,mj g.hd (jY y),g.t,g.w⟩) ⟨by dsimp only;omega,hD,h3⟩ (by dsimp only;omega) ?_
     unfold Tc nD
     rw[zg,ff (by omega),y9 go gm]
     rfl
   ·obtain⟨F,f1,f2,f3⟩:=h2.feed ge gn cy
    have dx:g.nd=0:=by rw[h2.nd,y9 f1.bE f1.more];exact f1.ok.jB
    have hz:=Jf f1.ro
    have sQ:=h2.t
    by_cases ht:g.t<s.bytes.size
    ·have dJ:oc s C k g=some (sO s C k g):=by unfold oc;rw[if_neg cy,if_pos ht]
     have hD:=h2.sO (C:=C) ge gn cy ht
     rw[Jg ⟨ge,gn⟩ dJ]at h3
     obtain⟨u1,u2,u3⟩:=Sx s C k g.t ht
     have DC:=extract_size s.bytes g.t (jl s C k g.t) u2
     have pa:=ai3 F g.x (s.bytes.extract g.t (jl s C k g.t)) f1.ok f1.bE f1.more (by omega) (by omega)
     have dw:=ajF g.x (s.bytes.extract g.t (jl s C k g.t))
     rw[f1.ro]at dw
     rw[hz,Jf dw]at pa
     obtain⟨i1,i2⟩:=Sk f1 (s.bytes.extract g.t (jl s C k g.t))
     have jm:=I6 (iV g.x (s.bytes.extract g.t (jl s C k g.t))).2 i1.held.1
     have ko:=Sw C k
     have qa:=ajD C k hC (by omega) (by omega)
     have hw:aoN ao2 ((g.t:Int)+lx C k)=(g.t:Int)+lx C k:=bL (by omega) (by omega)
     have hT:(if aoN ao2 ((g.t:Int)+lx C k)<(↑(aoT (aK.bytes s)):Int)then aoN ao2 ((g.t:Int)+lx C k)else(↑(aoT (aK.bytes s)):Int))=((jl s C k g.t:Nat):Int):=by
      rw[hw]
      show(if(g.t:Int)+lx C k<(s.bytes.size:Int)then(g.t:Int)+lx C k else(s.bytes.size:Int))=_
      unfold jl
      split<;>omega
     unfold Go.Proofs.YtnlkkgpcikkpoaaGreat.sO at hD h3
     clear dJ i2 dw
     generalize hc:s.bytes.extract g.t (jl s C k g.t)=c at*
     generalize jl s C k g.t=u at*
     generalize iV g.x c=r at*
     obtain⟨e,y⟩:=r
     dsimp only at*
     unfold wK
     rw[dx,ge]
     apply akW g.x.S g.x.L g.x.R g.x.H g.x.d s bw C g.o g.hd g.t g.w y.S y.L y.R y.H y.d e (jY y) c k (lx C k) pH (a7 _) pa jm qa wk (by omega) (by omega) hs CD ak6 ko.1 ko.2 hw
     case n1=>exact rX (aB (aS (aH _) _) _)
     case n2=>
      rw[hT]
      refine e8 ?_ ?_
      ·rw[DC];simp only[arj,aqr]
      ·have:=ajJ bw g.t u (by omega)
       have En:bw.extract g.t u=c:=(ak3 ak5 u2).symm.trans hc
       simp only[arj]
       show[_,_,_,_,_,ak.cells ([]++apd ((u-g.t)*1) (aqz (0+g.t*1) (af bw))) _ _]=_
       rw[this,En]
       rfl
     case l6=>
      intro go
      refine QL.to (k+1,m,⟨y,g.o,jk y.S,e,mj g.hd (jY y),u,g.w⟩) ⟨by dsimp only;omega,hD,h3⟩ (by dsimp only;omega) ?_
      unfold Td nD
      rw[hT,ff (by omega),Jh go]
      rfl
     case l7=>
      intro go gm
      refine QL.to (k+1,m,⟨y,g.o,jk y.S,e,mj g.hd (jY y),u,g.w⟩) ⟨by dsimp only;omega,hD,h3⟩ (by dsimp only;omega) ?_
      unfold Te nD
      rw[hT,ff (by omega),Ji go gm]
      rfl
     case l8=>
      intro go gm
      refine QL.to (k+1,m,⟨y,g.o,jk y.S,e,mj g.hd (jY y),u,g.w⟩) ⟨by dsimp only;omega,hD,h3⟩ (by dsimp only;omega) ?_
      unfold Tf nD
      rw[hT,ff (by omega),y9 go gm]
      rfl
    ·have qb:g.t=s.bytes.size:=by omega
     by_cases lF:s.ended=true
     ·have dJ:oc s C k g=some (uI g):=by unfold oc;rw[if_neg cy,if_neg ht,if_pos ⟨lF,f3⟩]
      have hD:=h2.uI ge gn cy (by omega)
      rw[Jg ⟨ge,gn⟩ dJ]at h3
      have hF:F≤800000:=by omega
      have wH:=ai6 F g.x hF f1.ok (by rw[f1.none];exact apN _) f1.bE f1.more (by have:(jE g.x.z g.x.H).2.2.length≤3:=(Jc f1 hF).1.bW;omega)
      rw[hz,Jf (ajH f1 hF)]at wH
      obtain⟨i1,i2⟩:=Sr f1 hF
      have jm:=I6 (iM g.x).2 i1.held.1
      unfold Go.Proofs.YtnlkkgpcikkpoaaGreat.uI at hD h3
      clear dJ i2
      generalize iM g.x=r at*
      obtain⟨e,y⟩:=r
      dsimp only at*
      unfold wK
      rw[dx,ge,qb,f3]
      rw[qb]at h3 hD
      apply akY g.x.S g.x.L g.x.R g.x.H g.x.d s bw C g.o g.hd y.S y.L y.R y.H y.d e (jY y) k pH (a7 _) wH jm wk lF
      case n0=>exact e8 rfl rfl
      case n1=>exact e8 rfl rfl
      case aX=>simp
      case bh=>simp
      case l4=>
       intro go
       refine QL.to (k+1,m,⟨y,g.o,jk y.S,e,mj g.hd (jY y),s.bytes.size,true⟩) ⟨by dsimp only;omega,hD,h3⟩ (by dsimp only;omega) ?_
       unfold Tg nD
       rw[ff (by omega),Jh go]
       rfl
      case l5=>
       intro go gm
       refine QL.to (k+1,m,⟨y,g.o,jk y.S,e,mj g.hd (jY y),s.bytes.size,true⟩) ⟨by dsimp only;omega,hD,h3⟩ (by dsimp only;omega) ?_
       unfold Th nD
       rw[ff (by omega),Ji go gm]
       rfl
      case l6=>
       intro go gm
       refine QL.to (k+1,m,⟨y,g.o,jk y.S,e,mj g.hd (jY y),s.bytes.size,true⟩) ⟨by dsimp only;omega,hD,h3⟩ (by dsimp only;omega) ?_
       unfold Ti nD
       rw[ff (by omega),y9 go gm]
       rfl
     ·have dJ:oc s C k g=none:=by unfold oc;rw[if_neg cy,if_neg ht,if_neg (fun h=>lF h.1)]
      have xD:s.ended=false:=by simpa using lF
      have Ls:wK g.x.S g.x.L g.x.R g.x.H g.x.d s bw C g.o g.nd g.er g.hd g.t g.w k=JG g.x.S g.x.L g.x.R g.x.H g.x.d s bw C g.o g.hd g.w k:=by
       unfold wK JG
       rw[dx,ge,qb]
       rfl
      rw[Ls]
      apply akZ g.x.S g.x.L g.x.R g.x.H g.x.d s bw C g.o g.hd g.w k pH xD
      case aX=>simp
      case bh=>simp
      case bD=>simp
      case bx=>simp
      case lj=>exact pH
      case l5=>exact fin rfl (ajK dJ) (by unfold Tj JF;rw[dx,ge,qb])
noncomputable section
abbrev Tn:ai:=⟨[(0,al 0)],[ab ([aa 0,aa 0,aa 0,aa 0,aa 0,aa 0,aa 0,aa 0,aa 15,aa 0,aa 0,aa 1,aa 0,aa 0,aa 0,aa 15,aa 0,aa 1,aa 0,aa 0,aa 0,aa 0,aa 1000000000,aa 0,aa 1,aa 1,aa 64,aa 0,aa 0,aa 9223372036854775807,aa 0,aa 1,aa 1,aa 64,aa 64,aa 0,aa 1,aa 1,aa 1,aa 1,aa 64,aa 0,aa 0,aa 0,aa 2,aa 1,aa 1,aa 0,aa 0,aa 1,aa 65535,aa 3,aa 1,aa 1,aa 64,aa 0,aa 0,aa 1,aa 0,aa 1,aa 1,aa 128,aa 0,aa 0,aa 0,aa 0,aa 1,aa 1,aa 0,aa 0,aa 0,aa 1000000000,aa 0,aa 1,aa 1,aa 64,aa 0,aa 0,aa 1,aa 0,aa 1,aa 1,aa 320,aa 0,aa 1,aa 4,aa 0,aa (-1),aa 1,aa 0,aa 0,aa 1,aa 4,aa 3,aa (-1),aa 1,aa 0,aa 96,aa 1,aa 9223372036854775807,aa 3,aa 2,aa 1,aa 192,aa 128,aa 1,aa 4,aa 0,aa 1,aa (-1),aa 0,aa 0,aa 1,aa 4,aa 0,aa 1,aa (-1),aa 64,aa 0]) 175]⟩
theorem ak7{Q:bo}(hq:Q (.ret (.agg (apJ [aa 0,aa 0,aa 0,aa 0,aa 0,aa 0,aa 0,aa 0,aa 15,aa 0,aa 0,aa 1,aa 0,aa 0,aa 0,aa 15,aa 0,aa 1,aa 0,aa 0,aa 0,aa 0,aa 1000000000,aa 0,aa 1,aa 1,aa 64,aa 0,aa 0,aa 9223372036854775807,aa 0,aa 1,aa 1,aa 64,aa 64,aa 0,aa 1,aa 1,aa 1,aa 1,aa 64,aa 0,aa 0,aa 0,aa 2,aa 1,aa 1,aa 0,aa 0,aa 1,aa 65535,aa 3,aa 1,aa 1,aa 64,aa 0,aa 0,aa 1,aa 0,aa 1,aa 1,aa 128,aa 0,aa 0,aa 0,aa 0,aa 1,aa 1,aa 0,aa 0,aa 0,aa 1000000000,aa 0,aa 1,aa 1,aa 64,aa 0,aa 0,aa 1,aa 0,aa 1,aa 1,aa 320,aa 0,aa 1,aa 4,aa 0,aa (-1),aa 1,aa 0,aa 0,aa 1,aa 4,aa 3,aa (-1),aa 1,aa 0,aa 96,aa 1,aa 9223372036854775807,aa 3,aa 2,aa 1,aa 192,aa 128,aa 1,aa 4,aa 0,aa 1,aa (-1),aa 0,aa 0,aa 1,aa 4,aa 0,aa 1,aa (-1),aa 64,aa 0]))) []):aJ apq 105 18 0 Q .ret (Tn):=aJ.ret (vs:=[.agg (apJ [aa 0,aa 0,aa 0,aa 0,aa 0,aa 0,aa 0,aa 0,aa 15,aa 0,aa 0,aa 1,aa 0,aa 0,aa 0,aa 15,aa 0,aa 1,aa 0,aa 0,aa 0,aa 0,aa 1000000000,aa 0,aa 1,aa 1,aa 64,aa 0,aa 0,aa 9223372036854775807,aa 0,aa 1,aa 1,aa 64,aa 64,aa 0,aa 1,aa 1,aa 1,aa 1,aa 64,aa 0,aa 0,aa 0,aa 2,aa 1,aa 1,aa 0,aa 0,aa 1,aa 65535,aa 3,aa 1,aa 1,aa 64,aa 0,aa 0,aa 1,aa 0,aa 1,aa 1,aa 128,aa 0,aa 0,aa 0,aa 0,aa 1,aa 1,aa 0,aa 0,aa 0,aa 1000000000,aa 0,aa 1,aa 1,aa 64,aa 0,aa 0,aa 1,aa 0,aa 1,aa 1,aa 320,aa 0,aa 1,aa 4,aa 0,aa (-1),aa 1,aa 0,aa 0,aa 1,aa 4,aa 3,aa (-1),aa 1,aa 0,aa 96,aa 1,aa 9223372036854775807,aa 3,aa 2,aa 1,aa 192,aa 128,aa 1,aa 4,aa 0,aa 1,aa (-1),aa 0,aa 0,aa 1,aa 4,aa 0,aa 1,aa (-1),aa 64,aa 0])]) (l:=[0]) (bs:=[]) (pl:=[]) (q:=[]) (fun u=>by kernel_rfl) (by kernel_rfl) bi hq
theorem rv{Q:aY}(l0:Q .ret (Tn)):an apq 18 0 Y3 ⟨[],[]⟩ Q:=
 aZ bt 1000 (.leaf [0] [0] []) (fun u=>by kernel_rfl) (Tree.dD (l0))
end
end Go.Proofs.YtnlkkgpcikkpoaaGreat
namespace Go.Proofs.YtnlkkgpcikkpoaaGreat
open Go Vm Go.RowKit
set_option maxHeartbeats 8000000
noncomputable section
def RT(P:Program)(n k:Nat)(l:List apw)(Q:bj→ai→Prop)(x:bj)(d:ai):Prop:=match x with
 | .normal=>an P n k l d Q
 |x=>Q x d
theorem an.ak8{P:Program}(hP:iz P=true)(fx:P.follows .mixedOrders=true){cO:fD}(hc:dk P cO){lf n k m:Nat}{l:List apw}{d:ai}{s:ST}{T:Tree}
 (h:∀u,(tK P cO lf (l.take m) (eJ n u d.sl) (k9 d.objs)).sym (vF n k) s=some T){Q:Int→bj→ai→Prop}(hT:∃e,T.ok (RT P n k (l.drop m) (Q e))):∃e,an P n k l d (Q e):=by
 obtain⟨e,he⟩:=hT
 exact⟨e,an.tree hP fx hc h (Tree.AW (fun x d h=>by cases x<;>exact h) he)⟩
theorem ae{R:Int→bj→ai→Prop}{c v:Bool}{t:Tree}(h1:c=v)(h2:∃e,t.ok (R e)):∃e,(Tree.cM c v t).ok (R e):=by
 obtain⟨e,he⟩:=h2
 exact⟨e,h1,he⟩
theorem br{R:Int→bj→ai→Prop}{c:Bool}{a b:Tree}(h1:c=true→∃e,a.ok (R e))(h2:c=false→∃e,b.ok (R e)):∃e,(Tree.fork c a b).ok (R e):=by
 cases c with
 |true=>obtain⟨e,he⟩:=h1 rfl;exact⟨e,fun _=>he,fun h=>by cases h⟩
 |false=>obtain⟨e,he⟩:=h2 rfl;exact⟨e,(fun h=>by cases h),fun _=>he⟩
theorem CE{R:Int→bj→ai→Prop}(A B:ByteArray)(e:Int){d:ai}(h:R e .ret d):∃e,(Tree.cM (aoS (af A) ag) true (.cM (aoS (af B) ag) true (.leaf .ret d))).ok (R e):=⟨e,aH A,aH B,h⟩
theorem wL{A:ByteArray}(h:((A.size:Int)==1)=true):cH .u8 (af A) 0=true:=by
 have h:(A.size:Int)=1:=by simpa using h
 exact A6 (d:=A.data) (p:=0) (by show 0<A.size;omega)
theorem wM{A:ByteArray}(h:((A.size:Int)==1)=true):ao9 0 A.size=true:=by
 have h:(A.size:Int)=1:=by simpa using h
 exact Nat.ble_eq_true_of_le (by omega)
theorem bg{K:Int}(a b:Int)(h:(K==a)=true)(jv:(a==b)=false:=by decide):(K==b)=false:=by
 have h:K=a:=by simpa using h
 rw[h];exact jv
theorem CF{A:ByteArray}{P:Prop}(h:P):pR (af A) P=true:=Ym (d:=A.data) h
noncomputable def ak9:List (apr×Sum):=[(83,Sum.of Gn),(84,Sum.of Gp)]
theorem Tp:dk aoL (dB aoL (dE ak9) 50 40):=dI de mixed (dR (.cons Y1 (.cons Y2 .nil))) 50 40
theorem ala:aI aoL 105 [] [] fun r o=>r=.ret NB∧o=[]:=by
 refine aI.cY (n:=cp aoL 105) (by kernel_rfl) ?_
 apply rv
 refine ak7 ?_
 exact⟨rfl,rfl⟩
theorem alb:bB aoL 105 (Sum.of Gq):=bB.of fun a o r o' hg=>by
 unfold Gq at hg
 split at hg
 ·simp only[aoU,aoX,true_and]at hg
  obtain⟨rfl,rfl⟩:=hg
  exact ala
 ·cases hg
noncomputable def alc:List (apr×Sum):=[(105,Sum.of Gq)]
theorem ald:dk aoL (dB aoL (dE alc) 50 40):=dI de mixed (dR (.cons alb .nil)) 50 40
noncomputable def wN:List apw:=bd (dC aoL 31)
noncomputable def ale:List apw:=bd (dC aoL 59)
abbrev sR:=fun A B=>([.cells (af A) 5 true,.cells (af B) 5 true]:List ak)
abbrev Tq:=fun(K N:Int) A B=>(⟨[(2,aa 10)],sR A B⟩:ai)
theorem alf(K N:Int)(A B){Q:bo}(hq:Q (.ret (aa 10)) (Tq K N A B).objs):aJ apq 31 17 2 Q .ret (Tq K N A B):=aJ.ret (vs:=[aa 10]) (l:=[]) (bs:=[0,1]) (pl:=[0,1]) (q:=[af A,af B]) (fun u=>by kernel_rfl) (by kernel_rfl) (aF (aH A) (aF (aH B) bi)) hq
abbrev Ts:=fun(K N:Int) A B=>(⟨[(2,aa 11)],sR A B⟩:ai)
theorem alg(K N:Int)(A B){Q:bo}(hq:Q (.ret (aa 11)) (Ts K N A B).objs):aJ apq 31 17 2 Q .ret (Ts K N A B):=aJ.ret (vs:=[aa 11]) (l:=[]) (bs:=[0,1]) (pl:=[0,1]) (q:=[af A,af B]) (fun u=>by kernel_rfl) (by kernel_rfl) (aF (aH A) (aF (aH B) bi)) hq
abbrev Tt:=fun(K N:Int) A B=>(⟨[(2,aa 0)],sR A B⟩:ai)
theorem alh(K N:Int)(A B){Q:bo}(hq:Q (.ret (aa 0)) (Tt K N A B).objs):aJ apq 31 17 2 Q .ret (Tt K N A B):=aJ.ret (vs:=[aa 0]) (l:=[]) (bs:=[0,1]) (pl:=[0,1]) (q:=[af A,af B]) (fun u=>by kernel_rfl) (by kernel_rfl) (aF (aH A) (aF (aH B) bi)) hq
abbrev Tu:=fun(K N:Int) A B=>(⟨[(2,aa 12)],sR A B⟩:ai)
theorem ali(K N:Int)(A B){Q:bo}(hq:Q (.ret (aa 12)) (Tu K N A B).objs):aJ apq 31 17 2 Q .ret (Tu K N A B):=aJ.ret (vs:=[aa 12]) (l:=[]) (bs:=[0,1]) (pl:=[0,1]) (q:=[af A,af B]) (fun u=>by kernel_rfl) (by kernel_rfl) (aF (aH A) (aF (aH B) bi)) hq
theorem alj(K N:Int)(A B:ByteArray)(hA:A.size≤1000)(hB:B.size≤1000)(hK:¬K=11):∃e,an apq 17 2 wN ⟨[(0,.agg #[aa K,aa N,ah 0 A.size,ah 1 B.size])],[.cells (af A) 5 true,.cells (af B) 5 true]⟩ ((fun e=>aJ apq 31 17 2 (fun r o=>r=.ret (aa e)∧o=[.cells (af A) 5 true,.cells (af B) 5 true])) e):=by
 have q0:=CE (R:=fun e=>RT apq 17 2 (wN.drop 1000) ((fun e=>aJ apq 31 17 2 (fun r o=>r=.ret (.int .i64 e)∧o=[.cells (af A) 5 true,.cells (af B) 5 true])) e)) A B 10 (alf K N A B ⟨rfl,rfl⟩)
 have q2:=CE (R:=fun e=>RT apq 17 2 (wN.drop 1000) ((fun e=>aJ apq 31 17 2 (fun r o=>r=.ret (.int .i64 e)∧o=[.cells (af A) 5 true,.cells (af B) 5 true])) e)) A B 11 (alg K N A B ⟨rfl,rfl⟩)
 have q3:=CE (R:=fun e=>RT apq 17 2 (wN.drop 1000) ((fun e=>aJ apq 31 17 2 (fun r o=>r=.ret (.int .i64 e)∧o=[.cells (af A) 5 true,.cells (af B) 5 true])) e)) A B 0 (alh K N A B ⟨rfl,rfl⟩)
 have sS:=CE (R:=fun e=>RT apq 17 2 (wN.drop 1000) ((fun e=>aJ apq 31 17 2 (fun r o=>r=.ret (.int .i64 e)∧o=[.cells (af A) 5 true,.cells (af B) 5 true])) e)) A B 12 (ali K N A B ⟨rfl,rfl⟩)
 exact an.ak8 de mixed Tp (lf:=50) (m:=1000) (s:=(.fork 1 (aA [1,1,1] (.leaf [2] [0,1] [0,1])) (aA [0,2,0] (.fork 0 (.leaf [2] [0,1] [0,1]) (.fork 4 (aA [1,3,3,1] (.fork 1 (aA [1] (.fork 0 (aA [1,3] (.fork 1 (aA [1,1,1,1] (.fork 0 (.leaf [2] [0,1] [0,1]) (aA [6,0,2,0,0,0,0,0,4,0,0,0,0,0,0,0,0,0] (.leaf [2] [0,1] [0,1])))) (aA [0,0,0,1] (.leaf [2] [0,1] [0,1])))) (aA [0,0,0] (.leaf [2] [0,1] [0,1])))) (.fork 0 (.fork 0 (aA [1,3] (.fork 1 (aA [1,1,1,1] (.fork 0 (.leaf [2] [0,1] [0,1]) (aA [6,0,2,0,0,0,0,0,4,0,0,0,0,0,0,0,0,0] (.leaf [2] [0,1] [0,1])))) (aA [0,0,0,1] (.leaf [2] [0,1] [0,1])))) (aA [0,0,0] (.leaf [2] [0,1] [0,1]))) (.fork 0 (aA [1] (.fork 0 (aA [1,3] (.fork 1 (aA [1,1,1,1] (.fork 0 (.leaf [2] [0,1] [0,1]) (aA [6,0,2,0,0,0,0,0,5,1] (.leaf [2] [0,1] [0,1])))) (aA [0,0,0,1] (.leaf [2] [0,1] [0,1])))) (aA [0,0,0] (.leaf [2] [0,1] [0,1])))) (.fork 0 (.fork 0 (aA [1,3] (.fork 1 (aA [1,1,1,1] (.fork 0 (.leaf [2] [0,1] [0,1]) (aA [6,0,2,0,0,0,0,0,4,0,0,1,1] (.leaf [2] [0,1] [0,1])))) (aA [0,0,0,1] (.leaf [2] [0,1] [0,1])))) (aA [0,0,0] (.leaf [2] [0,1] [0,1]))) (.fork 0 (.fork 0 (aA [1,3,1] (.fork 0 (.leaf [2] [0,1] [0,1]) (aA [7,1,1,1] (.fork 5 (.leaf [2] [0,1] [0,1]) (aA [2,0,0,0,0,1] (.fork 1 (.leaf [2] [0,1] [0,1]) (.leaf [2] [0,1] [0,1]))))))) (aA [0,0,0] (.leaf [2] [0,1] [0,1]))) (.fork 0 (.fork 2 (aA [1,3] (.fork 1 (aA [1,1,1,1] (.fork 0 (aA [1,3,3] (.fork 1 (aA [1,1,1,1] (.fork 0 (aA [1,3,3,1,1,1] (.fork 0 (.leaf [2] [0,1] [0,1]) (aA [6,0,2,0,0,0,0,0,4,1,1] (.leaf [2] [0,1] [0,1])))) (aA [0,0,0,0] (.leaf [2] [0,1] [0,1])))) (aA [0,0,0,1] (.leaf [2] [0,1] [0,1])))) (aA [0,0,0,0] (.leaf [2] [0,1] [0,1])))) (aA [0,0,0,1] (.leaf [2] [0,1] [0,1])))) (aA [0,0,0] (.leaf [2] [0,1] [0,1]))) (.fork 0 (.fork 1 (aA [1,3,3] (.fork 1 (aA [1,1,1,1] (.fork 0 (aA [1,3,3,1,1] (.fork 0 (aA [1,3,3,1,3,3,1] (.fork 0 (.leaf [2] [0,1] [0,1]) (aA [6,0,2,0,0,0,0,0,4,0,0,0,0,0,0,0,0,0] (.leaf [2] [0,1] [0,1])))) (aA [0,0,0,0,0,0,0] (.leaf [2] [0,1] [0,1])))) (aA [0,0,0] (.leaf [2] [0,1] [0,1])))) (aA [0,0,0,1] (.leaf [2] [0,1] [0,1])))) (aA [0,0,0,0] (.leaf [2] [0,1] [0,1]))) (.fork 0 (.fork 2 (aA [1,3] (.fork 2 (aA [1,0,3,1,0,1,1,1,1] (.fork 0 (aA [1,3] (.fork 1 (aA [1,1,1,1] (.fork 0 (.leaf [2] [0,1] [0,1]) (aA [6,0,2,0,0,0,0,0,4,0,1,1] (.leaf [2] [0,1] [0,1])))) (aA [0,0,0,1] (.leaf [2] [0,1] [0,1])))) (aA [0,0,0] (.leaf [2] [0,1] [0,1])))) (aA [0,0,0,0,1] (.leaf [2] [0,1] [0,1])))) (aA [0,0,0] (.leaf [2] [0,1] [0,1]))) (.fork 0 (aA [1] (.fork 0 (aA [1,3] (.fork 1 (aA [1,1,1,1] (.fork 0 (.leaf [2] [0,1] [0,1]) (aA [6,0,2,0,0,0,0,0,4,0,0,0,0,0,1] (.leaf [2] [0,1] [0,1])))) (aA [0,0,0,1] (.leaf [2] [0,1] [0,1])))) (aA [0,0,0] (.leaf [2] [0,1] [0,1])))) (aA [0] (.fork 0 (.fork 0 (aA [1,3,1] (.fork 0 (.leaf [2] [0,1] [0,1]) (aA [6,0,2,0,0,0,0,0,4,0,0,0,0,0,0,0,0,0] (.leaf [2] [0,1] [0,1])))) (aA [0,0,0] (.leaf [2] [0,1] [0,1]))) (.fork 0 (aA [1] (.fork 0 (aA [1,3] (.fork 1 (aA [1,1,1,1] (.fork 0 (.leaf [2] [0,1] [0,1]) (aA [6,0,2,0,0,0,0,0,4,0,0,0,0,0,0,0,0,0] (.leaf [2] [0,1] [0,1])))) (aA [0,0,0,1] (.leaf [2] [0,1] [0,1])))) (aA [0,0,0] (.leaf [2] [0,1] [0,1])))) (.fork 0 (aA [1] (.fork 0 (aA [1,3] (.fork 1 (aA [1,1,1,1] (.fork 0 (.leaf [2] [0,1] [0,1]) (aA [6,0,2,0,0,0,0,0,4,0,0,0,0,0,0,0,0,0] (.leaf [2] [0,1] [0,1])))) (aA [0,0,0,1] (.leaf [2] [0,1] [0,1])))) (aA [0,0,0] (.leaf [2] [0,1] [0,1])))) (.fork 0 (.fork 0 (aA [1,3] (.fork 1 (aA [1,1,1,1] (.fork 0 (.leaf [2] [0,1] [0,1]) (aA [6,0,2,0,0,0,0,0,4,0,0,0,1] (.leaf [2] [0,1] [0,1])))) (aA [0,0,0,1] (.leaf [2] [0,1] [0,1])))) (aA [0,0,0] (.leaf [2] [0,1] [0,1]))) (.fork 0 (.fork 2 (aA [1,3] (.fork 2 (aA [1,0,3,1,0,1,1,1,1] (.fork 0 (aA [1,3] (.fork 1 (aA [1,1,1,1] (.fork 0 (.leaf [2] [0,1] [0,1]) (aA [6,0,2,0,0,0,0,0,4,0,0,0,0,0,0,0,1] (.fork 1 (.leaf [2] [0,1] [0,1]) (.leaf [2] [0,1] [0,1]))))) (aA [0,0,0,1] (.leaf [2] [0,1] [0,1])))) (aA [0,0,0] (.leaf [2] [0,1] [0,1])))) (aA [0,0,0,0,1] (.leaf [2] [0,1] [0,1])))) (aA [0,0,0] (.leaf [2] [0,1] [0,1]))) (aA [1] (.fork 2 (aA [1,3] (.fork 2 (aA [1,0,3,1,0,1,1,1,1] (.fork 0 (aA [1,3,1] (.fork 0 (.leaf [2] [0,1] [0,1]) (aA [6,0,2,0,1,1,3,1] (.fork 0 (.leaf [2] [0,1] [0,1]) (aA [2,0,0,0,0,0,0,0,0,1] (.fork 1 (.leaf [2] [0,1] [0,1]) (.leaf [2] [0,1] [0,1]))))))) (aA [0,0,0] (.leaf [2] [0,1] [0,1])))) (aA [0,0,0,0,1] (.leaf [2] [0,1] [0,1])))) (aA [0,0,0] (.leaf [2] [0,1] [0,1])))))))))))))))))))) (aA [0,0,0,0] (.fork 1 (aA [1] (.leaf [2] [0,1] [0,1])) (.fork 0 (.leaf [2] [0,1] [0,1]) (.fork 0 (aA [1] (.leaf [2] [0,1] [0,1])) (.fork 0 (.leaf [2] [0,1] [0,1]) (.fork 0 (.leaf [2] [0,1] [0,1]) (.fork 0 (.fork 2 (aA [1,3] (.fork 1 (aA [1,1,1,1] (.fork 0 (aA [1,3,3] (.fork 1 (aA [1,1,1,1] (.fork 0 (aA [1,3,3,1,1,1] (.fork 0 (.leaf [2] [0,1] [0,1]) (aA [6,0,2,0,0,0,0,0,4,1,1] (.leaf [2] [0,1] [0,1])))) (aA [0,0,0,0] (.leaf [2] [0,1] [0,1])))) (aA [0,0,0,1] (.leaf [2] [0,1] [0,1])))) (aA [0,0,0,0] (.leaf [2] [0,1] [0,1])))) (aA [0,0,0,1] (.leaf [2] [0,1] [0,1])))) (aA [0,0,0] (.leaf [2] [0,1] [0,1]))) (.fork 0 (.fork 1 (aA [1,3,3] (.fork 1 (aA [1,1,1,1] (.fork 0 (aA [1,3,3,1,1] (.fork 0 (aA [1,3,3,1,3,3,1] (.fork 0 (.leaf [2] [0,1] [0,1]) (aA [6,0,2,0,0,0,0,0,4,0,0,0,0,0,0,0,0,0] (.leaf [2] [0,1] [0,1])))) (aA [0,0,0,0,0,0,0] (.leaf [2] [0,1] [0,1])))) (aA [0,0,0] (.leaf [2] [0,1] [0,1])))) (aA [0,0,0,1] (.leaf [2] [0,1] [0,1])))) (aA [0,0,0,0] (.leaf [2] [0,1] [0,1]))) (.fork 0 (.fork 2 (aA [1,3] (.fork 2 (aA [1,0,3,1,0,1,1,1,1] (.fork 0 (aA [1,3] (.fork 1 (aA [1,1,1,1] (.fork 0 (.leaf [2] [0,1] [0,1]) (aA [6,0,2,0,0,0,0,0,4,0,1,1] (.leaf [2] [0,1] [0,1])))) (aA [0,0,0,1] (.leaf [2] [0,1] [0,1])))) (aA [0,0,0] (.leaf [2] [0,1] [0,1])))) (aA [0,0,0,0,1] (.leaf [2] [0,1] [0,1])))) (aA [0,0,0] (.leaf [2] [0,1] [0,1]))) (.fork 0 (aA [1] (.leaf [2] [0,1] [0,1])) (aA [0] (.fork 0 (.leaf [2] [0,1] [0,1]) (.fork 0 (aA [1] (.leaf [2] [0,1] [0,1])) (.fork 0 (aA [1] (.leaf [2] [0,1] [0,1])) (.fork 0 (.leaf [2] [0,1] [0,1]) (.fork 0 (.fork 2 (aA [1,3] (.fork 2 (aA [1,0,3,1,0,1,1,1,1] (.fork 0 (aA [1,3] (.fork 1 (aA [1,1,1,1] (.fork 0 (.leaf [2] [0,1] [0,1]) (aA [6,0,2,0,0,0,0,0,4,0,0,0,0,0,0,0,1] (.fork 1 (.leaf [2] [0,1] [0,1]) (.leaf [2] [0,1] [0,1]))))) (aA [0,0,0,1] (.leaf [2] [0,1] [0,1])))) (aA [0,0,0] (.leaf [2] [0,1] [0,1])))) (aA [0,0,0,0,1] (.leaf [2] [0,1] [0,1])))) (aA [0,0,0] (.leaf [2] [0,1] [0,1]))) (aA [1] (.fork 2 (aA [1,3] (.fork 2 (aA [1,0,3,1,0,1,1,1,1] (.fork 0 (aA [1,3,1] (.fork 0 (.leaf [2] [0,1] [0,1]) (aA [6,0,2,0,1,1,3,1] (.fork 0 (.leaf [2] [0,1] [0,1]) (aA [2,0,0,0,0,0,0,0,0,1] (.fork 1 (.leaf [2] [0,1] [0,1]) (.leaf [2] [0,1] [0,1]))))))) (aA [0,0,0] (.leaf [2] [0,1] [0,1])))) (aA [0,0,0,0,1] (.leaf [2] [0,1] [0,1])))) (aA [0,0,0] (.leaf [2] [0,1] [0,1]))))))))))))))))))))))))) (fun u=>by kernel_rfl) (br (c:=decide (K<1)) (fun h0=>(ae h0 (ae h0 (ae h0 q0)))) (fun h0=>(ae h0 (ae h0 (ae h0 (br (c:=decide (K>16)) (fun h1=>q0) (fun h1=>(br (c:=(↑(aoT A):Int)==0) (fun h2=>(ae h2 (ae h2 (ae h2 (ae h2 (br (c:=K==1) (fun h3=>(ae h3 (br (c:=(↑(aoT B):Int)==0) (fun h4=>(ae h4 (ae h4 (br (c:=decide (N ≥ 0)) (fun h5=>(ae h5 (ae h5 (ae h5 (ae h4 (br (c:= !decide (N≤15)) (fun h6=>q2) (fun h6=>(ae (bg 1 4 h3) (ae (bg 1 4 h3) (ae (bg 1 4 h3) (ae (bg 1 4 h3) (ae (bg 1 14 h3) (ae (bg 1 14 h3) (ae (bg 1 14 h3) (ae (bg 1 14 h3) (ae (bg 1 3 h3) (ae (bg 1 5 h3) (ae (bg 1 7 h3) (ae (bg 1 10 h3) (ae (bg 1 16 h3) (ae (bg 1 4 h3) (ae (bg 1 8 h3) (ae (bg 1 11 h3) (ae (bg 1 13 h3) (ae (bg 1 14 h3) q3))))))))))))))))))))))))) (fun h5=>(ae h5 (ae h5 (ae h5 (ae h4 q2))))))))) (fun h4=>(ae h4 (ae h4 (ae h4 q2))))))) (fun h3=>(br (c:=K==2) (fun h4=>(br (c:=(↑(aoT B):Int)==0) (fun h5=>(ae h5 (ae h5 (br (c:=decide (N ≥ 0)) (fun h6=>(ae h6 (ae h6 (ae h6 (ae h5 (br (c:= !decide (N≤15)) (fun h7=>q2) (fun h7=>(ae (bg 2 4 h4) (ae (bg 2 4 h4) (ae (bg 2 4 h4) (ae (bg 2 4 h4) (ae (bg 2 14 h4) (ae (bg 2 14 h4) (ae (bg 2 14 h4) (ae (bg 2 14 h4) (ae (bg 2 3 h4) (ae (bg 2 5 h4) (ae (bg 2 7 h4) (ae (bg 2 10 h4) (ae (bg 2 16 h4) (ae (bg 2 4 h4) (ae (bg 2 8 h4) (ae (bg 2 11 h4) (ae (bg 2 13 h4) (ae (bg 2 14 h4) q3))))))))))))))))))))))))) (fun h6=>(ae h6 (ae h6 (ae h6 (ae h5 q2))))))))) (fun h5=>(ae h5 (ae h5 (ae h5 q2)))))) (fun h4=>(br (c:=K==3) (fun h5=>(ae h5 (br (c:=(↑(aoT B):Int)==0) (fun h6=>(ae h6 (ae h6 (br (c:=decide (N ≥ 0)) (fun h7=>(ae h7 (ae h7 (ae h7 (ae h6 (br (c:= !decide (N≤1000000000)) (fun h8=>q2) (fun h8=>(ae (bg 3 4 h5) (ae (bg 3 4 h5) (ae (bg 3 4 h5) (ae (bg 3 4 h5) (ae (bg 3 14 h5) (ae (bg 3 14 h5) (ae (bg 3 14 h5) (ae (bg 3 14 h5) (ae h5 (ae h5 q3))))))))))))))))) (fun h7=>(ae h7 (ae h7 (ae h7 (ae h6 q2))))))))) (fun h6=>(ae h6 (ae h6 (ae h6 q2))))))) (fun h5=>(br (c:=K==10) (fun h6=>(br (c:=(↑(aoT B):Int)==0) (fun h7=>(ae h7 (ae h7 (br (c:=decide (N ≥ 0)) (fun h8=>(ae h8 (ae h8 (ae h8 (ae h7 (br (c:= !decide (N≤1000000000)) (fun h9=>q2) (fun h9=>(ae (bg 10 4 h6) (ae (bg 10 4 h6) (ae (bg 10 4 h6) (ae (bg 10 4 h6) (ae (bg 10 14 h6) (ae (bg 10 14 h6) (ae (bg 10 14 h6) (ae (bg 10 14 h6) (ae h5 (ae (bg 10 5 h6) (ae (bg 10 7 h6) (ae h6 (ae h6 q3)))))))))))))))))))) (fun h8=>(ae h8 (ae h8 (ae h8 (ae h7 q2))))))))) (fun h7=>(ae h7 (ae h7 (ae h7 q2)))))) (fun h6=>(br (c:=K==4) (fun h7=>(br (c:=(↑(aoT B):Int)==0) (fun h8=>(ae h8 (ae h8 (ae h8 (br (c:= !decide (N ≥ 0)) (fun h9=>q2) (fun h9=>(ae h7 (ae h7 (ae h7 (ae h7 (br (c:=decide (N>100)) (fun bP=>sS) (fun bP=>(ae h5 (ae (bg 4 5 h7) (ae (bg 4 7 h7) (ae h6 (ae (bg 4 16 h7) (ae h7 (br (c:=decide (aoN ao2 (64+aoN ao2 (64*N))>2048)) (fun bQ=>sS) (fun bQ=>q3)))))))))))))))))))) (fun h8=>(ae h8 (ae h8 (ae h8 q2)))))) (fun h7=>(br (c:=K==5) (fun h8=>(br (c:=(↑(aoT B):Int)==0) (fun h9=>(ae h9 (ae h9 (br (c:=decide (N ≥ 0)) (fun bP=>(ae bP (ae bP (ae bP (ae h9 (br (c:=decide (N≤1)) (fun bQ=>(ae bQ (ae bQ (ae bQ (br (c:=decide ((↑(aoT A):Int) ≥ 1)) (fun bJ=>(ae bJ (ae bJ (ae bJ (ae bQ (br (c:=decide ((↑(aoT A):Int)≤16)) (fun bk=>(ae bk (ae bk (ae (show(aoS (af A) ag)=true by exact aH _) (ae (show(pR (af A) (aoT A=aoT A∧5=5∧aoM (af A)=aoT A∧aoT A≤10000))=true by exact CF ⟨rfl,rfl,mH _,by omega⟩) (ae bk (ae bk (br (c:= !!sk (si (af A)) 10) (fun cP=>q2) (fun cP=>(ae h7 (ae h7 (ae h7 (ae h7 (ae (bg 5 14 h8) (ae (bg 5 14 h8) (ae (bg 5 14 h8) (ae (bg 5 14 h8) (ae h5 (ae h8 (ae h8 q3)))))))))))))))))))) (fun bk=>(ae bk (ae bk (ae bk (ae bk q2))))))))))) (fun bJ=>(ae bJ (ae bJ (ae bJ (ae bQ q2)))))))))) (fun bQ=>(ae bQ (ae bQ (ae bQ (ae bQ q2))))))))))) (fun bP=>(ae bP (ae bP (ae bP (ae h9 q2))))))))) (fun h9=>(ae h9 (ae h9 (ae h9 q2)))))) (fun h8=>(br (c:=K==6) (fun h9=>(br (c:=N==0) (fun bP=>(ae bP (ae bP (ae bP (br (c:=decide ((↑(aoT A):Int) ≥ 1)) (fun bQ=>(ae bQ (ae bQ (ae bQ (ae bP (br (c:=decide ((↑(aoT A):Int)≤64)) (fun bJ=>(ae bJ (ae bJ (ae (show(aoS (af A) ag)=true by exact aH _) (ae (show(pR (af A) (aoT A=aoT A∧5=5∧aoM (af A)=aoT A∧aoT A≤10000))=true by exact CF ⟨rfl,rfl,mH _,by omega⟩) (ae bJ (br (c:=sj (si (af A))) (fun bk=>(ae bk (ae bk (ae bk (ae bk (ae bk (ae bk (ae bk (br (c:= !decide ((↑(aoT B):Int)≤(↑(aoT A):Int))) (fun cP=>q2) (fun cP=>(ae h7 (ae h7 (ae h7 (ae h7 (ae (bg 6 14 h9) (ae (bg 6 14 h9) (ae (bg 6 14 h9) (ae (bg 6 14 h9) (ae h5 (ae h8 (ae (bg 6 7 h9) (ae h6 (ae (bg 6 16 h9) (ae h7 (ae (bg 6 8 h9) (ae (bg 6 11 h9) (ae (bg 6 13 h9) (ae (bg 6 14 h9) q3)))))))))))))))))))))))))))) (fun bk=>(ae bk (ae bk (ae bk (ae bk (ae bk (ae bk (ae bk q2))))))))))))))) (fun bJ=>(ae bJ (ae bJ (ae bJ q2)))))))))) (fun bQ=>(ae bQ (ae bQ (ae bQ (ae bP q2)))))))))) (fun bP=>(ae bP (ae bP (ae bP (ae bP q2))))))) (fun h9=>(br (c:=K==7) (fun bP=>(br (c:=(↑(aoT B):Int)==0) (fun bQ=>(ae bQ (ae bQ (br (c:=(↑(aoT A):Int)==1) (fun bJ=>(ae bJ (ae (wM bJ) (ae bJ (ae (wL bJ) (ae bJ (ae bJ (ae bQ (br (c:=ay (af A) 0 != 10) (fun bk=>(ae bk (ae bk (br (c:=decide (N ≥ 1)) (fun cP=>(ae cP (ae cP (ae cP (ae bk (br (c:= !decide (N≤65535)) (fun ef=>q2) (fun ef=>(ae h7 (ae h7 (ae h7 (ae h7 (ae (bg 7 14 bP) (ae (bg 7 14 bP) (ae (bg 7 14 bP) (ae (bg 7 14 bP) (ae h5 (ae h8 (ae bP (ae bP q3))))))))))))))))))) (fun cP=>(ae cP (ae cP (ae cP (ae bk q2))))))))) (fun bk=>(ae bk (ae bk (ae bk q2))))))))))))) (fun bJ=>(ae bJ (ae bJ (ae bJ (ae bJ (ae bQ q2)))))))))) (fun bQ=>(ae bQ (ae bQ (ae bQ q2)))))) (fun bP=>(br (c:=K==8) (fun bQ=>(ae bQ (br (c:=(↑(aoT B):Int)==0) (fun bJ=>(ae bJ (ae bJ (br (c:=decide (N ≥ 0)) (fun bk=>(ae bk (ae bk (ae bk (ae bJ (br (c:= !decide (N≤1)) (fun cP=>q2) (fun cP=>(ae h7 (ae h7 (ae h7 (ae h7 (ae (bg 8 14 bQ) (ae (bg 8 14 bQ) (ae (bg 8 14 bQ) (ae (bg 8 14 bQ) (ae h5 (ae h8 (ae bP (ae h6 (ae (bg 8 16 bQ) (ae h7 (ae bQ q3)))))))))))))))))))))) (fun bk=>(ae bk (ae bk (ae bk (ae bJ q2))))))))) (fun bJ=>(ae bJ (ae bJ (ae bJ q2))))))) (fun bQ=>(ae (show(K==11)=false by exact(decide_eq_false (by omega))) (br (c:=K==9) (fun bJ=>(br (c:=(↑(aoT B):Int)==0) (fun bk=>(ae bk (ae bk (ae bk (br (c:= !N==0) (fun cP=>q2) (fun cP=>(ae h7 (ae h7 (ae h7 (ae h7 (ae (bg 9 14 bJ) (ae (bg 9 14 bJ) (ae (bg 9 14 bJ) (ae (bg 9 14 bJ) (ae h5 (ae h8 (ae bP (ae h6 (ae (bg 9 16 bJ) (ae h7 (ae bQ (ae (bg 9 11 bJ) (ae (bg 9 13 bJ) (ae (bg 9 14 bJ) q3)))))))))))))))))))))))) (fun bk=>(ae bk (ae bk (ae bk q2)))))) (fun bJ=>(br (c:=K==12) (fun bk=>(ae bk (br (c:=(↑(aoT B):Int)==0) (fun cP=>(ae cP (ae cP (br (c:=decide (N ≥ 1)) (fun ef=>(ae ef (ae ef (ae ef (ae cP (br (c:= !decide (N≤4)) (fun dN=>q2) (fun dN=>(ae h7 (ae h7 (ae h7 (ae h7 (ae (bg 12 14 bk) (ae (bg 12 14 bk) (ae (bg 12 14 bk) (ae (bg 12 14 bk) (ae h5 (ae h8 (ae bP (ae h6 (ae (bg 12 16 bk) (ae h7 (ae bQ (ae (bg 12 11 bk) (ae (bg 12 13 bk) (ae (bg 12 14 bk) q3))))))))))))))))))))))))) (fun ef=>(ae ef (ae ef (ae ef (ae cP q2))))))))) (fun cP=>(ae cP (ae cP (ae cP q2))))))) (fun bk=>(br (c:=K==15) (fun cP=>(ae cP (br (c:=(↑(aoT B):Int)==0) (fun ef=>(ae ef (ae ef (br (c:=decide (N ≥ 1)) (fun dN=>(ae dN (ae dN (ae dN (ae ef (br (c:= !decide (N≤4)) (fun dh=>q2) (fun dh=>(ae h7 (ae h7 (ae h7 (ae h7 (ae (bg 15 14 cP) (ae (bg 15 14 cP) (ae (bg 15 14 cP) (ae (bg 15 14 cP) (ae h5 (ae h8 (ae bP (ae h6 (ae (bg 15 16 cP) (ae h7 (ae bQ (ae (bg 15 11 cP) (ae (bg 15 13 cP) (ae (bg 15 14 cP) q3))))))))))))))))))))))))) (fun dN=>(ae dN (ae dN (ae dN (ae ef q2))))))))) (fun ef=>(ae ef (ae ef (ae ef q2))))))) (fun cP=>(br (c:=K==16) (fun ef=>(br (c:=(↑(aoT B):Int)==0) (fun dN=>(ae dN (ae dN (br (c:=decide (N ≥ 1)) (fun dh=>(ae dh (ae dh (ae dh (ae dN (br (c:= !decide (N≤4)) (fun da=>q2) (fun da=>(ae h7 (ae h7 (ae h7 (ae h7 (ae (bg 16 14 ef) (ae (bg 16 14 ef) (ae (bg 16 14 ef) (ae (bg 16 14 ef) (ae h5 (ae h8 (ae bP (ae h6 (ae ef q3)))))))))))))))))))) (fun dh=>(ae dh (ae dh (ae dh (ae dN q2))))))))) (fun dN=>(ae dN (ae dN (ae dN q2)))))) (fun ef=>(br (c:=K==13) (fun dN=>(br (c:=(↑(aoT B):Int)==0) (fun dh=>(ae dh (ae dh (br (c:=(↑(aoT A):Int)==1) (fun da=>(ae da (ae (wM da) (ae da (ae (wL da) (ae da (ae da (ae dh (br (c:=ay (af A) 0 != 10) (fun eH=>(ae eH (ae eH (br (c:=decide (N ≥ 1)) (fun gD=>(ae gD (ae gD (ae gD (ae eH (br (c:= !decide (N≤4)) (fun rc=>q2) (fun rc=>(ae h7 (ae h7 (ae h7 (ae h7 (ae (bg 13 14 dN) (ae (bg 13 14 dN) (ae (bg 13 14 dN) (ae (bg 13 14 dN) (ae h5 (ae h8 (ae bP (ae h6 (ae ef (ae h7 (ae bQ (ae (bg 13 11 dN) (ae dN (br (c:=decide (aoN ao2 (96*N)>2048)) (fun uN=>sS) (fun uN=>q3)))))))))))))))))))))))))) (fun gD=>(ae gD (ae gD (ae gD (ae eH q2))))))))) (fun eH=>(ae eH (ae eH (ae eH q2))))))))))))) (fun da=>(ae da (ae da (ae da (ae da (ae dh q2)))))))))) (fun dh=>(ae dh (ae dh (ae dh q2)))))) (fun dN=>(ae (show(K==14)=true by simp at hA hB hK h0 h1 h2 h3 h4 h5 h6 h7 h8 h9 bP bQ bJ bk cP ef dN⊢ <;>omega) (br (c:=(↑(aoT B):Int)==0) (fun dh=>(ae dh (ae dh (br (c:=(↑(aoT A):Int)==1) (fun da=>(ae da (ae (wM da) (ae da (ae (wL da) (ae da (ae da (ae dh (br (c:=ay (af A) 0 != 10) (fun eH=>(ae eH (ae eH (ae eH (br (c:= !decide (N ≥ 1)) (fun gD=>q2) (fun gD=>(ae h7 (ae h7 (ae h7 (ae h7 (ae (show(K==14)=true by simp at hA hB hK h0 h1 h2 h3 h4 h5 h6 h7 h8 h9 bP bQ bJ bk cP ef dN dh da eH gD⊢ <;>omega) (ae (show(K==14)=true by simp at hA hB hK h0 h1 h2 h3 h4 h5 h6 h7 h8 h9 bP bQ bJ bk cP ef dN dh da eH gD⊢ <;>omega) (ae (show(K==14)=true by simp at hA hB hK h0 h1 h2 h3 h4 h5 h6 h7 h8 h9 bP bQ bJ bk cP ef dN dh da eH gD⊢ <;>omega) (ae (show(K==14)=true by simp at hA hB hK h0 h1 h2 h3 h4 h5 h6 h7 h8 h9 bP bQ bJ bk cP ef dN dh da eH gD⊢ <;>omega) (br (c:=decide (N>100)) (fun rc=>sS) (fun rc=>(ae h5 (ae h8 (ae bP (ae h6 (ae ef (ae h7 (ae bQ (ae (show(K==11)=false by exact(decide_eq_false (by omega))) (ae dN (ae (show(K==14)=true by simp at hA hB hK h0 h1 h2 h3 h4 h5 h6 h7 h8 h9 bP bQ bJ bk cP ef dN dh da eH gD rc⊢ <;>omega) (br (c:=decide (aoN ao2 (2*aoN ao2 (aoN ao2 (64*N)+96))>2048)) (fun uN=>sS) (fun uN=>q3)))))))))))))))))))))))))))) (fun eH=>(ae eH (ae eH (ae eH q2))))))))))))) (fun da=>(ae da (ae da (ae da (ae da (ae dh q2)))))))))) (fun dh=>(ae dh (ae dh (ae dh q2)))))))))))))))))))))))))))))))))))))))) (fun h2=>(ae h2 (ae h2 (ae h2 (ae h2 (br (c:=K==1) (fun h3=>(ae h3 q2)) (fun h3=>(br (c:=K==2) (fun h4=>q2) (fun h4=>(br (c:=K==3) (fun h5=>(ae h5 q2)) (fun h5=>(br (c:=K==10) (fun h6=>q2) (fun h6=>(br (c:=K==4) (fun h7=>q2) (fun h7=>(br (c:=K==5) (fun h8=>(br (c:=(↑(aoT B):Int)==0) (fun h9=>(ae h9 (ae h9 (br (c:=decide (N ≥ 0)) (fun bP=>(ae bP (ae bP (ae bP (ae h9 (br (c:=decide (N≤1)) (fun bQ=>(ae bQ (ae bQ (ae bQ (br (c:=decide ((↑(aoT A):Int) ≥ 1)) (fun bJ=>(ae bJ (ae bJ (ae bJ (ae bQ (br (c:=decide ((↑(aoT A):Int)≤16)) (fun bk=>(ae bk (ae bk (ae (show(aoS (af A) ag)=true by exact aH _) (ae (show(pR (af A) (aoT A=aoT A∧5=5∧aoM (af A)=aoT A∧aoT A≤10000))=true by exact CF ⟨rfl,rfl,mH _,by omega⟩) (ae bk (ae bk (br (c:= !!sk (si (af A)) 10) (fun cP=>q2) (fun cP=>(ae h7 (ae h7 (ae h7 (ae h7 (ae (bg 5 14 h8) (ae (bg 5 14 h8) (ae (bg 5 14 h8) (ae (bg 5 14 h8) (ae h5 (ae h8 (ae h8 q3)))))))))))))))))))) (fun bk=>(ae bk (ae bk (ae bk (ae bk q2))))))))))) (fun bJ=>(ae bJ (ae bJ (ae bJ (ae bQ q2)))))))))) (fun bQ=>(ae bQ (ae bQ (ae bQ (ae bQ q2))))))))))) (fun bP=>(ae bP (ae bP (ae bP (ae h9 q2))))))))) (fun h9=>(ae h9 (ae h9 (ae h9 q2)))))) (fun h8=>(br (c:=K==6) (fun h9=>(br (c:=N==0) (fun bP=>(ae bP (ae bP (ae bP (br (c:=decide ((↑(aoT A):Int) ≥ 1)) (fun bQ=>(ae bQ (ae bQ (ae bQ (ae bP (br (c:=decide ((↑(aoT A):Int)≤64)) (fun bJ=>(ae bJ (ae bJ (ae (show(aoS (af A) ag)=true by exact aH _) (ae (show(pR (af A) (aoT A=aoT A∧5=5∧aoM (af A)=aoT A∧aoT A≤10000))=true by exact CF ⟨rfl,rfl,mH _,by omega⟩) (ae bJ (br (c:=sj (si (af A))) (fun bk=>(ae bk (ae bk (ae bk (ae bk (ae bk (ae bk (ae bk (br (c:= !decide ((↑(aoT B):Int)≤(↑(aoT A):Int))) (fun cP=>q2) (fun cP=>(ae h7 (ae h7 (ae h7 (ae h7 (ae (bg 6 14 h9) (ae (bg 6 14 h9) (ae (bg 6 14 h9) (ae (bg 6 14 h9) (ae h5 (ae h8 (ae (bg 6 7 h9) (ae h6 (ae (bg 6 16 h9) (ae h7 (ae (bg 6 8 h9) (ae (bg 6 11 h9) (ae (bg 6 13 h9) (ae (bg 6 14 h9) q3)))))))))))))))))))))))))))) (fun bk=>(ae bk (ae bk (ae bk (ae bk (ae bk (ae bk (ae bk q2))))))))))))))) (fun bJ=>(ae bJ (ae bJ (ae bJ q2)))))))))) (fun bQ=>(ae bQ (ae bQ (ae bQ (ae bP q2)))))))))) (fun bP=>(ae bP (ae bP (ae bP (ae bP q2))))))) (fun h9=>(br (c:=K==7) (fun bP=>(br (c:=(↑(aoT B):Int)==0) (fun bQ=>(ae bQ (ae bQ (br (c:=(↑(aoT A):Int)==1) (fun bJ=>(ae bJ (ae (wM bJ) (ae bJ (ae (wL bJ) (ae bJ (ae bJ (ae bQ (br (c:=ay (af A) 0 != 10) (fun bk=>(ae bk (ae bk (br (c:=decide (N ≥ 1)) (fun cP=>(ae cP (ae cP (ae cP (ae bk (br (c:= !decide (N≤65535)) (fun ef=>q2) (fun ef=>(ae h7 (ae h7 (ae h7 (ae h7 (ae (bg 7 14 bP) (ae (bg 7 14 bP) (ae (bg 7 14 bP) (ae (bg 7 14 bP) (ae h5 (ae h8 (ae bP (ae bP q3))))))))))))))))))) (fun cP=>(ae cP (ae cP (ae cP (ae bk q2))))))))) (fun bk=>(ae bk (ae bk (ae bk q2))))))))))))) (fun bJ=>(ae bJ (ae bJ (ae bJ (ae bJ (ae bQ q2)))))))))) (fun bQ=>(ae bQ (ae bQ (ae bQ q2)))))) (fun bP=>(br (c:=K==8) (fun bQ=>(ae bQ q2)) (fun bQ=>(ae (show(K==11)=false by exact(decide_eq_false (by omega))) (br (c:=K==9) (fun bJ=>q2) (fun bJ=>(br (c:=K==12) (fun bk=>(ae bk q2)) (fun bk=>(br (c:=K==15) (fun cP=>(ae cP q2)) (fun cP=>(br (c:=K==16) (fun ef=>q2) (fun ef=>(br (c:=K==13) (fun dN=>(br (c:=(↑(aoT B):Int)==0) (fun dh=>(ae dh (ae dh (br (c:=(↑(aoT A):Int)==1) (fun da=>(ae da (ae (wM da) (ae da (ae (wL da) (ae da (ae da (ae dh (br (c:=ay (af A) 0 != 10) (fun eH=>(ae eH (ae eH (br (c:=decide (N ≥ 1)) (fun gD=>(ae gD (ae gD (ae gD (ae eH (br (c:= !decide (N≤4)) (fun rc=>q2) (fun rc=>(ae h7 (ae h7 (ae h7 (ae h7 (ae (bg 13 14 dN) (ae (bg 13 14 dN) (ae (bg 13 14 dN) (ae (bg 13 14 dN) (ae h5 (ae h8 (ae bP (ae h6 (ae ef (ae h7 (ae bQ (ae (bg 13 11 dN) (ae dN (br (c:=decide (aoN ao2 (96*N)>2048)) (fun uN=>sS) (fun uN=>q3)))))))))))))))))))))))))) (fun gD=>(ae gD (ae gD (ae gD (ae eH q2))))))))) (fun eH=>(ae eH (ae eH (ae eH q2))))))))))))) (fun da=>(ae da (ae da (ae da (ae da (ae dh q2)))))))))) (fun dh=>(ae dh (ae dh (ae dh q2)))))) (fun dN=>(ae (show(K==14)=true by simp at hA hB hK h0 h1 h2 h3 h4 h5 h6 h7 h8 h9 bP bQ bJ bk cP ef dN⊢ <;>omega) (br (c:=(↑(aoT B):Int)==0) (fun dh=>(ae dh (ae dh (br (c:=(↑(aoT A):Int)==1) (fun da=>(ae da (ae (wM da) (ae da (ae (wL da) (ae da (ae da (ae dh (br (c:=ay (af A) 0 != 10) (fun eH=>(ae eH (ae eH (ae eH (br (c:= !decide (N ≥ 1)) (fun gD=>q2) (fun gD=>(ae h7 (ae h7 (ae h7 (ae h7 (ae (show(K==14)=true by simp at hA hB hK h0 h1 h2 h3 h4 h5 h6 h7 h8 h9 bP bQ bJ bk cP ef dN dh da eH gD⊢ <;>omega) (ae (show(K==14)=true by simp at hA hB hK h0 h1 h2 h3 h4 h5 h6 h7 h8 h9 bP bQ bJ bk cP ef dN dh da eH gD⊢ <;>omega) (ae (show(K==14)=true by simp at hA hB hK h0 h1 h2 h3 h4 h5 h6 h7 h8 h9 bP bQ bJ bk cP ef dN dh da eH gD⊢ <;>omega) (ae (show(K==14)=true by simp at hA hB hK h0 h1 h2 h3 h4 h5 h6 h7 h8 h9 bP bQ bJ bk cP ef dN dh da eH gD⊢ <;>omega) (br (c:=decide (N>100)) (fun rc=>sS) (fun rc=>(ae h5 (ae h8 (ae bP (ae h6 (ae ef (ae h7 (ae bQ (ae (show(K==11)=false by exact(decide_eq_false (by omega))) (ae dN (ae (show(K==14)=true by simp at hA hB hK h0 h1 h2 h3 h4 h5 h6 h7 h8 h9 bP bQ bJ bk cP ef dN dh da eH gD rc⊢ <;>omega) (br (c:=decide (aoN ao2 (2*aoN ao2 (aoN ao2 (64*N)+96))>2048)) (fun uN=>sS) (fun uN=>q3)))))))))))))))))))))))))))) (fun eH=>(ae eH (ae eH (ae eH q2))))))))))))) (fun da=>(ae da (ae da (ae da (ae da (ae dh q2)))))))))) (fun dh=>(ae dh (ae dh (ae dh q2))))))))))))))))))))))))))))))))))))))))))))))))
abbrev wO:=fun(N:Int) A B=>(⟨[(2,aa 11)],sR A B⟩:ai)
theorem alk(N:Int)(A B){Q:bo}(hq:Q (.ret (aa 11)) (wO N A B).objs):aJ apq 31 17 2 Q .ret (wO N A B):=aJ.ret (vs:=[aa 11]) (l:=[]) (bs:=[0,1]) (pl:=[0,1]) (q:=[af A,af B]) (fun u=>by kernel_rfl) (by kernel_rfl) (aF (aH A) (aF (aH B) bi)) hq
abbrev JI:=fun(N:Int) A B=>(⟨[(2,aa 0)],sR A B⟩:ai)
theorem alm(N:Int)(A B){Q:bo}(hq:Q (.ret (aa 0)) (JI N A B).objs):aJ apq 31 17 2 Q .ret (JI N A B):=aJ.ret (vs:=[aa 0]) (l:=[]) (bs:=[0,1]) (pl:=[0,1]) (q:=[af A,af B]) (fun u=>by kernel_rfl) (by kernel_rfl) (aF (aH A) (aF (aH B) bi)) hq
theorem Tv(N:Int)(A B:ByteArray)(hA:A.size≤1000)(hB:B.size≤1000){Q:aY}(l2:((↑(aoT A):Int)==0)=true→((↑(aoT B):Int)==0)=true→(decide (N ≥ 0))=true→(!decide (N≤1))=true→Q .ret (wO N A B))(l3:((↑(aoT A):Int)==0)=true→((↑(aoT B):Int)==0)=true→(decide (N ≥ 0))=true→(!decide (N≤1))=false→Q .ret (JI N A B))(l4:((↑(aoT A):Int)==0)=true→((↑(aoT B):Int)==0)=true→(decide (N ≥ 0))=false→Q .ret (wO N A B))(l5:((↑(aoT A):Int)==0)=true→((↑(aoT B):Int)==0)=false→Q .ret (wO N A B))(l6:((↑(aoT A):Int)==0)=false→Q .ret (wO N A B)):an apq 17 2 wN ⟨[(0,.agg #[aa 11,aa N,ah 0 A.size,ah 1 B.size])],[.cells (af A) 5 true,.cells (af B) 5 true]⟩ Q:=
 aZ Tp 1000 (.fork 11 (aA [1,3,3,1] (.fork 11 (aA [1,3] (.fork 1 (aA [1,1,1,1] (.fork 0 (.leaf [2] [0,1] [0,1]) (.leaf [2] [0,1] [0,1]))) (aA [0,0,0,1] (.leaf [2] [0,1] [0,1])))) (aA [0,0,0] (.leaf [2] [0,1] [0,1])))) (aA [0,0,0,0] (.leaf [2] [0,1] [0,1]))) (fun u=>by kernel_rfl) (Tree.dn (c:=(↑(aoT A):Int)==0) (fun h0=>(Tree.aW h0 (Tree.aW h0 (Tree.aW h0 (Tree.aW h0 (Tree.dn (c:=(↑(aoT B):Int)==0) (fun h1=>(Tree.aW h1 (Tree.aW h1 (Tree.dn (c:=decide (N ≥ 0)) (fun h2=>(Tree.aW h2 (Tree.aW h2 (Tree.aW h2 (Tree.aW h1 (Tree.dn (c:= !decide (N≤1)) (fun h3=>(Tree.aW (aH A) (Tree.aW (aH B) (Tree.dD (l2 h0 h1 h2 h3))))) (fun h3=>(Tree.aW (aH A) (Tree.aW (aH B) (Tree.dD (l3 h0 h1 h2 h3))))))))))) (fun h2=>(Tree.aW h2 (Tree.aW h2 (Tree.aW h2 (Tree.aW h1 (Tree.aW (aH A) (Tree.aW (aH B) (Tree.dD (l4 h0 h1 h2))))))))))))) (fun h1=>(Tree.aW h1 (Tree.aW h1 (Tree.aW h1 (Tree.aW (aH A) (Tree.aW (aH B) (Tree.dD (l5 h0 h1)))))))))))))) (fun h0=>(Tree.aW h0 (Tree.aW h0 (Tree.aW h0 (Tree.aW h0 (Tree.aW (aH A) (Tree.aW (aH B) (Tree.dD (l6 h0))))))))))
abbrev CG:=fun(N:Int) A B=>(⟨[(2,aa 11)],sR A B⟩:ai)
abbrev JJ:=fun(N:Int) A B=>(⟨[(2,aa 0)],sR A B⟩:ai)
theorem aln(N:Int)(A B){Q:bo}(hq:Q (.ret (aa 0)) (JJ N A B).objs):aJ apq 59 11 2 Q .ret (JJ N A B):=aJ.ret (vs:=[aa 0]) (l:=[]) (bs:=[0,1]) (pl:=[0,1]) (q:=[af A,af B]) (fun u=>by kernel_rfl) (by kernel_rfl) (aF (aH A) (aF (aH B) bi)) hq
theorem alo(N:Int)(A B:ByteArray)(hA:A.size≤1000)(hB:B.size≤1000){Q:aY}(l2:(decide (N<0))=true→Q .ret (CG N A B))(l3:(decide (N<0))=false→(decide (N>1))=true→Q .ret (CG N A B))(l4:(decide (N<0))=false→(decide (N>1))=false→((↑(aoT A):Int)==0)=true→(!(↑(aoT B):Int)==0)=true→Q .ret (CG N A B))(l5:(decide (N<0))=false→(decide (N>1))=false→((↑(aoT A):Int)==0)=true→(!(↑(aoT B):Int)==0)=false→Q .ret (JJ N A B))(l6:(decide (N<0))=false→(decide (N>1))=false→((↑(aoT A):Int)==0)=false→Q .ret (CG N A B)):an apq 11 2 ale ⟨[(0,.agg #[aa 11,aa N,ah 0 A.size,ah 1 B.size])],[.cells (af A) 5 true,.cells (af B) 5 true]⟩ Q:=
 aZ ald 1000 (.fork 15 (aA [1,1,1,1,1] (.leaf [2] [0,1] [0,1])) (aA [0,2,0,2,0] (.fork 0 (aA [1,1,1,1] (.leaf [2] [0,1] [0,1])) (aA [2,2] (.fork 7 (aA [1,3,3,1,0,0] (.fork 0 (.leaf [2] [0,1] [0,1]) (.leaf [2] [0,1] [0,1]))) (aA [0,0,0,0,0,0] (.leaf [2] [0,1] [0,1]))))))) (fun u=>by kernel_rfl) (Tree.dn (c:=decide (N<0)) (fun h0=>(Tree.aW h0 (Tree.aW h0 (Tree.aW h0 (Tree.aW h0 (Tree.aW h0 (Tree.aW (aH A) (Tree.aW (aH B) (Tree.dD (l2 h0)))))))))) (fun h0=>(Tree.aW h0 (Tree.aW h0 (Tree.aW h0 (Tree.aW h0 (Tree.aW h0 (Tree.dn (c:=decide (N>1)) (fun h1=>(Tree.aW h1 (Tree.aW h1 (Tree.aW h1 (Tree.aW h1 (Tree.aW (aH A) (Tree.aW (aH B) (Tree.dD (l3 h0 h1))))))))) (fun h1=>(Tree.aW h1 (Tree.aW h1 (Tree.dn (c:=(↑(aoT A):Int)==0) (fun h2=>(Tree.aW h2 (Tree.aW h2 (Tree.aW h2 (Tree.aW h2 (Tree.aW h1 (Tree.aW h1 (Tree.dn (c:= !(↑(aoT B):Int)==0) (fun h3=>(Tree.aW (aH A) (Tree.aW (aH B) (Tree.dD (l4 h0 h1 h2 h3))))) (fun h3=>(Tree.aW (aH A) (Tree.aW (aH B) (Tree.dD (l5 h0 h1 h2 h3))))))))))))) (fun h2=>(Tree.aW h2 (Tree.aW h2 (Tree.aW h2 (Tree.aW h2 (Tree.aW h1 (Tree.aW h1 (Tree.aW (aH A) (Tree.aW (aH B) (Tree.dD (l6 h0 h1 h2)))))))))))))))))))))))
end
end Go.Proofs.YtnlkkgpcikkpoaaGreat
namespace Go.Proofs.YtnlkkgpcikkpoaaGreat
open Go Vm Go.RowKit
abbrev CH(K N:Int)(A B:ByteArray):List aoP:=[.agg #[.int .i64 K,.int .i64 N,.slice (some ⟨0,0,none⟩) A.size A.size,.slice (some ⟨1,0,none⟩) B.size B.size]]
abbrev sU(A B:ByteArray):List ak:=[.cells (af A) 5 true,.cells (af B) 5 true]
theorem alp(N:Int)(A B:ByteArray)(hA:A.size≤1000)(hB:B.size≤1000):
 ∃e,aI aoL 31 (CH 11 N A B) (sU A B) (fun r o=>r=.ret (.int .i64 e)∧o=sU A B)∧(e=0→A.size=0∧B.size=0∧0≤N∧N≤1):=by
 by_cases h:A.size=0∧B.size=0∧0≤N∧N≤1
 ·refine⟨0,?_,fun _=>h⟩
  obtain⟨h1,h2,h3,h4⟩:=h
  refine aI.cY (n:=cp aoL 31) (by kernel_rfl) ?_
  apply Tv N A B hA hB
  case l2=>intro _ _ _ g;have g:¬N≤1:=by simpa using g
           exact absurd h4 g
  case l3=>intros;exact alm N A B ⟨rfl,rfl⟩
  case l4=>intro _ _ g;have g:=of_decide_eq_false g;exact absurd h3 g
  case l5=>intro _ g;rw[h2]at g;cases g
  case l6=>intro g;rw[h1]at g;cases g
 ·refine⟨11,?_,fun h=>by cases h⟩
  refine aI.cY (n:=cp aoL 31) (by kernel_rfl) ?_
  apply Tv N A B hA hB
  case l3=>
   intro g1 g2 g3 g4
   have g1:(A.size:Int)=0:=by simpa using g1
   have g2:(B.size:Int)=0:=by simpa using g2
   have g3:=of_decide_eq_true g3
   have g4:N≤1:=by simpa using g4
   exact absurd ⟨by omega,by omega,by omega,g4⟩ h
  all_goals intros;exact alk N A B ⟨rfl,rfl⟩
theorem alq(K N:Int)(A B:ByteArray)(hA:A.size≤1000)(hB:B.size≤1000):
 ∃e,aI aoL 31 (CH K N A B) (sU A B) (fun r o=>r=.ret (.int .i64 e)∧o=sU A B)∧(e=0→K=11→A.size=0∧B.size=0∧0≤N∧N≤1):=by
 by_cases hK:K=11
 ·subst hK
  obtain⟨e,h1,h2⟩:=alp N A B hA hB
  exact⟨e,h1,fun h _=>h2 h⟩
 ·obtain⟨e,he⟩:=alj K N A B hA hB hK
  exact⟨e,aI.cY (n:=cp aoL 31) (by kernel_rfl) he,fun _ h=>absurd h hK⟩
theorem alr(N:Int)(A B:ByteArray)(hA:A.size≤1000)(hB:B.size≤1000)(h1:A.size=0)(h2:B.size=0)(h3:0≤N)(h4:N≤1):
 aI aoL 59 (CH 11 N A B) (sU A B) (fun r o=>r=.ret (.int .i64 0)∧o=sU A B):=by
 refine aI.cY (n:=cp aoL 59) (by kernel_rfl) ?_
 apply alo N A B hA hB
 case l2=>intro g;have g:=of_decide_eq_true g;omega
 case l3=>intro _ g;have g:=of_decide_eq_true g;omega
 case l4=>intro _ _ _ g;rw[h2]at g;cases g
 case l5=>intros;exact aln N A B ⟨rfl,rfl⟩
 case l6=>intro _ _ g;rw[h1]at g;cases g
noncomputable section
noncomputable def als:List apw:=bd (dC aoL 10)
abbrev JK:ai:=⟨[(0,.bool true)],[]⟩
theorem alt{Q:bo}(hq:Q (.ret (.bool true)) (JK).objs):aJ apq 10 45 0 Q .ret (JK):=aJ.ret (vs:=[.bool true]) (l:=[]) (bs:=[]) (pl:=[]) (q:=[]) (fun u=>by kernel_rfl) (by kernel_rfl) bi hq
theorem aw{Q:aY}(l0:Q .ret (JK)):an apq 45 0 als ⟨[],[]⟩ Q:=
 an.tree de mixed (XM 1000) (lf:=1000) (m:=1000) (s:=(.leaf [0] [] [])) (fun u=>by kernel_rfl) (Tree.dD (l0))
end
noncomputable section
noncomputable def CI:List apw:=bd (dC aoL 32)
open Tree renaming aW→mN,dn→mF,eS→mL,fA→mQ,dD→mR,fK→mE
noncomputable abbrev Tw:List apw:=(CI.drop 2)
abbrev Tx(sc:List (Int×Int))(ro:Bool):ai:=⟨[(2,ah 1 (0+aoM sc))],[.cells (aG sc) 77 ro,ab ([]++apd (aoM sc*2) (aG sc)) 77]⟩
theorem alu(sc:List (Int×Int))(ro:Bool){Q:bo}(aX:aoS (aG sc) ag=true)(hq:Q (.ret (ah 1 (0+aoM sc))) [.cells (aG sc) 77 ro,ab ([]++apd (aoM sc*2) (aG sc)) 77]):aJ aoL 32 8 1 Q .ret (Tx sc ro):=aJ.ret (vs:=[ah 1 (0+aoM sc)]) (l:=[]) (bs:=[0,1]) (pl:=[0,1]) (q:=[aG sc,[]++apd (aoM sc*2) (aG sc)]) (fun u=>by kernel_rfl) (by kernel_rfl) (aF aX (aF (by exact aC rfl (aB (by assumption) _)) bi)) hq
theorem alv(sc:List (Int×Int))(ro:Bool)(h1:0<(aoM sc))(h2:(aoM sc)≤100000)(h3:(aG sc).length=(aoM sc)*2){Q:aY}(n0:(aoS (apd (aoM sc*2) (aG sc)) apR)=true)(aX:aoS (aG sc) ag=true)(l2:Q .ret (Tx sc ro)):an aoL 8 1 CI ⟨[(0,ah 0 (aoM sc))],[.cells (aG sc) 77 ro]⟩ Q:=
 aZ bt 1000 (aA [0,1,2,1,1,1,1] (.leaf [2] [0,2] [0,2])) (fun u=>by kernel_rfl) (mN (show(ao9 0 (aoM sc))=true by simp at h1 h2 h3⊢ <;>omega) (mN (show(apf (0+aoM sc*2) (aoM (aG sc)))=true by simp at h1 h2 h3⊢ <;>omega) (mN (show(apf (0+aoM sc) 1000000)=true by simp at h1 h2 h3⊢ <;>omega) (mN n0 (mN (show(ao6 (aoM (apd (aoM sc*2) (aG sc))) (aoM sc*2))=true by simp at h1 h2 h3⊢ <;>omega) (mN (bb sc) (mN (show(aoS ([]++apd (aoM sc*2) (aG sc)) ag)=true by exact aC rfl (aB (by assumption) _)) (mR l2))))))))
abbrev wP(ro:Bool):List ak:=[.cells [] 77 ro]
abbrev alw(x ro:Bool):ai:=⟨[(0,ah 0 0)],wP ro⟩
abbrev alx(x ro:Bool):ai:=⟨[(0,ah 0 0)],wP ro⟩
theorem aly(x ro:Bool){Q:aY}(l0:an aoL 8 1 (CI.drop 1) (alw x ro) Q):an aoL 8 1 CI (alx x ro) Q:=
 aZ bt 1 (.leaf [0] [0] []) (fun u=>by kernel_rfl) (mQ l0)
abbrev Ty(ro:Bool):ai:=⟨[(2,cm)],wP ro⟩
theorem alz(ro:Bool){Q:bo}(hq:Q (.ret (cm)) (wP ro)):aJ aoL 32 8 1 Q .ret (Ty ro):=aJ.ret (vs:=[cm]) (l:=[]) (bs:=[0]) (pl:=[]) (q:=[]) (fun u=>by kernel_rfl) (by kernel_rfl) bi hq
abbrev alA(ro:Bool):ai:=⟨[(0,ah 0 0),(4,.bool true)],wP ro⟩
theorem alB(ro:Bool){Q:aY}(l0:Q .ret (Ty ro)):an aoL 8 1 Tw (alA ro) Q:=
 aZ bt 1000 (.leaf [2] [0] []) (fun u=>by kernel_rfl) (mR l0)
abbrev Tz(ro:Bool):ai:=⟨[(2,ah 1 0)],[.cells [] 77 ro,ab [] 77]⟩
theorem alC(ro:Bool){Q:bo}(hq:Q (.ret (ah 1 0)) [.cells [] 77 ro,ab [] 77]):aJ aoL 32 8 1 Q .ret (Tz ro):=aJ.ret (vs:=[ah 1 0]) (l:=[]) (bs:=[0,1]) (pl:=[]) (q:=[]) (fun u=>by kernel_rfl) (by kernel_rfl) bi hq
abbrev alD(ro:Bool):ai:=⟨[(0,ah 0 0),(4,.bool false)],wP ro⟩
theorem alE(ro:Bool){Q:aY}(l0:Q .ret (Tz ro)):an aoL 8 1 Tw (alD ro) Q:=
 aZ bt 1000 (.leaf [2] [0,2] []) (fun u=>by kernel_rfl) (mR l0)
end
theorem alF(ro:Bool):aI aoL 32 [.slice (some ⟨0,0,none⟩) 0 0] [.cells [] 77 ro] fun r o=>r=.ret (.slice (some ⟨1,0,none⟩) 0 0)∧o=[.cells [] 77 ro,.cells [] 77 false]:=by
 refine aI.NC (Q:=fun r o=>(r=.ret (.slice (some ⟨1,0,none⟩) 0 0)∧o=[.cells [] 77 ro,.cells [] 77 false])∨(r=.ret (.slice none 0 0)∧o=[.cells [] 77 ro])) 77 (s:=2) (by kernel_rfl) (by simp) ?_ ?_
 ·refine aI.cY (n:=cp aoL 32) (by kernel_rfl) ?_
  apply aly true ro
  refine an.MK ⟨0,3,4,52⟩ 77 ⟨0,0,none⟩ (by kernel_rfl) (by kernel_rfl) (by rfl) (by rfl) ?_
  intro b
  cases b with
  |true=>exact alB ro (alz ro (.inr ⟨rfl,rfl⟩))
  |false=>exact alE ro (alC ro (.inl ⟨rfl,rfl⟩))
 ·rintro r o (⟨rfl,rfl⟩|⟨rfl,rfl⟩)
  ·exact⟨by simp,by simp,.inl ⟨rfl,rfl⟩⟩
  ·exact⟨by simp,by simp,.inr ⟨rfl,rfl,rfl⟩⟩
theorem alG(sc:List (Int×Int))(ro:Bool)(hs:sc.length≤100000):aI aoL 32 [.slice (some ⟨0,0,none⟩) sc.length sc.length] [.cells (aG sc) 77 ro] fun r o=>r=.ret (.slice (some ⟨1,0,none⟩) sc.length sc.length)∧o=[.cells (aG sc) 77 ro,.cells (aG sc) 77 false]:=by
 by_cases h0:sc.length=0
 ·have e:sc=[]:=apL h0
  subst e
  exact alF ro
 ·refine aI.cY (n:=cp aoL 32) (by kernel_rfl) ?_
  have e:([]:List aoP)++apd (sc.length*2) (aG sc)=aG sc:=by
   rw[aqw,ap8 (by rw[oV];exact apn _)]
  apply alv sc ro (by omega) hs (oV _)
  case n0=>exact rX (aB (bb _) _)
  case aX=>exact bb _
  case l2=>
   refine alu sc ro (bb _) ⟨by rw[aqr],?_⟩
   rw[e]
noncomputable def uO(l:List aoP)(n m:Nat)(el:TypeId):Bool:=@decide (∃sc:List (Int×Int),l=aG sc∧n=sc.length∧m=n∧n≤100000∧el=77) (apj _)
noncomputable def JL(a:List aoP)(o:List ak):Option (Bool×bO×List ak):=match a,o with
 | [.slice (some ⟨0,0,none⟩) n m],[.cells l el ro]=>some (uO l n m el,.ret (.slice (some ⟨1,0,none⟩) n n),[.cells l el ro,.cells l el false])
 |_,_=>none
theorem alH:bB aoL 32 (Sum.of JL):=bB.of fun a o r o' hg=>by
 unfold JL at hg
 split at hg
 ·rename_i n m l el ro
  simp only[aoU,aoX]at hg
  obtain⟨h1,rfl,rfl⟩:=hg
  obtain⟨sc,rfl,rfl,rfl,h2,rfl⟩:=@of_decide_eq_true _ (apj _) h1
  exact alG sc ro h2
 ·cases hg
theorem TA{sc:List (Int×Int)}(h:sc.length≤100000):uO (aG sc) sc.length sc.length 77=true:=by
 unfold uO
 exact(@decide_eq_true_iff _ (apj _)).2 ⟨sc,rfl,rfl,rfl,h,rfl⟩
noncomputable def alI:List (apr×Sum):=[(32,Sum.of JL)]
theorem TB:dk aoL (dB aoL (dE alI) 50 40):=dI de mixed (dR (.cons alH .nil)) 50 40
noncomputable section
noncomputable def TC:List apw:=bd (dC aoL 11)
open Tree renaming aW→mN,dn→mF,eS→mL,fA→mQ,dD→mR,fK→mE
def TD:Nat→Bool→Bool→Tree→Tree
 |0,_,_,t=>t
 |n+1,d,b,t=>.cM d b (TD n d b t)
theorem TE{R:bj→ai→Prop}{c v:Bool}{t:Tree}(n:Nat)(h1:c=v)(h2:t.ok R):(TD n c v t).ok R:=by
 induction n with
 |zero=>exact h2
 |succ n ih=>exact⟨h1,ih⟩
abbrev JM(sc:List (Int×Int)):ai:=⟨[(2,al 1)],[.cells (aG sc) 77 true,ab ([ah 2 (aoM sc),.map (some 3),aa 0,aa 0,aa 0]) 80,ab (aG sc) 77,.map ([]) 0]⟩
theorem alJ(sc:List (Int×Int)){Q:bo}(aX:aoS (aG sc) ag=true)(lP:aoS (bG [0,1,2,3] ([])) ag=true)(hq:Q (.ret (al 1)) (JM sc).objs):aJ aoL 11 8 1 Q .ret (JM sc):=aJ.ret (vs:=[al 1]) (l:=[]) (bs:=[0,1,2,3]) (pl:=[0,2,3]) (q:=[aG sc,aG sc,bG [0,1,2,3] ([])]) (fun u=>by kernel_rfl) (by kernel_rfl) (aF aX (aF (by assumption) (aF lP bi))) hq
theorem alK(sc:List (Int×Int))(h2:uO (aG sc) (aoM sc) (aoM sc) 77=true){Q:aY}(n0:(aoS (aG sc) ag)=true)(aX:aoS (aG sc) ag=true)(bh:aoS (bG [0,3,1,2] ([])) ag=true)(l3:Q .ret (JM sc)):an aoL 8 1 TC ⟨[(0,ah 0 (aoM sc))],[.cells (aG sc) 77 true]⟩ Q:=
 aZ TB 1000 (aA [3,1,1] (.leaf [2] [0,3,1,2] [0,1,2])) (fun u=>by kernel_rfl) (mN (bb sc) (mN (show(uO (aG sc) (aoM sc) (aoM sc) 77)=true by assumption) (mN (bb sc) (mN (bb sc) (mN (bb sc) (mN bh (mR l3)))))))
abbrev JN(sc:List (Int×Int)):ai:=⟨[(2,al 1)],[ab (aG sc) 77,ab ([ah 2 (aoM sc),.map (some 3),aa 0,aa 0,aa 0]) 80,ab (aG sc) 77,.map ([]) 0]⟩
theorem alL(sc:List (Int×Int)){Q:bo}(cy:aoS (bG [0,1,2,3] ([])) ag=true)(hq:Q (.ret (al 1)) (JN sc).objs):aJ aoL 11 8 1 Q .ret (JN sc):=aJ.ret (vs:=[al 1]) (l:=[]) (bs:=[0,1,2,3]) (pl:=[0,2,3]) (q:=[aG sc,aG sc,bG [0,1,2,3] ([])]) (fun u=>by kernel_rfl) (by kernel_rfl) (aF (bb sc) (aF (bb sc) (aF cy bi))) hq
theorem alM(sc:List (Int×Int))(h2:uO (aG sc) (aoM sc) (aoM sc) 77=true){Q:aY}(n0:(aoS (aG sc) ag)=true)(aX:aoS (aG sc) ag=true)(bh:aoS (bG [0,3,1,2] ([])) ag=true)(l3:Q .ret (JN sc)):an aoL 8 1 TC ⟨[(0,ah 0 (aoM sc))],[ab (aG sc) 77]⟩ Q:=
 aZ TB 1000 (aA [3,1,1,1] (.leaf [2] [0,3,1,2] [0,1,2])) (fun u=>by kernel_rfl) (mN (bb sc) (mN (show(uO (aG sc) (aoM sc) (aoM sc) 77)=true by assumption) (TE 2 (bb sc) (TE 2 (bb sc) (mN bh (mR l3))))))
end
theorem alN(sc:List (Int×Int))(ro:Bool)(hs:sc.length≤100000):aI aoL 11 [.slice (some ⟨0,0,none⟩) sc.length sc.length] [.cells (aG sc) 77 ro] fun r o=>r=.ret (.pointer (some ⟨1,0,none⟩))∧o=[.cells (aG sc) 77 ro,.abs ⟨sc,[],0,0,0⟩]:=by
 refine aI.trim (Q:=fun r o=>r=.ret (.pointer (some ⟨1,0,none⟩))∧o=[.cells (aG sc) 77 ro,.abs ⟨sc,[],0,0,0⟩,.dead,.dead]) (aI.XK (Q1:=fun r o=>r=.ret (.pointer (some ⟨1,0,none⟩))∧o=[.cells (aG sc) 77 ro,.cells [.slice (some ⟨2,0,none⟩) sc.length sc.length,.map (some 3),.int .i64 0,.int .i64 0,.int .i64 0] 80 false,.cells (aG sc) 77 false,.map [] 0]) ?_ ?_) ?_
 ·refine aI.cY (n:=cp aoL 11) (by kernel_rfl) ?_
  cases ro with
  |true=>exact alK sc (TA hs) (bb _) (bb _) (by rfl) (alJ sc (bb _) (by rfl) ⟨rfl,rfl⟩)
  |false=>exact alM sc (TA hs) (bb _) (bb _) (by rfl) (alL sc (by rfl) ⟨rfl,rfl⟩)
 ·rintro v o' ⟨rfl,rfl⟩ B w₀ ρ w' hw
  obtain⟨r,S,h1,h2,h3⟩:=XV hw (by simp) rfl rfl (bb _) (oV _) rfl
  refine⟨1,r,_,S,[1,2,3],by simp,h1,h2,rfl,fun k hk=>?_,rfl,rfl⟩
  obtain⟨y,hy,o,q,a,b,c,e,f⟩:=h3 k hk
  exact⟨y,o,q,by rcases hy with rfl|rfl|rfl<;>rfl,a,b,c,e,f⟩
 ·rintro r o ⟨rfl,rfl⟩
  exact⟨[0,1],[0],_,_,[aG sc],rfl,fun c hc=>by rw[apP]at hc;subst hc;exact bb _,rfl,rfl⟩
noncomputable section
theorem CJ:aI aoL 10 [] [] fun r' o'=>r'=.ret (.bool true)∧o'=[]:=by
 refine aI.cY (n:=cp aoL 10) (by kernel_rfl) ?_
 exact aw (alt ⟨rfl,rfl⟩)
def alO(kd pn:Int)(A B:ByteArray)(l:List aK)(sc:List (Int×Int))(C:List Int)(av:Int):List (apr×Sum):=[(8,Sum.one (kN aoL) [.agg #[aa kd,aa pn,ah 0 A.size,ah 1 B.size],ah 2 l.length,ah 3 sc.length,ah 4 1] (mP A B l sc C) (.ret (.bool (gS A B l sc C))) (mP A B l sc C)),(10,⟨vH,fun a o=>match a,o with
 | [],[]=>.done (.ret (.bool true),[])
 |_,_=>.fail⟩)]
theorem alP(kd pn:Int)(A B:ByteArray)(l:List aK)(sc:List (Int×Int))(C:List Int)(av:Int):dk aoL (dB aoL (dE (alO kd pn A B l sc C av)) 50 40):=dI de mixed (dR (.cons (bB.one (Jr kd pn A B l sc C)) (.cons (bB.closed CJ) .nil))) 50 40
def alQ(kd pn:Int)(A B:ByteArray)(l:List aK)(sc:List (Int×Int))(C:List Int)(av:Int)(e:Int):List (apr×Sum):=[(8,Sum.one (kN aoL) [.agg #[aa kd,aa pn,ah 0 A.size,ah 1 B.size],ah 2 l.length,ah 3 sc.length,ah 4 1] (mP A B l sc C) (.ret (.bool (gS A B l sc C))) (mP A B l sc C)),(31,Sum.one (kN aoL) [.agg #[aa kd,aa pn,ah 0 A.size,ah 1 B.size]] [.cells (af A) 5 true,.cells (af B) 5 true] (.ret (aa e)) [.cells (af A) 5 true,.cells (af B) 5 true]),(10,⟨vH,fun a o=>match a,o with
 | [],[]=>.done (.ret (.bool true),[])
 |_,_=>.fail⟩)]
theorem JO(kd pn:Int)(A B:ByteArray)(l:List aK)(sc:List (Int×Int))(C:List Int)(av e:Int)(ko:aI aoL 31 [.agg #[aa kd,aa pn,ah 0 A.size,ah 1 B.size]] [.cells (af A) 5 true,.cells (af B) 5 true] fun r q=>r=.ret (aa e)∧q=[.cells (af A) 5 true,.cells (af B) 5 true]):dk aoL (dB aoL (dE (alQ kd pn A B l sc C av e)) 50 40):=dI de mixed (dR (.cons (bB.one (Jr kd pn A B l sc C)) (.cons (bB.one ko) (.cons (bB.closed CJ) .nil)))) 50 40
def alR(pn:Int)(A B:ByteArray)(sc:List (Int×Int))(C:List Int)(av:Int)(s:aK):List (apr×Sum):=[(8,Sum.one (kN aoL) [.agg #[aa 11,aa pn,ah 0 A.size,ah 1 B.size],ah 2 1,ah 3 sc.length,ah 4 1] (mP A B [s] sc C) (.ret (.bool (gS A B [s] sc C))) (mP A B [s] sc C)),(59,Sum.one (kN aoL) [.agg #[aa 11,aa pn,ah 0 A.size,ah 1 B.size]] [.cells (af A) 5 true,.cells (af B) 5 true] (.ret (aa 0)) [.cells (af A) 5 true,.cells (af B) 5 true]),(31,Sum.one (kN aoL) [.agg #[aa 11,aa pn,ah 0 A.size,ah 1 B.size]] [.cells (af A) 5 true,.cells (af B) 5 true] (.ret (aa 0)) [.cells (af A) 5 true,.cells (af B) 5 true]),(10,⟨vH,fun a o=>match a,o with
 | [],[]=>.done (.ret (.bool true),[])
 |_,_=>.fail⟩),(11,Sum.one (kN aoL) [.slice (some ⟨0,0,none⟩) sc.length sc.length] [.cells (aG sc) 77 true] (.ret (.pointer (some ⟨1,0,none⟩))) [.cells (aG sc) 77 true,.abs (mS sc)])]
theorem alS(pn:Int)(A B:ByteArray)(sc:List (Int×Int))(C:List Int)(av:Int)(s:aK)(wQ:aI aoL 59 [.agg #[aa 11,aa pn,ah 0 A.size,ah 1 B.size]] [.cells (af A) 5 true,.cells (af B) 5 true] fun r q=>r=.ret (aa 0)∧q=[.cells (af A) 5 true,.cells (af B) 5 true])(wR:aI aoL 31 [.agg #[aa 11,aa pn,ah 0 A.size,ah 1 B.size]] [.cells (af A) 5 true,.cells (af B) 5 true] fun r q=>r=.ret (aa 0)∧q=[.cells (af A) 5 true,.cells (af B) 5 true])(oJ:aI aoL 11 [ah 0 (aoM sc)] [.cells (aG sc) 77 true] fun r q=>r=.ret (al 1)∧q=[.cells (aG sc) 77 true,.abs (mS sc)]):dk aoL (dB aoL (dE (alR pn A B sc C av s)) 50 40):=dI de mixed (dR (.cons (bB.one (Jr 11 pn A B [s] sc C)) (.cons (bB.one wQ) (.cons (bB.one wR) (.cons (bB.closed CJ) (.cons (bB.one oJ) .nil)))))) 50 40
noncomputable def nE:List apw:=bd (dC aoL 6)
open Tree renaming aW→mN,dn→mF,eS→mL,fA→mQ,dD→mR,fK→mE
def TF:Nat→Bool→Bool→Tree→Tree
 |0,_,_,t=>t
 |n+1,d,b,t=>.cM d b (TF n d b t)
theorem jZ{R:bj→ai→Prop}{c v:Bool}{t:Tree}(n:Nat)(h1:c=v)(h2:t.ok R):(TF n c v t).ok R:=by
 induction n with
 |zero=>exact h2
 |succ n ih=>exact⟨h1,ih⟩
abbrev wS:=fun A B l (sc:List (Int×Int)) C=>([.cells (af A) 5 true,.cells (af B) 5 true,gL l,.cells (aG sc) 77 true,.cells (ap C) 3 true]:List ak)
noncomputable abbrev JP(kd pn:Int)(A B:ByteArray)(l:List aK)(sc:List (Int×Int))(C:List Int)(av:Int):ai:=⟨[(10,.bool true)],wS A B l sc C⟩
theorem alT(kd pn:Int)(A B l)(sc:List (Int×Int))(C)(av:Int){Q:bo}(hq:Q (.ret (.bool true)) (JP kd pn A B l sc C av).objs):aJ aoL 6 147 5 Q .ret (JP kd pn A B l sc C av):=aJ.ret (vs:=[.bool true]) (l:=[]) (bs:=[0,1,2,3,4]) (pl:=[0,1,3,4]) (q:=[af A,af B,aG sc,ap C]) (fun u=>by kernel_rfl) (by kernel_rfl) (aF (aH A) (aF (aH B) (aF (bb sc) (aF (aQ C) bi)))) hq
theorem alU(kd pn:Int)(A B:ByteArray)(l)(sc:List (Int×Int))(C)(av:Int)(pp:(aG sc).all ag=true)(h0:gS A B l sc C=true){Q:aY}(n0:(dW [aqU #[aa kd,aa pn,ah 0 A.size,ah 1 B.size],ah 2 (aoM l),ah 3 (aoM sc),ah 4 1] [aqU #[aa kd,aa pn,ah 0 A.size,ah 1 B.size],ah 2 (aoM l),ah 3 (aoM sc),ah 4 1] [ak.cells (af A) 5 true,ak.cells (af B) 5 true,gL l,ak.cells (aG sc) 77 true,ab [ah 5 (aoM C)] 25,ak.cells (ap C) 3 true] (mP A B l sc C))=true)(aX:aoS (af A) ag=true)(bh:aoS (af B) ag=true)(bD:aoS (aG sc) ag=true)(bx:aoS (ap C) ag=true)(l5:Q .ret (JP kd pn A B l sc C av)):an aoL 147 5 nE ⟨[(0,.agg #[aa kd,aa pn,ah 0 A.size,ah 1 B.size]),(1,ah 2 (aoM l)),(2,ah 3 (aoM sc)),(3,ah 4 (aoM C)),(4,aa av)],[.cells (af A) 5 true,.cells (af B) 5 true,gL l,.cells (aG sc) 77 true,.cells (ap C) 3 true]⟩ Q:=
 aZ (alP kd pn A B l sc C av) 1000 (aA [5,1,1,1,1,1,1,1,1,1] (.leaf [10] [0,1,2,3,4] [0,1,3,4])) (fun u=>by kernel_rfl) (mN (aH A) (mN (aH B) (mN (bb sc) (mN (aQ C) (mN n0 (jZ 5 (show(gS A B l sc C)=true by assumption) (mN (aH A) (mN (aH B) (mN (bb sc) (mN (aQ C) (mR l5)))))))))))
noncomputable abbrev JQ(kd pn:Int)(A B:ByteArray)(l:List aK)(sc:List (Int×Int))(C:List Int)(av:Int)(e:Int):ai:=⟨[(10,.bool true)],wS A B l sc C⟩
theorem alV(kd pn:Int)(A B l)(sc:List (Int×Int))(C)(av e:Int){Q:bo}(hq:Q (.ret (.bool true)) (JQ kd pn A B l sc C av e).objs):aJ aoL 6 147 5 Q .ret (JQ kd pn A B l sc C av e):=aJ.ret (vs:=[.bool true]) (l:=[]) (bs:=[0,1,2,3,4]) (pl:=[0,1,3,4]) (q:=[af A,af B,aG sc,ap C]) (fun u=>by kernel_rfl) (by kernel_rfl) (aF (aH A) (aF (aH B) (aF (bb sc) (aF (aQ C) bi)))) hq
theorem alW(kd pn:Int)(A B:ByteArray)(l)(sc:List (Int×Int))(C)(av e:Int)(pp:(aG sc).all ag=true)(ko:aI aoL 31 [.agg #[aa kd,aa pn,ah 0 A.size,ah 1 B.size]] [.cells (af A) 5 true,.cells (af B) 5 true] fun r q=>r=.ret (aa e)∧q=[.cells (af A) 5 true,.cells (af B) 5 true])(h0:gS A B l sc C=false)(h1:¬e=0){Q:aY}(n0:(dW [aqU #[aa kd,aa pn,ah 0 A.size,ah 1 B.size],ah 2 (aoM l),ah 3 (aoM sc),ah 4 1] [aqU #[aa kd,aa pn,ah 0 A.size,ah 1 B.size],ah 2 (aoM l),ah 3 (aoM sc),ah 4 1] [ak.cells (af A) 5 true,ak.cells (af B) 5 true,gL l,ak.cells (aG sc) 77 true,ab [ah 5 (aoM C)] 25,ak.cells (ap C) 3 true] (mP A B l sc C))=true)(n1:(dW [aqU #[aa kd,aa pn,ah 0 A.size,ah 1 B.size]] [aqU #[aa kd,aa pn,ah 0 A.size,ah 1 B.size]] [ak.cells (af A) 5 true,ak.cells (af B) 5 true] [ak.cells (af A) 5 true,ak.cells (af B) 5 true])=true)(aX:aoS (af A) ag=true)(bh:aoS (af B) ag=true)(bD:aoS (aG sc) ag=true)(bx:aoS (ap C) ag=true)(l6:Q .ret (JQ kd pn A B l sc C av e)):an aoL 147 5 nE ⟨[(0,.agg #[aa kd,aa pn,ah 0 A.size,ah 1 B.size]),(1,ah 2 (aoM l)),(2,ah 3 (aoM sc)),(3,ah 4 (aoM C)),(4,aa av)],[.cells (af A) 5 true,.cells (af B) 5 true,gL l,.cells (aG sc) 77 true,.cells (ap C) 3 true]⟩ Q:=
 aZ (JO kd pn A B l sc C av e ko) 1000 (aA [5,1,1,1,1,0,2,0,7,1,1,0,0,0,0,8,0] (.leaf [10] [0,1,2,3,4] [0,1,3,4])) (fun u=>by kernel_rfl) (mN (aH A) (mN (aH B) (mN (bb sc) (mN (aQ C) (mN n0 (jZ 3 (show(gS A B l sc C)=false by assumption) (mN (aH A) (mN (aH B) (mN n1 (jZ 4 (decide_eq_false (by omega):(e==0)=false) (jZ 2 (show(gS A B l sc C)=false by assumption) (mN (aH A) (mN (aH B) (mN (bb sc) (mN (aQ C) (mR l6))))))))))))))))
noncomputable abbrev JR(kd pn:Int)(A B:ByteArray)(l:List aK)(sc:List (Int×Int))(C:List Int)(av:Int)(e:Int):ai:=⟨[(10,.bool true)],wS A B l sc C⟩
theorem alX(kd pn:Int)(A B l)(sc:List (Int×Int))(C)(av e:Int){Q:bo}(hq:Q (.ret (.bool true)) (JR kd pn A B l sc C av e).objs):aJ aoL 6 147 5 Q .ret (JR kd pn A B l sc C av e):=aJ.ret (vs:=[.bool true]) (l:=[]) (bs:=[0,1,2,3,4]) (pl:=[0,1,3,4]) (q:=[af A,af B,aG sc,ap C]) (fun u=>by kernel_rfl) (by kernel_rfl) (aF (aH A) (aF (aH B) (aF (bb sc) (aF (aQ C) bi)))) hq
noncomputable abbrev JS(kd pn:Int)(A B:ByteArray)(l:List aK)(sc:List (Int×Int))(C:List Int)(av:Int)(e:Int):ai:=⟨[(10,.bool true)],wS A B l sc C⟩
theorem alY(kd pn:Int)(A B l)(sc:List (Int×Int))(C)(av e:Int){Q:bo}(hq:Q (.ret (.bool true)) (JS kd pn A B l sc C av e).objs):aJ aoL 6 147 5 Q .ret (JS kd pn A B l sc C av e):=aJ.ret (vs:=[.bool true]) (l:=[]) (bs:=[0,1,2,3,4]) (pl:=[0,1,3,4]) (q:=[af A,af B,aG sc,ap C]) (fun u=>by kernel_rfl) (by kernel_rfl) (aF (aH A) (aF (aH B) (aF (bb sc) (aF (aQ C) bi)))) hq
theorem alZ(kd pn:Int)(A B:ByteArray)(l)(sc:List (Int×Int))(C)(av e:Int)(pp:(aG sc).all ag=true)(ko:aI aoL 31 [.agg #[aa kd,aa pn,ah 0 A.size,ah 1 B.size]] [.cells (af A) 5 true,.cells (af B) 5 true] fun r q=>r=.ret (aa e)∧q=[.cells (af A) 5 true,.cells (af B) 5 true])(h0:gS A B l sc C=false)(h1:¬kd=11){Q:aY}(n0:(dW [aqU #[aa kd,aa pn,ah 0 A.size,ah 1 B.size],ah 2 (aoM l),ah 3 (aoM sc),ah 4 1] [aqU #[aa kd,aa pn,ah 0 A.size,ah 1 B.size],ah 2 (aoM l),ah 3 (aoM sc),ah 4 1] [ak.cells (af A) 5 true,ak.cells (af B) 5 true,gL l,ak.cells (aG sc) 77 true,ab [ah 5 (aoM C)] 25,ak.cells (ap C) 3 true] (mP A B l sc C))=true)(n1:(dW [aqU #[aa kd,aa pn,ah 0 A.size,ah 1 B.size]] [aqU #[aa kd,aa pn,ah 0 A.size,ah 1 B.size]] [ak.cells (af A) 5 true,ak.cells (af B) 5 true] [ak.cells (af A) 5 true,ak.cells (af B) 5 true])=true)(aX:aoS (af A) ag=true)(bh:aoS (af B) ag=true)(bD:aoS (aG sc) ag=true)(bx:aoS (ap C) ag=true)(l6:(e==0)=true→Q .ret (JR kd pn A B l sc C av e))(l7:(e==0)=false→Q .ret (JS kd pn A B l sc C av e)):an aoL 147 5 nE ⟨[(0,.agg #[aa kd,aa pn,ah 0 A.size,ah 1 B.size]),(1,ah 2 (aoM l)),(2,ah 3 (aoM sc)),(3,ah 4 (aoM C)),(4,aa av)],[.cells (af A) 5 true,.cells (af B) 5 true,gL l,.cells (aG sc) 77 true,.cells (ap C) 3 true]⟩ Q:=
 aZ (JO kd pn A B l sc C av e ko) 1000 (aA [5,1,1,1,1,0,2,0,7,1,1] (.fork 0 (aA [1,3,1,0,0,0,0,0,0] (.leaf [10] [0,1,2,3,4] [0,1,3,4])) (aA [0,0,0,8,0] (.leaf [10] [0,1,2,3,4] [0,1,3,4])))) (fun u=>by kernel_rfl) (mN (aH A) (mN (aH B) (mN (bb sc) (mN (aQ C) (mN n0 (jZ 3 (show(gS A B l sc C)=false by assumption) (mN (aH A) (mN (aH B) (mN n1 (mF (c:=e==0) (fun h0=>(jZ 3 h0 (jZ 4 (decide_eq_false (by omega):(kd==11)=false) (jZ 2 (show(gS A B l sc C)=false by assumption) (mN (aH A) (mN (aH B) (mN (bb sc) (mN (aQ C) (mR (l6 h0)))))))))) (fun h0=>(jZ 3 h0 (jZ 2 (show(gS A B l sc C)=false by assumption) (mN (aH A) (mN (aH B) (mN (bb sc) (mN (aQ C) (mR (l7 h0)))))))))))))))))))
noncomputable abbrev JT(pn:Int)(A B:ByteArray)(l:List aK)(sc:List (Int×Int))(C:List Int)(av:Int)(e:Int):ai:=⟨[(10,.bool true)],wS A B l sc C⟩
theorem al0(pn:Int)(A B l)(sc:List (Int×Int))(C)(av e:Int){Q:bo}(hq:Q (.ret (.bool true)) (JT pn A B l sc C av e).objs):aJ aoL 6 147 5 Q .ret (JT pn A B l sc C av e):=aJ.ret (vs:=[.bool true]) (l:=[]) (bs:=[0,1,2,3,4]) (pl:=[0,1,3,4]) (q:=[af A,af B,aG sc,ap C]) (fun u=>by kernel_rfl) (by kernel_rfl) (aF (aH A) (aF (aH B) (aF (bb sc) (aF (aQ C) bi)))) hq
noncomputable abbrev JU(pn:Int)(A B:ByteArray)(l:List aK)(sc:List (Int×Int))(C:List Int)(av:Int)(e:Int):ai:=⟨[(10,.bool true)],wS A B l sc C⟩
theorem al1(pn:Int)(A B l)(sc:List (Int×Int))(C)(av e:Int){Q:bo}(hq:Q (.ret (.bool true)) (JU pn A B l sc C av e).objs):aJ aoL 6 147 5 Q .ret (JU pn A B l sc C av e):=aJ.ret (vs:=[.bool true]) (l:=[]) (bs:=[0,1,2,3,4]) (pl:=[0,1,3,4]) (q:=[af A,af B,aG sc,ap C]) (fun u=>by kernel_rfl) (by kernel_rfl) (aF (aH A) (aF (aH B) (aF (bb sc) (aF (aQ C) bi)))) hq
theorem al2(pn:Int)(A B:ByteArray)(l)(sc:List (Int×Int))(C)(av e:Int)(pp:(aG sc).all ag=true)(ko:aI aoL 31 [.agg #[aa 11,aa pn,ah 0 A.size,ah 1 B.size]] [.cells (af A) 5 true,.cells (af B) 5 true] fun r q=>r=.ret (aa e)∧q=[.cells (af A) 5 true,.cells (af B) 5 true])(h0:gS A B l sc C=false)(h1:(aoM l)≠1){Q:aY}(n0:(dW [aqU #[aa 11,aa pn,ah 0 A.size,ah 1 B.size],ah 2 (aoM l),ah 3 (aoM sc),ah 4 1] [aqU #[aa 11,aa pn,ah 0 A.size,ah 1 B.size],ah 2 (aoM l),ah 3 (aoM sc),ah 4 1] [ak.cells (af A) 5 true,ak.cells (af B) 5 true,gL l,ak.cells (aG sc) 77 true,ab [ah 5 (aoM C)] 25,ak.cells (ap C) 3 true] (mP A B l sc C))=true)(n1:(dW [aqU #[aa 11,aa pn,ah 0 A.size,ah 1 B.size]] [aqU #[aa 11,aa pn,ah 0 A.size,ah 1 B.size]] [ak.cells (af A) 5 true,ak.cells (af B) 5 true] [ak.cells (af A) 5 true,ak.cells (af B) 5 true])=true)(aX:aoS (af A) ag=true)(bh:aoS (af B) ag=true)(bD:aoS (aG sc) ag=true)(bx:aoS (ap C) ag=true)(l6:(e==0)=true→Q .ret (JT pn A B l sc C av e))(l7:(e==0)=false→Q .ret (JU pn A B l sc C av e)):an aoL 147 5 nE ⟨[(0,.agg #[aa 11,aa pn,ah 0 A.size,ah 1 B.size]),(1,ah 2 (aoM l)),(2,ah 3 (aoM sc)),(3,ah 4 (aoM C)),(4,aa av)],[.cells (af A) 5 true,.cells (af B) 5 true,gL l,.cells (aG sc) 77 true,.cells (ap C) 3 true]⟩ Q:=
 aZ (JO 11 pn A B l sc C av e ko) 1000 (aA [5,1,1,1,1,0,2,0,7,1,1] (.fork 0 (aA [1,3,1,10,0,1] (.leaf [10] [0,1,2,3,4] [0,1,3,4])) (aA [0,0,0,8,0] (.leaf [10] [0,1,2,3,4] [0,1,3,4])))) (fun u=>by kernel_rfl) (mN (aH A) (mN (aH B) (mN (bb sc) (mN (aQ C) (mN n0 (jZ 3 (show(gS A B l sc C)=false by assumption) (mN (aH A) (mN (aH B) (mN n1 (mF (c:=e==0) (fun h0=>(jZ 3 h0 (jZ 2 (show(gS A B l sc C)=false by assumption) (mN (show(!(↑(aoM l):Int)==1)=true by simp at pp ko h0 h1 h0⊢ <;>omega) (mN (aH A) (mN (aH B) (mN (bb sc) (mN (aQ C) (mR (l6 h0)))))))))) (fun h0=>(jZ 3 h0 (jZ 2 (show(gS A B l sc C)=false by assumption) (mN (aH A) (mN (aH B) (mN (bb sc) (mN (aQ C) (mR (l7 h0)))))))))))))))))))
abbrev TG:=fun(pn:Int) A B (sc:List (Int×Int)) C (av:Int) s=>(⟨[(3,ah 4 (aoM C)),(11,ah 5 1),(12,al 6),(13,al 7)],[.cells (af A) 5 true,.cells (af B) 5 true,gL [s],.cells (aG sc) 77 true,.cells (ap C) 3 true,ab ([ct 8 0 (aoO (aqj (if 0>av then 0 else av) (aoN .i64 ((↑(0+aoT (aK.bytes (apg [s][0]? dM))):Int)+1)))-0) (0+aoT (aK.bytes (apg [s][0]? dM))-0),.bool (aqj av 3==0),aa (aK.code (apg [s][0]? dM)),aa (aK.ir (apg [s][0]? dM)),aa (aK.id (apg [s][0]? dM))]) 30,.abs (mS sc),ab ([aa 0,.bool false,.bool false,.int .u8 0,.int .u8 0,.int .u8 0,.int .u8 0,.int .u8 0,.int .u8 0,.int .u8 0,.int .u8 0,.int .u8 0,.int .u8 0,.int .u8 0,.int .u8 0,.int .u8 0,.int .u8 0,.int .u8 0,.int .u8 0,.int .u8 0,.int .u8 0,.int .u8 0,.int .u8 0,.int .u8 0,.int .u8 0,.int .u8 0,.int .u8 0,.int .u8 0,.int .u8 0,.int .u8 0,.int .u8 0,.int .u8 0,.int .u8 0,.int .u8 0,.int .u8 0,.int .u8 0,.int .u8 0,.int .u8 0,.int .u8 0,.int .u8 0,.int .u8 0,.int .u8 0,.int .u8 0,.int .u8 0,.int .u8 0,.int .u8 0,.int .u8 0,.int .u8 0,.int .u8 0,.int .u8 0,.int .u8 0,.int .u8 0,.int .u8 0,.int .u8 0,.int .u8 0,.int .u8 0,.int .u8 0,.int .u8 0,.int .u8 0,.int .u8 0,.int .u8 0,.int .u8 0,.int .u8 0,.int .u8 0,.int .u8 0,.int .u8 0,.int .u8 0,aa 0,.bool false,al 6,.bool (pn==1),cm,aa 0,cm,cm,.bool false,aa 0,.bool false]) 89,ab ([]++apd (aoT (aK.bytes (apg [s][0]? dM))*1) (af (aK.bytes (apg [s][0]? dM)))) 5]⟩:ai)
abbrev TH:=fun(pn:Int) A B (sc:List (Int×Int)) C (av:Int) s=>(⟨[(3,ah 4 (aoM C)),(11,ah 5 1),(12,al 6),(13,al 7)],[.cells (af A) 5 true,.cells (af B) 5 true,gL [s],.cells (aG sc) 77 true,.cells (ap C) 3 true,ab ([ct 8 0 (aoO (aqj (if 0>av then 0 else av) (aoN .i64 ((↑(0+aoT (aK.bytes (apg [s][0]? dM))):Int)+1)))-0) (0+aoT (aK.bytes (apg [s][0]? dM))-0),.bool false,aa (aK.code (apg [s][0]? dM)),aa (aK.ir (apg [s][0]? dM)),aa (aK.id (apg [s][0]? dM))]) 30,.abs (mS sc),ab ([aa 0,.bool false,.bool false,.int .u8 0,.int .u8 0,.int .u8 0,.int .u8 0,.int .u8 0,.int .u8 0,.int .u8 0,.int .u8 0,.int .u8 0,.int .u8 0,.int .u8 0,.int .u8 0,.int .u8 0,.int .u8 0,.int .u8 0,.int .u8 0,.int .u8 0,.int .u8 0,.int .u8 0,.int .u8 0,.int .u8 0,.int .u8 0,.int .u8 0,.int .u8 0,.int .u8 0,.int .u8 0,.int .u8 0,.int .u8 0,.int .u8 0,.int .u8 0,.int .u8 0,.int .u8 0,.int .u8 0,.int .u8 0,.int .u8 0,.int .u8 0,.int .u8 0,.int .u8 0,.int .u8 0,.int .u8 0,.int .u8 0,.int .u8 0,.int .u8 0,.int .u8 0,.int .u8 0,.int .u8 0,.int .u8 0,.int .u8 0,.int .u8 0,.int .u8 0,.int .u8 0,.int .u8 0,.int .u8 0,.int .u8 0,.int .u8 0,.int .u8 0,.int .u8 0,.int .u8 0,.int .u8 0,.int .u8 0,.int .u8 0,.int .u8 0,.int .u8 0,.int .u8 0,aa 0,.bool false,al 6,.bool (pn==1),cm,aa 0,cm,cm,.bool false,aa 0,.bool false]) 89,ab ([]++apd (aoT (aK.bytes (apg [s][0]? dM))*1) (af (aK.bytes (apg [s][0]? dM)))) 5]⟩:ai)
theorem al3(pn:Int)(A B:ByteArray)(sc:List (Int×Int))(C)(av:Int)(s:aK)(pp:(aG sc).all ag=true)(wQ:aI aoL 59 [.agg #[aa 11,aa pn,ah 0 A.size,ah 1 B.size]] [.cells (af A) 5 true,.cells (af B) 5 true] fun r q=>r=.ret (aa 0)∧q=[.cells (af A) 5 true,.cells (af B) 5 true])(wR:aI aoL 31 [.agg #[aa 11,aa pn,ah 0 A.size,ah 1 B.size]] [.cells (af A) 5 true,.cells (af B) 5 true] fun r q=>r=.ret (aa 0)∧q=[.cells (af A) 5 true,.cells (af B) 5 true])(oJ:aI aoL 11 [ah 0 (aoM sc)] [.cells (aG sc) 77 true] fun r q=>r=.ret (al 1)∧q=[.cells (aG sc) 77 true,.abs (mS sc)])(h0:gS A B [s] sc C=false)(h1:s.bytes.size≤4500){Q:aY}(n0:(dW [aqU #[aa 11,aa pn,ah 0 A.size,ah 1 B.size],ah 2 1,ah 3 (aoM sc),ah 4 1] [aqU #[aa 11,aa pn,ah 0 A.size,ah 1 B.size],ah 2 1,ah 3 (aoM sc),ah 4 1] [ak.cells (af A) 5 true,ak.cells (af B) 5 true,gL [s],ak.cells (aG sc) 77 true,ab [ah 5 (aoM C)] 25,ak.cells (ap C) 3 true] (mP A B [s] sc C))=true)(n1:(dW [aqU #[aa 11,aa pn,ah 0 A.size,ah 1 B.size]] [aqU #[aa 11,aa pn,ah 0 A.size,ah 1 B.size]] [ak.cells (af A) 5 true,ak.cells (af B) 5 true] [ak.cells (af A) 5 true,ak.cells (af B) 5 true])=true)(n2:(aoS (apd (aoT (aK.bytes (apg [s][0]? dM))*1) (af (aK.bytes (apg [s][0]? dM)))) apR)=true)(n3:(!decide (aoN .i64 ((↑(0+aoT (aK.bytes (apg [s][0]? dM))):Int)+1)=0))=true)(n4:(decide (0≤aqj (if 0>av then 0 else av) (aoN .i64 ((↑(0+aoT (aK.bytes (apg [s][0]? dM))):Int)+1))))=true)(n5:(apf (aoO (aqj (if 0>av then 0 else av) (aoN .i64 ((↑(0+aoT (aK.bytes (apg [s][0]? dM))):Int)+1)))) (0+aoT (aK.bytes (apg [s][0]? dM))))=true)(n6:(aK.ended (apg [s][0]? dM))=true→(dW [ah 0 (aoM sc)] [ah 0 (aoM sc)] [ak.cells (aG sc) 77 true] [ak.cells (aG sc) 77 true])=true)(aX:aoS (af A) ag=true)(bh:aoS (af B) ag=true)(bD:aoS (aG sc) ag=true)(bx:aoS (ap C) ag=true)(gJ:(aK.ended (apg [s][0]? dM))=true→an aoL 147 5 (nE.drop 10) (TG pn A B sc C av s) Q)(n12:(aK.ended (apg [s][0]? dM))=false→(dW [ah 0 (aoM sc)] [ah 0 (aoM sc)] [ak.cells (aG sc) 77 true] [ak.cells (aG sc) 77 true])=true)(lr:(aK.ended (apg [s][0]? dM))=false→an aoL 147 5 (nE.drop 10) (TH pn A B sc C av s) Q):an aoL 147 5 nE ⟨[(0,.agg #[aa 11,aa pn,ah 0 A.size,ah 1 B.size]),(1,ah 2 1),(2,ah 3 (aoM sc)),(3,ah 4 (aoM C)),(4,aa av)],[.cells (af A) 5 true,.cells (af B) 5 true,gL [s],.cells (aG sc) 77 true,.cells (ap C) 3 true]⟩ Q:=
 aZ (alS pn A B sc C av s wQ wR oJ) 10 (aA [5,1,1,1,1,0,2,0,7,1,1,20,0,20,1,1,1,1,26,1,0,1,3] (.fork 4 (aA [1,3,1,7,1,13,1,1] (.leaf [3,11,12,13] [0,1,2,3,4,14,15,18,12] [0,1,3,4,12])) (aA [0,0,0,7,1,13,1,1] (.leaf [3,11,12,13] [0,1,2,3,4,14,15,18,12] [0,1,3,4,12])))) (fun u=>by kernel_rfl) (mN (aH A) (mN (aH B) (mN (bb sc) (mN (aQ C) (mN n0 (jZ 3 (show(gS A B [s] sc C)=false by assumption) (mN (aH A) (mN (aH B) (mN n1 (jZ 2 (show(gS A B [s] sc C)=false by assumption) (mN (show(apf (0+aoT (aK.bytes (apg [s][0]? dM))*1) (aoM (af (aK.bytes (apg [s][0]? dM)))))=true by simp) (mN (show(apf (0+aoT (aK.bytes (apg [s][0]? dM))) 1000000)=true by simp at pp wQ wR oJ h0 h1⊢ <;>omega) (mN n2 (mN (show(ao6 (aoM (apd (aoT (aK.bytes (apg [s][0]? dM))*1) (af (aK.bytes (apg [s][0]? dM))))) (aoT (aK.bytes (apg [s][0]? dM))*1))=true by simp) (mN n3 (mN n4 (mN n5 (mF (c:=aK.ended (apg [s][0]? dM)) (fun h0=>(jZ 3 h0 (mN (bb sc) (mN (n6 h0) (mN (aH A) (mN (aH B) (mN n1 (mN (aH A) (mN (aH B) (mN (bb sc) (mN (aQ C) (mN (show(aoS ([]++apd (aoT (aK.bytes (apg [s][0]? dM))*1) (af (aK.bytes (apg [s][0]? dM)))) ag)=true by simp) (mQ (gJ h0)))))))))))))) (fun h0=>(jZ 3 h0 (mN (bb sc) (mN (n12 h0) (mN (aH A) (mN (aH B) (mN n1 (mN (aH A) (mN (aH B) (mN (bb sc) (mN (aQ C) (mN (show(aoS ([]++apd (aoT (aK.bytes (apg [s][0]? dM))*1) (af (aK.bytes (apg [s][0]? dM)))) ag)=true by simp) (mQ (lr h0))))))))))))))))))))))))))))))))
end
noncomputable section
def al4(A B:ByteArray)(s:aK)(sc:List (Int×Int))(C:List Int)(t:aK)(bw:ByteArray)(f:Bool)(S:ad)(L:List ByteArray)(R:List Int)(H:List aq)(d:au)(o:ByteArray)(nd er hd k:Int):List (apr×Sum):=[(13,Sum.one (fun _ _=>some [7,6,9,10,11,5,4,8]) [.iface 37 (al 0),ah 5 1,ah 6 C.length] (aO (sP f) [] [] [] (mS sc)++[ab (kq t bw 7) 30,.cells (ap C) 3 true,ab (af bw) 5]) (.ret (.agg (mh o nd er hd k).toArray)) (zf ⟨S,L,R,H,d⟩ t bw C)),(20,Sum.dp aoL yL),(15,ze)]
theorem al5(A B:ByteArray)(s:aK)(sc:List (Int×Int))(C:List Int)(t:aK)(bw:ByteArray)(f:Bool)(S:ad)(L:List ByteArray)(R:List Int)(H:List aq)(d:au)(o:ByteArray)(nd er hd k:Int)(nr:aI aoL 13 [.iface 37 (al 0),ah 5 1,ah 6 (aoM C)] (aO (sP f) [] [] [] (mS sc)++[ab (kq t bw 7) 30,.cells (ap C) 3 true,ab (af bw) 5]) fun r q=>r=.ret (.agg (mh o nd er hd k).toArray)∧q=(zf ⟨S,L,R,H,d⟩ t bw C)):dk aoL (dB aoL (dE (al4 A B s sc C t bw f S L R H d o nd er hd k)) 50 40):=dI de mixed (dR (.cons (bB.one nr) (.cons Hw (.cons Jv .nil)))) 50 40
def al6(A B:ByteArray)(s:aK)(sc:List (Int×Int))(C:List Int)(S:ad)(L:List ByteArray)(R:List Int)(H:List aq)(d:au)(T:ad)(d2:au)(e:Int):List (apr×Sum):=[(25,Sum.one (kN aoL) [al 0] (aO S L R H d) (.ret (aa e)) (aO T L R H d2)),(20,Sum.dp aoL yL),(15,ze)]
theorem al7(A B:ByteArray)(s:aK)(sc:List (Int×Int))(C:List Int)(S:ad)(L:List ByteArray)(R:List Int)(H:List aq)(d:au)(T:ad)(d2:au)(e:Int)(kW:aI aoL 25 [al 0] (aO S L R H d) fun r q=>r=.ret (aa e)∧q=aO T L R H d2):dk aoL (dB aoL (dE (al6 A B s sc C S L R H d T d2 e)) 50 40):=dI de mixed (dR (.cons (bB.one kW) (.cons Hw (.cons Jv .nil)))) 50 40
def al8(A B:ByteArray)(s:aK)(sc:List (Int×Int))(C:List Int)(S:ad)(L:List ByteArray)(R:List Int)(H:List aq)(d:au):List (apr×Sum):=[(25,Sum.one (kN aoL) [al 0] (aO S L R H d) (.ret (aa 0)) (aO S L R H d)),(20,Sum.dp aoL yL),(10,⟨vH,fun a o=>match a,o with
 | [],[]=>.done (.ret (.bool true),[])
 |_,_=>.fail⟩)]
theorem al9(A B:ByteArray)(s:aK)(sc:List (Int×Int))(C:List Int)(S:ad)(L:List ByteArray)(R:List Int)(H:List aq)(d:au)(gM:aI aoL 25 [al 0] (aO S L R H d) fun r q=>r=.ret (aa 0)∧q=aO S L R H d):dk aoL (dB aoL (dE (al8 A B s sc C S L R H d)) 50 40):=dI de mixed (dR (.cons (bB.one gM) (.cons Hw (.cons (bB.closed CJ) .nil)))) 50 40
open Tree renaming aW→mN,dn→mF,eS→mL,fA→mQ,dD→mR,fK→mE
noncomputable abbrev re:List apw:=(nE.drop 13)
noncomputable abbrev JV:List apw:=(nE.drop 10)
def TI:Nat→Bool→Bool→Tree→Tree
 |0,_,_,t=>t
 |n+1,d,b,t=>.cM d b (TI n d b t)
theorem pc{R:bj→ai→Prop}{c v:Bool}{t:Tree}(n:Nat)(h1:c=v)(h2:t.ok R):(TI n c v t).ok R:=by
 induction n with
 |zero=>exact h2
 |succ n ih=>exact⟨h1,ih⟩
abbrev ama:=fun A B s (sc:List (Int×Int)) C (t:aK) (bw:ByteArray) (f:Bool) S L R H d (o:ByteArray) (nd er hd k:Int)=>(⟨[(12,al 5),(13,al 6),(15,aa (au.calls d)),(16,aa 0)],[.cells (af A) 5 true,.cells (af B) 5 true,gL [s],.cells (aG sc) 77 true,.cells (ap C) 3 true,.abs d,ab (aM S 5 7 8 9) 89,ab (ao L) 9,ab (ap R) 3,ab (aj H) 114]⟩:ai)
abbrev amb:=fun A B s (sc:List (Int×Int)) C (t:aK) (bw:ByteArray) (f:Bool) S L R H d (o:ByteArray) (nd er hd k:Int)=>(⟨[(12,al 5),(13,al 6),(15,aa (au.calls d)),(16,aa (aoM (au.files d)))],[.cells (af A) 5 true,.cells (af B) 5 true,gL [s],.cells (aG sc) 77 true,.cells (ap C) 3 true,.abs d,ab (aM S 5 7 8 9) 89,ab (ao L) 9,ab (ap R) 3,ab (aj H) 114]⟩:ai)
theorem amc(A B s)(sc:List (Int×Int))(C t bw)(f:Bool)(S:ad)(L:List ByteArray)(R:List Int)(H:List aq)(d:au)(o:ByteArray)(nd er hd k:Int)(pp:(aG sc).all ag=true)(pH:(aj H).all ag=true)(nr:aI aoL 13 [.iface 37 (al 0),ah 5 1,ah 6 (aoM C)] (aO (sP f) [] [] [] (mS sc)++[ab (kq t bw 7) 30,.cells (ap C) 3 true,ab (af bw) 5]) fun r q=>r=.ret (.agg (mh o nd er hd k).toArray)∧q=(zf ⟨S,L,R,H,d⟩ t bw C)){Q:aY}(n1:(lQ d)=true)(l6:(aqR (au.files d))=true→an aoL 147 5 (JV.drop 3) (ama A B s sc C t bw f S L R H d o nd er hd k) Q)(l7:(aqR (au.files d))=false→an aoL 147 5 (JV.drop 3) (amb A B s sc C t bw f S L R H d o nd er hd k) Q):an aoL 147 5 JV ⟨[(3,ah 4 (aoM C)),(11,ah 5 1),(12,al 6),(13,al 7)],[.cells (af A) 5 true,.cells (af B) 5 true,gL [s],.cells (aG sc) 77 true,.cells (ap C) 3 true,ab (kq t bw 8) 30,.abs (mS sc),ab (aM (sP f) 6 9 10 11) 89,ab (af bw) 5,ab (ao []) 9,ab (ap []) 3,ab (aj []) 114]⟩ Q:=
 aZ (al5 A B s sc C t bw f S L R H d o nd er hd k nr) 3 (aA [9,1,1,1,1,1,1,7] (.fork 0 (.leaf [12,13,15,16] [0,1,2,3,4,6,7,12,13,14] [0,1,3,4,12,13,14]) (aA [1] (.leaf [12,13,15,16] [0,1,2,3,4,6,7,12,13,14] [0,1,3,4,12,13,14])))) (fun u=>by kernel_rfl) (mN (aQ C) (mN (aH bw) (mN (kM [Value.iface 37 (al 0),ah 5 1,ah 6 (aoM C)] (aO (sP f) [] [] [] (mS sc)++[ab [ct 7 0 (aoT (aK.bytes t)) bw.size,Value.bool (aK.ended t),aa (aK.code t),aa (aK.ir t),aa (aK.id t)] 30,ak.cells (ap C) 3 true,ab (af bw) 5])) (mN (aH bw) (aL L R H (mN n1 (mF (c:=aqR (au.files d)) (fun h0=>(mN (aH A) (mN (aH B) (mN (bb sc) (mN (aQ C) (aL L R H (mQ (l6 h0)))))))) (fun h0=>(mN (aQ (fU d)) (mN (aH A) (mN (aH B) (mN (bb sc) (mN (aQ C) (aL L R H (mQ (l7 h0))))))))))))))))
abbrev uP:=fun A B s (sc:List (Int×Int)) C L R H T d2=>([.cells (af A) 5 true,.cells (af B) 5 true,gL [s],.cells (aG sc) 77 true,.cells (ap C) 3 true,.abs d2,ab (aM T 5 7 8 9) 89,ab (ao L) 9,ab (ap R) 3,ab (aj H) 114]:List ak)
abbrev amd:=fun A B s (sc:List (Int×Int)) C (S:ad) L R H d T d2 (e n:Int)=>(⟨[(12,al 5),(13,al 6),(15,aa (au.calls d)),(16,aa n),(120,.bool true)],uP A B s sc C L R H T d2⟩:ai)
abbrev ame:=fun A B s (sc:List (Int×Int)) C (S:ad) L R H d T d2 (e n:Int)=>(⟨[(12,al 5),(13,al 6),(15,aa (au.calls d)),(16,aa n),(120,.bool true)],uP A B s sc C L R H T d2⟩:ai)
abbrev CK:=fun A B s (sc:List (Int×Int)) C (S:ad) L R H d T d2 (e n:Int)=>(⟨[(12,al 5),(13,al 6),(15,aa (au.calls d)),(16,aa n),(120,.bool false)],uP A B s sc C L R H T d2⟩:ai)
abbrev amf:=fun A B s (sc:List (Int×Int)) C (S:ad) L R H d T d2 (e n:Int)=>(⟨[(12,al 5),(13,al 6),(15,aa (au.calls d)),(16,aa n),(120,.bool true)],uP A B s sc C L R H T d2⟩:ai)
abbrev amg:=fun A B s (sc:List (Int×Int)) C (S:ad) L R H d T d2 (e n:Int)=>(⟨[(12,al 5),(13,al 6),(15,aa (au.calls d)),(16,aa n),(120,.bool true)],uP A B s sc C L R H T d2⟩:ai)
abbrev JW:=fun A B s (sc:List (Int×Int)) C (S:ad) L R H d T d2 (e n:Int)=>(⟨[(12,al 5),(13,al 6),(15,aa (au.calls d)),(16,aa n),(120,.bool (e != 25))],uP A B s sc C L R H T d2⟩:ai)
abbrev amh:=fun A B s (sc:List (Int×Int)) C (S:ad) L R H d T d2 (e n:Int)=>(⟨[(12,al 5),(13,al 6),(15,aa (au.calls d)),(16,aa n),(120,.bool false)],uP A B s sc C L R H T d2⟩:ai)
theorem ami(A B s)(sc:List (Int×Int))(C S L R H)(d:au)(T:ad)(d2:au)(e n:Int)(pp:(aG sc).all ag=true)(pH:(aj H).all ag=true)(kW:aI aoL 25 [al 0] (aO S L R H d) fun r q=>r=.ret (aa e)∧q=aO T L R H d2)(h0:T.bE=true){Q:aY}(n0:(dW [al 0] [al 0] [ab (aM S 1 2 3 4) 89,ak.abs d,ab (ao L) 9,ab (ap R) 3,ab (aj H) 114] (aO S L R H d))=true)(n1:(lQ d2)=true)(aX:aoS (af A) ag=true)(bh:aoS (af B) ag=true)(bD:aoS (aG sc) ag=true)(bx:aoS (ap C) ag=true)(lj:aoS (ao L) ag=true)(Ie:aoS (ap R) ag=true)(amj:aoS (aj H) ag=true)(l9:(aqR (au.files d2))=true→(au.calls d2 != aoN .i64 (au.calls d+n))=true→an aoL 147 5 (re.drop 3) (amd A B s sc C S L R H d T d2 e n) Q)(jU:(aqR (au.files d2))=true→(au.calls d2 != aoN .i64 (au.calls d+n))=false→(!(e==0)==(0==0))=true→an aoL 147 5 (re.drop 3) (ame A B s sc C S L R H d T d2 e n) Q)(gJ:(aqR (au.files d2))=true→(au.calls d2 != aoN .i64 (au.calls d+n))=false→(!(e==0)==(0==0))=false→an aoL 147 5 (re.drop 3) (CK A B s sc C S L R H d T d2 e n) Q)(jS:(aqR (au.files d2))=false→(au.calls d2 != aoN .i64 (au.calls d+n))=true→an aoL 147 5 (re.drop 3) (amf A B s sc C S L R H d T d2 e n) Q)(lr:(aqR (au.files d2))=false→(au.calls d2 != aoN .i64 (au.calls d+n))=false→(!(e==0)==((↑(aoM (au.files d2)):Int)==0))=true→an aoL 147 5 (re.drop 3) (amg A B s sc C S L R H d T d2 e n) Q)(uE:(aqR (au.files d2))=false→(au.calls d2 != aoN .i64 (au.calls d+n))=false→(!(e==0)==((↑(aoM (au.files d2)):Int)==0))=false→(e != 0)=true→an aoL 147 5 (re.drop 3) (JW A B s sc C S L R H d T d2 e n) Q)(Co:(aqR (au.files d2))=false→(au.calls d2 != aoN .i64 (au.calls d+n))=false→(!(e==0)==((↑(aoM (au.files d2)):Int)==0))=false→(e != 0)=false→an aoL 147 5 (re.drop 3) (amh A B s sc C S L R H d T d2 e n) Q):an aoL 147 5 re ⟨[(12,al 5),(13,al 6),(15,aa d.calls),(16,aa n)],[.cells (af A) 5 true,.cells (af B) 5 true,gL [s],.cells (aG sc) 77 true,.cells (ap C) 3 true,.abs d,ab (aM S 5 7 8 9) 89,ab (ao L) 9,ab (ap R) 3,ab (aj H) 114]⟩ Q:=
 aZ (al7 A B s sc C S L R H d T d2 e kW) 3 (aA [3,1,1,1,1,1,1,3] (.fork 0 (aA [11] (.fork 9 (aA [1,1,1,1,1] (.leaf [12,13,15,16,120] [0,1,2,3,4,5,6,7,8,9] [0,1,3,4,7,8,9])) (aA [0,0,0,0,0] (.fork 0 (aA [1,1,1,1] (.leaf [12,13,15,16,120] [0,1,2,3,4,5,6,7,8,9] [0,1,3,4,7,8,9])) (aA [0,0,0,0,0,0,0] (.leaf [12,13,15,16,120] [0,1,2,3,4,5,6,7,8,9] [0,1,3,4,7,8,9])))))) (aA [1,11] (.fork 9 (aA [1,1,1,1,1] (.leaf [12,13,15,16,120] [0,1,2,3,4,5,6,7,8,9] [0,1,3,4,7,8,9])) (aA [0,0,0,0,0] (.fork 0 (aA [1,1,1,1] (.leaf [12,13,15,16,120] [0,1,2,3,4,5,6,7,8,9] [0,1,3,4,7,8,9])) (aA [0,0] (.fork 0 (aA [1,0,1,0] (.leaf [12,13,15,16,120] [0,1,2,3,4,5,6,7,8,9] [0,1,3,4,7,8,9])) (aA [0,0,0,0] (.leaf [12,13,15,16,120] [0,1,2,3,4,5,6,7,8,9] [0,1,3,4,7,8,9])))))))))) (fun u=>by kernel_rfl) (aL L R H (mN n0 (aL L R H (mN n1 (mF (c:=aqR (au.files d2)) (fun h0=>(mN (show(ad.bE T)=true by assumption) (mF (c:=au.calls d2 != aoN .i64 (au.calls d+n)) (fun h1=>(pc 5 h1 (mN (aH A) (mN (aH B) (mN (bb sc) (mN (aQ C) (aL L R H (mQ (l9 h0 h1))))))))) (fun h1=>(pc 5 h1 (mF (c:= !(e==0)==(0==0)) (fun h2=>(pc 4 h2 (mN (aH A) (mN (aH B) (mN (bb sc) (mN (aQ C) (aL L R H (mQ (jU h0 h1 h2))))))))) (fun h2=>(pc 2 h2 (pc 2 (show(e != 0)=false by simp at pp pH kW h0 h0 h1 h2⊢ <;>omega) (mN h2 (mN (show(e != 0)=false by simp at pp pH kW h0 h0 h1 h2⊢ <;>omega) (mN h2 (mN (aH A) (mN (aH B) (mN (bb sc) (mN (aQ C) (aL L R H (mQ (gJ h0 h1 h2))))))))))))))))))) (fun h0=>(mN (aQ (fU d2)) (mN (show(ad.bE T)=true by assumption) (mF (c:=au.calls d2 != aoN .i64 (au.calls d+n)) (fun h1=>(pc 5 h1 (mN (aH A) (mN (aH B) (mN (bb sc) (mN (aQ C) (aL L R H (mQ (jS h0 h1))))))))) (fun h1=>(pc 5 h1 (mF (c:= !(e==0)==((↑(aoM (au.files d2)):Int)==0)) (fun h2=>(pc 4 h2 (mN (aH A) (mN (aH B) (mN (bb sc) (mN (aQ C) (aL L R H (mQ (lr h0 h1 h2))))))))) (fun h2=>(pc 2 h2 (mF (c:=e != 0) (fun h3=>(mN h3 (mN h2 (mN h3 (mN h2 (mN (aH A) (mN (aH B) (mN (bb sc) (mN (aQ C) (aL L R H (mQ (uE h0 h1 h2 h3)))))))))))) (fun h3=>(mN h3 (mN h2 (mN h3 (mN h2 (mN (aH A) (mN (aH B) (mN (bb sc) (mN (aQ C) (aL L R H (mQ (Co h0 h1 h2 h3)))))))))))))))))))))))))))
noncomputable abbrev JX(A B:ByteArray)(s:aK)(sc:List (Int×Int))(C:List Int)(S:ad)(L:List ByteArray)(R:List Int)(H:List aq)(d:au)(n w:Int):ai:=⟨[(10,.bool true)],[.cells (af A) 5 true,.cells (af B) 5 true,gL [s],.cells (aG sc) 77 true,.cells (ap C) 3 true]⟩
theorem amk(A B s)(sc:List (Int×Int))(C S L R H d)(n w:Int){Q:bo}(hq:Q (.ret (.bool true)) (JX A B s sc C S L R H d n w).objs):aJ aoL 6 147 5 Q .ret (JX A B s sc C S L R H d n w):=aJ.ret (vs:=[.bool true]) (l:=[]) (bs:=[0,1,2,3,4]) (pl:=[0,1,3,4]) (q:=[af A,af B,aG sc,ap C]) (fun u=>by kernel_rfl) (by kernel_rfl) (aF (aH A) (aF (aH B) (aF (bb sc) (aF (aQ C) bi)))) hq
noncomputable abbrev aml(A B:ByteArray)(s:aK)(sc:List (Int×Int))(C:List Int)(S:ad)(L:List ByteArray)(R:List Int)(H:List aq)(d:au)(n w:Int):ai:=⟨[(10,.bool false)],[.cells (af A) 5 true,.cells (af B) 5 true,gL [s],.cells (aG sc) 77 true,.cells (ap C) 3 true]⟩
theorem amm(A B s)(sc:List (Int×Int))(C)(S:ad)(L R H d)(n w:Int)(pp:(aG sc).all ag=true)(pH:(aj H).all ag=true)(gM:aI aoL 25 [al 0] (aO S L R H d) fun r q=>r=.ret (aa 0)∧q=aO S L R H d)(h0:S.bE=true)(h1:S.closed=true){Q:aY}(n0:(dW [al 0] [al 0] [ab (aM S 1 2 3 4) 89,ak.abs d,ab (ao L) 9,ab (ap R) 3,ab (aj H) 114] (aO S L R H d))=true)(aX:aoS (af A) ag=true)(bh:aoS (af B) ag=true)(bD:aoS (aG sc) ag=true)(bx:aoS (ap C) ag=true)(l5:(au.calls d==aoN .i64 (w+n))=true→Q .ret (JX A B s sc C S L R H d n w))(l6:(au.calls d==aoN .i64 (w+n))=false→Q .ret (aml A B s sc C S L R H d n w)):an aoL 147 5 (nE.drop 17) ⟨[(12,al 5),(13,al 6),(15,aa w),(16,aa n),(120,.bool false)],[.cells (af A) 5 true,.cells (af B) 5 true,gL [s],.cells (aG sc) 77 true,.cells (ap C) 3 true,.abs d,ab (aM S 5 7 8 9) 89,ab (ao L) 9,ab (ap R) 3,ab (aj H) 114]⟩ Q:=
 aZ (al9 A B s sc C S L R H d gM) 1000 (aA [3,1,1,1,1,1,1,13] (.fork 11 (aA [1,1] (.leaf [10] [0,1,2,3,4] [0,1,3,4])) (aA [0,0] (.leaf [10] [0,1,2,3,4] [0,1,3,4])))) (fun u=>by kernel_rfl) (aL L R H (mN n0 (aL L R H (mN (show(ad.bE S)=true by assumption) (mF (c:=au.calls d==aoN .i64 (w+n)) (fun h0=>(pc 2 h0 (mN (aH A) (mN (aH B) (mN (bb sc) (mN (aQ C) (mR (l5 h0)))))))) (fun h0=>(pc 2 h0 (mN (aH A) (mN (aH B) (mN (bb sc) (mN (aQ C) (mR (l6 h0)))))))))))))
end
end Go.Proofs.YtnlkkgpcikkpoaaGreat
