/- Part of the proof: Vb. -/
import Derived.Test.YtnlkkgpcikkpoaaJAb
import Derived.LoopNIn
import Derived.OrdersIn
import Derived.Scope
import Derived.Recover
open Array renaming all_eq_true_iff_forall_mem→ap0,ext'→aof,getD_eq_getD_getElem?→am4,getElem?_append_left→apz,getElem?_eq_getElem→aog,getElem?_eq_none→app,getElem?_eq_some_iff→anq,getElem?_setIfInBounds_ne→anY,getElem?_setIfInBounds_self→an0,getElem?_toList→an5,mem_append→apb,mem_of_getElem?→aq3,mem_toList_iff→an2,replicate→aoy,toList_append→aoi,toList_extract→aox,toList_map→ao9
open Bool renaming and_eq_true→amB,false_eq_true→anr,not_false→aq2,or_eq_true→aoW,or_false→aqE
open Go renaming Addr→aoH,Code→am3,Deferred→an1,Ending→aqM,Exit→aoF,Frame→aqg,FrameMode→aoT,Func→ap8,FuncId→amY,Leaves→asb,MapEntry→amW,Next→aoo,Oper→anp,Operand→anX,Program→amF,TypeDesc→apY,TypeId→amz,Value→amn,World→amC,run_program→aor,wpIn_wide→ap5
open Go.ArrivesIn renaming of_steps→aqA
open Go.Builtin renaming append_→aph,clear_→apM,copy_→arj,delete_→apD,firstCells→aov,growBy→arS,lenOf→arY,len_→an9,nextslicecap→aqc,zeroCells→aoj
open Go.Call renaming operands→apy
open Go.Deferred renaming ofValue→aqK
open Go.Exit renaming inBlock→aqf
open Go.Frame renaming atR→asv
open Go.Instr renaming checkKey→aqq,findKey→arZ,findNow→ape,indexAt→ao0,lookup→aoD,mapUpdate→apC,sameNow→apV
open Go.IntKind renaming i64→amA
open Go.Made renaming depth→aso
open Go.Next renaming value→anC
open Go.Op renaming operands→apS
open Go.Oper renaming apart_spec→aqT,looksAt→ar9,wpIn→asu
open Go.Question renaming appendCap→apG
open Go.Region renaming binds→aoA,ready→apH,wanted→anZ
open Go.Result renaming andThen_ok→amo
open Go.Sem renaming run→aoN,run_bind→amp,run_pure→am6
open Go.Value renaming int→amu
open Go.stepG renaming exec→asp
open List renaming all_eq_true→am1,eq_nil_of_length_eq_zero→ant,extract_eq_take_drop→aou,getElem?_append_left→ane,getElem?_append_right→am5,getElem?_cons_succ→anD,getElem?_cons_zero→anb,getElem?_drop→anK,getElem?_eq_getElem→amt,getElem?_eq_some_iff→amy,getElem?_take→anJ,length_append→amD,length_cons→am9,length_eraseIdx→ara,mapM_cons→aqp,map_congr_left→aoz,mem_append→amU,mem_cons→amH,mem_cons_of_mem→amK,mem_cons_self→amN,mem_map→aoq,mem_toArray→apZ,range'→arA,range'_succ→ap1,range_eq_range'→aqe,take_of_length_le→anI
open Nat renaming add_assoc→aok,add_comm→asa,add_mul→aqX,beq→amE,ble_eq→arK,blt→amG,eq_of_beq_eq_true→amI,le_of_ble_eq_true→amS,le_of_lt→apI,le_refl→amX,lor→ap4,min→aqo,mul_eq_zero→arJ,mul_le_mul_right→ao2,shiftRight→apL,testBit_or→aq4,zero_add→an8,zero_mul→aqb
open Option renaming getD_some→aoc,isNone_some→aro,map→arL,map_eq_some_iff→anv,map_map→aqs,map_some→anL
open Option.some renaming injEq→amr
open Prod.mk renaming injEq→amv
set_option linter.unusedVariables false
set_option linter.unusedSimpArgs false
namespace Go.Proofs.Ytnlkkgpcikkpoaa.Vm
open Go.RowKit
section
variable {P:amF} {B:Nat→Prop} {w₀:amC} {ρ:Ren} {g:Nat→Option ai} {n:Nat} {w:amC}
theorem yW{a:Option aoH}{l c:Nat}(h:af (.slice a l c)=true):a=none∧l=0∧c=0:=by
 cases a with
 |some a=>simp[af]at h
 |none=>
  cases l with
  |succ l=>simp[af]at h
  |zero=>cases c with
   |succ c=>simp[af]at h
   |zero=>exact⟨rfl,rfl,rfl⟩
theorem Je{x x':amn}(hx:VR ρ x x'){k:Nat}(h:qB x=some k):(arY x').run P w=.ok k w:=by
 unfold qB at h
 split at h
 ·cases h;cases hx<;>first|rfl|(rename_i h;unfold af at h;split at h<;>first|(rename_i e;cases e;rfl)|cases h)
 ·cases h;rw[hx.oM];rfl
 ·cases h
theorem Jf(hw:WR P B w₀ ρ g w){x x':amn}(hx:VR ρ x x'){size k m:Nat}(hm:qB x=some m)(hk:k≤m){xs:List amn}{l:List Nat}
 (h:(qA size x k).run g=some (xs,l)):∃jr:Array amn,(∀w':amC,w'.heap=w.heap→(aov size k x').run P w'=.ok jr w')∧LR ρ xs jr.toList:=by
 unfold qA at h
 split at h
 ·rename_i b off len cap
  obtain⟨o,l',hb,dH,rfl⟩:=Rd.run_read h
  split at dH
  ·rename_i c el ro
   have pJ:=Rd.IP dH
   obtain⟨hle,rfl⟩:=ue pJ
   simp only[qB,amr]at hm
   cases hx with
   |bH _ h=>cases h
   |dV _ a'=>
    have:k=0:=by omega
    subst this
    refine⟨#[],fun w' _=>?_,by simpa using LR.nil ρ⟩
    unfold aov
    simp only[aqb]
    cases a'<;>rfl
   |sl _ _ _ _ bq r hr hc=>
    by_cases hlen:k*size=0
    ·refine⟨#[],fun w' _=>?_,by rw[hlen];simpa using LR.nil ρ⟩
     unfold aov
     simp only[hlen]
     rfl
    obtain⟨c',fr,⟨bR,h1,he⟩,hp,jf,hz,hf,hl,hB⟩:=qH hw hb hr (nD (by intro e;rw[e]at hle;simp at hle;omega))
    refine⟨_,fun w' hh=>yN (by rw[hh];exact h1) _ _ (by omega),?_⟩
    simpa using yP hl hle
  ·cases dH
 ·cases hx with
  |bH=>
   simp only[Rd.run,amr,amv]at h
   obtain⟨rfl,rfl⟩:=h
   exact⟨#[],fun w' _=>rfl,by simpa using LR.nil ρ⟩
 ·rename_i s
  rw[hx.oM]
  simp only[Rd.run,amr,amv]at h
  obtain⟨rfl,rfl⟩:=h
  refine⟨_,fun w' _=>rfl,?_⟩
  have:(Array.map (fun b:UInt8=>amu .u8 b.toNat) (s.extract 0 k).data).toList=(s.data.toList.take k).map fun b=>amu .u8 b.toNat:=by
   simp[ByteArray.data_extract,aox,aou]
  rw[this]
  exact LR.map _ _ _ fun b _=>.bH _ rfl
 ·cases h
theorem Tn{x:amn}{size:Nat}{xs:List amn}{l:List Nat}(h:(qA size x 0).run g=some (xs,l)):xs=[]:=by
 unfold qA at h
 split at h
 ·obtain⟨o,l',hb,dH,rfl⟩:=Rd.run_read h
  split at dH
  ·obtain⟨hle,rfl⟩:=ue (Rd.IP dH)
   simp
  ·cases dH
 ·simp only[Rd.run,amr,amv]at h;exact h.1.symm
 ·simp only[Rd.run,amr,amv]at h;rw[←h.1];rfl
 ·cases h
theorem Jg(uk:Nat):∀(r c:Nat),c≤uk+(uk+768)/4→arS uk r c≤uk+(uk+768)/4
 |0,c,h=>h
 |r+1,c,h=>by
  unfold arS
  split
  ·exact h
  ·exact Jg uk r _ (by omega)
theorem nextslicecap_le{cD cap:Nat}(h:cap<cD):aqc cD cap≤2*cD+768:=by
 unfold aqc
 split
 ·omega
 ·split
  ·omega
  ·have:=Jg cD 4 cap (by omega)
   omega
structure CL(P:amF)(w:amC)(argTypes:Array amz)(args:Array amn)(elem:amz)(size len cap k:Nat)(base:Option aoH)(x:amn)(z:amn)(bytes:Nat)(xs:Array amn):Prop where
 e1:∃sT xT rest xd,argTypes.toList=sT::xT::rest∧P.underlying sT=some (.slice elem)∧P.underlying xT=some xd∧isInt xd=false
 e2:∃rest,args.toList=.slice base len cap::x::rest
 sz:bT P elem=some size
 zero:zeroOf P elem=some z
 akI:∃inf,P.info? elem=some inf∧inf.bytes=bytes
 len_:∀w:amC,(arY x).run P w=.ok k w
 cells:∀w':amC,w'.heap=w.heap→(aov size k x).run P w'=.ok xs w'
theorem jJ{α:Type}{a:Array α}{l:List α}(h:a.toList=l)(i:Nat):a[i]?=l[i]? :=by rw[←h];simp
theorem wD{argTypes:Array amz}{ty:amz}{args:Array amn}{elem:amz}{size len cap k:Nat}{base:Option aoH}{x z:amn}{bytes:Nat}{xs:Array amn}
 (h:CL P w argTypes args elem size len cap k base x z bytes xs)(hle:len+k≤cap):
 (aph argTypes ty args).run P w=match base with
   |some a=>((storeCells (a.add (len*size)) xs.toList).run P w).andThen fun _ w'=>.ok (.slice (some a) (len+k) cap) w'
   |none=>.ok (.slice none (len+k) cap) w:=by
 obtain⟨⟨sT,xT,rest,xd,h1,h2,h3,h4⟩,⟨qK,h5⟩,h6,h7,h8,h9,bI⟩:=h
 unfold aph
 have a0:argTypes[0]?=some sT:=by rw[jJ h1];rfl
 have a1:argTypes[1]?=some xT:=by rw[jJ h1];rfl
 have b0:args[0]?=some (.slice base len cap):=by rw[jJ h5];rfl
 have b1:args[1]?=some x:=by rw[jJ h5];rfl
 simp only[a0,a1,b0,b1]
 rw[amp,run_underlying h2,amo]
 dsimp only
 rw[amp,run_sizeOf h6,amo]
 rw[amp,run_underlying h3,amo,amp,am6,amo]
 cases xd
 case int=>cases h4
 all_goals
  dsimp only
  simp only[anr,if_false]
  rw[amp,h9,amo,if_pos hle]
  simp only[aq2,if_true]
  rw[amp,bI w rfl,amo]
  cases base with
  |none=>rfl
  |some a=>rw[amp];rfl
theorem run_append_grow{argTypes:Array amz}{ty:amz}{args:Array amn}{elem:amz}{size len cap k:Nat}{base:Option aoH}{x z:amn}{bytes:Nat}{xs old:Array amn}
 (h:CL P w argTypes args elem size len cap k base x z bytes xs)(hlt:cap<len+k)(hb:bytes≤1000000)(hn:len+k≤1000000)
 (hold:(aov size len (.slice base len cap)).run P w.drew=.ok old w.drew):
 ∃bq,len+k≤bq∧(aph argTypes ty args).run P w=
  .ok (.slice (some ⟨w.heap.size,0,none⟩) (len+k) bq) (w.drew.alloc (.cells (old++xs++aoj z.cells (bq-(len+k))) elem)):=by
 obtain⟨⟨sT,xT,rest,xd,h1,h2,h3,h4⟩,⟨qK,h5⟩,h6,h7,⟨inf,h8,akJ⟩,h9,bI⟩:=h
 refine⟨(apG (len+k) cap elem).cut (w.tape w.drawn (.appendCap (len+k) cap elem)),by simp[Question.cut],?_⟩
 generalize hq:(apG (len+k) cap elem).cut (w.tape w.drawn (.appendCap (len+k) cap elem))=bq
 unfold aph
 have a0:argTypes[0]?=some sT:=by rw[jJ h1];rfl
 have a1:argTypes[1]?=some xT:=by rw[jJ h1];rfl
 have b0:args[0]?=some (.slice base len cap):=by rw[jJ h5];rfl
 have b1:args[1]?=some x:=by rw[jJ h5];rfl
 simp only[a0,a1,b0,b1]
 rw[amp,run_underlying h2,amo]
 dsimp only
 rw[amp,run_sizeOf h6,amo]
 rw[amp,run_underlying h3,amo,amp,am6,amo]
 cases xd
 case int=>cases h4
 all_goals
  dsimp only
  simp only[anr,if_false]
  rw[amp,h9,amo,if_neg (by omega)]
  have wE:∀w:amC,(typeInfo elem).run P w=.ok inf w:=fun w=>by unfold typeInfo;rw[amp,aor,amo,h8];rfl
  have akK:=nextslicecap_le hlt
  have Tb:aqc (len+k) cap*inf.bytes≤2000768*1000000:=Nat.mul_le_mul (by omega) (by omega)
  have Tp:¬((len+k:Nat):Int)>amA.max:=by
   have:amA.max=9223372036854775807:=rfl
   rw[this];omega
  rw[amp,wE,amo]
  rw[if_neg (by rintro⟨h,_⟩;exact Tp h)]
  rw[amp,wE,amo]
  rw[if_neg (by omega)]
  rw[amp,run_choose,if_neg (by simp[Question.forced]),hq,amo,amp,wE,amo,amp,run_askRoom,amo]
  have Tq:=hold
  simp only[World.drew_eq]
  rw[amp,Tq,amo,amp]
  simp only[aq2,if_true]
  rw[bI w.drew rfl,amo,amp,mo h7,amo,amp,uh,amo]
  rfl
theorem Ts(z:Array amn)(m:Nat):(aoj z m).size=m*z.size:=by simp[aoj]
theorem Tt{elem:amz}{size len k:Nat}{b off:Nat}{xs:List amn}{out:bi}{l:List Nat}(h:(tV elem size len k (some ⟨b,off,none⟩) xs n).run g=some (out,l)):
 ∃c,g b=some (.cells c elem false)∧off+len*size=c.length∧out=⟨.val (.slice (some ⟨n,0,none⟩) (len+k) (len+k)),[(b,.dead)],some (.cells (c.drop off++xs) elem false)⟩:=by
 unfold tV at h
 obtain⟨o,l',hb,hk,rfl⟩:=Rd.run_read h
 split at hk
 ·rename_i c el
  split at hk
  ·rename_i hc
   simp only[amB]at hc
   have h1:=amI hc.1
   have h2:=amI hc.2
   subst h2
   simp only[Rd.run,amr,amv]at hk
   exact⟨c,hb,h1,hk.1.symm⟩
  ·cases hk
 ·cases hk
theorem Tu{size len cap k:Nat}{b off:Nat}{xs:List amn}{out:bi}{l:List Nat}(h:(vU size len cap k (some ⟨b,off,none⟩) xs).run g=some (out,l)):
 ∃c el,g b=some (.cells c el false)∧off+len*size+xs.length≤c.length∧len+k≤cap∧
  out=⟨.val (.slice (some ⟨b,off,none⟩) (len+k) cap),[(b,.cells (amk c (off+len*size) xs) el false)],none⟩:=by
 unfold vU at h
 obtain⟨o,l',hb,hk,rfl⟩:=Rd.run_read h
 split at hk
 ·rename_i c el
  split at hk
  ·rename_i hc
   simp only[amB]at hc
   have h0:=amS hc.1
   have h1:=amS hc.2
   simp only[Rd.run,amr,amv]at hk
   exact⟨c,el,hb,h1,h0,hk.1.symm⟩
  ·cases hk
 ·cases hk
theorem Fits.grown(hw:WR P B w₀ ρ g w)(hn:g n=none){cs:List amn}{old xs:Array amn}{elem:amz}{size cD bq:Nat}{z:amn}(cc:bT P elem=some size)(hz:z.cells.size=size)
 (hle:cD≤bq)(hl:LR ρ cs (old++xs).toList)(hlen:cs.length=cD*size):
 Fits P B w₀ ρ g n ⟨.val (.slice (some ⟨n,0,none⟩) cD cD),[],some (.cells cs elem false)⟩
  (.ok (.value (.slice (some ⟨w.heap.size,0,none⟩) cD bq)) (w.drew.alloc (.cells (old++xs++aoj z.cells (bq-cD)) elem))):=by
 have hs:(old++xs).size=cD*size:=by have:=hl.len;simp at this⊢;omega
 have hmul:cD*size+(bq-cD)*size=bq*size:=by rw[←aqX];congr 1;omega
 have Jh:(old++xs++aoj z.cells (bq-cD)).size=bq*size:=by
  rw[Array.size_append,hs,Ts,hz,hmul]
 refine⟨ρ.put n ⟨w.drew.heap.size,0,(bT P elem).getD 0,(old++xs++aoj z.cells (bq-cD)).size⟩,_,Ren.jH (hw.fresh n hn) _,.val _ _ _ ?_,hw.drew.newRow hn ?_ (.inl rfl) ?_⟩
 ·have:=VR.sl (ρ:=ρ.put n ⟨w.drew.heap.size,0,(bT P elem).getD 0,(old++xs++aoj z.cells (bq-cD)).size⟩) n 0 cD cD bq _ (Ren.ky _ _ _) (.inr ⟨hle,by rw[Jh,cc];simp⟩)
  simpa using this
 ·rw[Jh,hlen];exact ao2 _ hle
 ·rw[aoi,hlen,List.take_append_of_le_length (by simp at hs⊢;omega),anI (by simp at hs⊢;omega)]
  exact hl
theorem Fits.kill{b:Nat}{ob:ai}(hb:g b=some ob){v:amn}{o:ai}{nI:Result aoo}(h:Fits P B w₀ ρ (cG g b .dead) n ⟨.val v,[],some o⟩ nI):
 Fits P B w₀ ρ g n ⟨.val v,[(b,.dead)],some o⟩ nI:=by
 obtain⟨ρ',w',h1,h2,h3⟩:=h
 exact⟨ρ',w',h1,h2,h3⟩
theorem Tv(hw:WR P B w₀ ρ g w){argTypes:Array amz}{ty:amz}{args:List amn}{args':Array amn}(iq:LR ρ args args'.toList){out:bi}{l:List Nat}
 (hn:out.nw≠none→g n=none)(h:(vV P argTypes.toList args n).run g=some (out,l)):Fits P B w₀ ρ g n out ((do let v ←aph argTypes ty args';pure (anC v):Sem aoo).run P w):=by
 unfold vV at h
 split at h
 ·rename_i sT xT rest base len cap x yX b9
  obtain⟨s',t',ht,m5,js⟩:=iq.gq
  obtain⟨x',t2,rfl,fT,wF⟩:=js.gq
  split at h
  ·rename_i elem xd ul sr
   split at h
   ·rename_i size k z bytes cc hlen hz pM
    obtain⟨inf,nL,su⟩:∃inf,P.info? elem=some inf∧inf.bytes=bytes:=by
     cases nL:P.info? elem with
     |none=>rw[nL]at pM;cases pM
     |some inf=>rw[nL]at pM;cases pM;exact⟨inf,rfl,rfl⟩
    split at h
    ·cases h
    ·rename_i fS
     simp only[amB,Bool.not_eq_true']at fS
     obtain⟨⟨⟨hint,gH⟩,wG⟩,sw⟩:=fS
     have sw:0<size:=by simp[amG]at sw;omega
     have gH:=amS gH
     have wG:=amI wG
     have lJ:∀{CM bq:Nat} {qL:Option aoH} {jr:Array amn} {k:Nat},s'=.slice qL CM bq→qB x=some k→
      (∀w':amC,w'.heap=w.heap→(aov size k x').run P w'=.ok jr w')→CL P w argTypes args' elem size CM bq k qL x' z bytes jr:=by
      intro CM bq qL jr k hs hl hc
      subst hs
      exact⟨⟨sT,xT,rest,xd,b9,ul,sr,hint⟩,⟨t2,ht⟩,cc,hz,⟨inf,nL,su⟩,fun w=>Je fT hl,hc⟩
     obtain⟨xs,l1,l2,h1,h2,rfl⟩:=(Rd.run_bind _ _ _ _ _).1 h
     obtain⟨jr,oS,iB⟩:=Jf hw fT hlen (amX _) h1
     split at h2
     ·cases h2
     ·rename_i fS
      simp only[amB]at fS
      obtain⟨⟨de,yY⟩,jK⟩:=fS
      have de:=amS de
      have jK:=amI jK
      have akL:jr.size=k*size:=by have:=iB.len;simp at this;omega
      have Ji:∀q,bT P elem=some q→(bT P elem).getD 0=q:=fun q hq=>by rw[hq];rfl
      split at h2
      ·rename_i yZ
       have yZ:cap≤len:=by
        unfold full at yZ
        split at yZ
        ·omega
        ·exact amS yZ
       cases base with
       |none=>
        cases m5 with
        |bH _ iC=>
         obtain⟨_,rfl,rfl⟩:=yW iC
         have Jj:out=⟨.val (.slice (some ⟨n,0,none⟩) k k),[],some (.cells xs elem false)⟩:=by
          unfold tV at h2
          simp only[Rd.run,amr,amv]at h2
          exact h2.1.symm
         subst Jj
         replace hn:=hn (by intro hh;cases hh)
         by_cases gZ:k=0
         ·subst gZ
          have m6:xs=[]:=ant (by rw[jK];omega)
          subst m6
          have fD:jr.toList=[]:=iB.kw
          rw[amp,wD (lJ rfl hlen oS) (amX 0)]
          exact⟨_,w,Ren.jH (hw.fresh n hn) ⟨0,0,(bT P elem).getD 0,0⟩,.val _ _ _ (.dV _ _),hw.wB hn rfl (fun m s q e=>by cases e) (fun el ro e=>by cases e;exact Ji)⟩
         ·obtain⟨bq,h3,h4⟩:=run_append_grow (ty:=ty) (old:= #[]) (lJ rfl hlen oS) (by omega) gH de rfl
          rw[amp,h4,amo]
          rw[an8]at h3⊢
          exact Fits.grown hw hn cc wG h3 (by simpa using iB) jK
       |some a=>
        obtain⟨b,off,spot⟩:=a
        cases spot with
        |some sp=>cases h2
        |none=>
         obtain⟨c,hb,sx,rfl⟩:=Tt h2
         replace hn:=hn (by intro hh;cases hh)
         have bt:n≠b:=by rintro rfl;rw[hn]at hb;cases hb
         have CN:cG g b .dead n=none:=by rw[dU _ bt,hn]
         have Jk:(c.drop off).length=len*size:=by simp;omega
         have ef:(c.drop off++xs).length=(len+k)*size:=by rw[amD,Jk,jK,aqX len k size]
         have Jl:∀a',s'=.slice a' 0 0→len=0→c.drop off=[]→Fits P B w₀ ρ g n ⟨.val (.slice (some ⟨n,0,none⟩) (len+k) (len+k)),[(b,.dead)],some (.cells (c.drop off++xs) elem false)⟩ ((do let v ←aph argTypes ty args';pure (anC v):Sem aoo).run P w):=by
          intro a' hs y0 oT
          subst y0
          by_cases gZ:k=0
          ·subst gZ
           have m6:xs=[]:=ant (by rw[jK];omega)
           subst m6
           have fD:jr.toList=[]:=iB.kw
           rw[amp,wD (lJ hs hlen oS) (amX 0),oT]
           refine Fits.kill hb ?_
           suffices oU:WR P B w₀ (ρ.put n ⟨0,0,(bT P elem).getD 0,0⟩) (cG (cG g b .dead) n (.cells ([]++[]) elem false)) w by
            cases a' with
            |none=>exact⟨_,w,Ren.jH (hw.fresh n hn) _,.val _ _ _ (.dV _ _),oU⟩
            |some a'=>rw[fD];exact⟨_,w,Ren.jH (hw.fresh n hn) _,.val _ _ _ (.dV _ _),oU⟩
           exact(hw.kill b hb).wB CN rfl (fun m s q e=>by cases e) (fun el ro e=>by cases e;exact Ji)
          ·obtain⟨bq,h3,h4⟩:=run_append_grow (ty:=ty) (old:= #[]) (lJ hs hlen oS) (by omega) gH de (by unfold aov;simp only[aqb];cases a'<;>rfl)
           rw[amp,h4,amo]
           refine Fits.kill hb (Fits.grown (hw.kill b hb) CN cc wG h3 ?_ ef)
           rw[oT];simpa using iB
         generalize oV:s'=sv at m5
         cases m5 with
         |bH _ iC=>cases iC
         |dV _ a'=>exact Jl a' oV rfl (by rw[List.drop_eq_nil_iff];omega)
         |sl _ _ _ _ bq r hr hc=>
          cases kX:Live (.cells c elem false) r with
          |false=>
           obtain⟨Jm,Tw⟩:=Cj kX
           have gX:=IU hw hb hr size cc
           have y0:len=0:=by
            rw[Jm]at sx
            have:len*size=0:=by simp at sx;omega
            rcases arJ.1 this with h|h<;>omega
           have Tx:bq=0:=by
            rcases hc with hc|⟨_,hc⟩
            ·omega
            ·rw[Tw,gX]at hc
             have:bq*size=0:=by omega
             rcases arJ.1 this with h|h<;>omega
           refine Jl _ (by rw[oV,y0,Tx]) y0 (by rw[Jm];simp)
          |true=>
           obtain⟨c',fr,⟨bR,Jn,he⟩,hp,jf,y3,hf,hl,hB⟩:=qH hw hb hr kX
           obtain rfl:=he rfl
           replace hf:=hf rfl
           have Ty:r.sz=size:=y3 size cc
           by_cases e9:len+k≤bq
           ·have Jo:r.sh+off+(len+k)*size≤r.dn:=by
             rcases hc with hc|⟨qI,il⟩
             ·have gZ:k=0:=by omega
              subst gZ
              rw[Nat.add_zero];omega
             ·rw[Ty]at il
              have akM:(len+k)*size≤bq*size:=ao2 _ e9
              omega
            have Tz:=Jo
            rw[aqX len k size]at Tz
            obtain⟨w',h3,h4⟩:=Cs (P:=P) jr.toList w c' (r.sh+off+len*size) 0 (nG.refl Jn) (by simp;omega) (by rwa[hp]) (iB.yJ yY)
            rw[amp,wD (lJ oV hlen oS) e9]
            simp only[oN]
            rw[h3]
            refine⟨ρ.put n ⟨r.aJ,r.sh+off,r.sz,r.dn⟩,w',Ren.jH (hw.fresh n hn) _,.val _ _ _ ?_,hw.rename hn hb kX hr (hB rfl) h4 rfl ?_⟩
            ·have TA:Ce ⟨r.aJ,r.sh+off,r.sz,r.dn⟩ 0 (len+k) bq:=by
              rcases hc with hc|⟨qI,il⟩
              ·left;omega
              ·right;exact⟨e9,by simpa using il⟩
             have:=VR.sl (ρ:=ρ.put n ⟨r.aJ,r.sh+off,r.sz,r.dn⟩) n 0 (len+k) (len+k) bq _ (Ren.ky _ _ _) TA
             simpa using this
            ·refine .cells _ _ _ _ _ fr (by rw[Cr];exact hp) (by show r.sh+off+(c.drop off++xs).length≤r.dn;rw[ef];exact Jo) (fun _=>rfl) (fun m hm=>y3 m hm) (fun _=>hf) fun i v hi=>?_
             simp only at*
             rw[yM _ _ _ _ (by simp;omega)]
             have TB:=iB.len
             simp at TB
             by_cases pP:i<len*size
             ·rw[ane (by omega),anK]at hi
              rw[if_neg (by omega)]
              obtain⟨v',h5,h6⟩:=hl.get hi
              rw[anJ]at h5
              split at h5
              ·exact⟨v',by simpa[aok]using h5,h6.mono (Ren.jH (hw.fresh n hn) _)⟩
              ·cases h5
             ·rw[am5 (by omega),Jk]at hi
              have akN:i-len*size<xs.length:=(amy.1 hi).1
              obtain⟨v',h5,h6⟩:=iB.get hi
              rw[if_pos (by simp;omega)]
              refine⟨v',?_,h6.mono (Ren.jH (hw.fresh n hn) _)⟩
              rw[←h5]
              congr 1
              omega
           ·have hold:∀w':amC,w'.heap=w.heap→(aov size len (.slice (some ⟨r.aJ,r.sh+off,none⟩) len bq)).run P w'=.ok ((c'.toList.drop (r.sh+off)).take (len*size)).toArray w':=
             fun w' hh=>yN (by rw[hh];exact Jn) _ _ (by omega)
            obtain⟨Jp,h3,h4⟩:=run_append_grow (ty:=ty) (lJ oV hlen oS) (by omega) gH de (hold w.drew rfl)
            rw[amp,h4,amo]
            refine Fits.kill hb (Fits.grown (hw.kill b hb) CN cc wG h3 ?_ ef)
            have h5:=yP hl (off:=off) (n:=len*size) (by omega)
            rw[anI (by omega:(c.drop off).length≤len*size)]at h5
            simpa using h5.append iB
      ·cases base with
       |none=>cases h2
       |some a=>
        obtain⟨b,off,spot⟩:=a
        cases spot with
        |some sp=>cases h2
        |none=>
         obtain⟨c,el,hb,hbound,hle,rfl⟩:=Tu h2
         generalize oV:s'=sv at m5
         cases m5 with
         |bH _ iC=>cases iC
         |dV _ a'=>
          have m6:xs=[]:=ant (by rw[jK];have:k=0:=by omega
                                 rw[this];omega)
          subst m6
          have fD:jr.toList=[]:=iB.kw
          have gZ:k=0:=by omega
          subst gZ
          have:cG g b (.cells (amk c (off+0*size) []) el false)=g:=by
           funext x
           by_cases e:x=b
           ·subst e;rw[fg,hb];simp[amk]
           ·rw[dU _ e]
          rw[amp,wD (lJ oV hlen oS) (by omega)]
          suffices oU:WR P B w₀ ρ (cG g b (.cells (amk c (off+0*size) []) el false)) w by
           cases a' with
           |none=>exact⟨ρ,w,Ren.le_refl ρ,.val _ _ _ (.dV _ _),oU⟩
           |some a'=>rw[fD];exact⟨ρ,w,Ren.le_refl ρ,.val _ _ _ (.dV _ _),oU⟩
          rw[this]
          exact hw
         |sl _ _ _ _ bq r hr hc=>
          have iU:cap≤bq:=by rcases hc with hc|hc<;>omega
          obtain⟨w',h3,h4⟩:=hw.store hb hr iB hbound yY
          rw[amp,wD (lJ oV hlen oS) (by omega)]
          simp only[oN,aok]
          rw[h3]
          exact⟨ρ,w',Ren.le_refl ρ,.val _ _ _ (.sl _ _ _ _ _ _ hr hc),h4⟩
   ·cases h
  ·cases h
 ·cases h
theorem TC(hw:WR P B w₀ ρ g w){argTypes:Array amz}{ty:amz}{args:List amn}{args':Array amn}(iq:LR ρ args args'.toList){out:bi}{l:List Nat}
 (h:(copyV P argTypes.toList args).run g=some (out,l)):Fits P B w₀ ρ g n out ((do let v ←arj argTypes ty args';pure (anC v):Sem aoo).run P w):=by
 unfold copyV at h
 split at h
 ·rename_i dT rest base len cap x yX b9
  obtain⟨s',t',ht,m5,js⟩:=iq.gq
  obtain⟨x',t2,rfl,fT,wF⟩:=js.gq
  split at h
  ·rename_i elem hu
   split at h
   ·rename_i size k cc hlen
    obtain⟨xs,l1,l2,h1,h2,rfl⟩:=(Rd.run_bind _ _ _ _ _).1 h
    obtain⟨jr,oS,iB⟩:=Jf hw fT hlen (Nat.min_le_left _ _) h1
    have a0:argTypes[0]?=some dT:=by rw[jJ b9];rfl
    have b0:args'[0]?=some s':=by rw[jJ ht];rfl
    have b1:args'[1]?=some x':=by rw[jJ ht];rfl
    have key:∀(qL:Option aoH) (bq:Nat),s'=.slice qL len bq→(arj argTypes ty args').run P w=match qL with
     |some a=>((storeCells a jr.toList).run P w).andThen fun _ w'=>.ok (.int .i64 (aqo k len)) w'
     |none=>.ok (.int .i64 (aqo k len)) w:=by
     intro qL bq hs
     subst hs
     unfold arj
     simp only[a0,b0,b1]
     rw[amp,run_underlying hu,amo]
     dsimp only
     rw[amp,Je fT hlen,amo]
     rw[amp,run_sizeOf cc,amo,amp,oS w rfl,amo]
     cases qL with
     |none=>rfl
     |some a=>rw[amp];rfl
    split at h2
    ·cases m5 with
     |bH _ iC=>
      rw[amp,key _ _ rfl]
      exact Fits.dp hw h2 (.bH _ rfl)
    ·rename_i b off
     obtain⟨o,l',hb,hk,rfl⟩:=Rd.run_read h2
     split at hk
     ·rename_i c el
      split at hk
      ·rename_i fS
       simp only[amB]at fS
       have hle:=amS fS.1
       simp only[Rd.run,amr,amv]at hk
       obtain⟨rfl,rfl⟩:=hk
       cases m5 with
       |bH _ iC=>cases iC
       |dV _ a'=>
        have m6:xs=[]:=Tn (by have hm:aqo k 0=0:=Nat.min_zero k;rw[hm]at h1;exact h1)
        subst m6
        have fD:jr.toList=[]:=iB.kw
        rw[amp,key _ _ rfl]
        simp only[fD]
        suffices oU:WR P B w₀ ρ (ud g n {r:=jE.val (amu .i64 (aqo k 0)),ws:=[(b,ai.cells (amk c off []) el false)],nw:=none}) w by
         cases a'<;>exact⟨ρ,w,Ren.le_refl ρ,.val _ _ _ (.bH _ rfl),oU⟩
        have cW:amk c off []=c:=by
         unfold amk
         simp
        have:ud g n {r:=jE.val (amu .i64 (aqo k 0)),ws:=[(b,ai.cells (amk c off []) el false)],nw:=none}=g:=by
         show cG g b _=g
         rw[cW]
         exact I3 hb
        rw[this]
        exact hw
       |sl _ _ _ _ bq r hr hc=>
        obtain⟨w',h3,h4⟩:=hw.store hb hr iB hle fS.2
        rw[amp,key _ _ rfl]
        simp only[h3,amo]
        exact⟨ρ,w',Ren.le_refl ρ,.val _ _ _ (.bH _ rfl),h4⟩
      ·cases hk
     ·cases hk
    ·cases h2
   ·cases h
  ·cases h
 ·cases h
end
end Go.Proofs.Ytnlkkgpcikkpoaa.Vm
namespace Go.Proofs.Ytnlkkgpcikkpoaa.Vm
open Go.RowKit
theorem TD{x y:ByteArray}(h:(x==y)=true):x=y:=by
 have h2:(x.data==y.data)=true:=h
 cases x;cases y
 simp at h2
 rw[h2]
theorem Jq(x:ByteArray):(x==x)=true:=by
 show(x.data==x.data)=true
 simp
section
variable {P:amF} {B:Nat→Prop} {w₀:amC} {ρ:Ren} {g:Nat→Option ai} {n:Nat} {w:amC}
theorem y4(hw:WR P B w₀ ρ g w){b:Nat}{es:List amW}{clock:Nat}(hb:g b=some (.map es clock)){r:bP}(hr:ρ b=some r):
 ∃cH,w.heap[r.aJ]?=some (.map cH clock)∧es.length=cH.toList.length∧(∀(i:Nat) (e e':amW),es[i]?=some e→cH.toList[i]?=some e'→mn ρ e e')∧¬B r.aJ:=by
 obtain⟨o',h1,h2,h3⟩:=hw.mem hb rfl hr
 cases h2 with
 |map _ cH _ h4 h5=>exact⟨cH,h1,h4,h5,h3 rfl⟩
theorem wH{t:amz}{k:amn}(h:oG P t k=true):∃d,P.underlying t=some d∧((∃ik,d=.int ik∧∃j m,k=.int j m)∨(d=.string∧∃s,k=.string s)):=by
 unfold oG at h
 split at h
 ·rename_i ik j m hu;exact⟨_,hu,.inl ⟨ik,rfl,j,m,rfl⟩⟩
 ·rename_i s hu;exact⟨_,hu,.inr ⟨rfl,s,rfl⟩⟩
 ·cases h
theorem TE(b:Bool)(t:amz)(v:amn):aqq b 10000 t v=aqq b (9999+1) t v:=rfl
theorem run_checkKey{t:amz}{k:amn}(h:oG P t k=true)(b:Bool):(aqq b 10000 t k).run P w=.ok () w:=by
 obtain⟨d,hu,hd⟩:=wH h
 rw[TE]
 unfold aqq
 rw[amp,run_underlying hu,amo]
 rcases hd with⟨ik,rfl,j,m,rfl⟩|⟨rfl,s,rfl⟩<;>rfl
theorem um{t:amz}{d:apY}{k:amn}(hu:P.underlying t=some d)(hd:(∃ik,d=.int ik∧∃j m,k=.int j m)∨(d=.string∧∃s,k=.string s)):
 ∀{es:List amW} {cH:List amW} {i:Nat} {r:Option (Nat×amn)},es.length=cH.length→(∀(i:Nat) (e e':amW),es[i]?=some e→cH[i]?=some e'→mn ρ e e')→
  e7 k es i=some r→∃r',ape d k cH i=some r'∧((r=none∧r'=none)∨∃j v v' e',r=some (i+j,v)∧r'=some (i+j,v')∧VR ρ v v'∧cH[j]?=some e'∧e'.key=k∧∃e,es[j]?=some e∧e.val=v):=by
 intro es
 induction es with
 |nil=>
  intro cH i r hl he h
  simp only[e7,amr]at h
  subst h
  cases cH with
  |nil=>exact⟨none,rfl,.inl ⟨rfl,rfl⟩⟩
  |cons=>simp at hl
 |cons e es ih=>
  intro cH i r hl he h
  cases cH with
  |nil=>simp at hl
  |cons e' cH=>
   have y5:=he 0 e e' rfl rfl
   have pQ:es.length=cH.length:=by simpa using hl
   have sy:∀(i:Nat) (a a':amW),es[i]?=some a→cH[i]?=some a'→mn ρ a a':=fun i a a' h1 h2=>he (i+1) a a' (by simpa using h1) (by simpa using h2)
   have rest:∀{r},e7 k es (i+1)=some r→apV d k e'.key=some false→∃r',ape d k (e'::cH) i=some r'∧((r=none∧r'=none)∨∃j v v' e2,r=some (i+j,v)∧r'=some (i+j,v')∧VR ρ v v'∧(e'::cH)[j]?=some e2∧e2.key=k∧∃e0,(e::es)[j]?=some e0∧e0.val=v):=by
    intro r h hs
    obtain⟨r',h1,h2⟩:=ih pQ sy h
    refine⟨r',by unfold ape;simp only[hs,h1],?_⟩
    rcases h2 with h2|⟨j,v,v',e2,ha,hb,hc,hd,hk,e0,hf,hv⟩
    ·exact .inl h2
    ·exact .inr ⟨j+1,v,v',e2,by rw[ha];congr 2;omega,by rw[hb];congr 2;omega,hc,by simpa using hd,hk,e0,by simpa using hf,hv⟩
   unfold e7 at h
   split at h
   ·rename_i a x b y uo
    have sA:e'.key=.int b y:=by have:=y5.key;rw[uo]at this;exact this.jo
    rcases hd with⟨ik,rfl,j,m,dH⟩|⟨rfl,s,dH⟩
    ·split at h
     ·rename_i jg
      have jg:a=b:=by simpa using jg
      subst jg
      by_cases m7:(x==y)=true
      ·rw[if_pos m7]at h
       cases h
       have:x=y:=by simpa using m7
       subst this
       exact⟨some (i,e'.val),by unfold ape apV;rw[sA];simp,.inr ⟨0,e.val,e'.val,e',rfl,rfl,y5.val,rfl,sA,e,rfl,rfl⟩⟩
      ·rw[if_neg m7]at h
       refine rest h ?_
       unfold apV
       rw[sA]
       simp at m7⊢
       exact m7
     ·cases h
    ·cases dH
   ·rename_i x y uo
    have sA:e'.key=.string y:=by have:=y5.key;rw[uo]at this;exact this.oM
    rcases hd with⟨ik,rfl,j,m,dH⟩|⟨rfl,s,dH⟩
    ·cases dH
    ·by_cases m7:(x==y)=true
     ·rw[if_pos m7]at h
      cases h
      have:x=y:=TD m7
      subst this
      exact⟨some (i,e'.val),by unfold ape apV;rw[sA];simp only[Jq],.inr ⟨0,e.val,e'.val,e',rfl,rfl,y5.val,rfl,sA,e,rfl,rfl⟩⟩
     ·rw[if_neg m7]at h
      refine rest h ?_
      unfold apV
      rw[sA]
      have:(x==y)=false:=by cases hh:(x==y)with
       |true=>exact absurd hh m7
       |false=>rfl
      simp only[this]
   ·cases h
theorem run_findKey{t:amz}{d:apY}{k:amn}(hu:P.underlying t=some d){es:List amW}{r:Option (Nat×amn)}(h:ape d k es 0=some r):
 (arZ t k es).run P w=.ok r w:=by
 unfold arZ
 rw[amp,run_underlying hu,amo]
 simp only[h,am6]
theorem run_getObj_map{b:Nat}{es:Array amW}{clock:Nat}(h:w.heap[b]?=some (.map es clock)):(getObj b).run P w=.ok (.map es clock) w:=by
 simp only[getObj,aoN,h]
theorem run_setObj_map{b:Nat}{es:Array amW}{clock:Nat}(h:w.heap[b]?=some (.map es clock))(o:Obj):
 (setObj b o).run P w=.ok () {w with heap:=w.heap.setIfInBounds b o}:=by
 simp only[setObj,aoN,h]
theorem y6{b:Nat}{o1:Obj}(h:w.heap[b]?=some o1)(o:Obj):nG w {w with heap:=w.heap.setIfInBounds b o} b o:=by
 have hb:b<w.heap.size:=(anq.1 h).1
 refine⟨rfl,rfl,rfl,by simp,by simp[hb],fun k hk=>?_⟩
 show(w.heap.setIfInBounds b o)[k]?=_
 rw[anY (Ne.symm hk)]
theorem CP(hw:WR P B w₀ ρ g w){v v':amn}(hv:VR ρ v v')(ok b:Bool){out:bi}{l:List Nat}(h:(val (if ok then .tuple #[v,.bool b]else v)).run g=some (out,l)):
 Fits P B w₀ ρ g n out (.ok (.value (if ok then .tuple #[v',.bool b]else v')) w):=by
 cases ok with
 |true=>exact Fits.dp hw h (.yI (LR.cons hv (LR.cons (.bH _ rfl) (LR.nil ρ))))
 |false=>exact Fits.dp hw h hv
theorem TF(hw:WR P B w₀ ρ g w){t:amz}{x x' k k':amn}(hx:VR ρ x x')(hk:VR ρ k k')(ok:Bool){out:bi}{l:List Nat}(h:(BP P t x k ok).run g=some (out,l)):
 Fits P B w₀ ρ g n out ((do let v ←aoD t x' k' ok;pure (anC v):Sem aoo).run P w):=by
 unfold BP at h
 split at h
 ·rename_i kt et hu
  split at h
  ·rename_i z iE hz
   obtain⟨d,jL,hd⟩:=wH iE
   have dH:k'=k:=by
    rcases hd with⟨ik,rfl,j,m,rfl⟩|⟨rfl,s,rfl⟩
    ·exact hk.jo
    ·exact hk.oM
   subst dH
   dsimp only at h
   split at h
   ·split at h
    ·rename_i nH
     cases hx with
     |bH=>
      have:(aoD t (.map none) k' ok).run P w=.ok (if ok then .tuple #[z,.bool false]else z) w:=by
       unfold aoD
       rw[amp,run_underlying hu,amo]
       dsimp only
       rw[amp,am6,amo,amp,run_checkKey iE,amo,amp,run_findKey jL (by rfl:ape d k' [] 0=some none),amo]
       dsimp only
       first|rw[amp,amp,mo hz]|rw[amp,mo hz]
       rfl
      rw[amp,this]
      exact CP hw (mX nH) ok false h
    ·cases h
   ·rename_i b
    obtain⟨r,hr,rfl⟩:=hx.pE
    obtain⟨o,l',hb,dH,rfl⟩:=Rd.run_read h
    split at dH
    ·rename_i es clock
     split at dH
     ·rename_i f pR nH
      obtain⟨cH,h1,h2,h3,hB⟩:=y4 hw hb hr
      obtain⟨r',h4,h5⟩:=um jL hd h2 h3 pR
      have pre:∀(rest:Option (Nat×amn)→Sem amn),True:=fun _=>trivial
      rcases h5 with⟨rfl,rfl⟩|⟨j,v,v',e',rfl,rfl,hv,_,_,_⟩
      ·have:(aoD t (.map (some r.aJ)) k' ok).run P w=.ok (if ok then .tuple #[z,.bool false]else z) w:=by
        unfold aoD
        rw[amp,run_underlying hu,amo]
        dsimp only
        rw[amp,run_getObj_map h1,amo]
        dsimp only
        rw[amp,am6,amo,amp,run_checkKey iE,amo,amp,run_findKey jL h4,amo]
        dsimp only
        first|rw[amp,amp,mo hz]|rw[amp,mo hz]
        rfl
       rw[amp,this]
       exact CP hw (mX nH) ok false dH
      ·have:(aoD t (.map (some r.aJ)) k' ok).run P w=.ok (if ok then .tuple #[v',.bool true]else v') w:=by
        unfold aoD
        rw[amp,run_underlying hu,amo]
        dsimp only
        rw[amp,run_getObj_map h1,amo]
        dsimp only
        rw[amp,am6,amo,amp,run_checkKey iE,amo,amp,run_findKey jL h4,amo]
        rfl
       rw[amp,this]
       exact CP hw hv ok true dH
     ·cases dH
    ·cases dH
   ·cases h
  ·cases h
 ·cases h
theorem sameBits_self{k:amn}{d:apY}(hd:(∃ik,d=.int ik∧∃j m,k=.int j m)∨(d=.string∧∃s,k=.string s)):Instr.sameBits 10000 k k=true:=by
 rcases hd with⟨ik,_,j,m,rfl⟩|⟨_,s,rfl⟩
 ·show(j==j&&m==m)=true;simp
 ·exact Jq s
theorem Jr(hw:WR P B w₀ ρ g w){t:amz}{x x' k k' v v':amn}(hx:VR ρ x x')(hk:VR ρ k k')(hv:VR ρ v v'){out:bi}{l:List Nat}
 (h:(vW P t x k v).run g=some (out,l)):Fits P B w₀ ρ g n out ((do apC t x' k' v';pure Next.skip:Sem aoo).run P w):=by
 unfold vW at h
 split at h
 ·rename_i kt et hu
  split at h
  ·rename_i b iE
   obtain⟨r,hr,rfl⟩:=hx.pE
   obtain⟨d,jL,hd⟩:=wH iE
   have dH:k'=k:=by
    rcases hd with⟨ik,rfl,j,m,rfl⟩|⟨rfl,s,rfl⟩
    ·exact hk.jo
    ·exact hk.oM
   subst dH
   obtain⟨o,l',hb,dH,rfl⟩:=Rd.run_read h
   split at dH
   ·rename_i es clock
    obtain⟨cH,h1,h2,h3,hB⟩:=y4 hw hb hr
    split at dH
    ·rename_i i vv pR
     obtain⟨r',h4,h5⟩:=um jL hd h2 h3 pR
     rcases h5 with⟨h5,_⟩|⟨j,u,u',e',h5,rfl,qM,sy,uo,_⟩
     ·cases h5
     ·simp only[an8,amr,amv]at h5
      obtain⟨rfl,rfl⟩:=h5
      simp only[Rd.run,amr,amv]at dH
      obtain⟨rfl,rfl⟩:=dH
      have uq:cH[i]?=some e':=by simpa using sy
      have jI:(apC t (.map (some r.aJ)) k' v').run P w=.ok () {w with heap:=w.heap.setIfInBounds r.aJ (.map (cH.modify i fun e=>{e with key:=k',val:=v'}) clock)}:=by
       unfold apC
       rw[amp,run_underlying hu,amo]
       dsimp only
       rw[amp,run_getObj_map h1,amo]
       dsimp only
       rw[amp,run_checkKey iE,amo,amp,run_findKey jL h4,amo]
       simp only[an8,uq,anL,aoc,uo]
       rw[amp]
       unfold Instr.keyThatStays
       rw[if_pos (sameBits_self hd),am6,amo,run_setObj_map h1]
      rw[amp,jI,amo]
      refine⟨ρ,_,Ren.le_refl ρ,.skip _,hw.change hb (by first|rfl|exact CQ _ _) hr hB (y6 h1 _) ?_⟩
      refine .map _ _ _ (by simp[h2]) fun m a a' ha fH=>?_
      rw[List.getElem?_modify]at ha
      rw[an5,Array.getElem?_modify]at fH
      by_cases gr:i=m
      ·subst gr
       rw[if_pos rfl,uq]at fH
       cases fH
       cases hg:es[i]?with
       |none=>rw[hg]at ha;cases ha
       |some e0=>
        rw[hg]at ha
        simp at ha
        subst ha
        exact⟨hk,hv,(h3 i e0 e' hg sy).born⟩
      ·rw[if_neg gr]at fH
       cases hg:es[m]?with
       |none=>rw[hg]at ha;cases ha
       |some e0=>
        rw[hg]at ha
        simp[gr]at ha
        subst ha
        exact h3 m e0 a' hg (by simpa using fH)
    ·rename_i pR
     obtain⟨r',h4,h5⟩:=um jL hd h2 h3 pR
     rcases h5 with⟨_,rfl⟩|⟨j,u,u',e',h5,_⟩
     ·simp only[Rd.run,amr,amv]at dH
      obtain⟨rfl,rfl⟩:=dH
      have jI:(apC t (.map (some r.aJ)) k' v').run P w=.ok () {w with heap:=w.heap.setIfInBounds r.aJ (.map (cH.push {key:=k',val:=v',born:=clock}) (clock+1))}:=by
       unfold apC
       rw[amp,run_underlying hu,amo]
       dsimp only
       rw[amp,run_getObj_map h1,amo]
       dsimp only
       rw[amp,run_checkKey iE,amo,amp,run_findKey jL h4,amo]
       dsimp only
       rw[run_setObj_map h1]
      rw[amp,jI,amo]
      refine⟨ρ,_,Ren.le_refl ρ,.skip _,hw.change hb (by first|rfl|exact CQ _ _) hr hB (y6 h1 _) ?_⟩
      refine .map _ _ _ (by simp[h2]) fun m a a' ha fH=>?_
      rw[Array.toList_push]at fH
      by_cases hm:m<es.length
      ·rw[ane hm]at ha
       rw[ane (by omega)]at fH
       exact h3 m a a' ha fH
      ·rw[am5 (by omega)]at ha
       rw[am5 (by omega)]at fH
       rw[←h2]at fH
       cases hs:m-es.length with
       |zero=>rw[hs]at ha fH;cases ha;cases fH;exact⟨hk,hv,rfl⟩
       |succ q=>rw[hs]at ha;cases ha
     ·cases h5
    ·cases dH
   ·cases dH
  ·cases h
 ·cases h
theorem toList_erase(a:Array amW)(i:Nat):(a.eraseIdxIfInBounds i).toList=a.toList.eraseIdx i:=by simp
theorem TG(hw:WR P B w₀ ρ g w){argTypes:Array amz}{ty:amz}{args:List amn}{args':Array amn}(iq:LR ρ args args'.toList){out:bi}{l:List Nat}
 (h:(vX P argTypes.toList args).run g=some (out,l)):Fits P B w₀ ρ g n out ((do let v ←apD argTypes ty args';pure (anC v):Sem aoo).run P w):=by
 unfold vX at h
 split at h
 ·rename_i t rest b k yX b9
  obtain⟨s',t',ht,m5,js⟩:=iq.gq
  obtain⟨k',t2,rfl,hk,wF⟩:=js.gq
  obtain⟨r,hr,rfl⟩:=m5.pE
  have a0:argTypes[0]?=some t:=by rw[jJ b9];rfl
  have b0:args'[0]?=some (.map (some r.aJ)):=by rw[jJ ht];rfl
  have b1:args'[1]?=some k':=by rw[jJ ht];rfl
  split at h
  ·rename_i kt et hu
   split at h
   ·rename_i iE
    obtain⟨d,jL,hd⟩:=wH iE
    have dH:k'=k:=by
     rcases hd with⟨ik,rfl,j,m,rfl⟩|⟨rfl,s,rfl⟩
     ·exact hk.jo
     ·exact hk.oM
    subst dH
    obtain⟨o,l',hb,dH,rfl⟩:=Rd.run_read h
    split at dH
    ·rename_i es clock
     obtain⟨cH,h1,h2,h3,hB⟩:=y4 hw hb hr
     split at dH
     ·rename_i i vv pR
      obtain⟨r',h4,h5⟩:=um jL hd h2 h3 pR
      rcases h5 with⟨h5,_⟩|⟨j,u,u',e',h5,rfl,qM,sy,uo,_⟩
      ·cases h5
      ·simp only[an8,amr,amv]at h5
       obtain⟨rfl,rfl⟩:=h5
       simp only[Rd.run,amr,amv]at dH
       obtain⟨rfl,rfl⟩:=dH
       have jI:(apD argTypes ty args').run P w=.ok (.tuple #[]) {w with heap:=w.heap.setIfInBounds r.aJ (.map (cH.eraseIdxIfInBounds i) clock)}:=by
        unfold apD
        simp only[a0,b0,b1]
        rw[amp,run_underlying hu,amo]
        dsimp only
        rw[amp,run_getObj_map h1,amo]
        dsimp only
        rw[amp,run_checkKey iE,amo,amp,run_findKey jL h4,amo]
        simp only[an8]
        rw[amp,run_setObj_map h1]
        rfl
       rw[amp,jI,amo]
       refine⟨ρ,_,Ren.le_refl ρ,.val _ _ _ (VR.undef ρ),hw.change hb (by first|rfl|exact CQ _ _) hr hB (y6 h1 _) ?_⟩
       refine .map _ _ _ (by rw[toList_erase,ara,ara,h2]) fun m a a' ha fH=>?_
       rw[toList_erase]at fH
       rw[List.getElem?_eraseIdx]at ha fH
       split at ha
       ·rename_i hm;rw[if_pos hm]at fH;exact h3 m a a' ha fH
       ·rename_i hm;rw[if_neg hm]at fH;exact h3 _ a a' ha fH
     ·rename_i pR
      obtain⟨r',h4,h5⟩:=um jL hd h2 h3 pR
      rcases h5 with⟨_,rfl⟩|⟨j,u,u',e',h5,_⟩
      ·simp only[Rd.run,amr,amv]at dH
       obtain⟨rfl,rfl⟩:=dH
       have jI:(apD argTypes ty args').run P w=.ok (.tuple #[]) {w with heap:=w.heap.setIfInBounds r.aJ (.map cH clock)}:=by
        unfold apD
        simp only[a0,b0,b1]
        rw[amp,run_underlying hu,amo]
        dsimp only
        rw[amp,run_getObj_map h1,amo]
        dsimp only
        rw[amp,run_checkKey iE,amo,amp,run_findKey jL h4,amo]
        dsimp only
        rw[amp,run_setObj_map h1]
        rfl
       rw[amp,jI,amo]
       exact⟨ρ,_,Ren.le_refl ρ,.val _ _ _ (VR.undef ρ),hw.change hb (by first|rfl|exact CQ _ _) hr hB (y6 h1 _) (.map _ _ _ h2 h3)⟩
      ·cases h5
     ·cases dH
    ·cases dH
   ·cases h
  ·cases h
 ·cases h
theorem TH(hw:WR P B w₀ ρ g w){argTypes:Array amz}{ty:amz}{args:List amn}{args':Array amn}(iq:LR ρ args args'.toList){out:bi}{l:List Nat}
 (h:(BQ P argTypes.toList args).run g=some (out,l)):Fits P B w₀ ρ g n out ((do let v ←an9 argTypes ty args';pure (anC v):Sem aoo).run P w):=by
 unfold BQ at h
 split at h
 ·rename_i t rest x yX b9
  obtain⟨x',t',ht,hx,js⟩:=iq.gq
  have a0:argTypes[0]?=some t:=by rw[jJ b9];rfl
  have b0:args'[0]?=some x':=by rw[jJ ht];rfl
  split at h
  ·rename_i sa m sc hu
   cases hx with
   |bH _ iC=>
    obtain⟨rfl,rfl,rfl⟩:=yW iC
    have hr:(an9 argTypes ty args').run P w=.ok (goInt (0:Nat)) w:=by unfold an9;simp only[a0,b0];rw[amp,run_underlying hu,amo];rfl
    rw[amp,hr];exact Fits.dp hw h (.bH _ rfl)
   |sl=>
    have hr:(an9 argTypes ty args').run P w=.ok (goInt m) w:=by unfold an9;simp only[a0,b0];rw[amp,run_underlying hu,amo];rfl
    rw[amp,hr];exact Fits.dp hw h (.bH _ rfl)
   |mj=>
    have hr:(an9 argTypes ty args').run P w=.ok (goInt m) w:=by unfold an9;simp only[a0,b0];rw[amp,run_underlying hu,amo];rfl
    rw[amp,hr];exact Fits.dp hw h (.bH _ rfl)
   |dV=>
    have hr:(an9 argTypes ty args').run P w=.ok (goInt (0:Nat)) w:=by unfold an9;simp only[a0,b0];rw[amp,run_underlying hu,amo];rfl
    rw[amp,hr];exact Fits.dp hw h (.bH _ rfl)
  ·rename_i hu
   cases hx with
   |bH=>
    have hr:(an9 argTypes ty args').run P w=.ok (goInt 0) w:=by unfold an9;simp only[a0,b0];rw[amp,run_underlying hu,amo];rfl
    rw[amp,hr];exact Fits.dp hw h (.bH _ rfl)
  ·rename_i b hu
   obtain⟨r,hr,rfl⟩:=hx.pE
   obtain⟨o,l',hb,hk,rfl⟩:=Rd.run_read h
   split at hk
   ·rename_i es clock
    obtain⟨cH,h1,h2,h3,hB⟩:=y4 hw hb hr
    have hr:(an9 argTypes ty args').run P w=.ok (goInt cH.size) w:=by
     unfold an9;simp only[a0,b0];rw[amp,run_underlying hu,amo]
     dsimp only
     rw[amp,run_getObj_map h1];rfl
    rw[amp,hr]
    refine Fits.dp hw hk ?_
    have:es.length=cH.size:=by simpa using h2
    rw[this]
    exact .bH _ rfl
   ·cases hk
  ·rename_i k el hu
   have hr:(an9 argTypes ty args').run P w=.ok (goInt k) w:=by unfold an9;simp only[a0,b0];rw[amp,run_underlying hu,amo];rfl
   rw[amp,hr]
   exact Fits.dp hw h (.bH _ rfl)
  ·rename_i a hu
   split at h
   ·rename_i k el sr
    have hr:(an9 argTypes ty args').run P w=.ok (goInt k) w:=by
     unfold an9;simp only[a0,b0];rw[amp,run_underlying hu,amo]
     dsimp only
     rw[amp,run_underlying sr];rfl
    rw[amp,hr]
    exact Fits.dp hw h (.bH _ rfl)
   ·cases h
  ·cases h
 ·cases h
theorem TI{z:amn}(k:Nat):(aoj z.cells k).toList=eU z.cells.toList k:=by
 have:=CE z k
 unfold aoj
 rw[this]
theorem TJ(hw:WR P B w₀ ρ g w){argTypes:Array amz}{ty:amz}{args:List amn}{args':Array amn}(iq:LR ρ args args'.toList){out:bi}{l:List Nat}
 (h:(vZ P argTypes.toList args).run g=some (out,l)):Fits P B w₀ ρ g n out ((do let v ←apM argTypes ty args';pure (anC v):Sem aoo).run P w):=by
 unfold vZ at h
 split at h
 ·rename_i t rest x yX b9
  obtain⟨x',t',ht,hx,js⟩:=iq.gq
  have a0:argTypes[0]?=some t:=by rw[jJ b9];rfl
  have b0:args'[0]?=some x':=by rw[jJ ht];rfl
  have none_:∀{d},P.underlying t=some d→(∃a c,x'=.slice a 0 c)∨(∃l c,x'=.slice none l c)→(apM argTypes ty args').run P w=.ok (.tuple #[]) w:=by
   intro d hu hc
   unfold apM
   simp only[a0,b0]
   rw[amp,run_underlying hu,amo]
   rcases hc with⟨a,c,rfl⟩|⟨l,c,rfl⟩
   ·cases a<;>cases d<;>rfl
   ·cases d<;>rfl
  split at h
  ·rename_i hu
   cases hx with
   |bH _ iC=>
    obtain⟨_,rfl,rfl⟩:=yW iC
    rw[amp,none_ hu (.inr ⟨_,_,rfl⟩)]
    exact Fits.dp hw h (VR.undef ρ)
  ·rename_i hu
   rw[amp]
   cases hx with
   |bH _ iC=>
    obtain⟨rfl,_,rfl⟩:=yW iC
    rw[none_ hu (.inl ⟨_,_,rfl⟩)]
    exact Fits.dp hw h (VR.undef ρ)
   |sl=>rw[none_ hu (.inl ⟨_,_,rfl⟩)];exact Fits.dp hw h (VR.undef ρ)
   |dV=>rw[none_ hu (.inl ⟨_,_,rfl⟩)];exact Fits.dp hw h (VR.undef ρ)
   |mj=>rw[none_ hu (.inl ⟨_,_,rfl⟩)];exact Fits.dp hw h (VR.undef ρ)
  ·rename_i el b off k cap gZ hu
   split at h
   ·rename_i size z hs hz
    obtain⟨o,l',hb,hk,rfl⟩:=Rd.run_read h
    split at hk
    ·rename_i c ce
     split at hk
     ·rename_i fS
      simp only[amB]at fS
      obtain⟨⟨⟨hf,h1⟩,h2⟩,h3⟩:=fS
      have h1:=amI h1
      have h2:=amS h2
      simp only[Rd.run,amr,amv]at hk
      obtain⟨rfl,rfl⟩:=hk
      have wx:(eU z.cells.toList k).length=k*size:=by rw[yR,←h1];simp
      have yY:((eU z.cells.toList k).all Value.oneCell')=true:=by
       rw[am1]at h3⊢
       intro v hv
       obtain⟨i,hi⟩:=List.getElem?_of_mem hv
       have hlt:i<(eU z.cells.toList k).length:=(amy.1 hi).1
       rw[CD _ _ _ (by rw[yR]at hlt;exact hlt)]at hi
       exact h3 _ (List.mem_of_getElem? hi)
      cases hx with
      |bH _ iC=>cases iC
      |dV=>first|exact(gZ rfl).elim|exact(gZ _ _ rfl).elim|exact(gZ _ rfl).elim
      |sl _ _ _ _ bq r hr hc=>
       obtain⟨w',h4,h5⟩:=hw.store hb hr ((wy hf).eU k) (off:=off) (by rw[wx];exact h2) yY
       have jI:(apM argTypes ty args').run P w=.ok (.tuple #[]) w':=by
        unfold apM
        simp only[a0,b0]
        rw[amp,run_underlying hu,amo]
        cases k with
        |zero=>first|exact(gZ rfl).elim|exact(gZ _ _ rfl).elim|exact(gZ _ rfl).elim
        |succ k=>
         show((do let z ←zeroValue el;storeCells ⟨r.aJ,r.sh+off,none⟩ (aoj z.cells (k+1)).toList;pure (Value.tuple #[])):Sem amn).run P w=_
         rw[amp,mo hz,amo,TI,amp,h4]
         rfl
       rw[amp,jI]
       exact⟨ρ,w',Ren.le_refl ρ,.val _ _ _ (VR.undef ρ),h5⟩
     ·cases hk
    ·cases hk
   ·cases h
  ·cases h
 ·cases h
end
end Go.Proofs.Ytnlkkgpcikkpoaa.Vm
namespace Go.Proofs.Ytnlkkgpcikkpoaa.Vm
open Go.RowKit
section
variable {P:amF} {B:Nat→Prop} {w₀:amC} {ρ:Ren} {g:Nat→Option ai} {n:Nat} {w:amC}
inductive ur(ρ:Ren):Pl→Place→Prop where
 |val (v v':amn) (h:VR ρ v v'):ur ρ (.val v) (.val v')
 |var (b off:Nat) (r:bP) (h:ρ b=some r):ur ρ (.var b off) (.var ⟨r.aJ,r.sh+off,none⟩)
theorem Js(hw:WR P B w₀ ρ g w){t:amz}{x:Pl}{x':Place}(hx:ur ρ x x'){v:amn}{l:List Nat}
 (h:(yq P t x).run g=some (v,l)):∃v',(x'.get t).run P w=.ok v' w∧VR ρ v v':=by
 cases hx with
 |val u u' hu=>
  simp only[yq,Rd.run,amr,amv]at h
  obtain⟨rfl,rfl⟩:=h
  exact⟨u',rfl,hu⟩
 |var b off r hr=>
  obtain⟨v',h1,h2⟩:=ug hw h hr
  exact⟨v',h1,h2⟩
theorem TK(hw:WR P B w₀ ρ g w):∀{path:List FieldStep} {t:amz} {x:Pl} {x':Place},ur ρ x x'→∀{t2:amz} {y:Pl} {l:List Nat},(tW P path t x).run g=some ((t2,y),l)→
 ∃y',(follow path t x').run P w=.ok (t2,y') w∧ur ρ y y':=by
 intro path
 induction path with
 |nil=>
  intro t x x' hx t2 y l h
  simp only[tW,Rd.run,amr,amv]at h
  obtain⟨⟨rfl,rfl⟩,_⟩:=h
  exact⟨x',rfl,hx⟩
 |cons s rest ih=>
  intro t x x' hx t2 y l h
  unfold tW at h
  split at h
  ·cases h
  ·rename_i off ft k hf
   obtain⟨fs,f,hu,Jt,rfl,rfl,hk,gZ⟩:=CA hf
   split at h
   ·rename_i hd
    obtain⟨v,l1,l2,h1,h2,rfl⟩:=(Rd.run_bind _ _ _ _ _).1 h
    obtain⟨v',h3,h4⟩:=Js hw hx h1
    split at h2
    ·rename_i b o
     obtain⟨r,hr,rfl⟩:=h4.kx
     obtain⟨y',h5,h6⟩:=ih (.var b (o+f.offset) r hr) h2
     refine⟨y',?_,h6⟩
     unfold follow
     rw[amp,run_underlying hu,amo]
     simp only[Jt,hd,if_true]
     rw[amp,h3,amo]
     simp only[asAddr,amp,am6,amo,CB hk gZ]
     rw[aok]
     exact h5
    ·cases h2
   ·rename_i hd
    cases hx with
    |val=>cases h
    |var b o r hr=>
     obtain⟨y',h5,h6⟩:=ih (.var b (o+f.offset) r hr) h
     refine⟨y',?_,h6⟩
     unfold follow
     rw[amp,run_underlying hu,amo]
     simp only[Jt,hd,anr,if_false]
     rw[amp,CB hk gZ,amo,aok]
     exact h5
theorem TL(xt:amz)(a:aoH)(name:String):(Builtin.ssaWrapNilChk_ #[xt] xt #[.pointer (some a),strVal "",strVal name]).run P w=.ok (.pointer (some a)) w:=rfl
theorem TM(hw:WR P B w₀ ρ g w){t:amz}{x:Pl}{x':Place}(hx:ur ρ x x'){ptr:Bool}{v:amn}{l:List Nat}(h:(BR P t x ptr).run g=some (v,l))(wr:Option String):
 ∃v',(receiverAt t x' ptr wr).run P w=.ok v' w∧VR ρ v v':=by
 unfold BR at h
 unfold receiverAt
 split at h
 ·rename_i e u hu
  cases hx with
  |val _ u' hv=>
   simp only[Rd.run,amr,amv]at h
   obtain⟨rfl,rfl⟩:=h
   exact⟨u',by rw[amp,run_underlying hu,amo];rfl,hv⟩
 ·rename_i e b o hu
  cases hx with
  |var _ _ r hr=>
   obtain⟨v',h1,h2⟩:=ug hw h hr
   exact⟨v',by rw[amp,run_underlying hu,amo];exact h1,h2⟩
 ·rename_i e b o hu
  cases hx with
  |val _ u' hv=>
   obtain⟨r,hr,rfl⟩:=hv.kx
   obtain⟨v',h1,h2⟩:=ug hw h hr
   refine⟨v',?_,h2⟩
   rw[amp,run_underlying hu,amo]
   dsimp only
   rw[amp]
   show((aoN P (pure (Value.pointer (some ⟨r.aJ,r.sh+o,none⟩))) w).andThen _)=_
   rw[am6,amo]
   cases wr with
   |none=>simp only[amp,am6,amo,asAddr,h1]
   |some name=>simp only[amp,TL,am6,amo,asAddr,h1]
 ·cases h
 ·rename_i d b o hd hu
  cases hx with
  |var _ _ r hr=>
   simp only[Rd.run,amr,amv]at h
   obtain⟨rfl,rfl⟩:=h
   refine⟨_,?_,.ptr b o r hr⟩
   rw[amp,run_underlying hu,amo]
   cases d<;>first|rfl|exact(hd _ rfl).elim
 ·rename_i d u _ hd hu
  cases hx with
  |val _ u' hv=>
   simp only[Rd.run,amr,amv]at h
   obtain⟨rfl,rfl⟩:=h
   refine⟨u',?_,hv⟩
   rw[amp,run_underlying hu,amo]
   cases d<;>first|rfl|exact(hd _ rfl).elim
 ·rename_i d b o hd hu
  cases hx with
  |var _ _ r hr=>
   obtain⟨v',h1,h2⟩:=ug hw h hr
   refine⟨v',?_,h2⟩
   rw[amp,run_underlying hu,amo]
   cases d<;>first|exact h1|exact(hd _ rfl).elim
 ·cases h
theorem Ju(hw:WR P B w₀ ρ g w):∀(d:Nat) {t:amz} {v v':amn} {name:String} {f:amY} {r:amn} {l:List Nat},VR ρ v v'→(yr P d t v name).run g=some ((f,r),l)→
 ∀gu,d≤gu→∃r',(method gu t v' name).run P w=.ok (f,r') w∧VR ρ r r'
 |0,t,v,v',name,f,r,l,hv,h,gu,hf=>by cases h
 |d+1,t,v,v',name,f,r,l,hv,h,gu,hf=>by
  cases gu with
  |zero=>omega
  |succ gu=>
   unfold yr at h
   unfold method
   split at h
   ·cases h
   ·rename_i m hm
    obtain⟨inf,nL,TN⟩:=Option.bind_eq_some_iff.1 hm
    obtain⟨⟨xt,x⟩,l1,l2,h1,h2,rfl⟩:=(Rd.run_bind _ _ _ _ _).1 h
    obtain⟨x',h3,h4⟩:=TK hw (.val v v' hv) h1
    have wE:(typeInfo t).run P w=.ok inf w:=by unfold typeInfo;rw[amp,aor,amo,nL];rfl
    rw[amp,wE,amo]
    simp only[TN]
    rw[amp,h3,amo]
    dsimp only at h2⊢
    split at h2
    ·rename_i CS
     obtain⟨u,l3,l4,h5,h6,rfl⟩:=(Rd.run_bind _ _ _ _ _).1 h2
     obtain⟨u',h7,h8⟩:=Js hw h4 h5
     split at h6
     ·rename_i t' q
      obtain⟨q',rfl,hq⟩:=h8.wj
      obtain⟨r',h9,bI⟩:=Ju hw d hq h6 gu (by omega)
      refine⟨r',?_,bI⟩
      simp only[CS]
      rw[amp,h7,amo]
      exact h9
     ·cases h6
    ·rename_i f2 ptr CS
     obtain⟨u,l3,l4,h5,h6,rfl⟩:=(Rd.run_bind _ _ _ _ _).1 h2
     simp only[Rd.run,amr,amv]at h6
     obtain⟨⟨rfl,rfl⟩,_⟩:=h6
     obtain⟨u',h7,h8⟩:=TM hw h4 h5 (if m.path.isEmpty then some ((name.splitOn ".").getLastD name)else none)
     refine⟨u',?_,h8⟩
     simp only[CS]
     rw[amp,h7,amo]
     rfl
def hI(P:amF):Bool:=P.funcs.toList.all fun f=> !(f.name== "runtime.NumGoroutine")
theorem Jv(hP:hI P=true)(hw:WR P B w₀ ρ g w){f:amY}{args:List amn}{args':Array amn}(ha:LR ρ args args'.toList){out:bi}{l:List Nat}
 (h:(enter P f args).run g=some (out,l)):Fits P B w₀ ρ g n out ((callFunc f args').run P w):=by
 unfold enter at h
 split at h
 ·rename_i fn hf
  have kY:(fn.name== "runtime.NumGoroutine")=false:=by
   have:=am1.1 hP fn (by rw[an2];exact aq3 hf)
   simpa using this
  split at h
  ·rename_i c hc
   simp only[Rd.run,amr,amv]at h
   obtain⟨rfl,rfl⟩:=h
   have:(callFunc f args').run P w=.ok (.enter f args') w:=by
    unfold callFunc
    rw[amp,aor,amo]
    simp only[hf,kY,hc,aro,anr,if_false,am6]
   rw[this]
   exact⟨ρ,w,Ren.le_refl ρ,.enter f args args' w ha,hw⟩
  ·split at h
   ·rename_i fC
    have:args'=args.toArray:=by apply aof;simpa using ha.wm fC
    rw[this]
    exact nJ hw h
   ·cases h
 ·cases h
theorem Jw(hP:hI P=true)(hw:WR P B w₀ ρ g w){recv pS:amn}(hr:VR ρ recv pS){name:String}{args:List amn}{args':Array amn}(ha:LR ρ args args'.toList){out:bi}{l:List Nat}
 (h:(yv P recv name args).run g=some (out,l)):Fits P B w₀ ρ g n out ((callMethod pS name args').run P w):=by
 unfold yv at h
 split at h
 ·rename_i t v
  obtain⟨v',rfl,hv⟩:=hr.wj
  obtain⟨⟨f,r⟩,l1,l2,h1,h2,rfl⟩:=(Rd.run_bind _ _ _ _ _).1 h
  obtain⟨r',h3,h4⟩:=Ju hw 9 hv h1 (P.types.size+aso) (by have:aso=100:=rfl;omega)
  have:(callMethod (.iface t v') name args').run P w=(callFunc f (#[r']++args')).run P w:=by
   unfold callMethod
   simp only[amp,aor,amo,h3]
  rw[this]
  exact Jv hP hw (by rw[aoi];exact LR.cons h4 ha) h2
 ·cases h
theorem TP(hw:WR P B w₀ ρ g w){b:Builtin}{argTypes:Array amz}{ty:amz}{tX:Array Bool}{args:List amn}{args':Array amn}(ha:LR ρ args args'.toList){out:bi}{l:List Nat}
 (hn:out.nw≠none→g n=none)(h:(BS P b argTypes ty tX args n).run g=some (out,l)):Fits P B w₀ ρ g n out ((builtin b argTypes ty tX args').run P w):=by
 unfold BS at h
 split at h
 ·rename_i hq
  simp only[amB]at hq
  have:args'=args.toArray:=by apply aof;simpa using ha.wm hq.2
  rw[this]
  exact nJ hw h
 ·split at h
  ·exact Tv hw ha hn h
  ·exact TC hw ha h
  ·exact TH hw ha h
  ·exact TG hw ha h
  ·exact TJ hw ha h
  ·cases h
theorem TQ(hP:hI P=true)(hw:WR P B w₀ ρ g w){c:Call}{e e':anX→amn}(he:∀x∈c.operands,VR ρ (e x) (e' x)){ty:amz}{out:bi}{l:List Nat}
 (hn:out.nw≠none→g n=none)(h:(qC P c e ty n).run g=some (out,l)):Fits P B w₀ ρ g n out ((do let d ←resolve e' c ty;invoke d.target d.args:Sem aoo).run P w):=by
 have iq:LR ρ (c.args.toList.map e) (c.args.map e').toList:=by
  rw[ao9]
  exact LR.map _ _ _ fun x hx=>he x (by unfold apy;exact apb.2 (.inr (an2.1 hx)))
 unfold qC at h
 unfold resolve
 split at h
 ·rename_i b hb
  simp only[hb]
  rw[amp,am6,amo]
  exact TP hw iq hn h
 ·rename_i recv name hb
  simp only[hb]
  rw[amp,am6,amo]
  have hr:VR ρ (e recv) (e' recv):=he recv (by unfold apy;rw[hb];simp)
  have:=Jw (n:=n) hP hw hr iq h
  have e2:(invoke (.fn (.method name) #[]) (#[e' recv]++c.args.map e')).run P w=(callMethod (e' recv) name (c.args.map e')).run P w:=by
   unfold invoke
   have h0:(#[e' recv]++c.args.map e')[0]?=some (e' recv):=by rw[apz (by simp)];rfl
   have h1:(#[e' recv]++c.args.map e').extract 1 (#[e' recv]++c.args.map e').size=c.args.map e':=by
    apply aof
    simp[aox,aou]
    exact anI (by simp)
   simp only[h0,h1]
  rw[e2]
  exact this
 ·rename_i f hb
  simp only[hb]
  have hr:VR ρ (e f) (e' f):=he f (by unfold apy;rw[hb];simp)
  unfold IK at h
  split at h
  ·rename_i k first captured wI
   rw[wI]at hr
   obtain⟨f',c',h1,h2,h3⟩:=hr.wl
   rw[h1]
   simp only[aqK]
   rw[amp,am6,amo]
   simp only[invoke]
   refine Jv hP hw ?_ h
   rw[aoi,aoi]
   exact(h2.append iq).append h3
  ·rename_i name first captured wI
   rw[wI]at hr
   obtain⟨f',c',h1,h2,h3⟩:=hr.wl
   rw[h1]
   simp only[aqK]
   rw[amp,am6,amo]
   split at h
   ·rename_i recv rest TR
    have hl:=h2.append iq
    rw[TR]at hl
    obtain⟨pS,qK,h4,h5,h6⟩:=hl.gq
    have mr:(f'++c.args.map e')=(pS::qK).toArray:=by apply aof;rw[aoi,h4]
    have e2:(invoke (.fn (.method name) c') (f'++c.args.map e')).run P w=(callMethod pS name qK.toArray).run P w:=by
     rw[mr]
     unfold invoke
     have h0:(pS::qK).toArray[0]?=some pS:=by simp
     have h1:(pS::qK).toArray.extract 1 (pS::qK).toArray.size=qK.toArray:=by
      apply aof
      simp[aox,aou]
     simp only[h0,h1]
    rw[e2]
    exact Jw hP hw h5 (by simpa using h6) h
   ·cases h
  ·cases h
theorem TS(hP:hI P=true)(hw:WR P B w₀ ρ g w){o:anp}{e e':anX→amn}(he:∀x∈o.op.operands,VR ρ (e x) (e' x)){out:bi}{l:List Nat}
 (hn:out.nw≠none→g n=none)(h:(ev P e n o).run g=some (out,l)):Fits P B w₀ ρ g n out ((execOp e' o).run P w):=by
 obtain⟨dst,op,type,pos,after,guard⟩:=o
 have Jx:∀{a:Array anX},(∀x∈a,VR ρ (e x) (e' x))→LR ρ (a.toList.map e) (a.map e').toList:=fun{a} ha=>by
  rw[ao9];exact LR.map _ _ _ fun x hx=>ha x (an2.1 hx)
 cases op<;>simp only[apS]at he<;>simp only[ev,yz]at h<;>try(cases h;done)
 case move x=>exact Fits.dp hw h (he x (by simp))
 case assign x=>exact Fits.dp hw h (he x (by simp))
 case pick c a b=>exact SA hw (he c (by simp)) (he a (by simp)) (he b (by simp)) h
 case alloc t=>exact Su hw hn h
 case box t x=>exact Sv hw (he x (by simp)) hn h
 case build t parts=>
  refine Tg hw ?_ h
  rw[ao9]
  exact PR.map _ fun x hx=>he x.2 (by simp only[apZ,aoq];exact⟨x,hx,rfl⟩)
 case buildSlice t len parts=>
  refine Ti hw ?_ hn h
  rw[ao9]
  exact PR.map _ fun x hx=>he x.2 (by simp only[apZ,aoq];exact⟨x,hx,rfl⟩)
 case insert t m k x=>exact Jr hw (he m (by simp)) (he k (by simp)) (he x (by simp)) h
 case load t a=>exact Sw hw (he a (by simp)) h
 case store t a x=>exact Sx hw (he a (by simp)) (he x (by simp)) h
 case nilCheck x=>exact SB hw (he x (by simp)) h e' x rfl _ rfl
 case binOp op t x y yt=>exact SC hw (he x (by simp)) (he y (by simp)) h
 case unOp op t x=>exact SD hw (he x (by simp)) h
 case convert src dst x=>exact SZ hw (he x (by simp)) hn h
 case makeInterface t x=>exact SE hw (he x (by simp)) h
 case makeFunc fn first captured=>
  exact SF hw (Jx fun x hx=>he x (apb.2 (.inl hx))) (Jx fun x hx=>he x (apb.2 (.inr hx))) h
 case makeMap t r=>
  have:=pO.map (ρ:=ρ) (e:=e) (e':=e') r fun y hy=>he y (by subst hy;simp)
  exact S7 hw this.some_ this.none_ hn h
 case makeSlice t a b=>exact S9 hw (he a (by simp)) (he b (by simp)) hn h
 case slice t x lo hi mx=>
  exact Tj hw (he x (by simp)) (pO.map lo fun y hy=>he y (by subst hy;simp)) (pO.map hi fun y hy=>he y (by subst hy;simp)) (pO.map mx fun y hy=>he y (by subst hy;simp)) h
 case fieldAddr s x i=>exact SJ hw (he x (by simp)) i h
 case field s x i=>exact SK hw (he x (by simp)) i h
 case indexAddr t x i=>exact I2 hw (he x (by simp)) (he i (by simp)) h
 case index t x i=>exact SL hw (he x (by simp)) (he i (by simp)) h
 case lookup t x k ok=>exact TF hw (he x (by simp)) (he k (by simp)) ok h
 case mapUpdate t m k x=>exact Jr hw (he m (by simp)) (he k (by simp)) (he x (by simp)) h
 case typeAssert x xt at_ ok=>exact SH hw (he x (by simp)) xt at_ ok h
 case extract t i=>exact SG hw (he t (by simp)) i h
 case call c=>exact TQ hP hw he hn h
 case panic x=>exact SI hw (he x (by simp)) h
end
end Go.Proofs.Ytnlkkgpcikkpoaa.Vm
namespace Go.Proofs.Ytnlkkgpcikkpoaa.Vm
open Go.RowKit
abbrev FF(r:Option Nat):Fence:={Fence.wide with round:=r}
inductive pT(ρ:Ren)(base:List an1):List (amY×List amn)→List an1→Prop where
 |nil:pT ρ base [] base
 |cons {k:amY} {vs:List amn} {cap args:Array amn} {ds:List (amY×List amn)} {l:List an1} (h:LR ρ vs (args++cap).toList) (t:pT ρ base ds l):
  pT ρ base ((k,vs)::ds) ({target:=.fn (.func k) cap,args:=args}::l)
theorem pT.mono{ρ ρ':Ren}(hl:ρ.le ρ'){base:List an1}{ds:List (amY×List amn)}{l:List an1}(h:pT ρ base ds l):pT ρ' base ds l:=by
 induction h with
 |nil=>exact .nil
 |cons h t ih=>exact .cons (h.mono hl) ih
structure FR(ρ:Ren)(t:Fr)(a:Act):Prop where
 size:a.tmps.size=t.n
 small:t.n≤1024
 at_:∀i,VR ρ (t.at i) (a.tmps.getD i undef)
 defers:pT ρ t.base t.ds a.defers
theorem FR.mono{ρ ρ':Ren}(hl:ρ.le ρ'){t:Fr}{a:Act}(h:FR ρ t a):FR ρ' t a:=⟨h.size,h.small,fun i=>(h.at_ i).mono hl,h.defers.mono hl⟩
theorem FR.qN{ρ:Ren}{t:Fr}{a:Act}(h:FR ρ t a)(h1:t.ds=[]):a.defers=t.base:=by
 have key:∀{ds:List (amY×List amn)} {l:List an1},pT ρ t.base ds l→ds=[]→l=t.base:=by
  intro ds l hd e
  cases hd with
  |nil=>rfl
  |cons=>cases e
 exact key h.defers h1
theorem FR.eval{ρ:Ren}{t:Fr}{a:Act}(h:FR ρ t a){x:anX}(hx:oE x=true):VR ρ (bK t x) (a.eval x):=by
 cases x with
 |tmp i=>exact h.at_ i
 |const v=>exact mX hx
 |global g=>cases hx
 |func f=>exact .func _ _ _ _ _ rfl rfl (fun i v v' h=>by simp at h) rfl (fun i v v' h=>by simp at h)
theorem dI{a b:Nat}:amG a b=true↔a<b:=by
 unfold amG
 rw[arK]
 omega
theorem FR.put{ρ:Ren}{t t1:Fr}{a:Act}(h:FR ρ t a){d:Option Tmp}{v v':amn}(hv:VR ρ v v')(hp:Vm.put t d v=some t1):FR ρ t1 (a.put d v'):=by
 unfold Vm.put at hp
 unfold Act.put
 cases d with
 |none=>cases hp;exact h
 |some d=>
  simp only[Fr.qy]at hp
  split at hp
  ·rename_i hlt
   have hlt:=dI.1 hlt
   cases hp
   refine⟨by simpa using h.size,h.small,fun j=>?_,h.defers⟩
   have hj:=h.at_ j
   unfold Fr.at at hj⊢
   dsimp only at hj⊢
   by_cases y7:j<t.n
   ·rw[dI.2 y7]at hj⊢
    dsimp only at hj⊢
    have bI:(2:Nat)^10=1024:=rfl
    rw[Tr.we 10 _ _ _ _ (by have:=h.small;omega) (by have:=h.small;omega)]
    by_cases CT:j=d
    ·subst CT
     rw[if_pos rfl]
     have y8:j<a.tmps.size:=by rw[h.size];exact y7
     simp only[am4,an0,y8,if_true,aoc]
     exact hv
    ·rw[if_neg CT]
     rw[am4,anY (Ne.symm CT),←am4]
     exact hj
   ·have hb:amG j t.n=false:=by cases hb:amG j t.n with
     |false=>rfl
     |true=>exact absurd (dI.1 hb) y7
    rw[hb]
    dsimp only
    have y8:¬j<a.tmps.size:=by rw[h.size];exact y7
    rw[am4,app (by simp;omega)]
    exact VR.undef ρ
  ·cases hp
theorem TT{ρ:Ren}{t:Fr}{a:Act}(h:FR ρ t a)(ops:Array anp):kW ops.toList t=yielded ops a.tmps:=by
 funext j
 unfold kW yielded
 rw[an5]
 cases hd:(ops[j]?).bind (·.dst)with
 |none=>rfl
 |some d=>
  dsimp only[Option.bind_some]
  have hv:=h.at_ d
  rw[am4]at hv
  cases hc:a.tmps[d]?with
  |none=>
   rw[hc]at hv
   have hu:∀b,t.at d≠ .bool b:=by
    intro b e
    rw[e]at hv
    have:=hv.ua
    cases this
   split
   ·rename_i b e;exact absurd e (hu b)
   ·rfl
  |some u=>
   rw[hc]at hv
   simp only[aoc]at hv
   split
   ·rename_i b e
    rw[e]at hv
    rw[hv.ua]
   ·rename_i bt
    split
    ·rename_i b e
     simp only[amr]at e
     subst e
     generalize hx:t.at d=x at hv bt
     cases hv
     exact absurd rfl (bt b)
    ·rfl
structure dC(S S':VS):Prop where
 rd:∀x,x∈S.rd→x∈S'.rd
 wr:∀x,x∈S.wr→x∈S'.wr
 frame:∀x,x∉S'.wr→gt S'.mem x=gt S.mem x
 sm:(∀x,(x∈S.rd∨x∈S.wr)→small x=true)→∀x,(x∈S'.rd∨x∈S'.wr)→small x=true
theorem dC.refl(S:VS):dC S S:=⟨fun _ h=>h,fun _ h=>h,fun _ _=>rfl,fun h=>h⟩
theorem dC.trans{a b c:VS}(h:dC a b)(k:dC b c):dC a c:=
 ⟨fun x hx=>k.rd x (h.rd x hx),fun x hx=>k.wr x (h.wr x hx),fun x hx=>(k.frame x hx).trans (h.frame x fun hh=>hx (k.wr x hh)),fun hs=>k.sm (h.sm hs)⟩
def fv(S S':VS)(m:Nat→Option ai):Prop:=∀x,(x∈S'.rd∨x∈S'.wr)→m x=gt S.mem x
def post(m:Nat→Option ai)(S':VS):Nat→Option ai:=fun x=>if x∈S'.wr then gt S'.mem x else m x
theorem fv.first{S S1 S2:VS}{m:Nat→Option ai}(h:fv S S2 m)(e:dC S1 S2):fv S S1 m:=
 fun x hx=>h x (hx.imp (e.rd x) (e.wr x))
theorem fv.next{S S1 S2:VS}{m:Nat→Option ai}(h:fv S S2 m)(e1:dC S S1):fv S1 S2 (post m S1):=by
 intro x hx
 unfold post
 by_cases hw:x∈S1.wr
 ·rw[if_pos hw]
 ·rw[if_neg hw,h x hx,e1.frame x hw]
theorem nN{m:Nat→Option ai}{S1 S2:VS}(e:dC S1 S2):post (post m S1) S2=post m S2:=by
 funext x
 unfold post
 by_cases h2:x∈S2.wr
 ·rw[if_pos h2,if_pos h2]
 ·rw[if_neg h2,if_neg h2,if_neg fun h=>h2 (e.wr x h)]
theorem nO{m:Nat→Option ai}{S:VS}(h:fv S S m):post m S=m:=by
 funext x
 unfold post
 by_cases hw:x∈S.wr
 ·rw[if_pos hw,h x (.inr hw)]
 ·rw[if_neg hw]
abbrev nP(g:Nat→Option ai)(ws:List (Nat×ai)):Nat→Option ai:=ws.foldl (fun g (p:Nat×ai)=>cG g p.1 p.2) g
abbrev hJ(S:VS)(ws:List (Nat×ai)):VS:=ws.foldl (fun(S:VS) (p:Nat×ai)=>{S with mem:=S.mem.set 18 p.1 p.2,wr:=p.1::S.wr}) S
theorem pU:∀{ws:List (Nat×ai)} {g:Nat→Option ai} {x:Nat},(∀p∈ws,p.1≠x)→nP g ws x=g x
 | [],g,x,_=>rfl
 |p::ws,g,x,h=>by
  show nP (cG g p.1 p.2) ws x=g x
  rw[pU fun q hq=>h q (by simp[hq]),dU _ (Ne.symm (h p (by simp)))]
theorem CU:∀{ws:List (Nat×ai)} {g g':Nat→Option ai} {x:Nat},(∃p∈ws,p.1=x)→nP g ws x=nP g' ws x
 | [],g,g',x,h=>by obtain⟨p,hp,_⟩:=h;cases hp
 |p::ws,g,g',x,h=>by
  show nP (cG g p.1 p.2) ws x=nP (cG g' p.1 p.2) ws x
  by_cases hr:∃q∈ws,q.1=x
  ·exact CU hr
  ·have hn:∀q∈ws,q.1≠x:=fun q hq e=>hr ⟨q,hq,e⟩
   rw[pU hn,pU hn]
   obtain⟨q,hq,e⟩:=h
   rcases amH.1 hq with rfl|hq
   ·subst e;rw[fg,fg]
   ·exact absurd e (hn q hq)
theorem Jy:∀{ws:List (Nat×ai)} {S:VS},(∀p∈ws,small p.1=true)→
 gt (hJ S ws).mem=nP (gt S.mem) ws∧(hJ S ws).rd=S.rd∧(hJ S ws).next=S.next∧∀x,x∈(hJ S ws).wr↔(∃p∈ws,p.1=x)∨x∈S.wr
 | [],S,_=>⟨rfl,rfl,rfl,fun x=>by simp⟩
 |p::ws,S,h=>by
  obtain⟨h1,h2,h3,h4⟩:=Jy (ws:=ws) (S:={S with mem:=S.mem.set 18 p.1 p.2,wr:=p.1::S.wr}) fun q hq=>h q (by simp[hq])
  refine⟨?_,h2,h3,fun x=>?_⟩
  ·show gt (hJ _ ws).mem=nP (cG (gt S.mem) p.1 p.2) ws
   rw[h1,←wg (h p (by simp))]
  ·show x∈(hJ _ ws).wr↔_
   rw[h4 x]
   simp only[amH]
   constructor
   ·rintro(⟨q,hq,e⟩|rfl|hx)
    ·exact .inl ⟨q,.inr hq,e⟩
    ·exact .inl ⟨p,.inl rfl,rfl⟩
    ·exact .inr hx
   ·rintro(⟨q,rfl|hq,e⟩|hx)
    ·exact .inr (.inl e.symm)
    ·exact .inl ⟨q,hq,e⟩
    ·exact .inr (.inr hx)
theorem Jz{S S1:VS}{l:List Nat}{out:bi}{r:jE}(hl:∀x∈l,∃o,gt S.mem x=some o)(h:yA S l out=some (r,S1)):
 dC S S1∧r=out.r∧(out.nw≠none→gt S.mem S.next=none∧S.next∈S1.wr)∧(∀x∈l,x∈S1.rd)∧∀m,fv S S1 m→post m S1=ud m S.next out:=by
 unfold yA at h
 dsimp only at h
 split at h
 ·cases h
 ·rename_i j6
  have ec:∀p∈out.ws,small p.1=true:=by
   intro p hp
   have:=am1.1 j6 p hp
   obtain⟨o,ho⟩:=hl p.1 (by simpa using this)
   exact oL ho
  obtain⟨h1,h2,h3,h4⟩:=Jy (ws:=out.ws) (S:={S with rd:=l++S.rd}) ec
  split at h
  ·rename_i oW
   simp only[amr,amv]at h
   obtain⟨rfl,rfl⟩:=h
   refine⟨⟨fun x hx=>?_,fun x hx=>?_,fun x hx=>?_,fun hS x hx=>?_⟩,rfl,fun bt=>absurd oW bt,fun x hx=>?_,fun m hm=>?_⟩
   ·show x∈(hJ _ out.ws).rd;rw[h2];simp[hx]
   ·exact(h4 x).2 (.inr hx)
   ·show gt (hJ _ out.ws).mem x=_
    rw[h1,pU fun p hp e=>hx ((h4 x).2 (.inl ⟨p,hp,e⟩))]
   ·rcases hx with hx|hx
    ·have hx:x∈(hJ {S with rd:=l++S.rd} out.ws).rd:=hx
     rw[h2]at hx
     rcases amU.1 hx with hx|hx
     ·obtain⟨o,ho⟩:=hl x hx;exact oL ho
     ·exact hS x (.inl hx)
    ·rcases(h4 x).1 hx with⟨p,hp,rfl⟩|hx
     ·exact ec p hp
     ·exact hS x (.inr hx)
   ·show x∈(hJ _ out.ws).rd;rw[h2];simp[hx]
   ·funext x
    unfold post ud
    rw[oW]
    show(if x∈(hJ _ out.ws).wr then gt (hJ _ out.ws).mem x else m x)=nP m out.ws x
    by_cases hx:∃p∈out.ws,p.1=x
    ·rw[if_pos ((h4 x).2 (.inl hx)),h1]
     exact CU hx
    ·have hn:∀p∈out.ws,p.1≠x:=fun p hp e=>hx ⟨p,hp,e⟩
     rw[pU hn]
     by_cases hw:x∈(hJ {S with rd:=l++S.rd} out.ws).wr
     ·rw[if_pos hw,h1,pU hn]
      exact(hm x (.inr hw)).symm
     ·rw[if_neg hw]
  ·rename_i o oW
   split at h
   ·rename_i hs oX
    simp only[amr,amv]at h
    obtain⟨rfl,rfl⟩:=h
    have gI:gt ((hJ {S with rd:=l++S.rd} out.ws).mem.set 18 S.next o)=cG (nP (gt S.mem) out.ws) S.next o:=by rw[wg hs,h1]
    refine⟨⟨fun x hx=>?_,fun x hx=>?_,fun x hx=>?_,fun hS x hx=>?_⟩,rfl,fun _=>⟨oX,by simp⟩,fun x hx=>?_,fun m hm=>?_⟩
    ·show x∈(hJ _ out.ws).rd;rw[h2];simp[hx]
    ·show x∈S.next::(hJ _ out.ws).wr
     exact amK _ ((h4 x).2 (.inr hx))
    rotate_left
    ·rcases hx with hx|hx
     ·have hx:x∈(hJ {S with rd:=l++S.rd} out.ws).rd:=hx
      rw[h2]at hx
      rcases amU.1 hx with hx|hx
      ·obtain⟨o,ho⟩:=hl x hx;exact oL ho
      ·exact hS x (.inl hx)
     ·have hx:x∈S.next::(hJ {S with rd:=l++S.rd} out.ws).wr:=hx
      rcases amH.1 hx with rfl|hx
      ·exact hs
      ·rcases(h4 x).1 hx with⟨p,hp,rfl⟩|hx
       ·exact ec p hp
       ·exact hS x (.inr hx)
    rotate_left
    rotate_left
    ·have fT:x∉S.next::(hJ {S with rd:=l++S.rd} out.ws).wr:=hx
     simp only[amH,not_or]at fT
     show gt ((hJ {S with rd:=l++S.rd} out.ws).mem.set 18 S.next o) x=_
     rw[gI,dU _ fT.1,pU fun p hp e=>fT.2 ((h4 x).2 (.inl ⟨p,hp,e⟩))]
    ·show x∈(hJ _ out.ws).rd;rw[h2];simp[hx]
    ·funext x
     unfold post ud
     rw[oW]
     show(if x∈S.next::(hJ _ out.ws).wr then gt ((hJ {S with rd:=l++S.rd} out.ws).mem.set 18 S.next o) x else m x)=cG (nP m out.ws) S.next o x
     rw[gI]
     by_cases CV:x=S.next
     ·subst CV
      rw[if_pos (by simp),fg,fg]
     ·rw[dU _ CV,dU _ CV]
      by_cases hx:∃p∈out.ws,p.1=x
      ·rw[if_pos (amK _ ((h4 x).2 (.inl hx)))]
       exact CU hx
      ·have hn:∀p∈out.ws,p.1≠x:=fun p hp e=>hx ⟨p,hp,e⟩
       rw[pU hn,pU hn]
       by_cases hw:x∈S.next::(hJ {S with rd:=l++S.rd} out.ws).wr
       ·rw[if_pos hw]
        exact(hm x (.inr hw)).symm
       ·rw[if_neg hw]
   ·cases h
section
variable {P:amF} {B:Nat→Prop} {w₀:amC}
theorem TU{t:Fr}{S S1:VS}{o:anp}{r:jE}(h:mW P t S o=some (r,S1)):dC S S1:=by
 unfold mW at h
 split at h
 ·cases h
 ·split at h
  ·cases h
  ·rename_i out l lK
   exact(Jz (fun x hx=>Rd.yH lK x hx) h).1
theorem TV(hP:hI P=true){ρ:Ren}{m:Nat→Option ai}{w:amC}{t:Fr}{a:Act}{S S1:VS}{o:anp}{r:jE}(h:mW P t S o=some (r,S1))
 (ht:FR ρ t a)(hw:WR P B w₀ ρ m w)(hm:fv S S1 m):∃ρ' w',ρ.le ρ'∧RR ρ' r ((execOp a.eval o).run P w) w'∧WR P B w₀ ρ' (post m S1) w':=by
 unfold mW at h
 split at h
 ·cases h
 ·rename_i lL
  split at h
  ·cases h
  ·rename_i out l lK
   obtain⟨h1,rfl,h3,h4,h5⟩:=Jz (fun x hx=>Rd.yH lK x hx) h
   have TW:(ev P (bK t) S.next o).run m=some (out,l):=Rd.yG lK fun x hx=>hm x (.inl (h4 x hx))
   obtain⟨ρ',w',h6,h7,h8⟩:=(TS hP hw (e':=a.eval) (fun x hx=>ht.eval (am1.1 lL x (an2.2 hx)))
    (fun bt=>by obtain⟨h9,bI⟩:=h3 bt;rw[hm _ (.inr bI),h9]) TW).ex
   exact⟨ρ',w',h6,h7,by rw[h5 m hm];exact h8⟩
theorem wJ:∀{l:List ai} {S S1:VS},qE l S=some S1→dC S S1∧S1.rd=S.rd∧(∀j,j<l.length→gt S.mem (S.next+j)=none∧S.next+j∈S1.wr)∧∀m,fv S S1 m→post m S1=im m S.next l
 | [],S,S1,h=>by
  simp only[qE,amr]at h
  subst h
  exact⟨dC.refl S,rfl,fun j hj=>absurd hj (by simp),fun m hm=>nO hm⟩
 |o::l,S,S1,h=>by
  unfold qE at h
  split at h
  ·rename_i hs hn
   obtain⟨h1,h2,h3,h4⟩:=wJ h
   have gI:gt (S.mem.set 18 S.next o)=cG (gt S.mem) S.next o:=wg hs
   have e1:dC S {S with mem:=S.mem.set 18 S.next o,next:=S.next+1,wr:=S.next::S.wr}:=by
    refine⟨fun x hx=>hx,fun x hx=>amK _ hx,fun x hx=>?_,fun hS x hx=>?_⟩
    ·show gt (S.mem.set 18 S.next o) x=_
     rw[gI,dU _ fun e=>hx (by rw[e];exact amN)]
    ·rcases hx with hx|hx
     ·exact hS x (.inl hx)
     ·rcases amH.1 hx with rfl|hx
      ·exact hs
      ·exact hS x (.inr hx)
   have e9:S.next∈S1.wr:=h1.wr _ amN
   refine⟨e1.trans h1,h2,fun j hj=>?_,fun m hm=>?_⟩
   ·cases j with
    |zero=>exact⟨hn,e9⟩
    |succ j=>
     obtain⟨h5,h6⟩:=h3 j (by simpa using hj)
     dsimp only at h5 h6
     rw[gI,dU _ (by omega)]at h5
     rw[show S.next+(j+1)=S.next+1+j by omega]
     exact⟨h5,h6⟩
   ·have cj:fv {S with mem:=S.mem.set 18 S.next o,next:=S.next+1,wr:=S.next::S.wr} S1 (cG m S.next o):=by
     intro x hx
     show cG m S.next o x=gt (S.mem.set 18 S.next o) x
     rw[gI]
     by_cases e:x=S.next
     ·subst e;rw[fg,fg]
     ·rw[dU _ e,dU _ e];exact hm x hx
    show post m S1=im (cG m S.next o) (S.next+1) l
    rw[←h4 _ cj]
    funext x
    unfold post
    by_cases hx:x∈S1.wr
    ·rw[if_pos hx,if_pos hx]
    ·rw[if_neg hx,if_neg hx,dU _ fun e=>hx (by rw[e];exact e9)]
  ·cases h
theorem JA{t:Fr}{S:VS}{o:anp}{V:View}(h:kV P t S o=some V):
 ∃ty x i cap,o.op=.indexAddr ty x i∧bK t x=.slice (some ⟨V.b,0,none⟩) V.len cap∧gt S.mem V.b=some (.rows V.n V.size V.row)∧P.underlying ty=some (.slice V.el)∧bT P V.el=some V.size∧V.i=bK t i:=by
 unfold kV at h
 split at h
 ·rename_i ty x i cJ
  split at h
  ·rename_i b off len cap hx
   split at h
   ·rename_i n size row hb
    split at h
    ·split at h
     ·rename_i el hu
      split at h
      ·rename_i s hs
       split at h
       ·rename_i us
        have us:=amI us
        subst us
        cases h
        exact⟨ty,x,i,cap,cJ,hx,hb,hu,hs,rfl⟩
       ·cases h
      ·cases h
     ·cases h
    ·cases h
   ·cases h
  ·cases h
 ·cases h
theorem JB{S S1:VS}{b:Nat}{el:amz}{l:List SV}{r:jE}(h:wa S b el l=some (r,S1)):
 r=.val (.pointer (some ⟨S.next+kv l,0,none⟩))∧qE (fZ l++[.cells (lE l S.next) el true]) {S with rd:=b::S.rd}=some S1:=by
 unfold wa at h
 split at h
 ·rename_i S2 hl
  simp only[amr,amv]at h
  obtain⟨rfl,rfl⟩:=h
  exact⟨rfl,hl⟩
 ·cases h
theorem TX{S S1:VS}{b:Nat}{o:ai}(hb:gt S.mem b=some o)(h:dC {S with rd:=b::S.rd} S1):dC S S1:=by
 refine dC.trans (b:={S with rd:=b::S.rd}) ⟨fun x hx=>amK _ hx,fun x hx=>hx,fun x hx=>rfl,fun hS x hx=>?_⟩ h
 rcases hx with hx|hx
 ·rcases amH.1 hx with rfl|hx
  ·exact oL hb
  ·exact hS x (.inl hx)
 ·exact hS x (.inr hx)
theorem JC{t:Fr}{S S1:VS}{o:anp}{r:jE}{V:View}(hV:kV P t S o=some V)(h:jd P t S o=some (r,S1)):
 o.op.operands.toList.all oE=true∧∃k,oF V.i=some k∧k<V.n∧k<V.len∧wa S V.b V.el (V.row k)=some (r,S1):=by
 unfold jd at h
 rw[hV]at h
 dsimp only at h
 split at h
 ·rename_i k lL hk
  split at h
  ·rename_i hlt
   simp only[amB,dI]at hlt
   exact⟨lL,k,hk,hlt.1,hlt.2,h⟩
  ·cases h
 ·cases h
theorem JD{t:Fr}{S:VS}{o:anp}(hV:kV P t S o=none):jd P t S o=mW P t S o:=by
 unfold jd
 rw[hV]
theorem wK{t:Fr}{S S1:VS}{o:anp}{r:jE}(h:jd P t S o=some (r,S1)):dC S S1:=by
 cases hV:kV P t S o with
 |none=>rw[JD hV]at h;exact TU h
 |some V=>
  obtain⟨_,k,_,_,_,h⟩:=JC hV h
  obtain⟨ty,x,i,cap,_,_,hb,_⟩:=JA hV
  exact TX hb (wJ (JB h).2).1
theorem uu(hP:hI P=true){ρ:Ren}{m:Nat→Option ai}{w:amC}{t:Fr}{a:Act}{S S1:VS}{o:anp}{r:jE}(h:jd P t S o=some (r,S1))
 (ht:FR ρ t a)(hw:WR P B w₀ ρ m w)(hm:fv S S1 m):∃ρ' w',ρ.le ρ'∧RR ρ' r ((execOp a.eval o).run P w) w'∧WR P B w₀ ρ' (post m S1) w':=by
 cases hV:kV P t S o with
 |none=>rw[JD hV]at h;exact TV hP h ht hw hm
 |some V=>
  have akO:=wK h
  obtain⟨lL,k,hk,jt,wL,h⟩:=JC hV h
  obtain⟨ty,x,i,cap,cJ,hx,hb,hu,hs,hi⟩:=JA hV
  obtain⟨hr,hl⟩:=JB h
  obtain⟨he,gv,cn,sB⟩:=wJ hl
  have TY:m V.b=some (.rows V.n V.size V.row):=by
   rw[hm V.b (.inl (by rw[gv];exact amN)),hb]
  have Cd:fv {S with rd:=V.b::S.rd} S1 m:=hm
  have sB:=sB m Cd
  obtain⟨rr,CW,b9⟩:=hw.rows _ _ _ _ TY
  have b9:=b9 (by omega)
  obtain⟨c',bR,fr,h1,h2,h3,h4⟩:=b9.at_
  obtain⟨h5,h6⟩:=h4 k jt
  have TZ:w.heap[rr.aJ]?=some (.cells c' bR fr):=(hw.below.block _ b9.aJ).trans h1
  have hmul:k*V.size+V.size≤V.n*V.size:=by
   have:=ao2 V.size jt
   rw[Nat.succ_mul]at this
   exact this
  let l':List amn:=(c'.toList.drop (rr.sh+k*V.size)).take V.size
  have JE:l'.length=V.size:=by simp[l'];omega
  have CX:gd P w₀ B (V.row k) l':=⟨by rw[h5,JE],fun j s v hj hv=>by
   obtain⟨v',a1,a2⟩:=h6 j s hj
   have:l'[j]?=some v':=by
    show((c'.toList.drop (rr.sh+k*V.size)).take V.size)[j]?=_
    have y8:j<V.size:=by rw[←h5];exact(amy.1 hj).1
    rw[anJ,if_pos y8,anK]
    simpa using a1
   rw[this]at hv
   cases hv
   exact a2⟩
  have y9:∀j,j<(fZ (V.row k)++[ai.cells (lE (V.row k) S.next) V.el true]).length→m (S.next+j)=none:=fun j hj=>by
   obtain⟨a1,a2⟩:=cn j hj
   rw[hm _ (.inr a2)]
   exact a1
  obtain⟨ρ1,g1,g2,g3⟩:=wC (k:=S.next) CX hw fun j hj=>y9 j (by rw[amD,qJ];omega)
  have CY:im m S.next (fZ (V.row k)) (S.next+kv (V.row k))=none:=by
   rw[yV (.inr (by rw[qJ];exact amX _))]
   exact y9 _ (by rw[amD,qJ];simp)
  let R:bP:=⟨rr.aJ,rr.sh+k*V.size,V.size,c'.size⟩
  have g4:=g2.Jc (r:=R) CY (c:=lE (V.row k) S.next) (el:=V.el) (fun q hq=>by rw[hs]at hq;cases hq;rfl) fun bt=>
   ⟨b9.aJ,c',bR,fr,TZ,rfl,by show rr.sh+k*V.size+_≤c'.size;rw[g3.len,JE];omega,fun j v hv=>by
    obtain⟨v',b1,b2⟩:=g3.get hv
    refine⟨v',?_,b2.mono (Ren.jH (g2.fresh _ CY) _)⟩
    have b1:((c'.toList.drop (rr.sh+k*V.size)).take V.size)[j]?=some v':=b1
    rw[anJ]at b1
    split at b1
    ·rw[anK]at b1
     simpa using b1
    ·cases b1⟩
  refine⟨_,w,Ren.le_trans g1 (Ren.jH (g2.fresh _ CY) R),?_,?_⟩
  ·-- the model's own index
   have za:VR ρ (.slice (some ⟨V.b,0,none⟩) V.len cap) (a.eval x):=by
    rw[←hx]
    exact ht.eval (am1.1 lL x (by rw[cJ];simp[apS]))
   have CZ:VR ρ (bK t i) (a.eval i):=ht.eval (am1.1 lL i (by rw[cJ];simp[apS]))
   have ia:(r4 P ty (.slice (some ⟨V.b,0,none⟩) V.len cap) (bK t i)).run m=some (⟨.val (.pointer (some ⟨V.b,0+k*V.size,none⟩)),[],none⟩,[]):=by
    unfold r4
    rw[hu]
    rw[hi]at hk
    simp only[hu,hk,hs,dI.2 wL]
    rfl
   obtain⟨ρ2,w2,f1,f2,f3⟩:=(I2 (n:=0) hw za CZ ia).ex
   obtain⟨dst,op,type,pos,after,guard⟩:=o
   dsimp only at cJ
   subst cJ
   subst hr
   generalize pV:(aoN P (do let v ←ao0 ty (a.eval x) (a.eval i);pure (anC v):Sem aoo) w)=nI at f2
   cases f2 with
   |val _ v' _ hv=>
    have dG:w2=w:=by
     generalize akP:a.eval x=ax at za pV
     generalize CF:V.len=vl at za wL
     cases za with
     |bH _ h=>cases h
     |dV=>omega
     |sl _ _ _ _ bq r uv hc=>
      rw[hi]at hk
      obtain⟨ik,jh⟩:=oO hk
      rw[jh]at CZ
      rw[CZ.jo]at pV
      have:(ao0 ty (.slice (some ⟨r.aJ,r.sh+0,none⟩) vl bq) (.int ik k)).run P w=.ok (.pointer (some ⟨r.aJ,r.sh+0+k*V.size,none⟩)) w:=by
       unfold ao0
       simp only[asIntOf,amp,am6,amo,run_underlying hu,Instr.sureAddr]
       rw[if_pos ⟨by omega,by omega⟩]
       simp only[amp,run_sizeOf hs,amo,am6,oN,Int.toNat_natCast]
      rw[amp,this]at pV
      cases pV
      rfl
    subst dG
    obtain⟨r,eo,rfl⟩:=hv.kx
    rw[f1 _ _ CW]at eo
    cases eo
    have e:(execOp a.eval {dst,op:=Op.indexAddr ty x i,type,pos,after,guard}).run P w2=.ok (.value (.pointer (some ⟨rr.aJ,rr.sh+(0+k*V.size),none⟩))) w2:=pV
    rw[e]
    refine .val _ _ _ ?_
    have:=VR.ptr (ρ:=ρ1.put (S.next+kv (V.row k)) R) (S.next+kv (V.row k)) 0 R (Ren.ky _ _ _)
    simpa[R]using this
  ·have:post m S1=cG (im m S.next (fZ (V.row k))) (S.next+kv (V.row k)) (.cells (lE (V.row k) S.next) V.el true):=by
    rw[sB]
    show im m S.next _=_
    rw[Jd,qJ]
    rfl
   rw[this]
   exact g4
def CR(ρ:Ren):bL→aqM→Prop
 | .ret v,.returned v'=>VR ρ v v'
 | .panic v,.panicked chain=>∃v',chain=[{v:=v',recovered:=false}]∧VR ρ v v'
 |_,_=>False
structure gJ(P:amF)(call:cx):Prop where
 ext:∀{f:amY} {args:List amn} {S:VS} {r:bL} {S':VS},call f args S=some (r,S')→dC S S'
 ok:∀{f:amY} {args:List amn} {S:VS} {r:bL} {S':VS},call f args S=some (r,S')→∀{B:Nat→Prop} {w₀:amC} {ρ:Ren} {m:Nat→Option ai} {w:amC} {args':Array amn},
  LR ρ args args'.toList→WR P B w₀ ρ m w→fv S S' m→Calls P f args' w fun e w'=>∃ρ',ρ.le ρ'∧CR ρ' r e∧WR P B w₀ ρ' (post m S') w'
theorem wM{call:cx}(hc:gJ P call){ops:List anp}{o:anp}{t t1:Fr}{S S1:VS}{nI:Option amn}(h:jZ P call ops o t S=some (nI,t1,S1)):dC S S1:=by
 unfold jZ at h
 split at h
 ·simp only[anv,amv]at h
  obtain⟨_,_,_,_,rfl⟩:=h
  exact dC.refl S
 ·split at h
  ·cases h
  ·rename_i r S2 hs
   have e:=wK hs
   split at h
   ·simp only[anv,amv]at h
    obtain⟨_,_,_,_,rfl⟩:=h
    exact e
   ·simp only[anv,amv]at h
    obtain⟨_,_,_,_,rfl⟩:=h
    exact e
   ·simp only[amr,amv]at h
    obtain⟨_,_,rfl⟩:=h
    exact e
   ·cases h
   ·split at h
    ·cases h
    ·rename_i v S3 ef
     simp only[anv,amv]at h
     obtain⟨_,_,_,_,rfl⟩:=h
     exact e.trans (hc.ext ef)
    ·rename_i v S3 ef
     simp only[amr,amv]at h
     obtain⟨_,_,rfl⟩:=h
     exact e.trans (hc.ext ef)
theorem JF{r:Option Nat}{n:Nat}{f:amY}{args:Array amn}{w:amC}{R:aqM→amC→Prop}(h:Calls P f args w R):CallsIn (FF r) n P f args w R:=(callsIn_wide (n:=n)).2 h
theorem T0{t:Fr}{S:VS}{o:anp}{q:jE×VS}(h:jd P t S o=some q):∀c,o.op≠ .defer c:=by
 intro c hc
 unfold jd kV at h
 rw[hc]at h
 simp only at h
 unfold mW ev yz at h
 rw[hc]at h
 simp only[Rd.run]at h
 split at h<;>cases h
theorem C0(hP:hI P=true){call:cx}(hc:gJ P call){ops:Array anp}{i:Nat}{o:anp}(ho:ops[i]?=some o){t t1:Fr}{S S1:VS}{nI:Option amn}
 (h:jZ P call ops.toList o t S=some (nI,t1,S1)){ρ:Ren}{m:Nat→Option ai}{w:amC}{a:Act}(ht:FR ρ t a)(hw:WR P B w₀ ρ m w)(hm:fv S S1 m)
 {r:Option Nat}{K:Act→amC→Prop}{Q:aoF→Act→amC→Prop}
 (hK:nI=none→∀(ρ':Ren) (a':Act) (w':amC),ρ.le ρ'→FR ρ' t1 a'→(∃v,a'=a.put o.dst v)→WR P B w₀ ρ' (post m S1) w'→K a' w')
 (hQ:∀v,nI=some v→∀(ρ':Ren) (v':amn) (w':amC),ρ.le ρ'→VR ρ' v v'→FR ρ' t1 a→WR P B w₀ ρ' (post m S1) w'→Q (.panic [{v:=v',recovered:=false}]) a w'):
 wpOpIn (FF r) 0 P ops Q i K a w:=by
 unfold wpOpIn
 simp only[ho]
 unfold jZ at h
 rw[TT ht]at h
 split at h
 ·rename_i C1
  simp only[anv,amv]at h
  obtain⟨t2,hp,rfl,rfl,rfl⟩:=h
  simp only[C1,anr,if_false]
  have sB:post m S=m:=nO hm
  exact⟨fun _ _=>trivial,hK rfl ρ _ w (Ren.le_refl ρ) (ht.put (VR.undef ρ) hp) ⟨_,rfl⟩ (by rw[sB];exact hw)⟩
 ·rename_i C1
  simp only[C1,if_true]
  unfold asu
  refine⟨fun _ _=>trivial,?_⟩
  split at h
  ·cases h
  ·rename_i r S2 hs
   rw[Oper.semAt_eq _ _ _ (T0 hs)]
   have e:=wK hs
   split at h
   ·rename_i v
    simp only[anv,amv]at h
    obtain⟨t2,hp,rfl,rfl,rfl⟩:=h
    obtain⟨ρ',w',h1,h2,h3⟩:=uu hP hs ht hw hm
    generalize(execOp a.eval o).run P w=q at h2
    cases h2 with
    |val _ v' _ hv=>exact hK rfl ρ' _ w' h1 ((ht.mono h1).put hv hp) ⟨_,rfl⟩ h3
   ·simp only[anv,amv]at h
    obtain⟨t2,hp,rfl,rfl,rfl⟩:=h
    obtain⟨ρ',w',h1,h2,h3⟩:=uu hP hs ht hw hm
    generalize(execOp a.eval o).run P w=q at h2
    cases h2 with
    |skip=>exact hK rfl ρ' _ w' h1 ((ht.mono h1).put (VR.undef ρ') hp) ⟨_,rfl⟩ h3
   ·rename_i v
    simp only[amr,amv]at h
    obtain⟨rfl,rfl,rfl⟩:=h
    obtain⟨ρ',w',h1,h2,h3⟩:=uu hP hs ht hw hm
    generalize(execOp a.eval o).run P w=q at h2
    cases h2 with
    |panic _ v' _ hv=>exact hQ v rfl ρ' v' w' h1 hv (ht.mono h1) h3
   ·cases h
   ·rename_i f args
    split at h
    ·cases h
    ·rename_i v S3 ef
     simp only[anv,amv]at h
     obtain⟨t2,hp,rfl,rfl,rfl⟩:=h
     have e2:=hc.ext ef
     obtain⟨ρ',w',h1,h2,h3⟩:=uu hP hs ht hw (hm.first e2)
     generalize(execOp a.eval o).run P w=q at h2
     cases h2 with
     |enter _ _ args' _ ha=>
      refine⟨(fun hh=>by cases hh),(JF (hc.ok ef ha h3 (hm.next e))).mono fun en C2 kZ=>?_⟩
      obtain⟨ρ2,h4,h5,h6⟩:=kZ
      rw[nN e2]at h6
      cases en with
      |returned v'=>exact hK rfl ρ2 _ C2 (Ren.le_trans h1 h4) ((ht.mono (Ren.le_trans h1 h4)).put h5 hp) ⟨_,rfl⟩ h6
      |panicked chain=>cases h5
      |outgrown=>cases h5
    ·rename_i v S3 ef
     simp only[amr,amv]at h
     obtain⟨rfl,rfl,rfl⟩:=h
     have e2:=hc.ext ef
     obtain⟨ρ',w',h1,h2,h3⟩:=uu hP hs ht hw (hm.first e2)
     generalize(execOp a.eval o).run P w=q at h2
     cases h2 with
     |enter _ _ args' _ ha=>
      refine⟨(fun hh=>by cases hh),(JF (hc.ok ef ha h3 (hm.next e))).mono fun en C2 kZ=>?_⟩
      obtain⟨ρ2,h4,h5,h6⟩:=kZ
      rw[nN e2]at h6
      cases en with
      |returned v'=>cases h5
      |panicked chain=>
       obtain⟨v',rfl,hv⟩:=h5
       exact hQ v rfl ρ2 v' C2 (Ren.le_trans h1 h4) hv (ht.mono (Ren.le_trans h1 h4)) h6
      |outgrown=>cases h5
end
end Go.Proofs.Ytnlkkgpcikkpoaa.Vm
namespace Go.Proofs.Ytnlkkgpcikkpoaa.Vm
open Go.RowKit
section
variable {P:amF} {B:Nat→Prop} {w₀:amC}
theorem C3{e e':anX→amn}{l:List anX}(h:∀x∈l,e x=e' x):l.map e=l.map e':=aoz h
theorem JG{e e':anX→amn}{l:List (Nat×anX)}(h:∀x∈l,e x.2=e' x.2):(l.map fun(i,x)=>(i,e x))=l.map fun(i,x)=>(i,e' x):=
 aoz fun x hx=>by obtain⟨i,y⟩:=x;exact congrArg (Prod.mk i) (h _ hx)
theorem zb{e e':anX→amn}{o:Option anX}(h:∀x,o=some x→e x=e' x):o.map e=o.map e':=by
 cases o with
 |none=>rfl
 |some x=>simp[h x rfl]
theorem T1{e e':anX→amn}{n:Nat}{o:anp}(h:∀x∈o.op.operands,e x=e' x):ev P e n o=ev P e' n o:=by
 obtain⟨dst,op,type,pos,after,guard⟩:=o
 cases op<;>simp only[apS]at h<;>simp only[ev,yz]
 case move x=>rw[h x (by simp)]
 case assign x=>rw[h x (by simp)]
 case pick c a b=>rw[h c (by simp),h a (by simp),h b (by simp)]
 case box t x=>rw[h x (by simp)]
 case build t parts=>rw[JG fun x hx=>h x.2 (by simp only[apZ,aoq];exact⟨x,hx,rfl⟩)]
 case buildSlice t len parts=>rw[JG fun x hx=>h x.2 (by simp only[apZ,aoq];exact⟨x,hx,rfl⟩)]
 case insert t m k x=>rw[h m (by simp),h k (by simp),h x (by simp)]
 case load t a=>rw[h a (by simp)]
 case store t a x=>rw[h a (by simp),h x (by simp)]
 case nilCheck x=>rw[h x (by simp)]
 case binOp op t x y yt=>rw[h x (by simp),h y (by simp)]
 case unOp op t x=>rw[h x (by simp)]
 case convert src dst x=>rw[h x (by simp)]
 case makeInterface t x=>rw[h x (by simp)]
 case makeFunc fn first captured=>
  rw[C3 (l:=first.toList) fun x hx=>h x (apb.2 (.inl (an2.1 hx))),C3 (l:=captured.toList) fun x hx=>h x (apb.2 (.inr (an2.1 hx)))]
 case makeMap t r=>rw[zb fun y hy=>h y (by subst hy;simp)]
 case makeSlice t a b=>rw[h a (by simp),h b (by simp)]
 case slice t x lo hi mx=>rw[h x (by simp),zb (o:=lo) fun y hy=>h y (by subst hy;simp),zb (o:=hi) fun y hy=>h y (by subst hy;simp),zb (o:=mx) fun y hy=>h y (by subst hy;simp)]
 case fieldAddr s x i=>rw[h x (by simp)]
 case field s x i=>rw[h x (by simp)]
 case indexAddr t x i=>rw[h x (by simp),h i (by simp)]
 case index t x i=>rw[h x (by simp),h i (by simp)]
 case lookup t x k ok=>rw[h x (by simp),h k (by simp)]
 case mapUpdate t m k x=>rw[h m (by simp),h k (by simp),h x (by simp)]
 case typeAssert x xt at_ ok=>rw[h x (by simp)]
 case extract t i=>rw[h t (by simp)]
 case panic x=>rw[h x (by simp)]
 case call c=>
  have ha:c.args.toList.map e=c.args.toList.map e':=C3 fun x hx=>h x (by unfold apy;exact apb.2 (.inr (an2.1 hx)))
  unfold qC
  rw[ha]
  split
  ·rfl
  ·rename_i recv name hb;rw[h recv (by unfold apy;rw[hb];simp)]
  ·rename_i f hb;rw[h f (by unfold apy;rw[hb];simp)]
theorem JH{ops:Array anp}{o:anp}{t:Nat}(h:Operand.tmp t∈o.op.operands):t∈o.looksAt ops:=by
 unfold ar9
 refine List.mem_append_left _ (List.mem_filterMap.2 ⟨.tmp t,an2.2 h,rfl⟩)
theorem T2{t t':Fr}{S:VS}{o:anp}{ops:Array anp}(h:∀s∈o.looksAt ops,t'.at s=t.at s):jd P t' S o=jd P t S o:=by
 have lK:∀x∈o.op.operands,bK t' x=bK t x:=fun x hx=>by
  cases x with
  |tmp s=>exact h s (JH hx)
  |_=>rfl
 have hv:kV P t' S o=kV P t S o:=by
  unfold kV
  cases cJ:o.op with
  |indexAddr ty x i=>
   dsimp only
   rw[lK x (by rw[cJ];simp[apS]),lK i (by rw[cJ];simp[apS])]
  |_=>rfl
 unfold jd
 rw[hv]
 split
 ·rfl
 unfold mW
 rw[T1 (e:=bK t') (e':=bK t) fun x hx=>by
  cases x with
  |tmp s=>exact h s (JH hx)
  |_=>rfl]
theorem T3{t t':Fr}{o:anp}{ops:Array anp}(h:∀s∈o.looksAt ops,t'.at s=t.at s):anZ o (kW ops.toList t')=anZ o (kW ops.toList t):=by
 unfold anZ
 cases hg:o.guard with
 |none=>rfl
 |some p=>
  obtain⟨j,b⟩:=p
  have:kW ops.toList t' j=kW ops.toList t j:=by
   unfold kW
   rw[an5]
   cases hd:(ops[j]?).bind (·.dst)with
   |none=>rfl
   |some d=>
    have:d∈o.looksAt ops:=by
     unfold ar9
     refine List.mem_append_right _ ?_
     rw[hg]
     show d∈((ops[j]?).bind (·.dst)).toList
     rw[hd];simp
    dsimp only
    rw[h d this]
  simp only[this]
theorem zc{t t' t1:Fr}{d:Option Tmp}{v:amn}(hn:t'.n=t.n)(h:Vm.put t d v=some t1):∃lM,Vm.put t' d v=some lM:=by
 cases d with
 |none=>exact⟨t',rfl⟩
 |some d=>
  simp only[Vm.put,Fr.qy]at h⊢
  rw[hn]
  split at h
  ·rename_i hlt;first|exact⟨_,rfl⟩|(rw[hlt];exact⟨_,rfl⟩)
  ·cases h
theorem zd{call:cx}{ops:Array anp}{o:anp}{t t' t1:Fr}{S S1:VS}(h:jZ P call ops.toList o t S=some (none,t1,S1))(hl:∀s∈o.looksAt ops,t'.at s=t.at s)(hn:t'.n=t.n):
 ∃v lM,Vm.put t o.dst v=some t1∧Vm.put t' o.dst v=some lM∧jZ P call ops.toList o t' S=some (none,lM,S1):=by
 unfold jZ at h⊢
 rw[T3 hl,T2 hl]
 split at h
 ·rename_i hw
  simp only[anv,amv]at h
  obtain⟨t2,hp,_,rfl,rfl⟩:=h
  obtain⟨lM,kA⟩:=zc hn hp
  exact⟨_,lM,hp,kA,by simp only[kA,anL]⟩
 ·rename_i hw
  cases hs:jd P t S o with
  |none=>rw[hs]at h;cases h
  |some q=>
   obtain⟨r,S2⟩:=q
   rw[hs]at h
   simp only[]at h⊢
   cases r with
   |val v=>
    simp only[anv,amv]at h
    obtain⟨t2,hp,_,rfl,rfl⟩:=h
    obtain⟨lM,kA⟩:=zc hn hp
    exact⟨_,lM,hp,kA,by simp only[kA,anL]⟩
   |skip=>
    simp only[anv,amv]at h
    obtain⟨t2,hp,_,rfl,rfl⟩:=h
    obtain⟨lM,kA⟩:=zc hn hp
    exact⟨_,lM,hp,kA,by simp only[kA,anL]⟩
   |panic v=>simp at h
   |defer d=>cases h
   |enter f args=>
    simp only[]at h⊢
    cases hc:call f args S2 with
    |none=>rw[hc]at h;cases h
    |some q2=>
     obtain⟨cr,S3⟩:=q2
     rw[hc]at h
     cases cr with
     |ret v=>
      simp only[anv,amv]at h
      obtain⟨t2,hp,_,rfl,rfl⟩:=h
      obtain⟨lM,kA⟩:=zc hn hp
      exact⟨_,lM,hp,kA,by simp only[kA,anL]⟩
     |panic v=>simp at h
theorem wN{t t1:Fr}{d:Option Tmp}{v:amn}(hs:t.n≤1024)(h:Vm.put t d v=some t1):t1.n=t.n∧∀s,t1.at s=if d=some s then v else t.at s:=by
 cases d with
 |none=>cases h;exact⟨rfl,fun s=>by simp⟩
 |some d=>
  simp only[Vm.put,Fr.qy]at h
  split at h
  ·rename_i hlt
   cases h
   have hlt:=dI.1 hlt
   refine⟨rfl,fun s=>?_⟩
   unfold Fr.at
   dsimp only
   by_cases C4:s<t.n
   ·rw[dI.2 C4]
    dsimp only
    have bI:(2:Nat)^10=1024:=rfl
    rw[Tr.we 10 _ _ _ _ (by omega) (by omega)]
    by_cases sk:s=d
    ·subst sk;simp
    ·have:¬(some d=some s):=fun e=>sk (by cases e;rfl)
     rw[if_neg sk,if_neg this]
   ·have hb:amG s t.n=false:=by cases hb:amG s t.n with
     |false=>rfl
     |true=>exact absurd (dI.1 hb) C4
    rw[hb]
    dsimp only
    have:¬(some d=some s):=fun e=>C4 (by cases e;exact hlt)
    rw[if_neg this]
  ·cases h
end
section
variable {X V:Type}
def st(W:Nat→X→Option V)(init:X→V)(D:Nat→Bool):Nat→X→V
 |0,x=>init x
 |k+1,x=>if D k then(W k x).getD (st W init D k x)else st W init D k x
theorem lN(W:Nat→X→Option V)(init:X→V)(D:Nat→Bool)(k:Nat)(x:X):st W init D (k+1) x=if D k then(W k x).getD (st W init D k x)else st W init D k x:=rfl
theorem JI{W:Nat→X→Option V}{init:X→V}{D:Nat→Bool}{i n:Nat}{x:X}(e9:i≤n)(hi:D i=false)
 (h1:∀k,k<i→D k=false→W k x=none)(h2:∀k,i<k→k<n→D k=true→W k x=none):st W init D n x=st W init (fun _=>true) i x:=by
 have a:∀k,k≤i→st W init D k x=st W init (fun _=>true) k x:=by
  intro k
  induction k with
  |zero=>intro _;rfl
  |succ k ih=>
   intro hk
   rw[lN,lN,ih (by omega)]
   cases hd:D k with
   |true=>rfl
   |false=>rw[h1 k (by omega) hd];simp
 have b:∀k,i≤k→k≤n→st W init D k x=st W init D i x:=by
  intro k
  induction k with
  |zero=>intro h _;have:i=0:=by omega
         subst this;rfl
  |succ k ih=>
   intro hk hn
   by_cases e:i=k+1
   ·subst e;rfl
   ·rw[lN,ih (by omega) (by omega)]
    cases hd:D k with
    |false=>simp
    |true=>
     by_cases ek:k=i
     ·subst ek;rw[hi]at hd;cases hd
     ·rw[h2 k (by omega) (by omega) hd];simp
 rw[b n e9 (amX n),a i (amX i)]
theorem JJ{W:Nat→X→Option V}{init:X→V}{D:Nat→Bool}{i n:Nat}{x:X}(e9:i<n)(hi:D i=false)
 (h2:∀k,i<k→k<n→D k=true→W i x≠none→W k x=none):st W init (fun k=>D k||decide (k=i)) n x=(W i x).getD (st W init D n x):=by
 have a:∀k,k≤i→st W init (fun k=>D k||decide (k=i)) k x=st W init D k x:=by
  intro k
  induction k with
  |zero=>intro _;rfl
  |succ k ih=>
   intro hk
   have:decide (k=i)=false:=by simp;omega
   rw[lN,lN,ih (by omega),this,aqE]
 cases hw:W i x with
 |none=>
  have b:∀k,i≤k→st W init (fun k=>D k||decide (k=i)) k x=st W init D k x:=by
   intro k
   induction k with
   |zero=>intro h;exact a 0 (by omega)
   |succ k ih=>
    intro hk
    by_cases e:i=k+1
    ·exact a (k+1) (by omega)
    ·have e1:=lN W init (fun k=>D k||decide (k=i)) k x
     have e2:=lN W init D k x
     rw[e1,e2,ih (by omega)]
     by_cases ek:k=i
     ·subst ek;rw[hw,hi];simp
     ·have:decide (k=i)=false:=by simp[ek]
      rw[this,aqE]
  rw[b n (by omega)];rfl
 |some v=>
  have b:∀k,i<k→k≤n→st W init (fun k=>D k||decide (k=i)) k x=v:=by
   intro k
   induction k with
   |zero=>intro h;omega
   |succ k ih=>
    intro hk hn
    rw[lN]
    by_cases ek:k=i
    ·subst ek;rw[hw];simp
    ·have hd:decide (k=i)=false:=by simp[ek]
     rw[ih (by omega) (by omega),hd,aqE]
     cases gg:D k with
     |false=>simp
     |true=>rw[h2 k (by omega) (by omega) gg (by rw[hw];simp)];simp
  rw[b n e9 (amX n)];rfl
end
theorem C5(m k:Nat):amE (Nat.land (apL m k) 1) 1=m.testBit k:=by
 have h1:Nat.land (apL m k) 1=(m>>>k)%2:=Nat.and_one_is_mod (m>>>k)
 rw[h1]
 have h2:m.testBit k=((m>>>k)%2==1):=by
  rw[Nat.testBit,Nat.one_and_eq_mod_two]
  have:(m>>>k)%2=0∨(m>>>k)%2=1:=by omega
  rcases this with h|h<;>rw[h]<;>rfl
 rw[h2]
 have:(m>>>k)%2=0∨(m>>>k)%2=1:=by omega
 rcases this with h|h<;>rw[h]<;>rfl
theorem C6:∀{l:List Edge} {i:Nat},(je l).testBit i=true→∃e∈l,aoA .any e=true∧e.on=i
 | [],i,h=>by simp[je]at h
 |e::l,i,h=>by
  unfold je at h
  split at h
  ·rename_i hb
   have:ap4 (Nat.shiftLeft 1 e.on) (je l)=(1<<<e.on)|||je l:=rfl
   rw[this,aq4,aoW]at h
   rcases h with h|h
   ·refine⟨e,by simp,hb,?_⟩
    rw[Nat.one_shiftLeft,Nat.testBit_two_pow]at h
    simpa using h
   ·obtain⟨e',h1,h2,h3⟩:=C6 h
    exact⟨e',by simp[h1],h2,h3⟩
  ·obtain⟨e',h1,h2,h3⟩:=C6 h
   exact⟨e',by simp[h1],h2,h3⟩
theorem JK(m:Nat):∀{k:Nat} {bs:List Nat} {i:Nat},bs.length=k→(lF m k bs).testBit i=true→∃q b,q<k∧m.testBit q=true∧bs[k-1-q]?=some b∧b.testBit i=true
 |0,bs,i,hl,h=>by simp[lF]at h
 |k+1,[],i,hl,h=>by simp at hl
 |k+1,b::bs,i,hl,h=>by
  have pQ:bs.length=k:=by simpa using hl
  unfold lF at h
  have rest:(lF m k bs).testBit i=true→∃q b',q<k+1∧m.testBit q=true∧(b::bs)[k+1-1-q]?=some b'∧b'.testBit i=true:=by
   intro h
   obtain⟨q,b',h1,h2,h3,h4⟩:=JK m pQ h
   exact⟨q,b',by omega,h2,by rw[show k+1-1-q=(k-1-q)+1 by omega];simpa using h3,h4⟩
  split at h
  ·rename_i hb
   rw[C5]at hb
   have:ap4 b (lF m k bs)=b|||lF m k bs:=rfl
   rw[this,aq4,aoW]at h
   rcases h with h|h
   ·exact⟨k,b,by omega,hb,by simp,h⟩
   ·exact rest h
  ·exact rest h
def Cl(ops:List anp)(D:Nat→Bool):Prop:=∀(j:Nat) (o:anp),ops[j]?=some o→D j=true→∀e∈o.after,aoA .any e=true→D e.on=true
theorem JL{all:List anp}{D:Nat→Bool}(hD:Cl all D):∀{l:List anp} {k:Nat} {bs:List Nat},bs.length=k→all.drop k=l→
 (∀(q b:Nat) (o:anp),q<k→bs[k-1-q]?=some b→all[q]?=some o→(∀e∈o.after,aoA .any e=true→D e.on=true)→∀i,b.testBit i=true→D i=true)→
 ∀(j m:Nat) (o:anp),(qF k bs l)[j]?=some m→all[k+j]?=some o→(∀e∈o.after,aoA .any e=true→D e.on=true)→∀i,m.testBit i=true→D i=true
 | [],k,bs,hk,hl,hb,j,m,o,h,_,_,_,_=>by simp[qF]at h
 |o1::l,k,bs,hk,hl,hb,j,m,o,h,ho,he,i,hi=>by
  have JM:all[k]?=some o1:=by
   have:=congrArg (fun l=>l[0]?) hl
   simpa using this
  have key:∀(o:anp),all[k]?=some o→(∀e∈o.after,aoA .any e=true→D e.on=true)→∀i,(ap4 (je o1.after.toList) (lF (je o1.after.toList) k bs)).testBit i=true→D i=true:=by
   intro o ho he i hi
   rw[JM]at ho
   cases ho
   have:ap4 (je o1.after.toList) (lF (je o1.after.toList) k bs)=je o1.after.toList|||lF (je o1.after.toList) k bs:=rfl
   rw[this,aq4,aoW]at hi
   have direct:∀q,(je o1.after.toList).testBit q=true→D q=true:=by
    intro q hq
    obtain⟨e,h1,h2,h3⟩:=C6 hq
    have:=he e (an2.1 h1) h2
    rwa[h3]at this
   rcases hi with hi|hi
   ·exact direct i hi
   ·obtain⟨q,b,h1,h2,h3,h4⟩:=JK _ hk hi
    have JN:q<all.length:=by
     have:k<all.length:=(amy.1 JM).1
     omega
    exact hb q b _ h1 h3 (amt JN) (hD q _ (amt JN) (direct q h2)) i h4
  have e0:qF k bs (o1::l)=ap4 (je o1.after.toList) (lF (je o1.after.toList) k bs)::qF (k+1) (ap4 (je o1.after.toList) (lF (je o1.after.toList) k bs)::bs) l:=rfl
  rw[e0]at h
  cases j with
  |zero=>
   simp only[anb,amr]at h
   subst h
   exact key o (by simpa using ho) he i hi
  |succ j=>
   simp only[anD]at h
   refine JL hD (l:=l) (k:=k+1) (by simp[hk]) ?_ ?_ j m o h (by rw[show k+1+j=k+(j+1)by omega];exact ho) he i hi
   ·have:=congrArg List.tail hl
    simpa[List.tail_drop]using this
   ·intro q b o hq wO JO JP i hi
    by_cases e:q=k
    ·subst e
     simp at wO
     subst wO
     exact key o JO JP i hi
    ·rw[show k+1-1-q=(k-1-q)+1 by omega]at wO
     simp only[anD]at wO
     exact hb q b o (by omega) wO JO JP i hi
theorem JQ{ops:Array anp}{D:Nat→Bool}(hD:Cl ops.toList D){j m:Nat}{o:anp}(h:(pD ops)[j]?=some m)(ho:ops.toList[j]?=some o)
 (he:∀e∈o.after,aoA .any e=true→D e.on=true){i:Nat}(hi:m.testBit i=true):D i=true:=
 JL hD (l:=ops.toList) (k:=0) (bs:=[]) rfl rfl (fun q b o hq=>by omega) j m o h (by simpa using ho) he i hi
end Go.Proofs.Ytnlkkgpcikkpoaa.Vm
namespace Go.Proofs.Ytnlkkgpcikkpoaa.Vm
open Go.RowKit
theorem T4{ops:Array anp}:(pD ops).length=ops.size:=by
 have:∀(l:List anp) (k:Nat) (bs:List Nat),(qF k bs l).length=l.length:=by
  intro l
  induction l with
  |nil=>intro k bs;rfl
  |cons o l ih=>intro k bs;simp only[qF,am9,ih]
 unfold pD
 rw[this]
 simp
theorem C7{ops:Array anp}:∀{ps:List anp} {ms:List Nat} {j:Nat} {prev:List (Nat×anp)},yD ops j prev ms ps=true→
 ∀(q m:Nat) (p:anp),ms[q]?=some m→ps[q]?=some p→
  (∀e∈p.after,aoA .any e=true→e.on<j+q)∧(∀x∈prev,m.testBit x.1=true∨x.2.apart ops p=true)∧
  (∀(r:Nat) (o:anp),r<q→ps[r]?=some o→m.testBit (j+r)=true∨o.apart ops p=true)
 | [],ms,j,prev,h,q,m,p,hm,hp=>by simp at hp
 |p0::ps,[],j,prev,h,q,m,p,hm,hp=>by simp at hm
 |p0::ps,m0::ms,j,prev,h,q,m,p,hm,hp=>by
  simp only[yD,amB]at h
  obtain⟨⟨h1,h2⟩,h3⟩:=h
  cases q with
  |zero=>
   simp only[anb,amr]at hm hp
   subst hm hp
   refine⟨fun e he hb=>?_,fun x hx=>?_,fun r o hr=>by omega⟩
   ·have:=am1.1 h1 e (an2.2 he)
    rw[hb]at this
    simpa using dI.1 (by simpa using this)
   ·have:=am1.1 h2 x hx
    rw[C5,aoW]at this
    exact this
  |succ q=>
   simp only[anD]at hm hp
   obtain⟨h4,h5,h6⟩:=C7 h3 q m p hm hp
   refine⟨fun e he hb=>by have:=h4 e he hb;omega,fun x hx=>h5 x (by simp[hx]),fun r o hr ho=>?_⟩
   cases r with
   |zero=>
    simp only[anb,amr]at ho
    subst ho
    simpa using h5 (j,p0) (by simp)
   |succ r=>
    simp only[anD]at ho
    have:=h6 r o (by omega) ho
    rwa[show j+1+r=j+(r+1)by omega]at this
theorem JR:∀{ms:List Nat} {fs:List Fp} {k j m:Nat} {f:Fp},ms[j]?=some m→fs[j]?=some f→(f.rd≠[]∨f.wr≠[])→(⟨k+j,m,f⟩:Ca)∈oH k ms fs
 | [],fs,k,j,m,f,hm,_,_=>by simp at hm
 |m0::ms,[],k,j,m,f,_,hf,_=>by simp at hf
 |m0::ms,f0::fs,k,j,m,f,hm,hf,bt=>by
  cases j with
  |zero=>
   simp only[anb,amr]at hm hf
   subst hm hf
   unfold oH
   split
   ·rename_i h1 h2;rcases bt with h|h
    ·exact absurd h1 h
    ·exact absurd h2 h
   ·simp
  |succ j=>
   simp only[anD]at hm hf
   have:=JR (k:=k+1) hm hf bt
   rw[show k+1+j=k+(j+1)by omega]at this
   unfold oH
   split
   ·exact this
   ·exact amK _ this
theorem C8{a b:List Nat}(h:yC a b=true){x:Nat}(ha:x∈a)(hb:x∈b):False:=by
 have:=am1.1 h x ha
 simp at this
 exact this hb
theorem apart_spec:∀{ms:List Nat} {fs:List Fp} {k:Nat},tZ (oH k ms fs)=true→∀(i j m:Nat) (f g:Fp),i<j→ms[j]?=some m→fs[i]?=some f→fs[j]?=some g→
 (ms[i]?).isSome=true→m.testBit (k+i)=true∨((∀x,x∈f.wr→x∉g.rd∧x∉g.wr)∧∀x,x∈g.wr→x∉f.rd)
 | [],fs,k,h,i,j,m,f,g,ia,hm,hf,hg,hi=>by simp at hm
 |m0::ms,[],k,h,i,j,m,f,g,ia,hm,hf,hg,hi=>by simp at hf
 |m0::ms,f0::fs,k,h,i,j,m,f,g,ia,hm,hf,hg,hi=>by
  have rest:tZ (oH (k+1) ms fs)=true:=by
   unfold oH at h
   split at h
   ·exact h
   ·simp only[tZ,amB]at h;exact h.2
  cases j with
  |zero=>omega
  |succ j=>
   simp only[anD]at hm hg
   cases i with
   |succ i=>
    simp only[anD]at hf hi
    have:=apart_spec rest i j m f g (by omega) hm hf hg hi
    rwa[show k+1+i=k+(i+1)by omega]at this
   |zero=>
    simp only[anb,amr]at hf
    subst hf
    by_cases C9:f0.rd=[]∧f0.wr=[]
    ·right
     refine⟨fun x hx=>?_,fun x _=>?_⟩
     ·rw[C9.2]at hx;cases hx
     ·rw[C9.1];simp
    ·by_cases ze:g.rd=[]∧g.wr=[]
     ·right
      refine⟨fun x _=>?_,fun x hx=>?_⟩
      ·rw[ze.1,ze.2];simp
      ·rw[ze.2]at hx;cases hx
     ·have T5:g.rd≠[]∨g.wr≠[]:=by
       by_cases h1:g.rd=[]
       ·exact .inr fun h2=>ze ⟨h1,h2⟩
       ·exact .inl h1
      have gI:=JR (k:=k+1) hm hg T5
      unfold oH at h
      split at h
      ·rename_i h1 h2;exact absurd ⟨h1,h2⟩ C9
      ·simp only[tZ,amB]at h
       have:=am1.1 h.1 _ gI
       simp only[aoW]at this
       rcases this with this|this
       ·left;rw[C5]at this;exact this
       ·right
        simp only[IL,amB]at this
        obtain⟨⟨h1,h2⟩,h3⟩:=this
        exact⟨fun x hx=>⟨fun hh=>C8 h1 hx hh,fun hh=>C8 h2 hx hh⟩,fun x hx hh=>C8 h3 hx hh⟩
abbrev reset(S:VS):VS:={S with rd:=[],wr:=[]}
structure Trace(P:amF)(call:cx)(ops rest:List anp)(t:Fr)(S:VS)(t1:Fr)(S1:VS)(fP:List Fp)(T:Nat→Fr)(G Bf:Nat→VS):Prop where
 t0:T 0=t
 s0:G 0=S
 tn:T rest.length=t1
 sn:G rest.length=S1
 len:fP.length=rest.length
 step:∀(j:Nat) (o:anp),rest[j]?=some o→jZ P call ops o (T j) (reset (G j))=some (none,T (j+1),Bf j)∧G (j+1)={Bf j with rd:=(Bf j).rd++(G j).rd,wr:=(Bf j).wr++(G j).wr}∧
  fP[j]?=some ⟨(Bf j).rd,(Bf j).wr⟩
theorem JS{P:amF}{call:cx}{ops:List anp}:∀{rest:List anp} {t t1:Fr} {S S1:VS} {fP:List Fp},j3 P call ops rest t S=some (t1,S1,fP)→
 ∃T G Bf,Trace P call ops rest t S t1 S1 fP T G Bf
 | [],t,t1,S,S1,fP,h=>by
  simp only[j3,amr,amv]at h
  obtain⟨rfl,rfl,rfl⟩:=h
  exact⟨fun _=>t,fun _=>S,fun _=>S,rfl,rfl,rfl,rfl,rfl,fun j o h=>by simp at h⟩
 |o::rest,t,t1,S,S1,fP,h=>by
  unfold j3 at h
  split at h
  ·rename_i t2 S2 cJ
   split at h
   ·rename_i t3 S3 T6 hd
    simp only[amr,amv]at h
    obtain⟨rfl,rfl,rfl⟩:=h
    obtain⟨T,G,Bf,h0,h1,h2,h3,h4,h5⟩:=JS hd
    refine⟨fun j=>match j with|0=>t|j+1=>T j,fun j=>match j with|0=>S|j+1=>G j,fun j=>match j with|0=>S2|j+1=>Bf j,rfl,rfl,h2,h3,by simp[h4],fun j p hp=>?_⟩
    cases j with
    |zero=>
     simp only[anb,amr]at hp
     subst hp
     exact⟨by simp only[h0];exact cJ,h1,rfl⟩
    |succ j=>exact h5 j p (by simpa using hp)
   ·cases h
  ·cases h
def jM(D:Nat→Bool):Nat→Nat
 |0=>0
 |k+1=>jM D k+if D k then 0 else 1
theorem JT{D:Nat→Bool}:∀{n:Nat},jM D n=0→∀i,i<n→D i=true
 |0,_,i,hi=>by omega
 |n+1,h,i,hi=>by
  unfold jM at h
  have h1:jM D n=0:=by omega
  by_cases e:i=n
  ·subst e
   cases hd:D i with
   |true=>rfl
   |false=>rw[hd]at h;simp at h
  ·exact JT h1 i (by omega)
theorem JU(D:Nat→Bool)(k:Nat):jM D (k+1)=jM D k+if D k then 0 else 1:=rfl
theorem JV{D:Nat→Bool}{i:Nat}(hd:D i=false):∀{n:Nat},jM (fun k=>D k||decide (k=i)) n+(if i<n then 1 else 0)=jM D n
 |0=>by simp[jM]
 |n+1=>by
  have ih:=JV hd (n:=n)
  rw[JU,JU]
  by_cases e:n=i
  ·subst e
   have wP:jM (fun k=>D k||decide (k=n)) n=jM D n:=by simpa using ih
   rw[wP,hd]
   simp
  ·have hdec:decide (n=i)=false:=by simp[e]
   rw[hdec,aqE]
   by_cases e9:i<n
   ·have wP:jM (fun k=>D k||decide (k=i)) n+1=jM D n:=by simpa[e9]using ih
    have h2:i<n+1:=by omega
    simp only[h2,if_true]
    omega
   ·have wP:jM (fun k=>D k||decide (k=i)) n=jM D n:=by simpa[e9]using ih
    have h2:¬i<n+1:=by omega
    simp only[h2,if_false]
    omega
theorem T8(n:Nat):jM (fun _=>false) n=n:=by
 induction n with
 |zero=>rfl
 |succ n ih=>unfold jM;rw[ih];simp
theorem Da{X V:Type}{W:Nat→X→Option V}{init:X→V}{D:Nat→Bool}{x:X}:∀{n:Nat},(∀i,i<n→D i=true)→st W init D n x=st W init (fun _=>true) n x
 |0,_=>rfl
 |n+1,h=>by
  rw[lN,lN,Da fun i hi=>h i (by omega),h n (by omega)]
section
variable {P:amF} {B:Nat→Prop} {w₀:amC}
theorem T9{l:Array Bool}{i k:Nat}(hi:i<l.size):(l.setIfInBounds i true).getD k false=(l.getD k false||decide (k=i)):=by
 rw[am4,am4]
 by_cases h:k=i
 ·subst h
  rw[an0,if_pos hi]
  simp
 ·rw[anY (Ne.symm h)]
  simp[h]
theorem mem_ready{ops:Array anp}{listed:Array Bool}{i:Nat}(hs:listed.size=ops.size):i∈apH .any ops listed↔
 ∃o,ops[i]?=some o∧listed.getD i false=false∧∀e∈o.after,aoA .any e=true→listed.getD e.on false=true:=by
 unfold apH
 rw[List.mem_filter,List.mem_range,amB]
 have sC:i<ops.size→listed.getD i true=listed.getD i false:=by
  intro hi
  rw[am4,am4,aog (by omega)]
  rfl
 constructor
 ·rintro⟨hi,h1,h2⟩
  have ho:ops[i]?=some ops[i]:=aog hi
  refine⟨ops[i],ho,by rw[←sC hi];simpa using h1,fun e he hb=>?_⟩
  rw[ho]at h2
  simp only[anL,aoc]at h2
  have:=ap0.1 h2 e he
  rw[hb]at this
  simpa using this
 ·rintro⟨o,ho,h1,h2⟩
  have hi:i<ops.size:=(anq.1 ho).1
  refine⟨hi,by rw[sC hi,h1];rfl,?_⟩
  rw[ho]
  simp only[anL,aoc]
  refine ap0.2 fun e he=>?_
  cases hb:aoA .any e with
  |false=>rfl
  |true=>rw[h2 e he hb];rfl
theorem zf{t t1:Fr}{d:Option Tmp}{v:amn}(h:Vm.put t d v=some t1):t1.ds=t.ds∧t1.base=t.base:=by
 cases d with
 |none=>cases h;exact⟨rfl,rfl⟩
 |some d=>
  simp only[Vm.put,Fr.qy]at h
  split at h
  ·cases h;exact⟨rfl,rfl⟩
  ·cases h
theorem Ua(hP:hI P=true)(fh:P.follows .mixedOrders=true){call:cx}(hc:gJ P call){ops:Array anp}{id:Nat}{t t1:Fr}{S S1:VS}{fP:List Fp}
 (hd:j3 P call ops.toList ops.toList t S=some (t1,S1,fP))(hok:r5 ops fP=true){ρ:Ren}{m:Nat→Option ai}{w:amC}{a:Act}(ht:FR ρ t a)(hw:WR P B w₀ ρ m w)
 (hm:fv S S1 m){r:Option Nat}{Q:aoF→Act→amC→Prop}(hQ:∀(ρ':Ren) (a':Act) (w':amC),ρ.le ρ'→FR ρ' t1 a'→WR P B w₀ ρ' (post m S1) w'→Q .normal a' w'):
 (Code.region id ops true).wpIn (FF r) 0 P Q a w:=by
 obtain⟨T,G,Bf,tr⟩:=JS hd
 simp only[r5,amB]at hok
 obtain⟨JW,Ub⟩:=hok
 have hlen:ops.toList.length=ops.size:=by simp
 have mw:∀i,i<ops.size→∃o,ops[i]?=some o∧ops.toList[i]?=some o:=fun i hi=>⟨ops[i],aog hi,by simp[hi]⟩
 have m8:∀i,i<ops.size→∃mk,(pD ops)[i]?=some mk:=fun i hi=>⟨_,amt (by rw[T4];exact hi)⟩
 -- frames of the trace
 have wQ:∀i,i≤ops.size→(T i).n=t.n:=by
  intro i
  induction i with
  |zero=>intro _;rw[tr.t0]
  |succ i ih=>
   intro hi
   obtain⟨o,ho,gK⟩:=mw i (by omega)
   obtain⟨h1,_,_⟩:=tr.step i o gK
   obtain⟨v,_,hp,_,_⟩:=zd h1 (fun s _=>rfl) rfl
   rw[(wN (by rw[ih (by omega)];exact ht.small) hp).1,ih (by omega)]
 have JX:∀i,i≤ops.size→(T i).ds=t.ds∧(T i).base=t.base:=by
  intro i
  induction i with
  |zero=>intro _;rw[tr.t0];exact⟨rfl,rfl⟩
  |succ i ih=>
   intro hi
   obtain⟨o,ho,gK⟩:=mw i (by omega)
   obtain⟨h1,_,_⟩:=tr.step i o gK
   obtain⟨v,_,hp,_,_⟩:=zd h1 (fun s _=>rfl) rfl
   rw[(zf hp).1,(zf hp).2]
   exact ih (by omega)
 let Ws:Nat→Nat→Option amn:=fun i s=>match ops.toList[i]?with
  |some o=>if o.dst=some s then some ((T (i+1)).at s)else none
  |none=>none
 let Wm:Nat→Nat→Option (Option ai):=fun i x=>if i<ops.size∧x∈(Bf i).wr then some (gt (Bf i).mem x)else none
 have JY:∀i s,i≤ops.size→st Ws (T 0).at (fun _=>true) i s=(T i).at s:=by
  intro i s
  induction i with
  |zero=>intro _;rfl
  |succ i ih=>
   intro hi
   obtain⟨o,ho,gK⟩:=mw i (by omega)
   obtain⟨h1,_,_⟩:=tr.step i o gK
   obtain⟨v,_,hp,_,_⟩:=zd h1 (fun s _=>rfl) rfl
   have b9:=(wN (by rw[wQ i (by omega)];exact ht.small) hp).2 s
   rw[lN,ih (by omega)]
   simp only[if_true]
   have JZ:Ws i s=if o.dst=some s then some ((T (i+1)).at s)else none:=by simp only[Ws,gK]
   rw[JZ]
   by_cases fR:o.dst=some s
   ·rw[if_pos fR];rfl
   ·rw[if_neg fR,b9,if_neg fR];rfl
 -- logs
 have Uc:∀i,i≤ops.size→∀x,(x∈(G i).rd→x∈S1.rd)∧(x∈(G i).wr→x∈S1.wr):=by
  have:∀k i,i+k=ops.size→∀x,(x∈(G i).rd→x∈S1.rd)∧(x∈(G i).wr→x∈S1.wr):=by
   intro k
   induction k with
   |zero=>intro i hi x;have:G i=S1:=by rw[←tr.sn,hlen];congr 1;
          rw[this];exact⟨fun h=>h,fun h=>h⟩
   |succ k ih=>
    intro i hi x
    obtain⟨o,ho,gK⟩:=mw i (by omega)
    obtain⟨_,h2,_⟩:=tr.step i o gK
    have:=ih (i+1) (by omega) x
    rw[h2]at this
    exact⟨fun hx=>this.1 (amU.2 (.inr hx)),fun hx=>this.2 (amU.2 (.inr hx))⟩
  exact fun i hi=>this (ops.size-i) i (by omega)
 have Db:∀i,i<ops.size→∀x,(x∈(Bf i).rd→x∈S1.rd)∧(x∈(Bf i).wr→x∈S1.wr):=by
  intro i hi x
  obtain⟨o,ho,gK⟩:=mw i hi
  obtain⟨_,h2,_⟩:=tr.step i o gK
  have:=Uc (i+1) (by omega) x
  rw[h2]at this
  exact⟨fun hx=>this.1 (amU.2 (.inl hx)),fun hx=>this.2 (amU.2 (.inl hx))⟩
 have J0:∀i,i≤ops.size→∀x,(x∈S1.rd∨x∈S1.wr)→st Wm m (fun _=>true) i x=gt (G i).mem x:=by
  intro i
  induction i with
  |zero=>intro _ x hx;rw[tr.s0];exact hm x hx
  |succ i ih=>
   intro hi x hx
   obtain⟨o,ho,gK⟩:=mw i (by omega)
   obtain⟨h1,h2,_⟩:=tr.step i o gK
   rw[lN,ih (by omega) x hx,h2]
   simp only[if_true]
   by_cases Dc:x∈(Bf i).wr
   ·have:Wm i x=some (gt (Bf i).mem x):=by simp only[Wm];rw[if_pos ⟨by omega,Dc⟩]
    rw[this];rfl
   ·have:Wm i x=none:=by simp only[Wm];rw[if_neg fun hh=>Dc hh.2]
    rw[this]
    exact((wM hc h1).frame x Dc).symm
 have Ud:∀i,i≤ops.size→∀x,x∉S1.wr→st Wm m (fun _=>true) i x=m x:=by
  intro i
  induction i with
  |zero=>intro _ x _;rfl
  |succ i ih=>
   intro hi x hx
   rw[lN,ih (by omega) x hx]
   have:Wm i x=none:=by simp only[Wm];rw[if_neg fun hh=>hx ((Db i hh.1 x).2 hh.2)]
   rw[this];simp
 -- pairs
 have Dd:∀(i k:Nat) (oi ok:anp) (mk:Nat),i<k→ops.toList[i]?=some oi→ops.toList[k]?=some ok→(pD ops)[k]?=some mk→mk.testBit i=true∨oi.apart ops ok=true:=by
  intro i k oi ok mk jh De hok j7
  have:=(C7 JW k mk ok j7 hok).2.2 i oi jh De
  simpa using this
 have Df:∀(i k mk:Nat),i<k→k<ops.size→(pD ops)[k]?=some mk→mk.testBit i=true∨((∀x,x∈(Bf i).wr→x∉(Bf k).rd∧x∉(Bf k).wr)∧∀x,x∈(Bf k).wr→x∉(Bf i).rd):=by
  intro i k mk jh hk j7
  obtain⟨oi,_,De⟩:=mw i (by omega)
  obtain⟨ok,_,hok⟩:=mw k hk
  obtain⟨_,_,h1⟩:=tr.step i oi De
  obtain⟨_,_,h2⟩:=tr.step k ok hok
  obtain⟨mi,uw⟩:=m8 i (by omega)
  have:=apart_spec Ub i k mk _ _ jh j7 h1 h2 (by rw[uw];rfl)
  simpa using this
 refine wpIn_region_any fh ?_
 -- the invariant
 have main:∀(gu:Nat) (listed:Array Bool) (a:Act) (w:amC),listed.size=ops.size→jM (fun i=>listed.getD i false) ops.size=gu→Cl ops.toList (fun i=>listed.getD i false)→
  (∃ρ' t',ρ.le ρ'∧(t'.n=t.n∧t'.ds=t.ds∧t'.base=t.base)∧(∀s,t'.at s=st Ws (T 0).at (fun i=>listed.getD i false) ops.size s)∧FR ρ' t' a∧WR P B w₀ ρ' (st Wm m (fun i=>listed.getD i false) ops.size) w)→
  wpAnyIn (FF r) 0 P .any ops Q gu listed a w:=by
  intro gu
  have fin:∀(listed:Array Bool) (a:Act) (w:amC),(∀i,i<ops.size→listed.getD i false=true)→
   (∃ρ' t',ρ.le ρ'∧(t'.n=t.n∧t'.ds=t.ds∧t'.base=t.base)∧(∀s,t'.at s=st Ws (T 0).at (fun i=>listed.getD i false) ops.size s)∧FR ρ' t' a∧WR P B w₀ ρ' (st Wm m (fun i=>listed.getD i false) ops.size) w)→Q .normal a w:=by
   rintro listed a w j6 ⟨ρ',t',hle,⟨hn,de,Dg⟩,b9,cn,cC⟩
   have sD:T ops.size=t1:=by rw[←tr.tn,hlen]
   refine hQ ρ' a w hle ⟨?_,?_,fun i=>?_,by have:=cn.defers;rw[de,Dg,←(JX ops.size (amX _)).1,←(JX ops.size (amX _)).2,sD]at this;exact this⟩ ?_
   ·rw[cn.size,hn,←wQ ops.size (amX _),sD]
   ·rw[←sD,wQ ops.size (amX _)];exact ht.small
   ·have:=cn.at_ i
    rwa[b9 i,Da j6,JY ops.size i (amX _),sD]at this
   ·have:st Wm m (fun i=>listed.getD i false) ops.size=post m S1:=by
     funext x
     rw[Da j6]
     unfold post
     by_cases hx:x∈S1.wr
     ·rw[if_pos hx,J0 ops.size (amX _) x (.inr hx)]
      have:G ops.size=S1:=by rw[←tr.sn,hlen]
      rw[this]
     ·rw[if_neg hx,Ud ops.size (amX _) x hx]
    rwa[this]at cC
  have full:∀(listed:Array Bool),listed.size=ops.size→apH .any ops listed=[]→∀i,i<ops.size→listed.getD i false=true:=by
   intro listed hs hr i
   induction i using Nat.strongRecOn with
   |_ i ih=>
    intro hi
    cases pW:listed.getD i false with
    |true=>rfl
    |false=>
     exfalso
     obtain⟨o,ho,gK⟩:=mw i hi
     obtain⟨mk,wR⟩:=m8 i hi
     have Ue:=(C7 JW i mk o wR gK).1
     have:i∈apH .any ops listed:=(mem_ready hs).2 ⟨o,ho,pW,fun e he hb=>by
      have:=Ue e he hb
      exact ih e.on (by omega) (by omega)⟩
     rw[hr]at this
     cases this
  induction gu with
  |zero=>
   intro listed a w hs J1 ef hinv
   have j6:=JT J1
   refine⟨?_,fin listed a w j6 hinv⟩
   cases hr:apH .any ops listed with
   |nil=>rfl
   |cons i l=>
    have:i∈apH .any ops listed:=by rw[hr];simp
    obtain⟨o,ho,h1,_⟩:=(mem_ready hs).1 this
    rw[j6 i (anq.1 ho).1]at h1
    cases h1
  |succ gu ih=>
   intro listed a w hs J1 ef hinv
   refine⟨fun hr=>fin listed a w (full listed hs hr) hinv,fun i Uf=>?_⟩
   obtain⟨o,ho,pW,J2⟩:=(mem_ready hs).1 Uf
   have hi:i<ops.size:=(anq.1 ho).1
   have gK:ops.toList[i]?=some o:=by rw[an5];exact ho
   obtain⟨mk,wR⟩:=m8 i hi
   obtain⟨Ug,hG,akQ⟩:=tr.step i o gK
   obtain⟨ρ',t',hle,⟨hn,de,Dg⟩,b9,cn,cC⟩:=hinv
   -- what is not ordered is apart
   have J3:∀k,k<i→listed.getD k false=false→mk.testBit k=false:=by
    intro k hk gg
    cases hb:mk.testBit k with
    |false=>rfl
    |true=>rw[JQ ef wR gK J2 hb]at gg;cases gg
   have zg:∀k mk',i<k→(pD ops)[k]?=some mk'→listed.getD k false=true→k<ops.size→mk'.testBit i=false:=by
    intro k mk' jh j7 gg hk
    cases hb:mk'.testBit i with
    |false=>rfl
    |true=>
     obtain⟨ok,_,hok⟩:=mw k hk
     rw[JQ ef j7 hok (fun e he Uh=>ef k ok hok gg e he Uh) hb]at pW
     cases pW
   have Ui:∀s∈o.looksAt ops,t'.at s=(T i).at s:=by
    intro s sE
    rw[b9 s,JI (W:=Ws) (i:=i) (apI hi) pW ?_ ?_,JY i s (apI hi)]
    ·intro k hk gg
     obtain⟨ok,hok,qO⟩:=mw k (by omega)
     simp only[Ws,qO]
     rw[if_neg]
     intro fR
     rcases Dd k i ok o mk hk qO gK wR with h|h
     ·rw[J3 k hk gg]at h;cases h
     ·exact(aqT h).1 s fR sE
    ·intro k jh jt gg
     obtain⟨ok,hok,qO⟩:=mw k jt
     obtain⟨mk',j7⟩:=m8 k jt
     simp only[Ws,qO]
     rw[if_neg]
     intro fR
     rcases Dd i k o ok mk' jh gK qO j7 with h|h
     ·rw[zg k mk' jh j7 gg jt]at h;cases h
     ·exact(aqT h).2.2 s fR sE
   obtain⟨v,lM,hp,kA,Uj⟩:=zd Ug Ui (by rw[hn,wQ i (apI hi)])
   have Uk:fv (reset (G i)) (Bf i) (st Wm m (fun i=>listed.getD i false) ops.size):=by
    intro x hx
    have jK:x∈S1.rd∨x∈S1.wr:=hx.imp (Db i hi x).1 (Db i hi x).2
    rw[JI (W:=Wm) (i:=i) (apI hi) pW ?_ ?_,J0 i (apI hi) x jK]
    ·intro k hk gg
     simp only[Wm]
     rw[if_neg]
     rintro⟨jt,oY⟩
     rcases Df k i mk hk hi wR with h|⟨h,_⟩
     ·rw[J3 k hk gg]at h;cases h
     ·rcases hx with hx|hx
      ·exact(h x oY).1 hx
      ·exact(h x oY).2 hx
    ·intro k jh jt gg
     simp only[Wm]
     rw[if_neg]
     rintro⟨_,oY⟩
     obtain⟨mk',j7⟩:=m8 k jt
     rcases Df i k mk' jh jt j7 with h|⟨h1,h2⟩
     ·rw[zg k mk' jh j7 gg jt]at h;cases h
     ·rcases hx with hx|hx
      ·exact h2 x oY hx
      ·exact(h1 x hx).2 oY
   have J4:∀k,(listed.setIfInBounds i true).getD k false=(listed.getD k false||decide (k=i)):=fun k=>T9 (by omega)
   have zh:(fun k=>(listed.setIfInBounds i true).getD k false)=fun k=>listed.getD k false||decide (k=i):=funext J4
   refine C0 hP hc ho Uj cn cC Uk (fun _ ρ2 a' w' jN k9 _ gL=>?_) (fun v hv=>by cases hv)
   refine ih (listed.setIfInBounds i true) a' w' (by simpa using hs) ?_ ?_ ⟨ρ2,lM,Ren.le_trans hle jN,?_,?_,k9,?_⟩
   ·rw[zh]
    have:=JV (D:=fun k=>listed.getD k false) pW (n:=ops.size)
    rw[if_pos hi]at this
    omega
   ·rw[zh]
    intro j oj Dh zi e he hb
    simp only[aoW,decide_eq_true_eq]at zi⊢
    left
    rcases zi with zi|rfl
    ·exact ef j oj Dh zi e he hb
    ·rw[gK]at Dh;cases Dh;exact J2 e he hb
   ·rw[(wN (by rw[hn];exact ht.small) kA).1,hn,(zf kA).1,(zf kA).2];exact⟨rfl,de,Dg⟩
   ·intro s
    rw[(wN (by rw[hn];exact ht.small) kA).2 s,zh,JJ (W:=Ws) hi pW ?_,b9 s]
    ·simp only[Ws,gK]
     have:=(wN (by rw[wQ i (apI hi)];exact ht.small) hp).2 s
     by_cases fR:o.dst=some s
     ·rw[if_pos fR,if_pos fR,this,if_pos fR];rfl
     ·rw[if_neg fR,if_neg fR];rfl
    ·intro k jh jt gg sF
     obtain⟨ok,hok,qO⟩:=mw k jt
     obtain⟨mk',j7⟩:=m8 k jt
     have Ul:o.dst=some s:=by
      simp only[Ws,gK]at sF
      by_cases h:o.dst=some s
      ·exact h
      ·rw[if_neg h]at sF;exact absurd rfl sF
     simp only[Ws,qO]
     rw[if_neg]
     intro fR
     rcases Dd i k o ok mk' jh gK qO j7 with h|h
     ·rw[zg k mk' jh j7 gg jt]at h;cases h
     ·exact(aqT h).2.1 s Ul fR
   ·have:st Wm m (fun k=>(listed.setIfInBounds i true).getD k false) ops.size=post (st Wm m (fun i=>listed.getD i false) ops.size) (Bf i):=by
     funext x
     rw[zh,JJ (W:=Wm) hi pW ?_]
     ·unfold post
      by_cases hx:x∈(Bf i).wr
      ·have:Wm i x=some (gt (Bf i).mem x):=by simp only[Wm];rw[if_pos ⟨hi,hx⟩]
       rw[this,if_pos hx];rfl
      ·have:Wm i x=none:=by simp only[Wm];rw[if_neg fun hh=>hx hh.2]
       rw[this,if_neg hx];rfl
     ·intro k jh jt gg sF
      obtain⟨mk',j7⟩:=m8 k jt
      have hx:x∈(Bf i).wr:=by
       by_cases h:x∈(Bf i).wr
       ·exact h
       ·simp only[Wm]at sF;rw[if_neg fun hh=>h hh.2]at sF;exact absurd rfl sF
      simp only[Wm]
      rw[if_neg]
      rintro⟨_,oY⟩
      rcases Df i k mk' jh jt j7 with h|⟨h1,_⟩
      ·rw[zg k mk' jh j7 gg jt]at h;cases h
      ·exact(h1 x hx).2 oY
    rw[this]
    exact gL
 have Um:∀k,(aoy ops.size false).getD k false=false:=by
  intro k
  rw[am4]
  by_cases h:k<ops.size<;>simp[h]
 have zj:(fun k=>(aoy ops.size false).getD k false)=fun _=>false:=funext Um
 have J5:∀{X V:Type} (W:Nat→X→Option V) (init:X→V) (n:Nat) (x:X),st W init (fun _=>false) n x=init x:=by
  intro X V W init n x
  induction n with
  |zero=>rfl
  |succ n ih=>rw[lN,ih];simp
 refine main ops.size _ a _ (by simp) (by rw[zj,T8]) (by rw[zj];intro j o _ h;cases h) ⟨ρ,t,Ren.le_refl ρ,⟨rfl,rfl,rfl⟩,fun s=>?_,ht,?_⟩
 ·rw[zj,J5,tr.t0]
 ·have:st Wm m (fun k=>(aoy ops.size false).getD k false) ops.size=m:=by funext x;rw[zj,J5]
  rw[this]
  exact hw.drew
end
end Go.Proofs.Ytnlkkgpcikkpoaa.Vm
namespace Go.Proofs.Ytnlkkgpcikkpoaa.Vm
open Go.RowKit
section
variable {P:amF}
theorem zk{call:cx}(hc:gJ P call){df:Bool}{ops:List anp}:∀{rest:List anp} {t t1:Fr} {S S1:VS} {x:bf},opsV P call df ops rest t S=some (x,t1,S1)→dC S S1
 | [],t,t1,S,S1,x,h=>by
  simp only[opsV,amr,amv]at h
  obtain⟨_,_,rfl⟩:=h
  exact dC.refl S
 |o::rest,t,t1,S,S1,x,h=>by
  unfold opsV at h
  split at h
  ·split at h
   ·split at h
    ·exact zk hc h
    ·cases h
   ·cases h
  ·split at h
   ·cases h
   ·rename_i v t2 S2 cJ
    simp only[amr,amv]at h
    obtain⟨_,_,rfl⟩:=h
    exact wM hc cJ
   ·rename_i t2 S2 cJ
    exact(wM hc cJ).trans (zk hc h)
theorem J6{call:cx}(hc:gJ P call){ops:List anp}:∀{rest:List anp} {t t1:Fr} {S S1:VS} {fP:List Fp},j3 P call ops rest t S=some (t1,S1,fP)→dC S S1
 | [],t,t1,S,S1,fP,h=>by
  simp only[j3,amr,amv]at h
  obtain⟨_,rfl,_⟩:=h
  exact dC.refl S
 |o::rest,t,t1,S,S1,fP,h=>by
  unfold j3 at h
  split at h
  ·rename_i t2 S2 cJ
   split at h
   ·rename_i t3 S3 T6 hd
    simp only[amr,amv]at h
    obtain⟨rfl,rfl,rfl⟩:=h
    have e1:=wM hc cJ
    have e2:=J6 hc hd
    refine dC.trans ⟨fun y hy=>?_,fun y hy=>?_,fun y hy=>?_,fun hS y hy=>?_⟩ e2
    ·exact amU.2 (.inr hy)
    ·exact amU.2 (.inr hy)
    ·exact e1.frame y fun hh=>hy (amU.2 (.inl hh))
    ·have he:=e1.sm (fun z hz=>by rcases hz with hz|hz<;>cases hz)
     rcases hy with hy|hy
     ·rcases amU.1 hy with hy|hy
      ·exact he y (.inl hy)
      ·exact hS y (.inl hy)
     ·rcases amU.1 hy with hy|hy
      ·exact he y (.inr hy)
      ·exact hS y (.inr hy)
   ·cases h
  ·cases h
theorem Di{f:Fr→VS→Option (bf×Fr×VS)}(hf:∀{t t1:Fr} {S S1:VS} {x:bf},f t S=some (x,t1,S1)→dC S S1):
 ∀{k:Nat} {t t1:Fr} {S S1:VS} {x:bf},iter f k t S=some (x,t1,S1)→dC S S1
 |0,t,t1,S,S1,x,h=>by cases h
 |k+1,t,t1,S,S1,x,h=>by
  unfold iter at h
  split at h
  ·rename_i t2 S2 Un
   exact(hf Un).trans (Di hf h)
  ·exact hf h
theorem m9{call:cx}(hc:gJ P call)(lf:Nat){df:Bool}:∀{c:am3} {t t1:Fr} {S S1:VS} {x:bf},cS P call lf df c t S=some (x,t1,S1)→dC S S1:=by
 intro c
 induction c with
 |skip=>
  intro t t1 S S1 x h
  simp only[cS,amr,amv]at h
  obtain⟨_,_,rfl⟩:=h
  exact dC.refl S
 |region id ops draw=>
  intro t t1 S S1 x h
  cases draw with
  |false=>exact zk hc h
  |true=>
   simp only[cS]at h
   split at h
   ·rename_i t2 S2 fP hd
    split at h
    ·simp only[amr,amv]at h
     obtain⟨_,_,rfl⟩:=h
     exact J6 hc hd
    ·cases h
   ·cases h
 |seq a b ir kC=>
  intro t t1 S S1 x h
  simp only[cS]at h
  split at h
  ·rename_i t2 S2 hx
   exact(ir hx).trans (kC h)
  ·exact ir h
 |cond c a b ir kC=>
  intro t t1 S S1 x h
  simp only[cS]at h
  split at h
  ·exact ir h
  ·exact kC h
  ·cases h
 |block id c ih=>
  intro t t1 S S1 x h
  simp only[cS]at h
  split at h
  ·rename_i j t2 S2 hx
   split at h
   ·simp only[amr,amv]at h
    obtain⟨_,_,rfl⟩:=h
    exact ih hx
   ·simp only[amr,amv]at h
    obtain⟨_,_,rfl⟩:=h
    exact ih hx
  ·exact ih h
 |loop c ih=>
  intro t t1 S S1 x h
  simp only[cS]at h
  exact Di (fun h=>ih h) h
 |exit id=>
  intro t t1 S S1 x h
  simp only[cS,amr,amv]at h
  obtain⟨_,_,rfl⟩:=h
  exact dC.refl S
 |ret=>
  intro t t1 S S1 x h
  simp only[cS,amr,amv]at h
  obtain⟨_,_,rfl⟩:=h
  exact dC.refl S
 |scope c ih=>
  intro t t1 S S1 x h
  simp only[cS]at h
  exact ih h
 |label l=>
  intro t t1 S S1 x h
  simp only[cS,amr,amv]at h
  obtain⟨_,_,rfl⟩:=h
  exact dC.refl S
 |_=>intro t t1 S S1 x h;simp[cS]at h
theorem FR.Dj{ρ:Ren}{t:Fr}{a:Act}(h:FR ρ t a){c:anX}{b:Bool}(hc:bK t c=.bool b):a.eval c=.bool b:=by
 cases c with
 |tmp i=>
  have h1:=h.at_ i
  have h2:t.at i=.bool b:=hc
  rw[h2]at h1
  exact h1.ua
 |const v=>exact hc
 |global g=>cases hc
 |func f=>cases hc
inductive XR(ρ:Ren):bf→aoF→Prop where
 |normal:XR ρ .normal .normal
 |exit (id:Nat):XR ρ (.exit id) (.exit id)
 |ret:XR ρ .ret .ret
 |panic (v v':amn) (h:VR ρ v v'):XR ρ (.panic v) (.panic [{v:=v',recovered:=false}])
variable {B:Nat→Prop} {w₀:amC}
theorem Uo{t t1:Fr}{o:anp}{c:Call}(hd:wb o=some c)(h:yB P t o c=some t1):∃(f:anX) (k:amY) (first captured:Array amn),o.guard=none∧c.callee=.value f∧o.op=.defer c∧
 bK t f=.func (.func k) first captured∧(oE f=true∧c.args.toList.all oE=true)∧(∃cb,(P.funcs[k]?).bind (·.body)=some cb)∧
 Vm.put {t with ds:=(k,(first.toList++c.args.toList.map (bK t))++captured.toList)::t.ds} o.dst undef=some t1:=by
 unfold yB at h
 split at h
 ·rename_i f hg iU
  split at h
  ·rename_i k first captured hok lK
   split at h
   ·rename_i cb Up
    rw[amB]at hok
    refine⟨f,k,first,captured,hg,iU,?_,lK,hok,⟨cb,Up⟩,h⟩
    unfold wb at hd
    split at hd
    ·rename_i c' nM;cases hd;exact nM
    ·cases hd
   ·cases h
  ·cases h
 ·cases h
theorem J7{α:Type}{ρ:Ren}{f g:α→amn}:∀{l:List α},(∀x∈l,VR ρ (f x) (g x))→LR ρ (l.map f) (l.map g)
 | [],_=>LR.nil _
 |x::l,h=>LR.cons (h x amN) (J7 fun y hy=>h y (amK _ hy))
theorem Uq{F:Fence}{n:Nat}{c:am3}{Q:aoF→Act→amC→Prop}{a:Act}{w:amC}(h:c.wpIn F n P (Exit.noGoto Q) a w):(Code.scope c).wpIn F n P Q a w:=by
 intro b k cs db hb hr
 have h0:(lone (b.atR a (.code (.scope c)::k)) cs w).fenced P F:=fenced_calm hb hr rfl
 have s1:step P (lone (b.atR a (.code (.scope c)::k)) cs w)=.next (lone (b.atR a (.code c:: .inScope c::k)) cs w):=step_lone_go (by simp[stepG,asp,asv])
 have s2:∀(a:Act) (w:amC),step P (lone (b.atR a (.inScope c::k)) cs w)=.next (lone (b.atR a k) cs w):=fun a w=>step_lone_go (by simp[stepG,asp,asv])
 obtain⟨e,a₁,w₁,hq,mr⟩:=h b (.inScope c::k) cs db hb hr
 cases e with
 |normal=>exact⟨.normal,a₁,w₁,hq,.head h0 s1 (StepsIn.trans mr (.one (fenced_calm hb hr rfl) (s2 a₁ w₁)))⟩
 |exit id=>exact⟨_,a₁,w₁,hq,.of_steps (.one h0 s1) ⟨fun k' hk=>mr.1 k' (by simpa[exitTo]using hk),fun hr hk=>mr.2 hr (by simpa[exitTo]using hk)⟩⟩
 |goto l=>exact hq.elim
 |ret=>exact⟨.ret,a₁,w₁,hq,aqA (e:=.ret) (k:=k) (.one h0 s1) mr⟩
 |panic ch=>exact⟨.panic ch,a₁,w₁,hq,aqA (e:=.panic ch) (k:=k) (.one h0 s1) mr⟩
 |outgrown=>exact⟨.outgrown,a₁,w₁,hq,aqA (e:=.outgrown) (k:=k) (.one h0 s1) mr⟩
theorem Dk(hP:hI P=true){call:cx}(hc:gJ P call){df:Bool}{r:Option Nat}(wS:df=true→r=none){ops:Array anp}:∀{rest:List anp} {k:Nat},(∀j,rest[j]?=ops[k+j]?)→∀{t t1:Fr} {S S1:VS} {x:bf},
 opsV P call df ops.toList rest t S=some (x,t1,S1)→∀{ρ:Ren} {m:Nat→Option ai} {w:amC} {a:Act},FR ρ t a→WR P B w₀ ρ m w→fv S S1 m→∀{Q:aoF→Act→amC→Prop},
 (∀(ρ':Ren) (e:aoF) (a':Act) (w':amC),ρ.le ρ'→XR ρ' x e→FR ρ' t1 a'→WR P B w₀ ρ' (post m S1) w'→Q e a' w')→wpOpsIn (FF r) 0 P ops Q (arA k rest.length) a w
 | [],k,hk,t,t1,S,S1,x,h,ρ,m,w,a,ht,hw,hm,Q,hQ=>by
  simp only[opsV,amr,amv]at h
  obtain⟨rfl,rfl,rfl⟩:=h
  have hp:post m S=m:=nO hm
  exact hQ ρ _ a w (Ren.le_refl ρ) .normal ht (by rw[hp];exact hw)
 |o::rest,k,hk,t,t1,S,S1,x,h,ρ,m,w,a,ht,hw,hm,Q,hQ=>by
  have ho:ops[k]?=some o:=by simpa using(hk 0).symm
  have uj:∀j,rest[j]?=ops[k+1+j]? :=fun j=>by have:=hk (j+1);simpa[aok,asa 1 j]using this
  rw[am9,ap1,wpOpsIn_cons]
  unfold opsV at h
  split at h
  ·rename_i c hd
   split at h
   ·split at h
    ·rename_i t2 Dl
     cases wS rfl
     obtain⟨f,k',first,captured,hg,iU,cJ,lK,hok,J8,hp⟩:=Uo hd Dl
     unfold wpOpIn
     simp only[ho]
     have gy:anZ o (yielded ops a.tmps)=true:=by unfold anZ;rw[hg]
     rw[if_pos gy]
     unfold asu
     refine⟨fun _ _=>trivial,?_⟩
     obtain⟨Ur,Us⟩:=hok
     have J9:=ht.eval Ur
     rw[lK]at J9
     obtain⟨f',c',Ut,Uu,wT⟩:=J9.wl
     have Dm:(o.semAt (FF none).round a.eval).run P w=.ok (.defer {target:=.fn (.func k') c',args:=f'++c.args.map a.eval}) w:=by
      show(execOp a.eval o).run P w=_
      unfold execOp
      rw[cJ]
      unfold resolve
      simp only[iU,Ut,aqK]
      rfl
     rw[Dm]
     show wpOpsIn (FF none) 0 P ops Q _ (({a with defers:=_::a.defers}:Act).put o.dst undef) w
     have iq:LR ρ (c.args.toList.map (bK t)) (c.args.map a.eval).toList:=by
      rw[ao9]
      exact J7 fun x hx=>ht.eval (am1.1 Us x hx)
     have lO:FR ρ {t with ds:=(k',(first.toList++c.args.toList.map (bK t))++captured.toList)::t.ds} {a with defers:={target:=.fn (.func k') c',args:=f'++c.args.map a.eval}::a.defers}:=
      ⟨ht.size,ht.small,ht.at_,.cons (by rw[aoi,aoi];exact(Uu.append iq).append wT) ht.defers⟩
     exact Dk hP hc wS uj h (lO.put (VR.undef ρ) hp) hw hm hQ
    ·cases h
   ·cases h
  rename_i de
  split at h
  ·cases h
  ·rename_i v t2 S2 cJ
   simp only[amr,amv]at h
   obtain⟨rfl,rfl,rfl⟩:=h
   refine C0 hP hc ho cJ ht hw hm (fun hh=>by cases hh) fun v2 hv ρ' v' w' hle fG cn cC=>?_
   cases hv
   exact hQ ρ' _ a w' hle (.panic v v' fG) cn cC
  ·rename_i t2 S2 cJ
   have e2:=zk hc h
   refine C0 hP hc ho cJ ht hw (hm.first e2) (fun _ ρ' a' w' hle cn _ cC=>?_) fun v2 hv=>by cases hv
   refine Dk hP hc wS uj h cn cC (hm.next (wM hc cJ)) fun ρ2 e a2 w2 jN hx k9 gL=>?_
   rw[nN e2]at gL
   exact hQ ρ2 e a2 w2 (Ren.le_trans hle jN) hx k9 gL
def Ka(P:amF)(r:Option Nat)(c:am3)(f:Fr→VS→Option (bf×Fr×VS)):Prop:=
 ∀{t t1:Fr} {S S1:VS} {x:bf},f t S=some (x,t1,S1)→∀{B:Nat→Prop} {w₀:amC} {ρ:Ren} {m:Nat→Option ai} {w:amC} {a:Act},FR ρ t a→WR P B w₀ ρ m w→fv S S1 m→
  ∀{Q:aoF→Act→amC→Prop},(∀(ρ':Ren) (e:aoF) (a':Act) (w':amC),ρ.le ρ'→XR ρ' x e→FR ρ' t1 a'→WR P B w₀ ρ' (post m S1) w'→Q e a' w')→c.wpIn (FF r) 0 P Q a w
theorem Kb{r:Option Nat}{c:am3}{f:Fr→VS→Option (bf×Fr×VS)}(hx:∀{t t1:Fr} {S S1:VS} {x:bf},f t S=some (x,t1,S1)→dC S S1)(hs:Ka P r c f):
 ∀{k:Nat} {t t1:Fr} {S S1:VS} {x:bf},iter f k t S=some (x,t1,S1)→∀{ρ:Ren} {m:Nat→Option ai} {w:amC} {a:Act},FR ρ t a→WR P B w₀ ρ m w→fv S S1 m→
 ∀{Q:aoF→Act→amC→Prop},(∀(ρ':Ren) (e:aoF) (a':Act) (w':amC),ρ.le ρ'→XR ρ' x e→FR ρ' t1 a'→WR P B w₀ ρ' (post m S1) w'→Q e a' w')→Code.roundsIn (FF r) 0 P c Q k a w
 |0,t,t1,S,S1,x,h,ρ,m,w,a,ht,hw,hm,Q,hQ=>by cases h
 |k+1,t,t1,S,S1,x,h,ρ,m,w,a,ht,hw,hm,Q,hQ=>by
  rw[roundsIn_succ]
  unfold iter at h
  split at h
  ·rename_i t2 S2 hf
   have e2:=Di hx h
   refine hs hf ht hw (hm.first e2) fun ρ' e a' w' hle dq cn cC=>?_
   cases dq
   refine Kb hx hs h cn cC (hm.next (hx hf)) fun ρ2 pY a2 w2 jN ju k9 gL=>?_
   rw[nN e2]at gL
   exact hQ ρ2 pY a2 w2 (Ren.le_trans hle jN) ju k9 gL
  ·rename_i bt
   refine hs h ht hw hm fun ρ' e a' w' hle dq cn cC=>?_
   cases dq with
   |normal=>exact absurd h (bt _ _)
   |_=>exact hQ ρ' _ a' w' hle (by constructor<;>assumption) cn cC
theorem sG(hP:hI P=true)(fh:P.follows .mixedOrders=true){call:cx}(hc:gJ P call)(lf:Nat){df:Bool}{r:Option Nat}(wS:df=true→r=none):∀(c:am3),Ka P r c (cS P call lf df c):=by
 intro c
 induction c with
 |skip=>
  intro t t1 S S1 x h B w₀ ρ m w a ht hw hm Q hQ
  simp only[cS,amr,amv]at h
  obtain⟨rfl,rfl,rfl⟩:=h
  exact wpIn_skip (hQ ρ _ a w (Ren.le_refl ρ) .normal ht (by rw[nO hm];exact hw))
 |region id ops draw=>
  intro t t1 S S1 x h B w₀ ρ m w a ht hw hm Q hQ
  cases draw with
  |false=>
   refine wpIn_region ?_
   have:=Dk hP hc wS (ops:=ops) (rest:=ops.toList) (k:=0) (fun j=>by simp) h ht hw hm hQ
   rw[aqe]
   simpa using this
  |true=>
   simp only[cS]at h
   split at h
   ·rename_i t2 S2 fP hd
    split at h
    ·rename_i hok
     simp only[amr,amv]at h
     obtain⟨rfl,rfl,rfl⟩:=h
     exact Ua hP fh hc hd hok ht hw hm fun ρ' a' w' hle cn cC=>hQ ρ' _ a' w' hle .normal cn cC
    ·cases h
   ·cases h
 |seq a b ir kC=>
  intro t t1 S S1 x h B w₀ ρ m w a ht hw hm Q hQ
  simp only[cS]at h
  refine wpIn_seq ?_
  split at h
  ·rename_i t2 S2 hx
   have e2:=m9 hc lf h
   refine ir hx ht hw (hm.first e2) fun ρ' e a' w' hle dq cn cC=>?_
   cases dq
   refine kC h cn cC (hm.next (m9 hc lf hx)) fun ρ2 pY a2 w2 jN ju k9 gL=>?_
   rw[nN e2]at gL
   exact hQ ρ2 pY a2 w2 (Ren.le_trans hle jN) ju k9 gL
  ·rename_i bt
   refine ir h ht hw hm fun ρ' e a' w' hle dq cn cC=>?_
   cases dq with
   |normal=>exact absurd h (bt _ _)
   |_=>exact hQ ρ' _ a' w' hle (by constructor<;>assumption) cn cC
 |cond c x y pZ p8=>
  intro t t1 S S1 x' h B w₀ ρ m w a ht hw hm Q hQ
  simp only[cS]at h
  split at h
  ·rename_i he;exact wpIn_cond_true (ht.Dj he) (pZ h ht hw hm hQ)
  ·rename_i he;exact wpIn_cond_false (ht.Dj he) (p8 h ht hw hm hQ)
  ·cases h
 |block id c ih=>
  intro t t1 S S1 x h B w₀ ρ m w a ht hw hm Q hQ
  simp only[cS]at h
  refine wpIn_block ?_
  split at h
  ·rename_i j t2 S2 hx
   split at h
   ·rename_i hj
    have j5:j=id:=amI hj
    simp only[amr,amv]at h
    obtain⟨rfl,rfl,rfl⟩:=h
    refine ih hx ht hw hm fun ρ' e a' w' hle dq cn cC=>?_
    cases dq
    simp only[aqf,j5,if_true]
    exact hQ ρ' _ a' w' hle .normal cn cC
   ·rename_i hj
    have j5:¬j=id:=fun e=>by rw[e,Nat.beq_refl]at hj;cases hj
    simp only[amr,amv]at h
    obtain⟨rfl,rfl,rfl⟩:=h
    refine ih hx ht hw hm fun ρ' e a' w' hle dq cn cC=>?_
    cases dq
    simp only[aqf,j5,if_false]
    exact hQ ρ' _ a' w' hle (.exit j) cn cC
  ·rename_i bt
   refine ih h ht hw hm fun ρ' e a' w' hle dq cn cC=>?_
   cases dq with
   |exit j=>exact absurd h (bt _ _ _)
   |_=>exact hQ ρ' _ a' w' hle (by constructor<;>assumption) cn cC
 |loop c ih=>
  intro t t1 S S1 x h B w₀ ρ m w a ht hw hm Q hQ
  simp only[cS]at h
  exact wpIn_loop_rounds lf (Kb (fun h=>m9 hc lf h) ih h ht hw hm hQ)
 |exit id=>
  intro t t1 S S1 x h B w₀ ρ m w a ht hw hm Q hQ
  simp only[cS,amr,amv]at h
  obtain⟨rfl,rfl,rfl⟩:=h
  exact wpIn_exit (hQ ρ _ a w (Ren.le_refl ρ) (.exit id) ht (by rw[nO hm];exact hw))
 |ret=>
  intro t t1 S S1 x h B w₀ ρ m w a ht hw hm Q hQ
  simp only[cS,amr,amv]at h
  obtain⟨rfl,rfl,rfl⟩:=h
  exact wpIn_ret (hQ ρ _ a w (Ren.le_refl ρ) .ret ht (by rw[nO hm];exact hw))
 |scope c ih=>
  intro t t1 S S1 x h B w₀ ρ m w a ht hw hm Q hQ
  simp only[cS]at h
  refine Uq (ih h ht hw hm fun ρ' e a' w' hle dq cn cC=>?_)
  cases dq<;>exact hQ ρ' _ a' w' hle (by constructor<;>assumption) cn cC
 |label l=>
  intro t t1 S S1 x h B w₀ ρ m w a ht hw hm Q hQ
  simp only[cS,amr,amv]at h
  obtain⟨rfl,rfl,rfl⟩:=h
  exact wpIn_label (hQ ρ _ a w (Ren.le_refl ρ) .normal ht (by rw[nO hm];exact hw))
 |_=>intro t t1 S S1 x h;simp[cS]at h
theorem Dn{ρ:Ren}{g:Nat→Option ai}{w:amC}(hw:WR P B w₀ ρ g w){t:Fr}{a:Act}(ht:FR ρ t a):∀{rs:List ResultVar} {vs:List amn} {l:List Nat},(gG P t rs).run g=some (vs,l)→
 ∃jp:List amn,(rs.mapM (m:=Sem) fun| .tmp t=>pure (a.tmps.getD t undef)| .cell b t=>do loadVar t (←asAddr (a.tmps.getD b undef))).run P w=.ok jp w∧LR ρ vs jp
 | [],vs,l,h=>by
  simp only[gG,Rd.run,amr,amv]at h
  obtain⟨rfl,rfl⟩:=h
  exact⟨[],rfl,LR.nil ρ⟩
 | .tmp i::rs,vs,l,h=>by
  simp only[gG]at h
  obtain⟨r,l1,l2,h1,h2,rfl⟩:=(Rd.run_bind _ _ _ _ _).1 h
  simp only[Rd.run,amr,amv]at h2
  obtain⟨rfl,rfl⟩:=h2
  obtain⟨jp,h3,h4⟩:=Dn hw ht h1
  refine⟨a.tmps.getD i undef::jp,?_,LR.cons (ht.at_ i) h4⟩
  rw[aqp]
  simp only[amp,am6,amo,h3]
 | .cell i ty::rs,vs,l,h=>by
  simp only[gG]at h
  split at h
  ·rename_i b off hp
   obtain⟨v,l1,l2,h1,h2,rfl⟩:=(Rd.run_bind _ _ _ _ _).1 h
   obtain⟨r,l3,l4,h3,h4,rfl⟩:=(Rd.run_bind _ _ _ _ _).1 h2
   simp only[Rd.run,amr,amv]at h4
   obtain⟨rfl,rfl⟩:=h4
   have hi:=ht.at_ i
   rw[hp]at hi
   obtain⟨Kc,hr,hi⟩:=hi.kx
   obtain⟨v',h5,h6⟩:=ug hw h1 hr
   obtain⟨jp,h7,h8⟩:=Dn hw ht h3
   refine⟨v'::jp,?_,LR.cons h6 h8⟩
   rw[aqp]
   have h9:(asAddr (a.tmps.getD i undef)).run P w=.ok ⟨Kc.aJ,Kc.sh+off,none⟩ w:=by rw[hi];rfl
   simp only[amp,am6,amo,h9,h5,h7]
  ·cases h
theorem Dp{ρ:Ren}{g:Nat→Option ai}{w:amC}(hw:WR P B w₀ ρ g w){t:Fr}{a:Act}(ht:FR ρ t a){fn:ap8}{vs:List amn}{l:List Nat}(h:(gG P t fn.results.toList).run g=some (vs,l)):
 ∃v',(results fn a.tmps).run P w=.ok v' w∧VR ρ (mg vs) v':=by
 obtain⟨jp,h1,h2⟩:=Dn hw ht h
 have h3:∀F:ResultVar→Sem amn,(fn.results.toList.mapM F).run P w=.ok jp w→(fn.results.mapM F).run P w=.ok jp.toArray w:=by
  intro F hF
  rw[Array.mapM_eq_mapM_toList]
  show(fn.results.toList.mapM F>>=fun l=>pure l.toArray).run P w=_
  rw[amp,hF]
  rfl
 unfold results
 rw[amp]
 refine⟨(if h:jp.toArray.size=1 then jp.toArray[0]else .tuple jp.toArray),?_,?_⟩
 ·exact Eq.trans (congrArg (fun r=>Result.andThen r _) (h3 _ h1)) rfl
 ·cases vs with
  |nil=>
   rw[h2.kw]
   exact VR.yI (LR.nil ρ)
  |cons v vs=>
   obtain⟨v',r,rfl,h4,h5⟩:=h2.gq
   cases vs with
   |nil=>rw[h5.kw];exact h4
   |cons u vs=>
    obtain⟨u',r',rfl,h6,h7⟩:=h5.gq
    have:¬((v'::u'::r').toArray.size=1):=by simp
    rw[dif_neg this]
    exact VR.yI h2
theorem Fr.wU:∀{args:List amn} {i:Nat} {t:Tr amn} {j:Nat},i+args.length≤1024→j<1024→
 (Fr.qz args i t).get 10 j=if i≤j∧j<i+args.length then args[j-i]?else t.get 10 j
 | [],i,t,j,h,hj=>by
  have:¬(i≤j∧j<i+([]:List amn).length):=by simp
  rw[if_neg this];rfl
 |v::args,i,t,j,h,hj=>by
  simp only[am9]at h⊢
  unfold Fr.qz
  rw[Fr.wU (by omega) hj]
  have bI:(2:Nat)^10=1024:=rfl
  by_cases h1:i+1≤j∧j<i+1+args.length
  ·rw[if_pos h1,if_pos (by omega),show j-i=(j-(i+1))+1 by omega,anD]
  ·rw[if_neg h1,Tr.we 10 _ _ _ _ (by omega) (by omega)]
   by_cases h2:j=i
   ·subst h2
    rw[if_pos rfl,if_pos (by omega)]
    simp
   ·rw[if_neg h2,if_neg (by omega)]
theorem Fr.Dq{ρ:Ren}{args:List amn}{args':Array amn}(ha:LR ρ args args'.toList){n:Nat}{t0:Fr}(h:Fr.of args n=some t0):
 FR ρ t0 {tmps:=args'++aoy (n-args'.size) undef,defers:=[]}:=by
 unfold Fr.of at h
 split at h
 ·rename_i hb
  cases h
  simp only[amB]at hb
  have h1:args.length≤n:=by simpa[arK]using hb.1
  have h2:n≤1024:=by simpa[arK]using hb.2
  have hlen:args.length=args'.size:=by have:=ha.len;simpa using this
  refine⟨by simp;omega,h2,fun i=>?_,.nil⟩
  unfold Fr.at
  dsimp only
  by_cases hi:i<n
  ·rw[dI.2 hi]
   dsimp only
   rw[Fr.wU (by omega) (by omega),Tr.Cc]
   rw[am4]
   by_cases Kd:i<args.length
   ·rw[if_pos (by omega),apz (by omega)]
    obtain⟨v',h3,h4⟩:=ha.get (amt Kd)
    have h5:args'[i]?=some v':=by simpa using h3
    rw[h5]
    simp only[Nat.sub_zero,amt Kd]
    exact h4
   ·rw[if_neg (by omega),Array.getElem?_append_right (by omega)]
    have:(aoy (n-args'.size) undef)[i-args'.size]?=some undef:=by
     rw[Array.getElem?_replicate,if_pos (by omega)]
    rw[this]
    exact VR.undef ρ
  ·have hb:amG i n=false:=by cases hb:amG i n with
    |false=>rfl
    |true=>exact absurd (dI.1 hb) hi
   rw[hb]
   dsimp only
   rw[am4,app (by simp;omega)]
   exact VR.undef ρ
 ·cases h
theorem Dr{t:Fr}{fn:ap8}{S S1:VS}{r:bL}(h:ny P t fn S=some (r,S1)):
 ∃vs l,(gG P t fn.results.toList).run (gt S.mem)=some (vs,l)∧r=.ret (mg vs)∧S1={S with rd:=l++S.rd}:=by
 unfold ny at h
 split at h
 ·rename_i vs l hr
  simp only[amr,amv]at h
  exact⟨vs,l,hr,h.1.symm,h.2.symm⟩
 ·cases h
theorem zl{t:Fr}{fn:ap8}{S S1:VS}{r:bL}(h:ny P t fn S=some (r,S1)):dC S S1:=by
 obtain⟨vs,l,hr,_,rfl⟩:=Dr h
 refine⟨fun x hx=>amU.2 (.inr hx),fun x hx=>hx,fun x _=>rfl,fun hS x hx=>?_⟩
 rcases hx with hx|hx
 ·rcases amU.1 hx with hx|hx
  ·obtain⟨o,ho⟩:=Rd.yH hr x hx;exact oL ho
  ·exact hS x (.inl hx)
 ·exact hS x (.inr hx)
def j8(ρ:Ren):Md→aoT→Prop
 | .ret,u=>u=.returning
 | .mh v,u=>∃v',u=.panicking [{v:=v',recovered:=false}]∧VR ρ v v'
theorem j8.mono{ρ ρ':Ren}(hl:ρ.le ρ'):∀{md:Md} {u:aoT},j8 ρ md u→j8 ρ' md u
 | .ret,_,h=>h
 | .mh v,_,⟨v',h,hv⟩=>⟨v',h,hv.mono hl⟩
theorem j8.settled{ρ:Ren}:∀{md:Md} {u:aoT},j8 ρ md u→j8 ρ md (settle u)
 | .ret,_,h=>by cases h;rfl
 | .mh v,_,⟨v',h,hv⟩=>⟨v',by rw[h];rfl,hv⟩
theorem j8.Uv{ρ:Ren}:∀{md:Md} {u:aoT},j8 ρ md u→u≠ .run
 | .ret,_,h=>by cases h;simp
 | .mh v,_,⟨v',h,hv⟩=>by rw[h];simp
theorem Ds:∀{rest:List anp} {t t1:Fr} {S S1:VS},oI P rest t S=some (t1,S1)→dC S S1
 | [],t,t1,S,S1,h=>by
  simp only[oI,amr,amv]at h
  obtain⟨_,rfl⟩:=h
  exact dC.refl S
 |o::rest,t,t1,S,S1,h=>by
  unfold oI at h
  split at h
  ·cases h
  ·split at h
   ·rename_i v S2 hs
    split at h
    ·exact(wK hs).trans (Ds h)
    ·cases h
   ·cases h
theorem Dt(hP:hI P=true){ops:Array anp}:∀{rest:List anp} {k:Nat},(∀j,rest[j]?=ops[k+j]?)→∀{t t1:Fr} {S S1:VS},
 oI P rest t S=some (t1,S1)→∀{ρ:Ren} {m:Nat→Option ai} {w:amC} {a:Act} {cs:List aqg},FR ρ t a→WR P B w₀ ρ m w→fv S S1 m→∀{Q:aoF→Act→List aqg→amC→Prop},
 (∀(ρ':Ren) (a':Act) (w':amC),ρ.le ρ'→FR ρ' t1 a'→WR P B w₀ ρ' (post m S1) w'→Q .normal a' cs w')→wpOpsS P ops Q (arA k rest.length) a cs w
 | [],k,hk,t,t1,S,S1,h,ρ,m,w,a,cs,ht,hw,hm,Q,hQ=>by
  simp only[oI,amr,amv]at h
  obtain⟨rfl,rfl⟩:=h
  exact hQ ρ a w (Ren.le_refl ρ) ht (by rw[nO hm];exact hw)
 |o::rest,k,hk,t,t1,S,S1,h,ρ,m,w,a,cs,ht,hw,hm,Q,hQ=>by
  have ho:ops[k]?=some o:=by simpa using(hk 0).symm
  have uj:∀j,rest[j]?=ops[k+1+j]? :=fun j=>by have:=hk (j+1);simpa[aok,asa 1 j]using this
  rw[am9,ap1]
  unfold wpOpsS
  simp only[ho]
  unfold oI at h
  split at h
  ·cases h
  ·rename_i hg
   have gy:anZ o (yielded ops a.tmps)=true:=by unfold anZ;rw[hg]
   rw[if_pos gy]
   split at h
   ·rename_i v S2 hs
    split at h
    ·rename_i t2 hp
     have e2:=Ds h
     obtain⟨ρ',w',h1,h2,h3⟩:=uu hP hs ht hw (hm.first e2)
     generalize(execOp a.eval o).run P w=q at h2
     cases h2 with
     |val _ v' _ hv=>
      refine Dt hP uj h ((ht.mono h1).put hv hp) h3 (hm.next (wK hs)) fun ρ2 a2 w2 jN k9 gL=>?_
      rw[nN e2]at gL
      exact hQ ρ2 a2 w2 (Ren.le_trans h1 jN) k9 gL
    ·cases h
   ·cases h
theorem Du{call:cx}(hc:gJ P call){lf:Nat}{md:Md}:∀{c:am3} {t t1:Fr} {S S1:VS} {fk:Md} {x:bf},jF P call lf md c t S=some (fk,x,t1,S1)→dC S S1:=by
 intro c
 have nQ:∀{c:am3} {t t1:Fr} {S S1:VS} {fk:Md} {x:bf},(cS P call lf false c t S).map (fun r=>(md,r))=some (fk,x,t1,S1)→dC S S1:=by
  intro c t t1 S S1 fk x h
  simp only[anv,amv]at h
  obtain⟨_,jv,rfl,rfl⟩:=h
  exact m9 hc lf jv
 induction c with
 |seq a b ir kC=>
  intro t t1 S S1 fk x h
  unfold jF at h
  split at h
  ·rename_i Uw t2 S2 h1
   simp only[anv,amv]at h
   obtain⟨_,jv,rfl,rfl⟩:=h
   exact(ir h1).trans (m9 hc lf jv)
  ·exact ir h
 |region id ops draw=>
  intro t t1 S S1 fk x h
  cases draw with
  |true=>unfold jF at h;exact nQ h
  |false=>
   unfold jF at h
   split at h
   ·split at h
    ·split at h
     ·split at h
      ·rename_i hq
       simp only[amr,amv]at h
       obtain⟨_,_,_,rfl⟩:=h
       exact Ds hq
      ·cases h
     ·cases h
    ·exact nQ h
   ·cases h
 |_=>intro t t1 S S1 fk x h;unfold jF at h;exact nQ h
abbrev Ke(P:amF)(B:Nat→Prop)(w₀:amC)(ρ:Ren)(m:Nat→Option ai)(fk:Md)(x:bf)(t1:Fr)(S1:VS)(c₀:aqg)(cs:List aqg)(Q:aoF→Act→List aqg→amC→Prop):Prop:=
 ∀(ρ':Ren) (e:aoF) (a':Act) (u':aoT) (w':amC),ρ.le ρ'→XR ρ' x e→FR ρ' t1 a'→j8 ρ' fk (settle u')→WR P B w₀ ρ' (post m S1) w'→Q e a' ({c₀ with mode:=u'}::cs) w'
theorem Ux(hP:hI P=true)(fh:P.follows .mixedOrders=true){call:cx}(hc:gJ P call){lf:Nat}{md:Md}:∀{c:am3} {t t1:Fr} {S S1:VS} {fk:Md} {x:bf},
 jF P call lf md c t S=some (fk,x,t1,S1)→∀{ρ:Ren} {m:Nat→Option ai} {w:amC} {a:Act} {c₀:aqg} {cs:List aqg},FR ρ t a→WR P B w₀ ρ m w→fv S S1 m→j8 ρ md c₀.mode→
 ∀{Q:aoF→Act→List aqg→amC→Prop},Ke P B w₀ ρ m fk x t1 S1 c₀ cs Q→c.wpS P Q a (c₀::cs) w:=by
 intro c
 have nQ:∀{c:am3} {t t1:Fr} {S S1:VS} {fk:Md} {x:bf},(cS P call lf false c t S).map (fun r=>(md,r))=some (fk,x,t1,S1)→∀{ρ:Ren} {m:Nat→Option ai} {w:amC} {a:Act} {c₀:aqg} {cs:List aqg},FR ρ t a→WR P B w₀ ρ m w→fv S S1 m→j8 ρ md c₀.mode→
  ∀{Q:aoF→Act→List aqg→amC→Prop},Ke P B w₀ ρ m fk x t1 S1 c₀ cs Q→c.wpS P Q a (c₀::cs) w:=by
  intro c t t1 S S1 fk x h ρ m w a c₀ cs ht hw hm ib Q hQ
  ·simp only[anv,amv]at h
   obtain⟨_,jv,rfl,rfl⟩:=h
   refine wpS_of_wp (ap5.1 (sG hP fh hc lf (r:=none) (fun h=>by cases h) c jv ht hw hm fun ρ' e a' w' hle dq cn cC=>?_))
   exact hQ ρ' e a' c₀.mode w' hle dq cn (ib.mono hle).settled cC
 induction c with
 |seq a b ir kC=>
  intro t t1 S S1 fk x h ρ m w ac c₀ cs ht hw hm ib Q hQ
  unfold jF at h
  refine wpS_seq ?_
  split at h
  ·rename_i Uw t2 S2 h1
   ·simp only[anv,amv]at h
    obtain⟨_,jv,rfl,rfl⟩:=h
    have e2:=m9 hc lf jv
    refine ir h1 ht hw (hm.first e2) ib fun ρ' e a' u' w' hle dq cn nR cC=>?_
    cases dq
    refine wpS_of_wp (ap5.1 (sG hP fh hc lf (r:=none) (fun h=>by cases h) b jv cn cC (hm.next (Du hc h1)) fun ρ2 pY a2 w2 jN ju k9 gL=>?_))
    rw[nN e2]at gL
    exact hQ ρ2 pY a2 u' w2 (Ren.le_trans hle jN) ju k9 (nR.mono jN) gL
  ·rename_i bt
   refine ir h ht hw hm ib fun ρ' e a' u' w' hle dq cn nR cC=>?_
   cases dq with
   |normal=>exact absurd h (bt _ _ _)
   |_=>exact hQ ρ' _ a' u' w' hle (by constructor<;>assumption) cn nR cC
 |region id ops draw=>
  intro t t1 S S1 fk x h ρ m w a c₀ cs ht hw hm ib Q hQ
  cases draw with
  |true=>unfold jF at h;exact nQ h ht hw hm ib hQ
  |false=>
   unfold jF at h
   split at h
   ·rename_i o rest lL
    split at h
    ·rename_i la
     split at h
     ·rename_i t2 hp
      split at h
      ·rename_i t3 S2 hq
       simp only[amr,amv]at h
       obtain⟨rfl,rfl,rfl,rfl⟩:=h
       refine wpS_region ?_
       have cc:ops.size=rest.length+1:=by rw[←Array.length_toList,lL];rfl
       have ho:ops[0]?=some o:=by rw[←an5,lL];rfl
       rw[aqe,cc,ap1]
       obtain⟨at_,ty,cJ,hg⟩:∃ar at_,o.op=.call ⟨.builtin .recover,ar,at_⟩∧o.guard=none:=by
        unfold Cb at la
        split at la
        ·rename_i ar at_ h1 h2;exact⟨ar,at_,h1,h2⟩
        ·cases la
       unfold wpOpsS
       simp only[ho]
       have gy:anZ o (yielded ops a.tmps)=true:=by unfold anZ;rw[hg]
       rw[if_pos gy]
       have Dm:(execOp a.eval o).run P w=.ok .recover w:=by
        unfold execOp
        rw[cJ]
        rfl
       rw[Dm]
       have hk:∀j,rest[j]?=ops[0+1+j]? :=fun j=>by
        rw[←an5,lL,show 0+1+j=j+1 by omega];rfl
       cases md with
       |ret=>
        have zm:c₀.mode=.returning:=ib
        have gv:recoverD (c₀::cs)=none:=by simp[recoverD,zm]
        simp only[gv]
        exact Dt hP hk hq (ht.put (.bH _ rfl) hp) hw hm fun ρ' a' w' hle cn cC=>hQ ρ' .normal a' c₀.mode w' hle .normal cn (by rw[zm];rfl) cC
       |mh v=>
        obtain⟨v',zm,hv⟩:=ib
        have gv:recoverD (c₀::cs)=some (v',{c₀ with mode:=.panicking [{v:=v',recovered:=true}]}::cs):=by simp[recoverD,zm]
        simp only[gv]
        exact Dt hP hk hq (ht.put hv hp) hw hm fun ρ' a' w' hle cn cC=>hQ ρ' .normal a' _ w' hle .normal cn rfl cC
      ·cases h
     ·cases h
    ·exact nQ h ht hw hm ib hQ
   ·cases h
 |_=>intro t t1 S S1 fk x h ρ m w a c₀ cs ht hw hm ib Q hQ;unfold jF at h;exact nQ h ht hw hm ib hQ
theorem Dv{call:cx}{lf:Nat}{md:Md}{k:amY}{args:List amn}{S S':VS}{iG:Md}(h:r6 P call lf md k args S=some (iG,S')):
 ∃fn c t0 x t S1 r,P.funcs[k]?=some fn∧fn.body=some c∧Fr.of args fn.ntmps=some t0∧jF P call lf md c t0 S=some (iG,x,t,S1)∧(x=.normal∨x=.ret)∧t.ds=[]∧t.base=[]∧ny P t fn S1=some (r,S'):=by
 unfold r6 at h
 split at h
 ·cases h
 ·rename_i fn gh
  split at h
  ·cases h
  ·rename_i c hb
   split at h
   ·cases h
   ·rename_i t0 ld
    split at h
    ·rename_i fk x t S1 sH
     split at h
     ·rename_i fR pK
      split at h
      ·rename_i r S2 hl
       simp only[amr,amv]at h
       obtain⟨rfl,rfl⟩:=h
       exact⟨fn,c,t0,_,t,S1,r,gh,hb,ld,sH,.inl rfl,fR,pK,hl⟩
      ·cases h
     ·rename_i fR pK
      split at h
      ·rename_i r S2 hl
       simp only[amr,amv]at h
       obtain⟨rfl,rfl⟩:=h
       exact⟨fn,c,t0,_,t,S1,r,gh,hb,ld,sH,.inr rfl,fR,pK,hl⟩
      ·cases h
     ·cases h
    ·cases h
theorem Kf{call:cx}(hc:gJ P call){lf:Nat}{md:Md}{k:amY}{args:List amn}{S S':VS}{iG:Md}(h:r6 P call lf md k args S=some (iG,S')):dC S S':=by
 obtain⟨fn,c,t0,x,t,S1,r,_,_,_,sH,_,_,_,hl⟩:=Dv h
 exact(Du hc sH).trans (zl hl)
theorem Uy(hP:hI P=true)(fh:P.follows .mixedOrders=true){call:cx}(hc:gJ P call){lf:Nat}{md:Md}{k:amY}{args:List amn}{S S':VS}{iG:Md}
 (h:r6 P call lf md k args S=some (iG,S')){ρ:Ren}{m:Nat→Option ai}{w:amC}{args':Array amn}{u:aoT}(ib:j8 ρ md u)(ha:LR ρ args args'.toList)(hw:WR P B w₀ ρ m w)(hm:fv S S' m)
 {R:aqM→aoT→amC→Prop}(hR:∀(ρ':Ren) (v:amn) (u':aoT) (w':amC),ρ.le ρ'→j8 ρ' iG (settle u')→WR P B w₀ ρ' (post m S') w'→R (.returned v) u' w'):CallsD P k args' u w R:=by
 obtain⟨fn,c,t0,x,t,S1,r,gh,hb,ld,sH,hx,fR,pK,hl⟩:=Dv h
 refine callsD_of_wpS gh hb fun c₀ cs hu=>?_
 subst hu
 have e2:=zl hl
 have e1:=Du hc sH
 obtain⟨vs,l,pV,rfl,rfl⟩:=Dr hl
 refine Ux hP fh hc sH (Fr.Dq ha ld) hw (hm.first e2) ib fun ρ' e a' u' w' hle dq cn nR cC=>?_
 have mq:=hm.next e1
 have Dw:(gG P t fn.results.toList).run (post m S1)=some (vs,l):=Rd.yG pV fun y hy=>mq y (.inl (amU.2 (.inl hy)))
 obtain⟨v',h1,h2⟩:=Dp cC cn Dw
 have hd:a'.defers=[]:=by rw[cn.qN fR,pK]
 have fin:a'.defers=[]∧∃u1,({c₀ with mode:=u'}::cs:List aqg)={c₀ with mode:=u1}::cs∧∃v,(results fn a'.tmps).run P w'=.ok v w'∧R (.returned v) u1 w':=
  ⟨hd,u',rfl,v',h1,hR ρ' v' u' w' hle nR cC⟩
 rcases hx with rfl|rfl<;>cases dq<;>exact fin
theorem wV{call:cx}(hc:gJ P call){lf:Nat}:∀{ds:List (amY×List amn)} {md iG:Md} {S S':VS},nz P call lf ds md S=some (iG,S')→dC S S'
 | [],md,iG,S,S',h=>by
  simp only[nz,amr,amv]at h
  obtain⟨_,rfl⟩:=h
  exact dC.refl S
 |(k,args)::l,md,iG,S,S',h=>by
  unfold nz at h
  split at h
  ·rename_i fk S1 h1
   exact(Kf hc h1).trans (wV hc h)
  ·cases h
theorem enters(hP:hI P=true){k:amY}{fn:ap8}{c:am3}(hf:P.funcs[k]?=some fn)(hb:fn.body=some c)(args:Array amn)(w:amC):(callFunc k args).run P w=.ok (.enter k args) w:=by
 have kY:(fn.name== "runtime.NumGoroutine")=false:=by
  have:=am1.1 hP fn (by rw[an2];exact aq3 hf)
  simpa using this
 unfold callFunc
 rw[amp,aor,amo]
 simp only[hf,kY,hb,aro,anr,if_false,am6]
theorem Dx(hP:hI P=true)(fh:P.follows .mixedOrders=true){call:cx}(hc:gJ P call){lf:Nat}{fn:ap8}{tmps:Array amn}{R:aqM→amC→Prop}:
 ∀{ds:List (amY×List amn)} {l:List an1} {md iG:Md} {S S':VS},nz P call lf ds md S=some (iG,S')→∀{ρ:Ren} {m:Nat→Option ai} {w:amC} {u:aoT},pT ρ [] ds l→j8 ρ md u→WR P B w₀ ρ m w→fv S S' m→
 (∀(ρ':Ren) (u':aoT) (w':amC),ρ.le ρ'→j8 ρ' iG u'→WR P B w₀ ρ' (post m S') w'→asb P fn tmps R [] u' w')→asb P fn tmps R l u w
 | [],l,md,iG,S,S',h,ρ,m,w,u,hd,ib,hw,hm,hK=>by
  simp only[nz,amr,amv]at h
  obtain⟨rfl,rfl⟩:=h
  cases hd
  exact hK ρ u w (Ren.le_refl ρ) ib (by rw[nO hm];exact hw)
 |(k,args)::ds,l,md,iG,S,S',h,ρ,m,w,u,hd,ib,hw,hm,hK=>by
  unfold nz at h
  split at h
  ·rename_i fk S1 h1
   have e2:=wV hc h
   cases hd with
   |cons iq zn=>
    obtain⟨akR,c,_,_,_,_,_,gh,hb,_⟩:=Dv h1
    refine leaves_cons ib.Uv (f:=k) (enters hP gh hb _ _) ?_
    refine Uy hP fh hc h1 ib iq hw (hm.first e2) fun ρ' v u' w' hle nR cC=>?_
    refine Dx hP fh hc h (zn.mono hle) nR cC (hm.next (Kf hc h1)) fun ρ2 u2 w2 jN Kg gL=>?_
    rw[nN e2]at gL
    exact hK ρ2 u2 w2 (Ren.le_trans hle jN) Kg gL
  ·cases h
theorem Kh{call:cx}{lf:Nat}{fn:ap8}{md:Md}{t:Fr}{S S':VS}{r:bL}(h:oJ P call lf fn md t S=some (r,S')):
 t.base=[]∧∃iG S1,nz P call lf t.ds md S=some (iG,S1)∧((iG=.ret∧ny P t fn S1=some (r,S'))∨∃v,iG=.mh v∧r=.panic v∧S'=S1):=by
 unfold oJ at h
 split at h
 ·rename_i hb
  refine⟨hb,?_⟩
  split at h
  ·rename_i S1 h1;exact⟨_,S1,h1,.inl ⟨rfl,h⟩⟩
  ·rename_i v S1 h1
   simp only[amr,amv]at h
   exact⟨_,S1,h1,.inr ⟨v,rfl,h.1.symm,h.2.symm⟩⟩
  ·cases h
 ·cases h
theorem Ki{call:cx}(hc:gJ P call){lf:Nat}{fn:ap8}{md:Md}{t:Fr}{S S':VS}{r:bL}(h:oJ P call lf fn md t S=some (r,S')):dC S S':=by
 obtain⟨_,iG,S1,h1,h2⟩:=Kh h
 rcases h2 with⟨_,hl⟩|⟨v,_,_,rfl⟩
 ·exact(wV hc h1).trans (zl hl)
 ·exact wV hc h1
theorem Uz(hP:hI P=true)(fh:P.follows .mixedOrders=true){call:cx}(hc:gJ P call){lf:Nat}{fn:ap8}{md:Md}{t:Fr}{S S':VS}{r:bL}(h:oJ P call lf fn md t S=some (r,S'))
 {ρ:Ren}{m:Nat→Option ai}{w:amC}{a:Act}{u:aoT}(ht:FR ρ t a)(ib:j8 ρ md u)(hw:WR P B w₀ ρ m w)(hm:fv S S' m)
 {R:aqM→amC→Prop}(hR:∀(ρ':Ren) (e:aqM) (w':amC),ρ.le ρ'→CR ρ' r e→WR P B w₀ ρ' (post m S') w'→R e w'):asb P fn a.tmps R a.defers u w:=by
 obtain⟨hb,iG,S1,h1,h2⟩:=Kh h
 have fR:=ht.defers
 rw[hb]at fR
 rcases h2 with⟨rfl,hl⟩|⟨v,rfl,rfl,rfl⟩
 ·have e2:=zl hl
  obtain⟨vs,l,pV,rfl,rfl⟩:=Dr hl
  refine Dx hP fh hc h1 fR ib hw (hm.first e2) fun ρ' u' w' hle nR cC=>?_
  cases nR
  have mq:=hm.next (wV hc h1)
  have Dw:(gG P t fn.results.toList).run (post m S1)=some (vs,l):=Rd.yG pV fun y hy=>mq y (.inl (amU.2 (.inl hy)))
  obtain⟨v',h3,h4⟩:=Dp cC (ht.mono hle) Dw
  exact⟨v',h3,hR ρ' _ w' hle h4 cC⟩
 ·refine Dx hP fh hc h1 fR ib hw hm fun ρ' u' w' hle nR cC=>?_
  obtain⟨v',rfl,hv⟩:=nR
  exact hR ρ' _ w' hle ⟨v',rfl,hv⟩ cC
theorem Kj(hP:hI P=true)(fh:P.follows .mixedOrders=true){sp:cx→cx}(cW:∀call,gJ P call→gJ P (sp call))(lf:Nat):∀(d:Nat),gJ P (lG P sp lf d)
 |0=>{ext:=(by intro f args S r S' h;cases h),ok:=(by intro f args S r S' h;cases h)}
 |d+1=>by
  have hc:=cW _ (Kj hP fh cW lf d)
  have body:∀{f:amY} {args:List amn} {S:VS} {r:bL} {S':VS},lG P sp lf (d+1) f args S=some (r,S')→
   ∃fn c t0 x t S1 md,P.funcs[f]?=some fn∧fn.body=some c∧Fr.of args fn.ntmps=some t0∧cS P (sp (lG P sp lf d)) lf true c t0 S=some (x,t,S1)∧
    (((x=.normal∨x=.ret)∧md=.ret)∨∃v,x=.panic v∧md=.mh v)∧oJ P (sp (lG P sp lf d)) lf fn md t S1=some (r,S'):=by
   intro f args S r S' h
   unfold lG at h
   split at h
   ·cases h
   ·rename_i fn gh
    split at h
    ·cases h
    ·rename_i c hb
     split at h
     ·cases h
     ·rename_i t0 ld
      split at h
      ·rename_i t S1 jv;exact⟨fn,c,t0,_,t,S1,_,gh,hb,ld,jv,.inl ⟨.inl rfl,rfl⟩,h⟩
      ·rename_i t S1 jv;exact⟨fn,c,t0,_,t,S1,_,gh,hb,ld,jv,.inl ⟨.inr rfl,rfl⟩,h⟩
      ·rename_i v t S1 jv;exact⟨fn,c,t0,_,t,S1,_,gh,hb,ld,jv,.inr ⟨v,rfl,rfl⟩,h⟩
      ·cases h
  refine⟨fun h=>?_,fun h=>?_⟩
  ·obtain⟨fn,c,t0,x,t,S1,md,gh,hb,ld,jv,hr,he⟩:=body h
   exact(m9 hc lf jv).trans (Ki hc he)
  ·intro B w₀ ρ m w args' ha hw hm
   obtain⟨fn,c,t0,x,t,S1,md,gh,hb,ld,jv,hr,he⟩:=body h
   refine calls_of_wp_defers gh hb ?_
   refine(ap5 (n:=0)).1 ?_
   have e2:=Ki hc he
   have e1:=m9 hc lf jv
   refine sG hP fh hc lf (r:=none) (fun _=>rfl) c jv (Fr.Dq ha ld) hw (hm.first e2) fun ρ' e a' w' hle dq cn cC=>?_
   have fin:∀u,j8 ρ' md u→asb P fn a'.tmps (fun e w'=>∃ρ',ρ.le ρ'∧CR ρ' _ e∧WR P B w₀ ρ' (post m _) w') a'.defers u w':=fun u ib=>
    Uz hP fh hc he cn ib cC (hm.next e1) fun ρ2 e w2 h1 h2 h3=>⟨ρ2,Ren.le_trans hle h1,h2,by rwa[nN e2]at h3⟩
   rcases hr with⟨hx,rfl⟩|⟨v,rfl,rfl⟩
   ·rcases hx with rfl|rfl<;>cases dq<;>exact fin _ rfl
   ·cases dq with
    |panic _ v' hv=>exact fin _ ⟨v',rfl,hv⟩
theorem WR.start(w:amC)(he:Env (fun k=>k<w.heap.size) w):WR P (fun k=>k<w.heap.size) w (fun _=>none) (fun _=>none) w:=
 {below:=fQ.refl _ _,env:=he,size:=fun _ h=>h,live:=(by intro x o r h;cases h),inj:=(by intro x y ox oy rx ry h;cases h),fresh:=fun _ _=>rfl,rows:=(by intro x n s q h;cases h),nil:=(by intro x el ro r h;cases h),named:=(by intro x o h;cases h),abs:=.none (by intro x d h;cases h)}
end
end Go.Proofs.Ytnlkkgpcikkpoaa.Vm
namespace Go.Proofs.Ytnlkkgpcikkpoaa.Vm
open Go.RowKit
def Fr.dx(b:List an1)(f:Fr):Fr:={f with base:=b}
theorem Fr.wW(b:List an1)(f:Fr)(i:Nat):(f.dx b).at i=f.at i:=rfl
theorem Dy(b:List an1)(f:Fr):bK (f.dx b)=bK f:=by
 funext x;cases x<;>rfl
theorem UA{P:amF}(b:List an1)(t:Fr)(S:VS)(o:anp):jd P (t.dx b) S o=jd P t S o:=by
 have h0:mW P (t.dx b) S o=mW P t S o:=by unfold mW;rw[Dy]
 have h1:kV P (t.dx b) S o=kV P t S o:=by unfold kV;rw[Dy]
 unfold jd
 rw[h1,h0]
theorem UB(b:List an1)(t:Fr)(i:Nat)(v:amn):(t.dx b).set i v=(t.set i v).map (Fr.dx b):=by
 rw[Fr.qy,Fr.qy]
 show(match amG i t.n with|true=>_|false=>_)=_
 cases amG i t.n<;>rfl
theorem zo(b:List an1)(t:Fr)(d:Option Tmp)(v:amn):put (t.dx b) d v=(put t d v).map (Fr.dx b):=by
 cases d with
 |none=>rfl
 |some d=>exact UB b t d v
theorem UC(b:List an1)(ops:List anp)(t:Fr):kW ops (t.dx b)=kW ops t:=by
 funext j;unfold kW;rfl
def wX{α β:Type}(b:List an1):α×Fr×β→α×Fr×β:=fun p=>(p.1,p.2.1.dx b,p.2.2)
def UD{β:Type}(b:List an1):Fr×β→Fr×β:=fun p=>(p.1.dx b,p.2)
theorem Kk{P:amF}{call:cx}(b:List an1)(ops:List anp)(o:anp)(t:Fr)(S:VS):jZ P call ops o (t.dx b) S=(jZ P call ops o t S).map (wX b):=by
 unfold jZ
 rw[UC,UA]
 cases anZ o (kW ops t)with
 |false=>simp only[zo,aqs];cases put t o.dst undef<;>rfl
 |true=>
  dsimp only
  cases hs:jd P t S o with
  |none=>rfl
  |some p=>
   obtain⟨r,S1⟩:=p
   dsimp only
   cases r with
   |val v=>dsimp only;simp only[zo,aqs];cases put t o.dst v<;>rfl
   |skip=>dsimp only;simp only[zo,aqs];cases put t o.dst undef<;>rfl
   |panic v=>rfl
   |defer d=>rfl
   |enter f args=>
    dsimp only
    cases hc:call f args S1 with
    |none=>rfl
    |some q=>
     obtain⟨cr,S2⟩:=q
     cases cr with
     |ret v=>dsimp only;simp only[zo,aqs];cases put t o.dst v<;>rfl
     |panic v=>rfl
theorem Kl{P:amF}{call:cx}(b:List an1)(ops:List anp):∀(l:List anp) (t:Fr) (S:VS),opsV P call false ops l (t.dx b) S=(opsV P call false ops l t S).map (wX b)
 | [],t,S=>rfl
 |o::rest,t,S=>by
  unfold opsV
  cases wb o with
  |some c=>rfl
  |none=>
   dsimp only
   rw[Kk]
   cases jZ P call ops o t S with
   |none=>rfl
   |some p=>
    obtain⟨v,t1,S1⟩:=p
    cases v with
    |some v=>rfl
    |none=>exact Kl b ops rest t1 S1
theorem Km{P:amF}{call:cx}(b:List an1)(ops:List anp):∀(l:List anp) (t:Fr) (S:VS),j3 P call ops l (t.dx b) S=(j3 P call ops l t S).map (UD b)
 | [],t,S=>rfl
 |o::rest,t,S=>by
  unfold j3
  rw[Kk]
  cases jZ P call ops o t {S with rd:=[],wr:=[]}with
  |none=>rfl
  |some p=>
   obtain⟨v,t1,S1⟩:=p
   cases v with
   |some v=>rfl
   |none=>
    show(match j3 P call ops rest (t1.dx b) _ with|some (t2,S2,fP)=>_|none=>_)=_
    rw[Km b ops rest]
    dsimp only
    cases j3 P call ops rest t1 {S1 with rd:=S1.rd++S.rd,wr:=S1.wr++S.wr}with
    |none=>rfl
    |some q=>rfl
theorem Kn(b:List an1){f:Fr→VS→Option (bf×Fr×VS)}(hf:∀t S,f (t.dx b) S=(f t S).map (wX b)):∀(k:Nat) (t:Fr) (S:VS),iter f k (t.dx b) S=(iter f k t S).map (wX b)
 |0,t,S=>rfl
 |k+1,t,S=>by
  unfold iter
  rw[hf]
  cases f t S with
  |none=>rfl
  |some p=>
   obtain⟨x,t1,S1⟩:=p
   cases x with
   |normal=>exact Kn b hf k t1 S1
   |exit id=>rfl
   |ret=>rfl
   |panic v=>rfl
theorem UE{P:amF}{call:cx}(lf:Nat)(b:List an1):∀(c:am3) (t:Fr) (S:VS),cS P call lf false c (t.dx b) S=(cS P call lf false c t S).map (wX b):=by
 intro c
 induction c with
 |skip=>intro t S;rfl
 |region id ops dr=>
  intro t S
  cases dr with
  |false=>exact Kl b _ _ t S
  |true=>
   unfold cS
   rw[Km]
   cases j3 P call ops.toList ops.toList t S with
   |none=>rfl
   |some p=>
    obtain⟨t1,S1,fP⟩:=p
    show(match r5 ops fP with|true=>_|false=>_)=arL _ (match r5 ops fP with|true=>_|false=>_)
    cases r5 ops fP<;>rfl
 |seq x y pZ p8=>
  intro t S
  unfold cS
  rw[pZ]
  cases cS P call lf false x t S with
  |none=>rfl
  |some p=>
   obtain⟨e,t1,S1⟩:=p
   cases e with
   |normal=>exact p8 t1 S1
   |exit id=>rfl
   |ret=>rfl
   |panic v=>rfl
 |cond c x y pZ p8=>
  intro t S
  unfold cS
  rw[Dy]
  split
  ·exact pZ t S
  ·exact p8 t S
  ·rfl
 |block id c ih=>
  intro t S
  unfold cS
  rw[ih]
  cases cS P call lf false c t S with
  |none=>rfl
  |some p=>
   obtain⟨e,t1,S1⟩:=p
   cases e with
   |exit j=>
    show(match amE j id with|true=>_|false=>_)=arL _ (match amE j id with|true=>_|false=>_)
    cases amE j id<;>rfl
   |normal=>rfl
   |ret=>rfl
   |panic v=>rfl
 |loop c ih=>intro t S;exact Kn b ih lf t S
 |exit id=>intro t S;rfl
 |ret=>intro t S;rfl
 |scope c ih=>intro t S;exact ih t S
 |label l=>intro t S;rfl
 |_=>intros;rfl
def qP:Obj→Bool
 | .deferred _| .loop _=>true
 |_=>false
theorem OR.row{P:amF}{ρ:Ren}{r:bP}{o:ai}{o':Obj}(h:OR P ρ r o o'):qP o'=false:=by cases h<;>rfl
section
variable {P:amF} {B:Nat→Prop} {w₀ w w':amC} {ρ:Ren} {g:Nat→Option ai} {M:List Nat}
theorem SR.Dz(hb:fQ B w₀ w){s:SV}{v:amn}(h:SR P w₀ B s v):SR P w (fun k=>B k∨k∈M) s v:=by
 induction h with
 |val v h=>exact .val v h
 |nil el a=>exact .nil el a
 |cells n c el b off cap c' bR fr hB gH hc hl hn gD=>exact .cells n c el b off cap c' bR fr (.inl hB) ((hb.block b hB).trans gH) hc hl hn gD
 |mY size row a=>exact .mY size row a
 |rows n size row b off cap c' bR fr hB gH hl hn gD hlen u hu hr ih=>exact .rows n size row b off cap c' bR fr (.inl hB) ((hb.block b hB).trans gH) hl hn gD hlen u hu ih
theorem SR.DA(hb:fQ B w₀ w)(hq:∀D∈M,∃o,w.heap[D]?=some o∧qP o=true){s:SV}{v:amn}(h:SR P w (fun k=>B k∨k∈M) s v):SR P w₀ B s v:=by
 have key:∀{b:Nat} {c':Array amn} {bR:amz} {fr:Nat×Nat},(B b∨b∈M)→w.heap[b]?=some (.cells c' bR fr)→B b:=fun hB gH=>by
  rcases hB with hB|hB
  ·exact hB
  ·obtain⟨o,h1,h2⟩:=hq _ hB
   rw[gH]at h1
   cases h1
   cases h2
 induction h with
 |val v h=>exact .val v h
 |nil el a=>exact .nil el a
 |cells n c el b off cap c' bR fr hB gH hc hl hn gD=>exact .cells n c el b off cap c' bR fr (key hB gH) ((hb.block b (key hB gH)).symm.trans gH) hc hl hn gD
 |mY size row a=>exact .mY size row a
 |rows n size row b off cap c' bR fr hB gH hl hn gD hlen u hu hr ih=>exact .rows n size row b off cap c' bR fr (key hB gH) ((hb.block b (key hB gH)).symm.trans gH) hl hn gD hlen u hu ih
theorem mm.Dz(hb:fQ B w₀ w){r:bP}{n size:Nat}{row:Nat→List SV}(h:mm P w₀ B r n size row):mm P w (fun k=>B k∨k∈M) r n size row:=by
 obtain⟨h1,h2,c',bR,fr,h3,h4,h5,h6⟩:=h
 exact⟨.inl h1,h2,c',bR,fr,(hb.block _ h1).trans h3,h4,h5,fun i hi=>⟨(h6 i hi).1,fun k sv hk=>let⟨v',a,b⟩:=(h6 i hi).2 k sv hk;⟨v',a,b.Dz hb⟩⟩⟩
theorem mm.DA(hb:fQ B w₀ w)(hq:∀D∈M,∃o,w.heap[D]?=some o∧qP o=true){r:bP}{n size:Nat}{row:Nat→List SV}(h:mm P w (fun k=>B k∨k∈M) r n size row):mm P w₀ B r n size row:=by
 obtain⟨h1,h2,c',bR,fr,h3,h4,h5,h6⟩:=h
 have hB:B r.aJ:=by
  rcases h1 with h1|h1
  ·exact h1
  ·obtain⟨o,a,b⟩:=hq _ h1
   rw[h3]at a
   cases a
   cases b
 exact⟨hB,h2,c',bR,fr,(hb.block _ hB).symm.trans h3,h4,h5,fun i hi=>⟨(h6 i hi).1,fun k sv hk=>let⟨v',a,b⟩:=(h6 i hi).2 k sv hk;⟨v',a,b.DA hb hq⟩⟩⟩
theorem WR.zp(h:WR P B w₀ ρ g w)(hq:∀D∈M,∃o,w.heap[D]?=some o∧qP o=true):WR P (fun k=>B k∨k∈M) w ρ g w where
 env:=h.env.next h.below fun _ hk=>.inl hk
 below:=fQ.refl _ _
 size:=by
  rintro k (hk|hk)
  ·exact h.size k hk
  ·obtain⟨o,a,_⟩:=hq k hk
   exact(anq.1 a).1
 live:=fun x o r hx hr hl=>by
  obtain⟨o',h1,h2,h3⟩:=h.live x o r hx hr hl
  refine⟨o',h1,h2,fun e=>?_⟩
  rintro(hk|hk)
  ·exact h3 e hk
  ·obtain⟨o2,a,b⟩:=hq _ hk
   rw[h1]at a
   cases a
   rw[h2.row]at b
   cases b
 inj:=h.inj
 fresh:=h.fresh
 rows:=fun x n size row hx=>let⟨r,a,b⟩:=h.rows x n size row hx;⟨r,a,fun hn=>(b hn).Dz h.below⟩
 nil:=h.nil
 named:=h.named
 abs:=by
  obtain⟨F,a1,a2,a3⟩:=h.abs
  refine⟨fun x k=>F x k∧∃o,w.heap[k]?=some o∧yp o=true,fun x d hx=>?_,fun x k hk=>?_,fun x y k p q=>a3 x y k p.1 q.1⟩
  ·obtain⟨r,S,c,e,f⟩:=a1 x d hx
   exact⟨r,S,c,e,fun k hk=>⟨f k hk,e.row k hk⟩⟩
  ·obtain⟨b1,b2,b3,b4⟩:=a2 x k hk.1
   refine⟨b1,b2,?_,b4⟩
   rintro(hB|hM)
   ·exact b3 hB
   ·obtain⟨o,ho,hr⟩:=hk.2
    obtain⟨o2,wY,hn⟩:=hq k hM
    rw[ho]at wY
    cases wY
    cases o<;>first|(cases hr;done)|(cases hn;done)
theorem WR.zq(h:WR P (fun k=>B k∨k∈M) w ρ g w')(he:Env B w₀)(hb:fQ B w₀ w)(hs:∀k,B k→k<w.heap.size)(hq:∀D∈M,∃o,w.heap[D]?=some o∧qP o=true):WR P B w₀ ρ g w' where
 env:=he
 below:=hb.trans ⟨h.below.os,h.below.tape,h.below.output,h.below.size,fun k hk=>h.below.block k (.inl hk)⟩
 size:=fun k hk=>h.size k (.inl hk)
 live:=fun x o r hx hr hl=>by
  obtain⟨o',h1,h2,h3⟩:=h.live x o r hx hr hl
  exact⟨o',h1,h2,fun e hk=>h3 e (.inl hk)⟩
 inj:=h.inj
 fresh:=h.fresh
 rows:=fun x n size row hx=>let⟨r,a,b⟩:=h.rows x n size row hx;⟨r,a,fun hn=>(b hn).DA hb hq⟩
 nil:=h.nil
 named:=h.named
 abs:=h.abs.next (fun x d hx=>⟨hx,rfl⟩) (fun k _ a b=>⟨rfl,fun hB=>a (.inl hB),b⟩) (amX _)
theorem WR.zr(h:WR P (fun k=>B k∨k∈M) w ρ g w'){D:Nat}(hD:D∈M):w'.heap[D]?=w.heap[D]? :=h.below.block D (.inr hD)
end
end Go.Proofs.Ytnlkkgpcikkpoaa.Vm
