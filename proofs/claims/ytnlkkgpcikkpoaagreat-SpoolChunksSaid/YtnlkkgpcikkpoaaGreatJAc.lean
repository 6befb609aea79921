/- Part of the proof: Vb. -/
import Derived.Test.YtnlkkgpcikkpoaaGreatJAb
import Derived.LoopNIn
import Derived.OrdersIn
import Derived.Scope
import Derived.Recover
open Array renaming all_eq_true_iff_forall_mem→as0,ext'→aq8,getD_eq_getD_getElem?→apW,getElem?_append_left→asx,getElem?_eq_getElem→ara,getElem?_eq_none→asm,getElem?_eq_some_iff→aqe,getElem?_setIfInBounds_ne→aqN,getElem?_setIfInBounds_self→aqQ,getElem?_toList→aqW,mem_append→asb,mem_of_getElem?→aui,mem_toList_iff→aqT,replicate→aru,toList_append→aq6,toList_extract→ars,toList_map→ar9
open Bool renaming and_eq_true→apt,false_eq_true→aqi,not_false→auh,or_eq_true→arV,or_false→atN
open Go renaming Addr→arE,Code→apV,Deferred→aqS,Ending→atX,Exit→arB,Frame→atk,FrameMode→arR,Func→atb,FuncId→apQ,Leaves→avy,MapEntry→apM,Next→ark,Oper→aqh,Operand→aqM,Program→apu,TypeDesc→asY,TypeId→apq,Value→ape,World→aps,run_program→arl,wpIn_wide→as8
open Go.ArrivesIn renaming of_steps→atJ
open Go.Builtin renaming append_→ash,clear_→asK,copy_→auy,delete_→asB,firstCells→arq,growBy→avd,lenOf→avj,len_→aq1,nextslicecap→atf,zeroCells→ard
open Go.Call renaming operands→asw
open Go.Deferred renaming ofValue→atV
open Go.Exit renaming inBlock→atj
open Go.Frame renaming atR→av5
open Go.Instr renaming checkKey→atw,findKey→avk,findNow→asf,indexAt→arZ,lookup→ary,mapUpdate→asA,sameNow→asW
open Go.IntKind renaming i64→apr
open Go.Made renaming depth→avX
open Go.Next renaming value→aqs
open Go.Op renaming operands→asS
open Go.Oper renaming apart_spec→at8,looksAt→avw,wpIn→av4
open Go.Question renaming appendCap→asD
open Go.Region renaming binds→arv,ready→asE,wanted→aqP
open Go.Result renaming andThen_ok→apf
open Go.Sem renaming run→arL,run_bind→apg,run_pure→apY
open Go.Value renaming int→apm
open Go.stepG renaming exec→avY
open List renaming all_eq_true→apR,eq_nil_of_length_eq_zero→aqf,extract_eq_take_drop→arp,getElem?_append_left→ap5,getElem?_append_right→apZ,getElem?_cons_succ→aqt,getElem?_cons_zero→ap3,getElem?_drop→aqz,getElem?_eq_getElem→apl,getElem?_eq_some_iff→app,getElem?_take→aqx,length_append→apv,length_cons→ap1,length_eraseIdx→auq,mapM_cons→atv,map_congr_left→arc,mem_append→apN,mem_cons→apx,mem_cons_of_mem→apB,mem_cons_self→apC,mem_map→aq0,mem_toArray→asZ,range'→atD,range'_succ→as1,range_eq_range'→ati,take_of_length_le→aqy
open Nat renaming add_assoc→arf,add_comm→avx,add_mul→auc,beq→apw,ble_eq→au4,blt→apy,eq_of_beq_eq_true→apz,le_of_ble_eq_true→apL,le_of_lt→asp,le_refl→apI,lor→as7,min→atu,mul_eq_zero→au3,mul_le_mul_right→ar2,shiftRight→asJ,testBit_or→auj,zero_add→aqR,zero_mul→ate
open Option renaming getD_some→aq4,isNone_some→auG,map→au5,map_eq_some_iff→aqm,map_map→aty,map_some→aqA
open Option.some renaming injEq→api
open Prod.mk renaming injEq→apn
set_option linter.unusedVariables false
set_option linter.unusedSimpArgs false
set_option maxRecDepth 100000
namespace Go.Proofs.YtnlkkgpcikkpoaaGreat.Vm
open Go.RowKit
section
variable {P:apu} {B:Nat→Prop} {w₀:aps} {ρ:Ren} {g:Nat→Option ag} {n:Nat} {w:aps}
theorem zY{a:Option arE}{l c:Nat}(h:af (.slice a l c)=true):a=none∧l=0∧c=0:=by
 cases a with
 |some a=>simp[af]at h
 |none=>
  cases l with
  |succ l=>simp[af]at h
  |zero=>cases c with
   |succ c=>simp[af]at h
   |zero=>exact⟨rfl,rfl,rfl⟩
theorem KL{x x':ape}(hx:VR ρ x x'){k:Nat}(h:rl x=some k):(avj x').run P w=.ok k w:=by
 unfold rl at h
 split at h
 ·cases h;cases hx<;>first|rfl|(rename_i h;unfold af at h;split at h<;>first|(rename_i e;cases e;rfl)|cases h)
 ·cases h;rw[hx.pq];rfl
 ·cases h
theorem KM(hw:WR P B w₀ ρ g w){x x':ape}(hx:VR ρ x x'){size k m:Nat}(hm:rl x=some m)(hk:k≤m){xs:List ape}{l:List Nat}
 (h:(rk size x k).run g=some (xs,l)):∃jO:Array ape,(∀w':aps,w'.heap=w.heap→(arq size k x').run P w'=.ok jO w')∧LR ρ xs jO.toList:=by
 unfold rk at h
 split at h
 ·rename_i b off len cap
  obtain⟨o,l',hb,dP,rfl⟩:=Rd.run_read h
  split at dP
  ·rename_i c el ro
   have ql:=Rd.Kn dP
   obtain⟨hle,rfl⟩:=u9 ql
   simp only[rl,api]at hm
   cases hx with
   |bG _ h=>cases h
   |eh _ a'=>
    have:k=0:=by omega
    subst this
    refine⟨#[],fun w' _=>?_,by simpa using LR.nil ρ⟩
    unfold arq
    simp only[ate]
    cases a'<;>rfl
   |sl _ _ _ _ bw r hr hc=>
    by_cases hlen:k*size=0
    ·refine⟨#[],fun w' _=>?_,by rw[hlen];simpa using LR.nil ρ⟩
     unfold arq
     simp only[hlen]
     rfl
    obtain⟨c',fr,⟨bU,h1,he⟩,hp,jd,hz,hf,hl,hB⟩:=rD hw hb hr (om (by intro e;rw[e]at hle;simp at hle;omega))
    refine⟨_,fun w' hh=>zN (by rw[hh];exact h1) _ _ (by omega),?_⟩
    simpa using zP hl hle
  ·cases dP
 ·cases hx with
  |bG=>
   simp only[Rd.run,api,apn]at h
   obtain⟨rfl,rfl⟩:=h
   exact⟨#[],fun w' _=>rfl,by simpa using LR.nil ρ⟩
 ·rename_i s
  rw[hx.pq]
  simp only[Rd.run,api,apn]at h
  obtain⟨rfl,rfl⟩:=h
  refine⟨_,fun w' _=>rfl,?_⟩
  have:(Array.map (fun b:UInt8=>apm .u8 b.toNat) (s.extract 0 k).data).toList=(s.data.toList.take k).map fun b=>apm .u8 b.toNat:=by
   simp[ByteArray.data_extract,ars,arp]
  rw[this]
  exact LR.map _ _ _ fun b _=>.bG _ rfl
 ·cases h
theorem Vg{x:ape}{size:Nat}{xs:List ape}{l:List Nat}(h:(rk size x 0).run g=some (xs,l)):xs=[]:=by
 unfold rk at h
 split at h
 ·obtain⟨o,l',hb,dP,rfl⟩:=Rd.run_read h
  split at dP
  ·obtain⟨hle,rfl⟩:=u9 (Rd.Kn dP)
   simp
  ·cases dP
 ·simp only[Rd.run,api,apn]at h;exact h.1.symm
 ·simp only[Rd.run,api,apn]at h;rw[←h.1];rfl
 ·cases h
theorem KN(ve:Nat):∀(r c:Nat),c≤ve+(ve+768)/4→avd ve r c≤ve+(ve+768)/4
 |0,c,h=>h
 |r+1,c,h=>by
  unfold avd
  split
  ·exact h
  ·exact KN ve r _ (by omega)
theorem nextslicecap_le{cD cap:Nat}(h:cap<cD):atf cD cap≤2*cD+768:=by
 unfold atf
 split
 ·omega
 ·split
  ·omega
  ·have:=KN cD 4 cap (by omega)
   omega
structure D9(P:apu)(w:aps)(argTypes:Array apq)(args:Array ape)(elem:apq)(size len cap k:Nat)(base:Option arE)(x:ape)(z:ape)(bytes:Nat)(xs:Array ape):Prop where
 e1:∃sT xT rest xd,argTypes.toList=sT::xT::rest∧P.underlying sT=some (.slice elem)∧P.underlying xT=some xd∧isInt xd=false
 e2:∃rest,args.toList=.slice base len cap::x::rest
 sz:bR P elem=some size
 zero:zeroOf P elem=some z
 anw:∃inf,P.info? elem=some inf∧inf.bytes=bytes
 len_:∀w:aps,(avj x).run P w=.ok k w
 cells:∀w':aps,w'.heap=w.heap→(arq size k x).run P w'=.ok xs w'
theorem ke{α:Type}{a:Array α}{l:List α}(h:a.toList=l)(i:Nat):a[i]?=l[i]? :=by rw[←h];simp
theorem xF{argTypes:Array apq}{ty:apq}{args:Array ape}{elem:apq}{size len cap k:Nat}{base:Option arE}{x z:ape}{bytes:Nat}{xs:Array ape}
 (h:D9 P w argTypes args elem size len cap k base x z bytes xs)(hle:len+k≤cap):
 (ash argTypes ty args).run P w=match base with
   |some a=>((storeCells (a.add (len*size)) xs.toList).run P w).andThen fun _ w'=>.ok (.slice (some a) (len+k) cap) w'
   |none=>.ok (.slice none (len+k) cap) w:=by
 obtain⟨⟨sT,xT,rest,xd,h1,h2,h3,h4⟩,⟨rG,h5⟩,h6,h7,h8,h9,bJ⟩:=h
 unfold ash
 have a0:argTypes[0]?=some sT:=by rw[ke h1];rfl
 have a1:argTypes[1]?=some xT:=by rw[ke h1];rfl
 have b0:args[0]?=some (.slice base len cap):=by rw[ke h5];rfl
 have b1:args[1]?=some x:=by rw[ke h5];rfl
 simp only[a0,a1,b0,b1]
 rw[apg,run_underlying h2,apf]
 dsimp only
 rw[apg,run_sizeOf h6,apf]
 rw[apg,run_underlying h3,apf,apg,apY,apf]
 cases xd
 case int=>cases h4
 all_goals
  dsimp only
  simp only[aqi,if_false]
  rw[apg,h9,apf,if_pos hle]
  simp only[auh,if_true]
  rw[apg,bJ w rfl,apf]
  cases base with
  |none=>rfl
  |some a=>rw[apg];rfl
theorem run_append_grow{argTypes:Array apq}{ty:apq}{args:Array ape}{elem:apq}{size len cap k:Nat}{base:Option arE}{x z:ape}{bytes:Nat}{xs old:Array ape}
 (h:D9 P w argTypes args elem size len cap k base x z bytes xs)(hlt:cap<len+k)(hb:bytes≤1000000)(hn:len+k≤1000000)
 (hold:(arq size len (.slice base len cap)).run P w.drew=.ok old w.drew):
 ∃bw,len+k≤bw∧(ash argTypes ty args).run P w=
  .ok (.slice (some ⟨w.heap.size,0,none⟩) (len+k) bw) (w.drew.alloc (.cells (old++xs++ard z.cells (bw-(len+k))) elem)):=by
 obtain⟨⟨sT,xT,rest,xd,h1,h2,h3,h4⟩,⟨rG,h5⟩,h6,h7,⟨inf,h8,anx⟩,h9,bJ⟩:=h
 refine⟨(asD (len+k) cap elem).cut (w.tape w.drawn (.appendCap (len+k) cap elem)),by simp[Question.cut],?_⟩
 generalize hq:(asD (len+k) cap elem).cut (w.tape w.drawn (.appendCap (len+k) cap elem))=bw
 unfold ash
 have a0:argTypes[0]?=some sT:=by rw[ke h1];rfl
 have a1:argTypes[1]?=some xT:=by rw[ke h1];rfl
 have b0:args[0]?=some (.slice base len cap):=by rw[ke h5];rfl
 have b1:args[1]?=some x:=by rw[ke h5];rfl
 simp only[a0,a1,b0,b1]
 rw[apg,run_underlying h2,apf]
 dsimp only
 rw[apg,run_sizeOf h6,apf]
 rw[apg,run_underlying h3,apf,apg,apY,apf]
 cases xd
 case int=>cases h4
 all_goals
  dsimp only
  simp only[aqi,if_false]
  rw[apg,h9,apf,if_neg (by omega)]
  have xG:∀w:aps,(typeInfo elem).run P w=.ok inf w:=fun w=>by unfold typeInfo;rw[apg,arl,apf,h8];rfl
  have anz:=nextslicecap_le hlt
  have U4:atf (len+k) cap*inf.bytes≤2000768*1000000:=Nat.mul_le_mul (by omega) (by omega)
  have Ea:¬((len+k:Nat):Int)>apr.max:=by
   have:apr.max=9223372036854775807:=rfl
   rw[this];omega
  rw[apg,xG,apf]
  rw[if_neg (by rintro⟨h,_⟩;exact Ea h)]
  rw[apg,xG,apf]
  rw[if_neg (by omega)]
  rw[apg,run_choose,if_neg (by simp[Question.forced]),hq,apf,apg,xG,apf,apg,run_askRoom,apf]
  have Vh:=hold
  simp only[World.drew_eq]
  rw[apg,Vh,apf,apg]
  simp only[auh,if_true]
  rw[bJ w.drew rfl,apf,apg,m6 h7,apf,apg,vb,apf]
  rfl
theorem Vi(z:Array ape)(m:Nat):(ard z m).size=m*z.size:=by simp[ard]
theorem Vj{elem:apq}{size len k:Nat}{b off:Nat}{xs:List ape}{out:bi}{l:List Nat}(h:(uT elem size len k (some ⟨b,off,none⟩) xs n).run g=some (out,l)):
 ∃c,g b=some (.cells c elem false)∧off+len*size=c.length∧out=⟨.val (.slice (some ⟨n,0,none⟩) (len+k) (len+k)),[(b,.dead)],some (.cells (c.drop off++xs) elem false)⟩:=by
 unfold uT at h
 obtain⟨o,l',hb,hk,rfl⟩:=Rd.run_read h
 split at hk
 ·rename_i c el
  split at hk
  ·rename_i hc
   simp only[apt]at hc
   have h1:=apz hc.1
   have h2:=apz hc.2
   subst h2
   simp only[Rd.run,api,apn]at hk
   exact⟨c,hb,h1,hk.1.symm⟩
  ·cases hk
 ·cases hk
theorem Vk{size len cap k:Nat}{b off:Nat}{xs:List ape}{out:bi}{l:List Nat}(h:(xa size len cap k (some ⟨b,off,none⟩) xs).run g=some (out,l)):
 ∃c el,g b=some (.cells c el false)∧off+len*size+xs.length≤c.length∧len+k≤cap∧
  out=⟨.val (.slice (some ⟨b,off,none⟩) (len+k) cap),[(b,.cells (a8 c (off+len*size) xs) el false)],none⟩:=by
 unfold xa at h
 obtain⟨o,l',hb,hk,rfl⟩:=Rd.run_read h
 split at hk
 ·rename_i c el
  split at hk
  ·rename_i hc
   simp only[apt]at hc
   have h0:=apL hc.1
   have h1:=apL hc.2
   simp only[Rd.run,api,apn]at hk
   exact⟨c,el,hb,h1,h0,hk.1.symm⟩
  ·cases hk
 ·cases hk
theorem Fits.grown(hw:WR P B w₀ ρ g w)(hn:g n=none){cs:List ape}{old xs:Array ape}{elem:apq}{size cD bw:Nat}{z:ape}(cf:bR P elem=some size)(hz:z.cells.size=size)
 (hle:cD≤bw)(hl:LR ρ cs (old++xs).toList)(hlen:cs.length=cD*size):
 Fits P B w₀ ρ g n ⟨.val (.slice (some ⟨n,0,none⟩) cD cD),[],some (.cells cs elem false)⟩
  (.ok (.value (.slice (some ⟨w.heap.size,0,none⟩) cD bw)) (w.drew.alloc (.cells (old++xs++ard z.cells (bw-cD)) elem))):=by
 have hs:(old++xs).size=cD*size:=by have:=hl.len;simp at this⊢;omega
 have hmul:cD*size+(bw-cD)*size=bw*size:=by rw[←auc];congr 1;omega
 have KO:(old++xs++ard z.cells (bw-cD)).size=bw*size:=by
  rw[Array.size_append,hs,Vi,hz,hmul]
 refine⟨ρ.put n ⟨w.drew.heap.size,0,(bR P elem).getD 0,(old++xs++ard z.cells (bw-cD)).size⟩,_,Ren.j9 (hw.fresh n hn) _,.val _ _ _ ?_,hw.drew.newRow hn ?_ (.inl rfl) ?_⟩
 ·have:=VR.sl (ρ:=ρ.put n ⟨w.drew.heap.size,0,(bR P elem).getD 0,(old++xs++ard z.cells (bw-cD)).size⟩) n 0 cD cD bw _ (Ren.kG _ _ _) (.inr ⟨hle,by rw[KO,cf];simp⟩)
  simpa using this
 ·rw[KO,hlen];exact ar2 _ hle
 ·rw[aq6,hlen,List.take_append_of_le_length (by simp at hs⊢;omega),aqy (by simp at hs⊢;omega)]
  exact hl
theorem Fits.kill{b:Nat}{ob:ag}(hb:g b=some ob){v:ape}{o:ag}{ow:Result ark}(h:Fits P B w₀ ρ (cJ g b .dead) n ⟨.val v,[],some o⟩ ow):
 Fits P B w₀ ρ g n ⟨.val v,[(b,.dead)],some o⟩ ow:=by
 obtain⟨ρ',w',h1,h2,h3⟩:=h
 exact⟨ρ',w',h1,h2,h3⟩
theorem Vl(hw:WR P B w₀ ρ g w){argTypes:Array apq}{ty:apq}{args:List ape}{args':Array ape}(ia:LR ρ args args'.toList){out:bi}{l:List Nat}
 (hn:out.nw≠none→g n=none)(h:(xc P argTypes.toList args n).run g=some (out,l)):Fits P B w₀ ρ g n out ((do let v ←ash argTypes ty args';pure (aqs v):Sem ark).run P w):=by
 unfold xc at h
 split at h
 ·rename_i sT xT rest base len cap x zZ ca
  obtain⟨s',t',ht,nH,jP⟩:=ia.gI
  obtain⟨x',t2,rfl,gA,xH⟩:=jP.gI
  split at h
  ·rename_i elem xd vg tx
   split at h
   ·rename_i size k z bytes cf hlen hz qo
    obtain⟨inf,oC,tz⟩:∃inf,P.info? elem=some inf∧inf.bytes=bytes:=by
     cases oC:P.info? elem with
     |none=>rw[oC]at qo;cases qo
     |some inf=>rw[oC]at qo;cases qo;exact⟨inf,rfl,rfl⟩
    split at h
    ·cases h
    ·rename_i gy
     simp only[apt,Bool.not_eq_true']at gy
     obtain⟨⟨⟨hint,hJ⟩,xI⟩,tA⟩:=gy
     have tA:0<size:=by simp[apy]at tA;omega
     have hJ:=apL hJ
     have xI:=apz xI
     have mw:∀{Eb bw:Nat} {rH:Option arE} {jO:Array ape} {k:Nat},s'=.slice rH Eb bw→rl x=some k→
      (∀w':aps,w'.heap=w.heap→(arq size k x').run P w'=.ok jO w')→D9 P w argTypes args' elem size Eb bw k rH x' z bytes jO:=by
      intro Eb bw rH jO k hs hl hc
      subst hs
      exact⟨⟨sT,xT,rest,xd,ca,vg,tx,hint⟩,⟨t2,ht⟩,cf,hz,⟨inf,oC,tz⟩,fun w=>KL gA hl,hc⟩
     obtain⟨xs,l1,l2,h1,h2,rfl⟩:=(Rd.run_bind _ _ _ _ _).1 h
     obtain⟨jO,px,je⟩:=KM hw gA hlen (apI _) h1
     split at h2
     ·cases h2
     ·rename_i gy
      simp only[apt]at gy
      obtain⟨⟨cX,z1⟩,kg⟩:=gy
      have cX:=apL cX
      have kg:=apz kg
      have anA:jO.size=k*size:=by have:=je.len;simp at this;omega
      have KP:∀q,bR P elem=some q→(bR P elem).getD 0=q:=fun q hq=>by rw[hq];rfl
      split at h2
      ·rename_i z2
       have z2:cap≤len:=by
        unfold full at z2
        split at z2
        ·omega
        ·exact apL z2
       cases base with
       |none=>
        cases nH with
        |bG _ iE=>
         obtain⟨_,rfl,rfl⟩:=zY iE
         have vh:out=⟨.val (.slice (some ⟨n,0,none⟩) k k),[],some (.cells xs elem false)⟩:=by
          unfold uT at h2
          simp only[Rd.run,api,apn]at h2
          exact h2.1.symm
         subst vh
         replace hn:=hn (by intro hh;cases hh)
         by_cases iB:k=0
         ·subst iB
          have nI:xs=[]:=aqf (by rw[kg];omega)
          subst nI
          have fQ:jO.toList=[]:=je.kD
          rw[apg,xF (mw rfl hlen px) (apI 0)]
          exact⟨_,w,Ren.j9 (hw.fresh n hn) ⟨0,0,(bR P elem).getD 0,0⟩,.val _ _ _ (.eh _ _),hw.xD hn rfl (fun m s q e=>by cases e) (fun el ro e=>by cases e;exact KP)⟩
         ·obtain⟨bw,h3,h4⟩:=run_append_grow (ty:=ty) (old:= #[]) (mw rfl hlen px) (by omega) hJ cX rfl
          rw[apg,h4,apf]
          rw[aqR]at h3⊢
          exact Fits.grown hw hn cf xI h3 (by simpa using je) kg
       |some a=>
        obtain⟨b,off,spot⟩:=a
        cases spot with
        |some sp=>cases h2
        |none=>
         obtain⟨c,hb,tB,rfl⟩:=Vj h2
         replace hn:=hn (by intro hh;cases hh)
         have bk:n≠b:=by rintro rfl;rw[hn]at hb;cases hb
         have Ec:cJ g b .dead n=none:=by rw[dV _ bk,hn]
         have KQ:(c.drop off).length=len*size:=by simp;omega
         have eN:(c.drop off++xs).length=(len+k)*size:=by rw[apv,KQ,kg,auc len k size]
         have KR:∀a',s'=.slice a' 0 0→len=0→c.drop off=[]→Fits P B w₀ ρ g n ⟨.val (.slice (some ⟨n,0,none⟩) (len+k) (len+k)),[(b,.dead)],some (.cells (c.drop off++xs) elem false)⟩ ((do let v ←ash argTypes ty args';pure (aqs v):Sem ark).run P w):=by
          intro a' hs z6 py
          subst z6
          by_cases iB:k=0
          ·subst iB
           have nI:xs=[]:=aqf (by rw[kg];omega)
           subst nI
           have fQ:jO.toList=[]:=je.kD
           rw[apg,xF (mw hs hlen px) (apI 0),py]
           refine Fits.kill hb ?_
           suffices nc:WR P B w₀ (ρ.put n ⟨0,0,(bR P elem).getD 0,0⟩) (cJ (cJ g b .dead) n (.cells ([]++[]) elem false)) w by
            cases a' with
            |none=>exact⟨_,w,Ren.j9 (hw.fresh n hn) _,.val _ _ _ (.eh _ _),nc⟩
            |some a'=>rw[fQ];exact⟨_,w,Ren.j9 (hw.fresh n hn) _,.val _ _ _ (.eh _ _),nc⟩
           exact(hw.kill b hb).xD Ec rfl (fun m s q e=>by cases e) (fun el ro e=>by cases e;exact KP)
          ·obtain⟨bw,h3,h4⟩:=run_append_grow (ty:=ty) (old:= #[]) (mw hs hlen px) (by omega) hJ cX (by unfold arq;simp only[ate];cases a'<;>rfl)
           rw[apg,h4,apf]
           refine Fits.kill hb (Fits.grown (hw.kill b hb) Ec cf xI h3 ?_ eN)
           rw[py];simpa using je
         generalize pz:s'=sv at nH
         cases nH with
         |bG _ iE=>cases iE
         |eh _ a'=>exact KR a' pz rfl (by rw[List.drop_eq_nil_iff];omega)
         |sl _ _ _ _ bw r hr hc=>
          cases lG:Live (.cells c elem false) r with
          |false=>
           obtain⟨KS,Vn⟩:=DG lG
           have iy:=Kr hw hb hr size cf
           have z6:len=0:=by
            rw[KS]at tB
            have:len*size=0:=by simp at tB;omega
            rcases au3.1 this with h|h<;>omega
           have Vo:bw=0:=by
            rcases hc with hc|⟨_,hc⟩
            ·omega
            ·rw[Vn,iy]at hc
             have:bw*size=0:=by omega
             rcases au3.1 this with h|h<;>omega
           refine KR _ (by rw[pz,z6,Vo]) z6 (by rw[KS];simp)
          |true=>
           obtain⟨c',fr,⟨bU,KT,he⟩,hp,jd,z7,hf,hl,hB⟩:=rD hw hb hr lG
           obtain rfl:=he rfl
           replace hf:=hf rfl
           have Vp:r.sz=size:=z7 size cf
           by_cases fk:len+k≤bw
           ·have KU:r.sh+off+(len+k)*size≤r.dy:=by
             rcases hc with hc|⟨rE,iU⟩
             ·have iB:k=0:=by omega
              subst iB
              rw[Nat.add_zero];omega
             ·rw[Vp]at iU
              have anB:(len+k)*size≤bw*size:=ar2 _ fk
              omega
            have Vq:=KU
            rw[auc len k size]at Vq
            obtain⟨w',h3,h4⟩:=DP (P:=P) jO.toList w c' (r.sh+off+len*size) 0 (ot.refl KT) (by simp;omega) (by rwa[hp]) (je.zJ z1)
            rw[apg,xF (mw pz hlen px) fk]
            simp only[pr]
            rw[h3]
            refine⟨ρ.put n ⟨r.aI,r.sh+off,r.sz,r.dy⟩,w',Ren.j9 (hw.fresh n hn) _,.val _ _ _ ?_,hw.rename hn hb lG hr (hB rfl) h4 rfl ?_⟩
            ·have Vr:DB ⟨r.aI,r.sh+off,r.sz,r.dy⟩ 0 (len+k) bw:=by
              rcases hc with hc|⟨rE,iU⟩
              ·left;omega
              ·right;exact⟨fk,by simpa using iU⟩
             have:=VR.sl (ρ:=ρ.put n ⟨r.aI,r.sh+off,r.sz,r.dy⟩) n 0 (len+k) (len+k) bw _ (Ren.kG _ _ _) Vr
             simpa using this
            ·refine .cells _ _ _ _ _ fr (by rw[DN];exact hp) (by show r.sh+off+(c.drop off++xs).length≤r.dy;rw[eN];exact KU) (fun _=>rfl) (fun m hm=>z7 m hm) (fun _=>hf) fun i v hi=>?_
             simp only at*
             rw[zM _ _ _ _ (by simp;omega)]
             have Vs:=je.len
             simp at Vs
             by_cases qt:i<len*size
             ·rw[ap5 (by omega),aqz]at hi
              rw[if_neg (by omega)]
              obtain⟨v',h5,h6⟩:=hl.get hi
              rw[aqx]at h5
              split at h5
              ·exact⟨v',by simpa[arf]using h5,h6.mono (Ren.j9 (hw.fresh n hn) _)⟩
              ·cases h5
             ·rw[apZ (by omega),KQ]at hi
              have anC:i-len*size<xs.length:=(app.1 hi).1
              obtain⟨v',h5,h6⟩:=je.get hi
              rw[if_pos (by simp;omega)]
              refine⟨v',?_,h6.mono (Ren.j9 (hw.fresh n hn) _)⟩
              rw[←h5]
              congr 1
              omega
           ·have hold:∀w':aps,w'.heap=w.heap→(arq size len (.slice (some ⟨r.aI,r.sh+off,none⟩) len bw)).run P w'=.ok ((c'.toList.drop (r.sh+off)).take (len*size)).toArray w':=
             fun w' hh=>zN (by rw[hh];exact KT) _ _ (by omega)
            obtain⟨KV,h3,h4⟩:=run_append_grow (ty:=ty) (mw pz hlen px) (by omega) hJ cX (hold w.drew rfl)
            rw[apg,h4,apf]
            refine Fits.kill hb (Fits.grown (hw.kill b hb) Ec cf xI h3 ?_ eN)
            have h5:=zP hl (off:=off) (n:=len*size) (by omega)
            rw[aqy (by omega:(c.drop off).length≤len*size)]at h5
            simpa using h5.append je
      ·cases base with
       |none=>cases h2
       |some a=>
        obtain⟨b,off,spot⟩:=a
        cases spot with
        |some sp=>cases h2
        |none=>
         obtain⟨c,el,hb,hbound,hle,rfl⟩:=Vk h2
         generalize pz:s'=sv at nH
         cases nH with
         |bG _ iE=>cases iE
         |eh _ a'=>
          have nI:xs=[]:=aqf (by rw[kg];have:k=0:=by omega
                                 rw[this];omega)
          subst nI
          have fQ:jO.toList=[]:=je.kD
          have iB:k=0:=by omega
          subst iB
          have:cJ g b (.cells (a8 c (off+0*size) []) el false)=g:=by
           funext x
           by_cases e:x=b
           ·subst e;rw[e9,hb];simp[a8]
           ·rw[dV _ e]
          rw[apg,xF (mw pz hlen px) (by omega)]
          suffices nc:WR P B w₀ ρ (cJ g b (.cells (a8 c (off+0*size) []) el false)) w by
           cases a' with
           |none=>exact⟨ρ,w,Ren.le_refl ρ,.val _ _ _ (.eh _ _),nc⟩
           |some a'=>rw[fQ];exact⟨ρ,w,Ren.le_refl ρ,.val _ _ _ (.eh _ _),nc⟩
          rw[this]
          exact hw
         |sl _ _ _ _ bw r hr hc=>
          have jr:cap≤bw:=by rcases hc with hc|hc<;>omega
          obtain⟨w',h3,h4⟩:=hw.store hb hr je hbound z1
          rw[apg,xF (mw pz hlen px) (by omega)]
          simp only[pr,arf]
          rw[h3]
          exact⟨ρ,w',Ren.le_refl ρ,.val _ _ _ (.sl _ _ _ _ _ _ hr hc),h4⟩
   ·cases h
  ·cases h
 ·cases h
theorem Vt(hw:WR P B w₀ ρ g w){argTypes:Array apq}{ty:apq}{args:List ape}{args':Array ape}(ia:LR ρ args args'.toList){out:bi}{l:List Nat}
 (h:(copyV P argTypes.toList args).run g=some (out,l)):Fits P B w₀ ρ g n out ((do let v ←auy argTypes ty args';pure (aqs v):Sem ark).run P w):=by
 unfold copyV at h
 split at h
 ·rename_i dT rest base len cap x zZ ca
  obtain⟨s',t',ht,nH,jP⟩:=ia.gI
  obtain⟨x',t2,rfl,gA,xH⟩:=jP.gI
  split at h
  ·rename_i elem hu
   split at h
   ·rename_i size k cf hlen
    obtain⟨xs,l1,l2,h1,h2,rfl⟩:=(Rd.run_bind _ _ _ _ _).1 h
    obtain⟨jO,px,je⟩:=KM hw gA hlen (Nat.min_le_left _ _) h1
    have a0:argTypes[0]?=some dT:=by rw[ke ca];rfl
    have b0:args'[0]?=some s':=by rw[ke ht];rfl
    have b1:args'[1]?=some x':=by rw[ke ht];rfl
    have key:∀(rH:Option arE) (bw:Nat),s'=.slice rH len bw→(auy argTypes ty args').run P w=match rH with
     |some a=>((storeCells a jO.toList).run P w).andThen fun _ w'=>.ok (.int .i64 (atu k len)) w'
     |none=>.ok (.int .i64 (atu k len)) w:=by
     intro rH bw hs
     subst hs
     unfold auy
     simp only[a0,b0,b1]
     rw[apg,run_underlying hu,apf]
     dsimp only
     rw[apg,KL gA hlen,apf]
     rw[apg,run_sizeOf cf,apf,apg,px w rfl,apf]
     cases rH with
     |none=>rfl
     |some a=>rw[apg];rfl
    split at h2
    ·cases nH with
     |bG _ iE=>
      rw[apg,key _ _ rfl]
      exact Fits.dE hw h2 (.bG _ rfl)
    ·rename_i b off
     obtain⟨o,l',hb,hk,rfl⟩:=Rd.run_read h2
     split at hk
     ·rename_i c el
      split at hk
      ·rename_i gy
       simp only[apt]at gy
       have hle:=apL gy.1
       simp only[Rd.run,api,apn]at hk
       obtain⟨rfl,rfl⟩:=hk
       cases nH with
       |bG _ iE=>cases iE
       |eh _ a'=>
        have nI:xs=[]:=Vg (by have hm:atu k 0=0:=Nat.min_zero k;rw[hm]at h1;exact h1)
        subst nI
        have fQ:jO.toList=[]:=je.kD
        rw[apg,key _ _ rfl]
        simp only[fQ]
        suffices nc:WR P B w₀ ρ (u7 g n {r:=j6.val (apm .i64 (atu k 0)),ws:=[(b,ag.cells (a8 c off []) el false)],nw:=none}) w by
         cases a'<;>exact⟨ρ,w,Ren.le_refl ρ,.val _ _ _ (.bG _ rfl),nc⟩
        have dk:a8 c off []=c:=by
         unfold a8
         simp
        have:u7 g n {r:=j6.val (apm .i64 (atu k 0)),ws:=[(b,ag.cells (a8 c off []) el false)],nw:=none}=g:=by
         show cJ g b _=g
         rw[dk]
         exact KA hb
        rw[this]
        exact hw
       |sl _ _ _ _ bw r hr hc=>
        obtain⟨w',h3,h4⟩:=hw.store hb hr je hle gy.2
        rw[apg,key _ _ rfl]
        simp only[h3,apf]
        exact⟨ρ,w',Ren.le_refl ρ,.val _ _ _ (.bG _ rfl),h4⟩
      ·cases hk
     ·cases hk
    ·cases h2
   ·cases h
  ·cases h
 ·cases h
end
end Go.Proofs.YtnlkkgpcikkpoaaGreat.Vm
namespace Go.Proofs.YtnlkkgpcikkpoaaGreat.Vm
open Go.RowKit
theorem Vu{x y:ByteArray}(h:(x==y)=true):x=y:=by
 have h2:(x.data==y.data)=true:=h
 cases x;cases y
 simp at h2
 rw[h2]
theorem KW(x:ByteArray):(x==x)=true:=by
 show(x.data==x.data)=true
 simp
section
variable {P:apu} {B:Nat→Prop} {w₀:aps} {ρ:Ren} {g:Nat→Option ag} {n:Nat} {w:aps}
theorem z8(hw:WR P B w₀ ρ g w){b:Nat}{es:List apM}{clock:Nat}(hb:g b=some (.map es clock)){r:bN}(hr:ρ b=some r):
 ∃cN,w.heap[r.aI]?=some (.map cN clock)∧es.length=cN.toList.length∧(∀(i:Nat) (e e':apM),es[i]?=some e→cN.toList[i]?=some e'→mZ ρ e e')∧¬B r.aI:=by
 obtain⟨o',h1,h2,h3⟩:=hw.mem hb rfl hr
 cases h2 with
 |map _ cN _ h4 h5=>exact⟨cN,h1,h4,h5,h3 rfl⟩
theorem xJ{t:apq}{k:ape}(h:pf P t k=true):∃d,P.underlying t=some d∧((∃ik,d=.int ik∧∃j m,k=.int j m)∨(d=.string∧∃s,k=.string s)):=by
 unfold pf at h
 split at h
 ·rename_i ik j m hu;exact⟨_,hu,.inl ⟨ik,rfl,j,m,rfl⟩⟩
 ·rename_i s hu;exact⟨_,hu,.inr ⟨rfl,s,rfl⟩⟩
 ·cases h
theorem Vv(b:Bool)(t:apq)(v:ape):atw b 10000 t v=atw b (9999+1) t v:=rfl
theorem run_checkKey{t:apq}{k:ape}(h:pf P t k=true)(b:Bool):(atw b 10000 t k).run P w=.ok () w:=by
 obtain⟨d,hu,hd⟩:=xJ h
 rw[Vv]
 unfold atw
 rw[apg,run_underlying hu,apf]
 rcases hd with⟨ik,rfl,j,m,rfl⟩|⟨rfl,s,rfl⟩<;>rfl
theorem vi{t:apq}{d:asY}{k:ape}(hu:P.underlying t=some d)(hd:(∃ik,d=.int ik∧∃j m,k=.int j m)∨(d=.string∧∃s,k=.string s)):
 ∀{es:List apM} {cN:List apM} {i:Nat} {r:Option (Nat×ape)},es.length=cN.length→(∀(i:Nat) (e e':apM),es[i]?=some e→cN[i]?=some e'→mZ ρ e e')→
  fh k es i=some r→∃r',asf d k cN i=some r'∧((r=none∧r'=none)∨∃j v v' e',r=some (i+j,v)∧r'=some (i+j,v')∧VR ρ v v'∧cN[j]?=some e'∧e'.key=k∧∃e,es[j]?=some e∧e.val=v):=by
 intro es
 induction es with
 |nil=>
  intro cN i r hl he h
  simp only[fh,api]at h
  subst h
  cases cN with
  |nil=>exact⟨none,rfl,.inl ⟨rfl,rfl⟩⟩
  |cons=>simp at hl
 |cons e es ih=>
  intro cN i r hl he h
  cases cN with
  |nil=>simp at hl
  |cons e' cN=>
   have Aa:=he 0 e e' rfl rfl
   have qu:es.length=cN.length:=by simpa using hl
   have tC:∀(i:Nat) (a a':apM),es[i]?=some a→cN[i]?=some a'→mZ ρ a a':=fun i a a' h1 h2=>he (i+1) a a' (by simpa using h1) (by simpa using h2)
   have rest:∀{r},fh k es (i+1)=some r→asW d k e'.key=some false→∃r',asf d k (e'::cN) i=some r'∧((r=none∧r'=none)∨∃j v v' e2,r=some (i+j,v)∧r'=some (i+j,v')∧VR ρ v v'∧(e'::cN)[j]?=some e2∧e2.key=k∧∃e0,(e::es)[j]?=some e0∧e0.val=v):=by
    intro r h hs
    obtain⟨r',h1,h2⟩:=ih qu tC h
    refine⟨r',by unfold asf;simp only[hs,h1],?_⟩
    rcases h2 with h2|⟨j,v,v',e2,ha,hb,hc,hd,hk,e0,hf,hv⟩
    ·exact .inl h2
    ·exact .inr ⟨j+1,v,v',e2,by rw[ha];congr 2;omega,by rw[hb];congr 2;omega,hc,by simpa using hd,hk,e0,by simpa using hf,hv⟩
   unfold fh at h
   split at h
   ·rename_i a x b y rI
    have tD:e'.key=.int b y:=by have:=Aa.key;rw[rI]at this;exact this.jL
    rcases hd with⟨ik,rfl,j,m,dP⟩|⟨rfl,s,dP⟩
    ·split at h
     ·rename_i jA
      have jA:a=b:=by simpa using jA
      subst jA
      by_cases nJ:(x==y)=true
      ·rw[if_pos nJ]at h
       cases h
       have:x=y:=by simpa using nJ
       subst this
       exact⟨some (i,e'.val),by unfold asf asW;rw[tD];simp,.inr ⟨0,e.val,e'.val,e',rfl,rfl,Aa.val,rfl,tD,e,rfl,rfl⟩⟩
      ·rw[if_neg nJ]at h
       refine rest h ?_
       unfold asW
       rw[tD]
       simp at nJ⊢
       exact nJ
     ·cases h
    ·cases dP
   ·rename_i x y rI
    have tD:e'.key=.string y:=by have:=Aa.key;rw[rI]at this;exact this.pq
    rcases hd with⟨ik,rfl,j,m,dP⟩|⟨rfl,s,dP⟩
    ·cases dP
    ·by_cases nJ:(x==y)=true
     ·rw[if_pos nJ]at h
      cases h
      have:x=y:=Vu nJ
      subst this
      exact⟨some (i,e'.val),by unfold asf asW;rw[tD];simp only[KW],.inr ⟨0,e.val,e'.val,e',rfl,rfl,Aa.val,rfl,tD,e,rfl,rfl⟩⟩
     ·rw[if_neg nJ]at h
      refine rest h ?_
      unfold asW
      rw[tD]
      have:(x==y)=false:=by cases hh:(x==y)with
       |true=>exact absurd hh nJ
       |false=>rfl
      simp only[this]
   ·cases h
theorem run_findKey{t:apq}{d:asY}{k:ape}(hu:P.underlying t=some d){es:List apM}{r:Option (Nat×ape)}(h:asf d k es 0=some r):
 (avk t k es).run P w=.ok r w:=by
 unfold avk
 rw[apg,run_underlying hu,apf]
 simp only[h,apY]
theorem run_getObj_map{b:Nat}{es:Array apM}{clock:Nat}(h:w.heap[b]?=some (.map es clock)):(getObj b).run P w=.ok (.map es clock) w:=by
 simp only[getObj,arL,h]
theorem run_setObj_map{b:Nat}{es:Array apM}{clock:Nat}(h:w.heap[b]?=some (.map es clock))(o:Obj):
 (setObj b o).run P w=.ok () {w with heap:=w.heap.setIfInBounds b o}:=by
 simp only[setObj,arL,h]
theorem Ab{b:Nat}{o1:Obj}(h:w.heap[b]?=some o1)(o:Obj):ot w {w with heap:=w.heap.setIfInBounds b o} b o:=by
 have hb:b<w.heap.size:=(aqe.1 h).1
 refine⟨rfl,rfl,rfl,by simp,by simp[hb],fun k hk=>?_⟩
 show(w.heap.setIfInBounds b o)[k]?=_
 rw[aqN (Ne.symm hk)]
theorem Ed(hw:WR P B w₀ ρ g w){v v':ape}(hv:VR ρ v v')(ok b:Bool){out:bi}{l:List Nat}(h:(val (if ok then .tuple #[v,.bool b]else v)).run g=some (out,l)):
 Fits P B w₀ ρ g n out (.ok (.value (if ok then .tuple #[v',.bool b]else v')) w):=by
 cases ok with
 |true=>exact Fits.dE hw h (.zI (LR.cons hv (LR.cons (.bG _ rfl) (LR.nil ρ))))
 |false=>exact Fits.dE hw h hv
theorem Vw(hw:WR P B w₀ ρ g w){t:apq}{x x' k k':ape}(hx:VR ρ x x')(hk:VR ρ k k')(ok:Bool){out:bi}{l:List Nat}(h:(Dd P t x k ok).run g=some (out,l)):
 Fits P B w₀ ρ g n out ((do let v ←ary t x' k' ok;pure (aqs v):Sem ark).run P w):=by
 unfold Dd at h
 split at h
 ·rename_i kt et hu
  split at h
  ·rename_i z jf hz
   obtain⟨d,kh,hd⟩:=xJ jf
   have dP:k'=k:=by
    rcases hd with⟨ik,rfl,j,m,rfl⟩|⟨rfl,s,rfl⟩
    ·exact hk.jL
    ·exact hk.pq
   subst dP
   dsimp only at h
   split at h
   ·split at h
    ·rename_i m5
     cases hx with
     |bG=>
      have:(ary t (.map none) k' ok).run P w=.ok (if ok then .tuple #[z,.bool false]else z) w:=by
       unfold ary
       rw[apg,run_underlying hu,apf]
       dsimp only
       rw[apg,apY,apf,apg,run_checkKey jf,apf,apg,run_findKey kh (by rfl:asf d k' [] 0=some none),apf]
       dsimp only
       first|rw[apg,apg,m6 hz]|rw[apg,m6 hz]
       rfl
      rw[apg,this]
      exact Ed hw (nD m5) ok false h
    ·cases h
   ·rename_i b
    obtain⟨r,hr,rfl⟩:=hx.qg
    obtain⟨o,l',hb,dP,rfl⟩:=Rd.run_read h
    split at dP
    ·rename_i es clock
     split at dP
     ·rename_i f qv m5
      obtain⟨cN,h1,h2,h3,hB⟩:=z8 hw hb hr
      obtain⟨r',h4,h5⟩:=vi kh hd h2 h3 qv
      have pre:∀(rest:Option (Nat×ape)→Sem ape),True:=fun _=>trivial
      rcases h5 with⟨rfl,rfl⟩|⟨j,v,v',e',rfl,rfl,hv,_,_,_⟩
      ·have:(ary t (.map (some r.aI)) k' ok).run P w=.ok (if ok then .tuple #[z,.bool false]else z) w:=by
        unfold ary
        rw[apg,run_underlying hu,apf]
        dsimp only
        rw[apg,run_getObj_map h1,apf]
        dsimp only
        rw[apg,apY,apf,apg,run_checkKey jf,apf,apg,run_findKey kh h4,apf]
        dsimp only
        first|rw[apg,apg,m6 hz]|rw[apg,m6 hz]
        rfl
       rw[apg,this]
       exact Ed hw (nD m5) ok false dP
      ·have:(ary t (.map (some r.aI)) k' ok).run P w=.ok (if ok then .tuple #[v',.bool true]else v') w:=by
        unfold ary
        rw[apg,run_underlying hu,apf]
        dsimp only
        rw[apg,run_getObj_map h1,apf]
        dsimp only
        rw[apg,apY,apf,apg,run_checkKey jf,apf,apg,run_findKey kh h4,apf]
        rfl
       rw[apg,this]
       exact Ed hw hv ok true dP
     ·cases dP
    ·cases dP
   ·cases h
  ·cases h
 ·cases h
theorem sameBits_self{k:ape}{d:asY}(hd:(∃ik,d=.int ik∧∃j m,k=.int j m)∨(d=.string∧∃s,k=.string s)):Instr.sameBits 10000 k k=true:=by
 rcases hd with⟨ik,_,j,m,rfl⟩|⟨_,s,rfl⟩
 ·show(j==j&&m==m)=true;simp
 ·exact KW s
theorem KX(hw:WR P B w₀ ρ g w){t:apq}{x x' k k' v v':ape}(hx:VR ρ x x')(hk:VR ρ k k')(hv:VR ρ v v'){out:bi}{l:List Nat}
 (h:(xe P t x k v).run g=some (out,l)):Fits P B w₀ ρ g n out ((do asA t x' k' v';pure Next.skip:Sem ark).run P w):=by
 unfold xe at h
 split at h
 ·rename_i kt et hu
  split at h
  ·rename_i b jf
   obtain⟨r,hr,rfl⟩:=hx.qg
   obtain⟨d,kh,hd⟩:=xJ jf
   have dP:k'=k:=by
    rcases hd with⟨ik,rfl,j,m,rfl⟩|⟨rfl,s,rfl⟩
    ·exact hk.jL
    ·exact hk.pq
   subst dP
   obtain⟨o,l',hb,dP,rfl⟩:=Rd.run_read h
   split at dP
   ·rename_i es clock
    obtain⟨cN,h1,h2,h3,hB⟩:=z8 hw hb hr
    split at dP
    ·rename_i i vv qv
     obtain⟨r',h4,h5⟩:=vi kh hd h2 h3 qv
     rcases h5 with⟨h5,_⟩|⟨j,u,u',e',h5,rfl,rJ,tC,rI,_⟩
     ·cases h5
     ·simp only[aqR,api,apn]at h5
      obtain⟨rfl,rfl⟩:=h5
      simp only[Rd.run,api,apn]at dP
      obtain⟨rfl,rfl⟩:=dP
      have vj:cN[i]?=some e':=by simpa using tC
      have ka:(asA t (.map (some r.aI)) k' v').run P w=.ok () {w with heap:=w.heap.setIfInBounds r.aI (.map (cN.modify i fun e=>{e with key:=k',val:=v'}) clock)}:=by
       unfold asA
       rw[apg,run_underlying hu,apf]
       dsimp only
       rw[apg,run_getObj_map h1,apf]
       dsimp only
       rw[apg,run_checkKey jf,apf,apg,run_findKey kh h4,apf]
       simp only[aqR,vj,aqA,aq4,rI]
       rw[apg]
       unfold Instr.keyThatStays
       rw[if_pos (sameBits_self hd),apY,apf,run_setObj_map h1]
      rw[apg,ka,apf]
      refine⟨ρ,_,Ren.le_refl ρ,.skip _,hw.change hb (by first|rfl|exact Ee _ _) hr hB (Ab h1 _) ?_⟩
      refine .map _ _ _ (by simp[h2]) fun m a a' ha fZ=>?_
      rw[List.getElem?_modify]at ha
      rw[aqW,Array.getElem?_modify]at fZ
      by_cases gO:i=m
      ·subst gO
       rw[if_pos rfl,vj]at fZ
       cases fZ
       cases hg:es[i]?with
       |none=>rw[hg]at ha;cases ha
       |some e0=>
        rw[hg]at ha
        simp at ha
        subst ha
        exact⟨hk,hv,(h3 i e0 e' hg tC).born⟩
      ·rw[if_neg gO]at fZ
       cases hg:es[m]?with
       |none=>rw[hg]at ha;cases ha
       |some e0=>
        rw[hg]at ha
        simp[gO]at ha
        subst ha
        exact h3 m e0 a' hg (by simpa using fZ)
    ·rename_i qv
     obtain⟨r',h4,h5⟩:=vi kh hd h2 h3 qv
     rcases h5 with⟨_,rfl⟩|⟨j,u,u',e',h5,_⟩
     ·simp only[Rd.run,api,apn]at dP
      obtain⟨rfl,rfl⟩:=dP
      have ka:(asA t (.map (some r.aI)) k' v').run P w=.ok () {w with heap:=w.heap.setIfInBounds r.aI (.map (cN.push {key:=k',val:=v',born:=clock}) (clock+1))}:=by
       unfold asA
       rw[apg,run_underlying hu,apf]
       dsimp only
       rw[apg,run_getObj_map h1,apf]
       dsimp only
       rw[apg,run_checkKey jf,apf,apg,run_findKey kh h4,apf]
       dsimp only
       rw[run_setObj_map h1]
      rw[apg,ka,apf]
      refine⟨ρ,_,Ren.le_refl ρ,.skip _,hw.change hb (by first|rfl|exact Ee _ _) hr hB (Ab h1 _) ?_⟩
      refine .map _ _ _ (by simp[h2]) fun m a a' ha fZ=>?_
      rw[Array.toList_push]at fZ
      by_cases hm:m<es.length
      ·rw[ap5 hm]at ha
       rw[ap5 (by omega)]at fZ
       exact h3 m a a' ha fZ
      ·rw[apZ (by omega)]at ha
       rw[apZ (by omega)]at fZ
       rw[←h2]at fZ
       cases hs:m-es.length with
       |zero=>rw[hs]at ha fZ;cases ha;cases fZ;exact⟨hk,hv,rfl⟩
       |succ q=>rw[hs]at ha;cases ha
     ·cases h5
    ·cases dP
   ·cases dP
  ·cases h
 ·cases h
theorem toList_erase(a:Array apM)(i:Nat):(a.eraseIdxIfInBounds i).toList=a.toList.eraseIdx i:=by simp
theorem Vx(hw:WR P B w₀ ρ g w){argTypes:Array apq}{ty:apq}{args:List ape}{args':Array ape}(ia:LR ρ args args'.toList){out:bi}{l:List Nat}
 (h:(xf P argTypes.toList args).run g=some (out,l)):Fits P B w₀ ρ g n out ((do let v ←asB argTypes ty args';pure (aqs v):Sem ark).run P w):=by
 unfold xf at h
 split at h
 ·rename_i t rest b k zZ ca
  obtain⟨s',t',ht,nH,jP⟩:=ia.gI
  obtain⟨k',t2,rfl,hk,xH⟩:=jP.gI
  obtain⟨r,hr,rfl⟩:=nH.qg
  have a0:argTypes[0]?=some t:=by rw[ke ca];rfl
  have b0:args'[0]?=some (.map (some r.aI)):=by rw[ke ht];rfl
  have b1:args'[1]?=some k':=by rw[ke ht];rfl
  split at h
  ·rename_i kt et hu
   split at h
   ·rename_i jf
    obtain⟨d,kh,hd⟩:=xJ jf
    have dP:k'=k:=by
     rcases hd with⟨ik,rfl,j,m,rfl⟩|⟨rfl,s,rfl⟩
     ·exact hk.jL
     ·exact hk.pq
    subst dP
    obtain⟨o,l',hb,dP,rfl⟩:=Rd.run_read h
    split at dP
    ·rename_i es clock
     obtain⟨cN,h1,h2,h3,hB⟩:=z8 hw hb hr
     split at dP
     ·rename_i i vv qv
      obtain⟨r',h4,h5⟩:=vi kh hd h2 h3 qv
      rcases h5 with⟨h5,_⟩|⟨j,u,u',e',h5,rfl,rJ,tC,rI,_⟩
      ·cases h5
      ·simp only[aqR,api,apn]at h5
       obtain⟨rfl,rfl⟩:=h5
       simp only[Rd.run,api,apn]at dP
       obtain⟨rfl,rfl⟩:=dP
       have ka:(asB argTypes ty args').run P w=.ok (.tuple #[]) {w with heap:=w.heap.setIfInBounds r.aI (.map (cN.eraseIdxIfInBounds i) clock)}:=by
        unfold asB
        simp only[a0,b0,b1]
        rw[apg,run_underlying hu,apf]
        dsimp only
        rw[apg,run_getObj_map h1,apf]
        dsimp only
        rw[apg,run_checkKey jf,apf,apg,run_findKey kh h4,apf]
        simp only[aqR]
        rw[apg,run_setObj_map h1]
        rfl
       rw[apg,ka,apf]
       refine⟨ρ,_,Ren.le_refl ρ,.val _ _ _ (VR.undef ρ),hw.change hb (by first|rfl|exact Ee _ _) hr hB (Ab h1 _) ?_⟩
       refine .map _ _ _ (by rw[toList_erase,auq,auq,h2]) fun m a a' ha fZ=>?_
       rw[toList_erase]at fZ
       rw[List.getElem?_eraseIdx]at ha fZ
       split at ha
       ·rename_i hm;rw[if_pos hm]at fZ;exact h3 m a a' ha fZ
       ·rename_i hm;rw[if_neg hm]at fZ;exact h3 _ a a' ha fZ
     ·rename_i qv
      obtain⟨r',h4,h5⟩:=vi kh hd h2 h3 qv
      rcases h5 with⟨_,rfl⟩|⟨j,u,u',e',h5,_⟩
      ·simp only[Rd.run,api,apn]at dP
       obtain⟨rfl,rfl⟩:=dP
       have ka:(asB argTypes ty args').run P w=.ok (.tuple #[]) {w with heap:=w.heap.setIfInBounds r.aI (.map cN clock)}:=by
        unfold asB
        simp only[a0,b0,b1]
        rw[apg,run_underlying hu,apf]
        dsimp only
        rw[apg,run_getObj_map h1,apf]
        dsimp only
        rw[apg,run_checkKey jf,apf,apg,run_findKey kh h4,apf]
        dsimp only
        rw[apg,run_setObj_map h1]
        rfl
       rw[apg,ka,apf]
       exact⟨ρ,_,Ren.le_refl ρ,.val _ _ _ (VR.undef ρ),hw.change hb (by first|rfl|exact Ee _ _) hr hB (Ab h1 _) (.map _ _ _ h2 h3)⟩
      ·cases h5
     ·cases dP
    ·cases dP
   ·cases h
  ·cases h
 ·cases h
theorem Vy(hw:WR P B w₀ ρ g w){argTypes:Array apq}{ty:apq}{args:List ape}{args':Array ape}(ia:LR ρ args args'.toList){out:bi}{l:List Nat}
 (h:(De P argTypes.toList args).run g=some (out,l)):Fits P B w₀ ρ g n out ((do let v ←aq1 argTypes ty args';pure (aqs v):Sem ark).run P w):=by
 unfold De at h
 split at h
 ·rename_i t rest x zZ ca
  obtain⟨x',t',ht,hx,jP⟩:=ia.gI
  have a0:argTypes[0]?=some t:=by rw[ke ca];rfl
  have b0:args'[0]?=some x':=by rw[ke ht];rfl
  split at h
  ·rename_i sa m sc hu
   cases hx with
   |bG _ iE=>
    obtain⟨rfl,rfl,rfl⟩:=zY iE
    have hr:(aq1 argTypes ty args').run P w=.ok (goInt (0:Nat)) w:=by unfold aq1;simp only[a0,b0];rw[apg,run_underlying hu,apf];rfl
    rw[apg,hr];exact Fits.dE hw h (.bG _ rfl)
   |sl=>
    have hr:(aq1 argTypes ty args').run P w=.ok (goInt m) w:=by unfold aq1;simp only[a0,b0];rw[apg,run_underlying hu,apf];rfl
    rw[apg,hr];exact Fits.dE hw h (.bG _ rfl)
   |mW=>
    have hr:(aq1 argTypes ty args').run P w=.ok (goInt m) w:=by unfold aq1;simp only[a0,b0];rw[apg,run_underlying hu,apf];rfl
    rw[apg,hr];exact Fits.dE hw h (.bG _ rfl)
   |eh=>
    have hr:(aq1 argTypes ty args').run P w=.ok (goInt (0:Nat)) w:=by unfold aq1;simp only[a0,b0];rw[apg,run_underlying hu,apf];rfl
    rw[apg,hr];exact Fits.dE hw h (.bG _ rfl)
  ·rename_i hu
   cases hx with
   |bG=>
    have hr:(aq1 argTypes ty args').run P w=.ok (goInt 0) w:=by unfold aq1;simp only[a0,b0];rw[apg,run_underlying hu,apf];rfl
    rw[apg,hr];exact Fits.dE hw h (.bG _ rfl)
  ·rename_i b hu
   obtain⟨r,hr,rfl⟩:=hx.qg
   obtain⟨o,l',hb,hk,rfl⟩:=Rd.run_read h
   split at hk
   ·rename_i es clock
    obtain⟨cN,h1,h2,h3,hB⟩:=z8 hw hb hr
    have hr:(aq1 argTypes ty args').run P w=.ok (goInt cN.size) w:=by
     unfold aq1;simp only[a0,b0];rw[apg,run_underlying hu,apf]
     dsimp only
     rw[apg,run_getObj_map h1];rfl
    rw[apg,hr]
    refine Fits.dE hw hk ?_
    have:es.length=cN.size:=by simpa using h2
    rw[this]
    exact .bG _ rfl
   ·cases hk
  ·rename_i k el hu
   have hr:(aq1 argTypes ty args').run P w=.ok (goInt k) w:=by unfold aq1;simp only[a0,b0];rw[apg,run_underlying hu,apf];rfl
   rw[apg,hr]
   exact Fits.dE hw h (.bG _ rfl)
  ·rename_i a hu
   split at h
   ·rename_i k el tx
    have hr:(aq1 argTypes ty args').run P w=.ok (goInt k) w:=by
     unfold aq1;simp only[a0,b0];rw[apg,run_underlying hu,apf]
     dsimp only
     rw[apg,run_underlying tx];rfl
    rw[apg,hr]
    exact Fits.dE hw h (.bG _ rfl)
   ·cases h
  ·cases h
 ·cases h
theorem Vz{z:ape}(k:Nat):(ard z.cells k).toList=e8 z.cells.toList k:=by
 have:=D2 z k
 unfold ard
 rw[this]
theorem VA(hw:WR P B w₀ ρ g w){argTypes:Array apq}{ty:apq}{args:List ape}{args':Array ape}(ia:LR ρ args args'.toList){out:bi}{l:List Nat}
 (h:(xh P argTypes.toList args).run g=some (out,l)):Fits P B w₀ ρ g n out ((do let v ←asK argTypes ty args';pure (aqs v):Sem ark).run P w):=by
 unfold xh at h
 split at h
 ·rename_i t rest x zZ ca
  obtain⟨x',t',ht,hx,jP⟩:=ia.gI
  have a0:argTypes[0]?=some t:=by rw[ke ca];rfl
  have b0:args'[0]?=some x':=by rw[ke ht];rfl
  have none_:∀{d},P.underlying t=some d→(∃a c,x'=.slice a 0 c)∨(∃l c,x'=.slice none l c)→(asK argTypes ty args').run P w=.ok (.tuple #[]) w:=by
   intro d hu hc
   unfold asK
   simp only[a0,b0]
   rw[apg,run_underlying hu,apf]
   rcases hc with⟨a,c,rfl⟩|⟨l,c,rfl⟩
   ·cases a<;>cases d<;>rfl
   ·cases d<;>rfl
  split at h
  ·rename_i hu
   cases hx with
   |bG _ iE=>
    obtain⟨_,rfl,rfl⟩:=zY iE
    rw[apg,none_ hu (.inr ⟨_,_,rfl⟩)]
    exact Fits.dE hw h (VR.undef ρ)
  ·rename_i hu
   rw[apg]
   cases hx with
   |bG _ iE=>
    obtain⟨rfl,_,rfl⟩:=zY iE
    rw[none_ hu (.inl ⟨_,_,rfl⟩)]
    exact Fits.dE hw h (VR.undef ρ)
   |sl=>rw[none_ hu (.inl ⟨_,_,rfl⟩)];exact Fits.dE hw h (VR.undef ρ)
   |eh=>rw[none_ hu (.inl ⟨_,_,rfl⟩)];exact Fits.dE hw h (VR.undef ρ)
   |mW=>rw[none_ hu (.inl ⟨_,_,rfl⟩)];exact Fits.dE hw h (VR.undef ρ)
  ·rename_i el b off k cap iB hu
   split at h
   ·rename_i size z hs hz
    obtain⟨o,l',hb,hk,rfl⟩:=Rd.run_read h
    split at hk
    ·rename_i c ce
     split at hk
     ·rename_i gy
      simp only[apt]at gy
      obtain⟨⟨⟨hf,h1⟩,h2⟩,h3⟩:=gy
      have h1:=apz h1
      have h2:=apL h2
      simp only[Rd.run,api,apn]at hk
      obtain⟨rfl,rfl⟩:=hk
      have xA:(e8 z.cells.toList k).length=k*size:=by rw[zT,←h1];simp
      have z1:((e8 z.cells.toList k).all Value.oneCell')=true:=by
       rw[apR]at h3⊢
       intro v hv
       obtain⟨i,hi⟩:=List.getElem?_of_mem hv
       have hlt:i<(e8 z.cells.toList k).length:=(app.1 hi).1
       rw[D1 _ _ _ (by rw[zT]at hlt;exact hlt)]at hi
       exact h3 _ (List.mem_of_getElem? hi)
      cases hx with
      |bG _ iE=>cases iE
      |eh=>first|exact(iB rfl).elim|exact(iB _ _ rfl).elim|exact(iB _ rfl).elim
      |sl _ _ _ _ bw r hr hc=>
       obtain⟨w',h4,h5⟩:=hw.store hb hr ((xB hf).e8 k) (off:=off) (by rw[xA];exact h2) z1
       have ka:(asK argTypes ty args').run P w=.ok (.tuple #[]) w':=by
        unfold asK
        simp only[a0,b0]
        rw[apg,run_underlying hu,apf]
        cases k with
        |zero=>first|exact(iB rfl).elim|exact(iB _ _ rfl).elim|exact(iB _ rfl).elim
        |succ k=>
         show((do let z ←zeroValue el;storeCells ⟨r.aI,r.sh+off,none⟩ (ard z.cells (k+1)).toList;pure (Value.tuple #[])):Sem ape).run P w=_
         rw[apg,m6 hz,apf,Vz,apg,h4]
         rfl
       rw[apg,ka]
       exact⟨ρ,w',Ren.le_refl ρ,.val _ _ _ (VR.undef ρ),h5⟩
     ·cases hk
    ·cases hk
   ·cases h
  ·cases h
 ·cases h
end
end Go.Proofs.YtnlkkgpcikkpoaaGreat.Vm
namespace Go.Proofs.YtnlkkgpcikkpoaaGreat.Vm
open Go.RowKit
section
variable {P:apu} {B:Nat→Prop} {w₀:aps} {ρ:Ren} {g:Nat→Option ag} {n:Nat} {w:aps}
inductive vk(ρ:Ren):Pl→Place→Prop where
 |val (v v':ape) (h:VR ρ v v'):vk ρ (.val v) (.val v')
 |var (b off:Nat) (r:bN) (h:ρ b=some r):vk ρ (.var b off) (.var ⟨r.aI,r.sh+off,none⟩)
theorem KY(hw:WR P B w₀ ρ g w){t:apq}{x:Pl}{x':Place}(hx:vk ρ x x'){v:ape}{l:List Nat}
 (h:(zr P t x).run g=some (v,l)):∃v',(x'.get t).run P w=.ok v' w∧VR ρ v v':=by
 cases hx with
 |val u u' hu=>
  simp only[zr,Rd.run,api,apn]at h
  obtain⟨rfl,rfl⟩:=h
  exact⟨u',rfl,hu⟩
 |var b off r hr=>
  obtain⟨v',h1,h2⟩:=va hw h hr
  exact⟨v',h1,h2⟩
theorem VB(hw:WR P B w₀ ρ g w):∀{path:List FieldStep} {t:apq} {x:Pl} {x':Place},vk ρ x x'→∀{t2:apq} {y:Pl} {l:List Nat},(uU P path t x).run g=some ((t2,y),l)→
 ∃y',(follow path t x').run P w=.ok (t2,y') w∧vk ρ y y':=by
 intro path
 induction path with
 |nil=>
  intro t x x' hx t2 y l h
  simp only[uU,Rd.run,api,apn]at h
  obtain⟨⟨rfl,rfl⟩,_⟩:=h
  exact⟨x',rfl,hx⟩
 |cons s rest ih=>
  intro t x x' hx t2 y l h
  unfold uU at h
  split at h
  ·cases h
  ·rename_i off ft k hf
   obtain⟨fs,f,hu,vn,rfl,rfl,hk,iB⟩:=DX hf
   split at h
   ·rename_i hd
    obtain⟨v,l1,l2,h1,h2,rfl⟩:=(Rd.run_bind _ _ _ _ _).1 h
    obtain⟨v',h3,h4⟩:=KY hw hx h1
    split at h2
    ·rename_i b o
     obtain⟨r,hr,rfl⟩:=h4.kE
     obtain⟨y',h5,h6⟩:=ih (.var b (o+f.offset) r hr) h2
     refine⟨y',?_,h6⟩
     unfold follow
     rw[apg,run_underlying hu,apf]
     simp only[vn,hd,if_true]
     rw[apg,h3,apf]
     simp only[asAddr,apg,apY,apf,DY hk iB]
     rw[arf]
     exact h5
    ·cases h2
   ·rename_i hd
    cases hx with
    |val=>cases h
    |var b o r hr=>
     obtain⟨y',h5,h6⟩:=ih (.var b (o+f.offset) r hr) h
     refine⟨y',?_,h6⟩
     unfold follow
     rw[apg,run_underlying hu,apf]
     simp only[vn,hd,aqi,if_false]
     rw[apg,DY hk iB,apf,arf]
     exact h5
theorem VC(xt:apq)(a:arE)(name:String):(Builtin.ssaWrapNilChk_ #[xt] xt #[.pointer (some a),strVal "",strVal name]).run P w=.ok (.pointer (some a)) w:=rfl
theorem VD(hw:WR P B w₀ ρ g w){t:apq}{x:Pl}{x':Place}(hx:vk ρ x x'){ptr:Bool}{v:ape}{l:List Nat}(h:(Df P t x ptr).run g=some (v,l))(wr:Option String):
 ∃v',(receiverAt t x' ptr wr).run P w=.ok v' w∧VR ρ v v':=by
 unfold Df at h
 unfold receiverAt
 split at h
 ·rename_i e u hu
  cases hx with
  |val _ u' hv=>
   simp only[Rd.run,api,apn]at h
   obtain⟨rfl,rfl⟩:=h
   exact⟨u',by rw[apg,run_underlying hu,apf];rfl,hv⟩
 ·rename_i e b o hu
  cases hx with
  |var _ _ r hr=>
   obtain⟨v',h1,h2⟩:=va hw h hr
   exact⟨v',by rw[apg,run_underlying hu,apf];exact h1,h2⟩
 ·rename_i e b o hu
  cases hx with
  |val _ u' hv=>
   obtain⟨r,hr,rfl⟩:=hv.kE
   obtain⟨v',h1,h2⟩:=va hw h hr
   refine⟨v',?_,h2⟩
   rw[apg,run_underlying hu,apf]
   dsimp only
   rw[apg]
   show((arL P (pure (Value.pointer (some ⟨r.aI,r.sh+o,none⟩))) w).andThen _)=_
   rw[apY,apf]
   cases wr with
   |none=>simp only[apg,apY,apf,asAddr,h1]
   |some name=>simp only[apg,VC,apY,apf,asAddr,h1]
 ·cases h
 ·rename_i d b o hd hu
  cases hx with
  |var _ _ r hr=>
   simp only[Rd.run,api,apn]at h
   obtain⟨rfl,rfl⟩:=h
   refine⟨_,?_,.ptr b o r hr⟩
   rw[apg,run_underlying hu,apf]
   cases d<;>first|rfl|exact(hd _ rfl).elim
 ·rename_i d u _ hd hu
  cases hx with
  |val _ u' hv=>
   simp only[Rd.run,api,apn]at h
   obtain⟨rfl,rfl⟩:=h
   refine⟨u',?_,hv⟩
   rw[apg,run_underlying hu,apf]
   cases d<;>first|rfl|exact(hd _ rfl).elim
 ·rename_i d b o hd hu
  cases hx with
  |var _ _ r hr=>
   obtain⟨v',h1,h2⟩:=va hw h hr
   refine⟨v',?_,h2⟩
   rw[apg,run_underlying hu,apf]
   cases d<;>first|exact h1|exact(hd _ rfl).elim
 ·cases h
theorem KZ(hw:WR P B w₀ ρ g w):∀(d:Nat) {t:apq} {v v':ape} {name:String} {f:apQ} {r:ape} {l:List Nat},VR ρ v v'→(zt P d t v name).run g=some ((f,r),l)→
 ∀gP,d≤gP→∃r',(method gP t v' name).run P w=.ok (f,r') w∧VR ρ r r'
 |0,t,v,v',name,f,r,l,hv,h,gP,hf=>by cases h
 |d+1,t,v,v',name,f,r,l,hv,h,gP,hf=>by
  cases gP with
  |zero=>omega
  |succ gP=>
   unfold zt at h
   unfold method
   split at h
   ·cases h
   ·rename_i m hm
    obtain⟨inf,oC,VE⟩:=Option.bind_eq_some_iff.1 hm
    obtain⟨⟨xt,x⟩,l1,l2,h1,h2,rfl⟩:=(Rd.run_bind _ _ _ _ _).1 h
    obtain⟨x',h3,h4⟩:=VB hw (.val v v' hv) h1
    have xG:(typeInfo t).run P w=.ok inf w:=by unfold typeInfo;rw[apg,arl,apf,oC];rfl
    rw[apg,xG,apf]
    simp only[VE]
    rw[apg,h3,apf]
    dsimp only at h2⊢
    split at h2
    ·rename_i Ef
     obtain⟨u,l3,l4,h5,h6,rfl⟩:=(Rd.run_bind _ _ _ _ _).1 h2
     obtain⟨u',h7,h8⟩:=KY hw h4 h5
     split at h6
     ·rename_i t' q
      obtain⟨q',rfl,hq⟩:=h8.xq
      obtain⟨r',h9,bJ⟩:=KZ hw d hq h6 gP (by omega)
      refine⟨r',?_,bJ⟩
      simp only[Ef]
      rw[apg,h7,apf]
      exact h9
     ·cases h6
    ·rename_i f2 ptr Ef
     obtain⟨u,l3,l4,h5,h6,rfl⟩:=(Rd.run_bind _ _ _ _ _).1 h2
     simp only[Rd.run,api,apn]at h6
     obtain⟨⟨rfl,rfl⟩,_⟩:=h6
     obtain⟨u',h7,h8⟩:=VD hw h4 h5 (if m.path.isEmpty then some ((name.splitOn ".").getLastD name)else none)
     refine⟨u',?_,h8⟩
     simp only[Ef]
     rw[apg,h7,apf]
     rfl
def iG(P:apu):Bool:=P.funcs.toList.all fun f=> !(f.name== "runtime.NumGoroutine")
theorem K0(hP:iG P=true)(hw:WR P B w₀ ρ g w){f:apQ}{args:List ape}{args':Array ape}(ha:LR ρ args args'.toList){out:bi}{l:List Nat}
 (h:(enter P f args).run g=some (out,l)):Fits P B w₀ ρ g n out ((callFunc f args').run P w):=by
 unfold enter at h
 split at h
 ·rename_i fn hf
  have lH:(fn.name== "runtime.NumGoroutine")=false:=by
   have:=apR.1 hP fn (by rw[aqT];exact aui hf)
   simpa using this
  split at h
  ·rename_i c hc
   simp only[Rd.run,api,apn]at h
   obtain⟨rfl,rfl⟩:=h
   have:(callFunc f args').run P w=.ok (.enter f args') w:=by
    unfold callFunc
    rw[apg,arl,apf]
    simp only[hf,lH,hc,auG,aqi,if_false,apY]
   rw[this]
   exact⟨ρ,w,Ren.le_refl ρ,.enter f args args' w ha,hw⟩
  ·split at h
   ·rename_i fP
    have:args'=args.toArray:=by apply aq8;simpa using ha.xu fP
    rw[this]
    exact oA hw h
   ·cases h
 ·cases h
theorem K1(hP:iG P=true)(hw:WR P B w₀ ρ g w){recv qw:ape}(hr:VR ρ recv qw){name:String}{args:List ape}{args':Array ape}(ha:LR ρ args args'.toList){out:bi}{l:List Nat}
 (h:(zv P recv name args).run g=some (out,l)):Fits P B w₀ ρ g n out ((callMethod qw name args').run P w):=by
 unfold zv at h
 split at h
 ·rename_i t v
  obtain⟨v',rfl,hv⟩:=hr.xq
  obtain⟨⟨f,r⟩,l1,l2,h1,h2,rfl⟩:=(Rd.run_bind _ _ _ _ _).1 h
  obtain⟨r',h3,h4⟩:=KZ hw 9 hv h1 (P.types.size+avX) (by have:avX=100:=rfl;omega)
  have:(callMethod (.iface t v') name args').run P w=(callFunc f (#[r']++args')).run P w:=by
   unfold callMethod
   simp only[apg,arl,apf,h3]
  rw[this]
  exact K0 hP hw (by rw[aq6];exact LR.cons h4 ha) h2
 ·cases h
theorem VF(hw:WR P B w₀ ρ g w){b:Builtin}{argTypes:Array apq}{ty:apq}{uV:Array Bool}{args:List ape}{args':Array ape}(ha:LR ρ args args'.toList){out:bi}{l:List Nat}
 (hn:out.nw≠none→g n=none)(h:(Dg P b argTypes ty uV args n).run g=some (out,l)):Fits P B w₀ ρ g n out ((builtin b argTypes ty uV args').run P w):=by
 unfold Dg at h
 split at h
 ·rename_i hq
  simp only[apt]at hq
  have:args'=args.toArray:=by apply aq8;simpa using ha.xu hq.2
  rw[this]
  exact oA hw h
 ·split at h
  ·exact Vl hw ha hn h
  ·exact Vt hw ha h
  ·exact Vy hw ha h
  ·exact Vx hw ha h
  ·exact VA hw ha h
  ·cases h
theorem VG(hP:iG P=true)(hw:WR P B w₀ ρ g w){c:Call}{e e':aqM→ape}(he:∀x∈c.operands,VR ρ (e x) (e' x)){ty:apq}{out:bi}{l:List Nat}
 (hn:out.nw≠none→g n=none)(h:(rp P c e ty n).run g=some (out,l)):Fits P B w₀ ρ g n out ((do let d ←resolve e' c ty;invoke d.target d.args:Sem ark).run P w):=by
 have ia:LR ρ (c.args.toList.map e) (c.args.map e').toList:=by
  rw[ar9]
  exact LR.map _ _ _ fun x hx=>he x (by unfold asw;exact asb.2 (.inr (aqT.1 hx)))
 unfold rp at h
 unfold resolve
 split at h
 ·rename_i b hb
  simp only[hb]
  rw[apg,apY,apf]
  exact VF hw ia hn h
 ·rename_i recv name hb
  simp only[hb]
  rw[apg,apY,apf]
  have hr:VR ρ (e recv) (e' recv):=he recv (by unfold asw;rw[hb];simp)
  have:=K1 (n:=n) hP hw hr ia h
  have e2:(invoke (.fn (.method name) #[]) (#[e' recv]++c.args.map e')).run P w=(callMethod (e' recv) name (c.args.map e')).run P w:=by
   unfold invoke
   have h0:(#[e' recv]++c.args.map e')[0]?=some (e' recv):=by rw[asx (by simp)];rfl
   have h1:(#[e' recv]++c.args.map e').extract 1 (#[e' recv]++c.args.map e').size=c.args.map e':=by
    apply aq8
    simp[ars,arp]
    exact aqy (by simp)
   simp only[h0,h1]
  rw[e2]
  exact this
 ·rename_i f hb
  simp only[hb]
  have hr:VR ρ (e f) (e' f):=he f (by unfold asw;rw[hb];simp)
  unfold Kk at h
  split at h
  ·rename_i k first captured xK
   rw[xK]at hr
   obtain⟨f',c',h1,h2,h3⟩:=hr.xr
   rw[h1]
   simp only[atV]
   rw[apg,apY,apf]
   simp only[invoke]
   refine K0 hP hw ?_ h
   rw[aq6,aq6]
   exact(h2.append ia).append h3
  ·rename_i name first captured xK
   rw[xK]at hr
   obtain⟨f',c',h1,h2,h3⟩:=hr.xr
   rw[h1]
   simp only[atV]
   rw[apg,apY,apf]
   split at h
   ·rename_i recv rest K2
    have hl:=h2.append ia
    rw[K2]at hl
    obtain⟨qw,rG,h4,h5,h6⟩:=hl.gI
    have m8:(f'++c.args.map e')=(qw::rG).toArray:=by apply aq8;rw[aq6,h4]
    have e2:(invoke (.fn (.method name) c') (f'++c.args.map e')).run P w=(callMethod qw name rG.toArray).run P w:=by
     rw[m8]
     unfold invoke
     have h0:(qw::rG).toArray[0]?=some qw:=by simp
     have h1:(qw::rG).toArray.extract 1 (qw::rG).toArray.size=rG.toArray:=by
      apply aq8
      simp[ars,arp]
     simp only[h0,h1]
    rw[e2]
    exact K1 hP hw h5 (by simpa using h6) h
   ·cases h
  ·cases h
theorem VH(hP:iG P=true)(hw:WR P B w₀ ρ g w){o:aqh}{e e':aqM→ape}(he:∀x∈o.op.operands,VR ρ (e x) (e' x)){out:bi}{l:List Nat}
 (hn:out.nw≠none→g n=none)(h:(ev P e n o).run g=some (out,l)):Fits P B w₀ ρ g n out ((execOp e' o).run P w):=by
 obtain⟨dst,op,type,pos,after,guard⟩:=o
 have K3:∀{a:Array aqM},(∀x∈a,VR ρ (e x) (e' x))→LR ρ (a.toList.map e) (a.map e').toList:=fun{a} ha=>by
  rw[ar9];exact LR.map _ _ _ fun x hx=>ha x (aqT.1 hx)
 cases op<;>simp only[asS]at he<;>simp only[ev,zy]at h<;>try(cases h;done)
 case move x=>exact Fits.dE hw h (he x (by simp))
 case assign x=>exact Fits.dE hw h (he x (by simp))
 case pick c a b=>exact Uz hw (he c (by simp)) (he a (by simp)) (he b (by simp)) h
 case alloc t=>exact Ut hw hn h
 case box t x=>exact Uu hw (he x (by simp)) hn h
 case build t parts=>
  refine U9 hw ?_ h
  rw[ar9]
  exact PR.map _ fun x hx=>he x.2 (by simp only[asZ,aq0];exact⟨x,hx,rfl⟩)
 case buildSlice t len parts=>
  refine Vb hw ?_ hn h
  rw[ar9]
  exact PR.map _ fun x hx=>he x.2 (by simp only[asZ,aq0];exact⟨x,hx,rfl⟩)
 case insert t m k x=>exact KX hw (he m (by simp)) (he k (by simp)) (he x (by simp)) h
 case load t a=>exact Uv hw (he a (by simp)) h
 case store t a x=>exact Uw hw (he a (by simp)) (he x (by simp)) h
 case nilCheck x=>exact UA hw (he x (by simp)) h e' x rfl _ rfl
 case binOp op t x y yt=>exact UB hw (he x (by simp)) (he y (by simp)) h
 case unOp op t x=>exact UC hw (he x (by simp)) h
 case convert src dst x=>exact UW hw (he x (by simp)) hn h
 case makeInterface t x=>exact UD hw (he x (by simp)) h
 case makeFunc fn first captured=>
  exact UE hw (K3 fun x hx=>he x (asb.2 (.inl hx))) (K3 fun x hx=>he x (asb.2 (.inr hx))) h
 case makeMap t r=>
  have:=qq.map (ρ:=ρ) (e:=e) (e':=e') r fun y hy=>he y (by subst hy;simp)
  exact U0 hw this.some_ this.none_ hn h
 case makeSlice t a b=>exact U2 hw (he a (by simp)) (he b (by simp)) hn h
 case slice t x lo hi mx=>
  exact Vc hw (he x (by simp)) (qq.map lo fun y hy=>he y (by subst hy;simp)) (qq.map hi fun y hy=>he y (by subst hy;simp)) (qq.map mx fun y hy=>he y (by subst hy;simp)) h
 case fieldAddr s x i=>exact UI hw (he x (by simp)) i h
 case field s x i=>exact UJ hw (he x (by simp)) i h
 case indexAddr t x i=>exact Kz hw (he x (by simp)) (he i (by simp)) h
 case index t x i=>exact UK hw (he x (by simp)) (he i (by simp)) h
 case lookup t x k ok=>exact Vw hw (he x (by simp)) (he k (by simp)) ok h
 case mapUpdate t m k x=>exact KX hw (he m (by simp)) (he k (by simp)) (he x (by simp)) h
 case typeAssert x xt at_ ok=>exact UG hw (he x (by simp)) xt at_ ok h
 case extract t i=>exact UF hw (he t (by simp)) i h
 case call c=>exact VG hP hw he hn h
 case panic x=>exact UH hw (he x (by simp)) h
end
end Go.Proofs.YtnlkkgpcikkpoaaGreat.Vm
namespace Go.Proofs.YtnlkkgpcikkpoaaGreat.Vm
open Go.RowKit
abbrev FF(r:Option Nat):Fence:={Fence.wide with round:=r}
inductive qx(ρ:Ren)(base:List aqS):List (apQ×List ape)→List aqS→Prop where
 |nil:qx ρ base [] base
 |cons {k:apQ} {vs:List ape} {cap args:Array ape} {ds:List (apQ×List ape)} {l:List aqS} (h:LR ρ vs (args++cap).toList) (t:qx ρ base ds l):
  qx ρ base ((k,vs)::ds) ({target:=.fn (.func k) cap,args:=args}::l)
theorem qx.mono{ρ ρ':Ren}(hl:ρ.le ρ'){base:List aqS}{ds:List (apQ×List ape)}{l:List aqS}(h:qx ρ base ds l):qx ρ' base ds l:=by
 induction h with
 |nil=>exact .nil
 |cons h t ih=>exact .cons (h.mono hl) ih
structure FR(ρ:Ren)(t:Fr)(a:Act):Prop where
 size:a.tmps.size=t.n
 small:t.n≤1024
 at_:∀i,VR ρ (t.at i) (a.tmps.getD i undef)
 defers:qx ρ t.base t.ds a.defers
theorem FR.mono{ρ ρ':Ren}(hl:ρ.le ρ'){t:Fr}{a:Act}(h:FR ρ t a):FR ρ' t a:=⟨h.size,h.small,fun i=>(h.at_ i).mono hl,h.defers.mono hl⟩
theorem FR.rK{ρ:Ren}{t:Fr}{a:Act}(h:FR ρ t a)(h1:t.ds=[]):a.defers=t.base:=by
 have key:∀{ds:List (apQ×List ape)} {l:List aqS},qx ρ t.base ds l→ds=[]→l=t.base:=by
  intro ds l hd e
  cases hd with
  |nil=>rfl
  |cons=>cases e
 exact key h.defers h1
theorem FR.eval{ρ:Ren}{t:Fr}{a:Act}(h:FR ρ t a){x:aqM}(hx:pd x=true):VR ρ (bL t x) (a.eval x):=by
 cases x with
 |tmp i=>exact h.at_ i
 |const v=>exact nD hx
 |global g=>cases hx
 |func f=>exact .func _ _ _ _ _ rfl rfl (fun i v v' h=>by simp at h) rfl (fun i v v' h=>by simp at h)
theorem dQ{a b:Nat}:apy a b=true↔a<b:=by
 unfold apy
 rw[au4]
 omega
theorem FR.put{ρ:Ren}{t t1:Fr}{a:Act}(h:FR ρ t a){d:Option Tmp}{v v':ape}(hv:VR ρ v v')(hp:Vm.put t d v=some t1):FR ρ t1 (a.put d v'):=by
 unfold Vm.put at hp
 unfold Act.put
 cases d with
 |none=>cases hp;exact h
 |some d=>
  simp only[Fr.ri]at hp
  split at hp
  ·rename_i hlt
   have hlt:=dQ.1 hlt
   cases hp
   refine⟨by simpa using h.size,h.small,fun j=>?_,h.defers⟩
   have hj:=h.at_ j
   unfold Fr.at at hj⊢
   dsimp only at hj⊢
   by_cases Ac:j<t.n
   ·rw[dQ.2 Ac]at hj⊢
    dsimp only at hj⊢
    have bJ:(2:Nat)^10=1024:=rfl
    rw[Tr.xn 10 _ _ _ _ (by have:=h.small;omega) (by have:=h.small;omega)]
    by_cases Eg:j=d
    ·subst Eg
     rw[if_pos rfl]
     have Ad:j<a.tmps.size:=by rw[h.size];exact Ac
     simp only[apW,aqQ,Ad,if_true,aq4]
     exact hv
    ·rw[if_neg Eg]
     rw[apW,aqN (Ne.symm Eg),←apW]
     exact hj
   ·have hb:apy j t.n=false:=by cases hb:apy j t.n with
     |false=>rfl
     |true=>exact absurd (dQ.1 hb) Ac
    rw[hb]
    dsimp only
    have Ad:¬j<a.tmps.size:=by rw[h.size];exact Ac
    rw[apW,asm (by simp;omega)]
    exact VR.undef ρ
  ·cases hp
theorem VI{ρ:Ren}{t:Fr}{a:Act}(h:FR ρ t a)(ops:Array aqh):lF ops.toList t=yielded ops a.tmps:=by
 funext j
 unfold lF yielded
 rw[aqW]
 cases hd:(ops[j]?).bind (·.dst)with
 |none=>rfl
 |some d=>
  dsimp only[Option.bind_some]
  have hv:=h.at_ d
  rw[apW]at hv
  cases hc:a.tmps[d]?with
  |none=>
   rw[hc]at hv
   have hu:∀b,t.at d≠ .bool b:=by
    intro b e
    rw[e]at hv
    have:=hv.u0
    cases this
   split
   ·rename_i b e;exact absurd e (hu b)
   ·rfl
  |some u=>
   rw[hc]at hv
   simp only[aq4]at hv
   split
   ·rename_i b e
    rw[e]at hv
    rw[hv.u0]
   ·rename_i bk
    split
    ·rename_i b e
     simp only[api]at e
     subst e
     generalize hx:t.at d=x at hv bk
     cases hv
     exact absurd rfl (bk b)
    ·rfl
structure dK(S S':VS):Prop where
 rd:∀x,x∈S.rd→x∈S'.rd
 wr:∀x,x∈S.wr→x∈S'.wr
 frame:∀x,x∉S'.wr→gt S'.mem x=gt S.mem x
 sm:(∀x,(x∈S.rd∨x∈S.wr)→small x=true)→∀x,(x∈S'.rd∨x∈S'.wr)→small x=true
theorem dK.refl(S:VS):dK S S:=⟨fun _ h=>h,fun _ h=>h,fun _ _=>rfl,fun h=>h⟩
theorem dK.trans{a b c:VS}(h:dK a b)(k:dK b c):dK a c:=
 ⟨fun x hx=>k.rd x (h.rd x hx),fun x hx=>k.wr x (h.wr x hx),fun x hx=>(k.frame x hx).trans (h.frame x fun hh=>hx (k.wr x hh)),fun hs=>k.sm (h.sm hs)⟩
def fG(S S':VS)(m:Nat→Option ag):Prop:=∀x,(x∈S'.rd∨x∈S'.wr)→m x=gt S.mem x
def post(m:Nat→Option ag)(S':VS):Nat→Option ag:=fun x=>if x∈S'.wr then gt S'.mem x else m x
theorem fG.first{S S1 S2:VS}{m:Nat→Option ag}(h:fG S S2 m)(e:dK S1 S2):fG S S1 m:=
 fun x hx=>h x (hx.imp (e.rd x) (e.wr x))
theorem fG.next{S S1 S2:VS}{m:Nat→Option ag}(h:fG S S2 m)(e1:dK S S1):fG S1 S2 (post m S1):=by
 intro x hx
 unfold post
 by_cases hw:x∈S1.wr
 ·rw[if_pos hw]
 ·rw[if_neg hw,h x hx,e1.frame x hw]
theorem oD{m:Nat→Option ag}{S1 S2:VS}(e:dK S1 S2):post (post m S1) S2=post m S2:=by
 funext x
 unfold post
 by_cases h2:x∈S2.wr
 ·rw[if_pos h2,if_pos h2]
 ·rw[if_neg h2,if_neg h2,if_neg fun h=>h2 (e.wr x h)]
theorem oE{m:Nat→Option ag}{S:VS}(h:fG S S m):post m S=m:=by
 funext x
 unfold post
 by_cases hw:x∈S.wr
 ·rw[if_pos hw,h x (.inr hw)]
 ·rw[if_neg hw]
abbrev oF(g:Nat→Option ag)(ws:List (Nat×ag)):Nat→Option ag:=ws.foldl (fun g (p:Nat×ag)=>cJ g p.1 p.2) g
abbrev iH(S:VS)(ws:List (Nat×ag)):VS:=ws.foldl (fun(S:VS) (p:Nat×ag)=>{S with mem:=S.mem.set 18 p.1 p.2,wr:=p.1::S.wr}) S
theorem qy:∀{ws:List (Nat×ag)} {g:Nat→Option ag} {x:Nat},(∀p∈ws,p.1≠x)→oF g ws x=g x
 | [],g,x,_=>rfl
 |p::ws,g,x,h=>by
  show oF (cJ g p.1 p.2) ws x=g x
  rw[qy fun q hq=>h q (by simp[hq]),dV _ (Ne.symm (h p (by simp)))]
theorem Eh:∀{ws:List (Nat×ag)} {g g':Nat→Option ag} {x:Nat},(∃p∈ws,p.1=x)→oF g ws x=oF g' ws x
 | [],g,g',x,h=>by obtain⟨p,hp,_⟩:=h;cases hp
 |p::ws,g,g',x,h=>by
  show oF (cJ g p.1 p.2) ws x=oF (cJ g' p.1 p.2) ws x
  by_cases hr:∃q∈ws,q.1=x
  ·exact Eh hr
  ·have hn:∀q∈ws,q.1≠x:=fun q hq e=>hr ⟨q,hq,e⟩
   rw[qy hn,qy hn]
   obtain⟨q,hq,e⟩:=h
   rcases apx.1 hq with rfl|hq
   ·subst e;rw[e9,e9]
   ·exact absurd e (hn q hq)
theorem K4:∀{ws:List (Nat×ag)} {S:VS},(∀p∈ws,small p.1=true)→
 gt (iH S ws).mem=oF (gt S.mem) ws∧(iH S ws).rd=S.rd∧(iH S ws).next=S.next∧∀x,x∈(iH S ws).wr↔(∃p∈ws,p.1=x)∨x∈S.wr
 | [],S,_=>⟨rfl,rfl,rfl,fun x=>by simp⟩
 |p::ws,S,h=>by
  obtain⟨h1,h2,h3,h4⟩:=K4 (ws:=ws) (S:={S with mem:=S.mem.set 18 p.1 p.2,wr:=p.1::S.wr}) fun q hq=>h q (by simp[hq])
  refine⟨?_,h2,h3,fun x=>?_⟩
  ·show gt (iH _ ws).mem=oF (cJ (gt S.mem) p.1 p.2) ws
   rw[h1,←xo (h p (by simp))]
  ·show x∈(iH _ ws).wr↔_
   rw[h4 x]
   simp only[apx]
   constructor
   ·rintro(⟨q,hq,e⟩|rfl|hx)
    ·exact .inl ⟨q,.inr hq,e⟩
    ·exact .inl ⟨p,.inl rfl,rfl⟩
    ·exact .inr hx
   ·rintro(⟨q,rfl|hq,e⟩|hx)
    ·exact .inr (.inl e.symm)
    ·exact .inl ⟨q,hq,e⟩
    ·exact .inr (.inr hx)
theorem K5{S S1:VS}{l:List Nat}{out:bi}{r:j6}(hl:∀x∈l,∃o,gt S.mem x=some o)(h:zz S l out=some (r,S1)):
 dK S S1∧r=out.r∧(out.nw≠none→gt S.mem S.next=none∧S.next∈S1.wr)∧(∀x∈l,x∈S1.rd)∧∀m,fG S S1 m→post m S1=u7 m S.next out:=by
 unfold zz at h
 dsimp only at h
 split at h
 ·cases h
 ·rename_i kJ
  have eo:∀p∈out.ws,small p.1=true:=by
   intro p hp
   have:=apR.1 kJ p hp
   obtain⟨o,ho⟩:=hl p.1 (by simpa using this)
   exact po ho
  obtain⟨h1,h2,h3,h4⟩:=K4 (ws:=out.ws) (S:={S with rd:=l++S.rd}) eo
  split at h
  ·rename_i pA
   simp only[api,apn]at h
   obtain⟨rfl,rfl⟩:=h
   refine⟨⟨fun x hx=>?_,fun x hx=>?_,fun x hx=>?_,fun hS x hx=>?_⟩,rfl,fun bk=>absurd pA bk,fun x hx=>?_,fun m hm=>?_⟩
   ·show x∈(iH _ out.ws).rd;rw[h2];simp[hx]
   ·exact(h4 x).2 (.inr hx)
   ·show gt (iH _ out.ws).mem x=_
    rw[h1,qy fun p hp e=>hx ((h4 x).2 (.inl ⟨p,hp,e⟩))]
   ·rcases hx with hx|hx
    ·have hx:x∈(iH {S with rd:=l++S.rd} out.ws).rd:=hx
     rw[h2]at hx
     rcases apN.1 hx with hx|hx
     ·obtain⟨o,ho⟩:=hl x hx;exact po ho
     ·exact hS x (.inl hx)
    ·rcases(h4 x).1 hx with⟨p,hp,rfl⟩|hx
     ·exact eo p hp
     ·exact hS x (.inr hx)
   ·show x∈(iH _ out.ws).rd;rw[h2];simp[hx]
   ·funext x
    unfold post u7
    rw[pA]
    show(if x∈(iH _ out.ws).wr then gt (iH _ out.ws).mem x else m x)=oF m out.ws x
    by_cases hx:∃p∈out.ws,p.1=x
    ·rw[if_pos ((h4 x).2 (.inl hx)),h1]
     exact Eh hx
    ·have hn:∀p∈out.ws,p.1≠x:=fun p hp e=>hx ⟨p,hp,e⟩
     rw[qy hn]
     by_cases hw:x∈(iH {S with rd:=l++S.rd} out.ws).wr
     ·rw[if_pos hw,h1,qy hn]
      exact(hm x (.inr hw)).symm
     ·rw[if_neg hw]
  ·rename_i o pA
   split at h
   ·rename_i hs pB
    simp only[api,apn]at h
    obtain⟨rfl,rfl⟩:=h
    have ib:gt ((iH {S with rd:=l++S.rd} out.ws).mem.set 18 S.next o)=cJ (oF (gt S.mem) out.ws) S.next o:=by rw[xo hs,h1]
    refine⟨⟨fun x hx=>?_,fun x hx=>?_,fun x hx=>?_,fun hS x hx=>?_⟩,rfl,fun _=>⟨pB,by simp⟩,fun x hx=>?_,fun m hm=>?_⟩
    ·show x∈(iH _ out.ws).rd;rw[h2];simp[hx]
    ·show x∈S.next::(iH _ out.ws).wr
     exact apB _ ((h4 x).2 (.inr hx))
    rotate_left
    ·rcases hx with hx|hx
     ·have hx:x∈(iH {S with rd:=l++S.rd} out.ws).rd:=hx
      rw[h2]at hx
      rcases apN.1 hx with hx|hx
      ·obtain⟨o,ho⟩:=hl x hx;exact po ho
      ·exact hS x (.inl hx)
     ·have hx:x∈S.next::(iH {S with rd:=l++S.rd} out.ws).wr:=hx
      rcases apx.1 hx with rfl|hx
      ·exact hs
      ·rcases(h4 x).1 hx with⟨p,hp,rfl⟩|hx
       ·exact eo p hp
       ·exact hS x (.inr hx)
    rotate_left
    rotate_left
    ·have gA:x∉S.next::(iH {S with rd:=l++S.rd} out.ws).wr:=hx
     simp only[apx,not_or]at gA
     show gt ((iH {S with rd:=l++S.rd} out.ws).mem.set 18 S.next o) x=_
     rw[ib,dV _ gA.1,qy fun p hp e=>gA.2 ((h4 x).2 (.inl ⟨p,hp,e⟩))]
    ·show x∈(iH _ out.ws).rd;rw[h2];simp[hx]
    ·funext x
     unfold post u7
     rw[pA]
     show(if x∈S.next::(iH _ out.ws).wr then gt ((iH {S with rd:=l++S.rd} out.ws).mem.set 18 S.next o) x else m x)=cJ (oF m out.ws) S.next o x
     rw[ib]
     by_cases Ei:x=S.next
     ·subst Ei
      rw[if_pos (by simp),e9,e9]
     ·rw[dV _ Ei,dV _ Ei]
      by_cases hx:∃p∈out.ws,p.1=x
      ·rw[if_pos (apB _ ((h4 x).2 (.inl hx)))]
       exact Eh hx
      ·have hn:∀p∈out.ws,p.1≠x:=fun p hp e=>hx ⟨p,hp,e⟩
       rw[qy hn,qy hn]
       by_cases hw:x∈S.next::(iH {S with rd:=l++S.rd} out.ws).wr
       ·rw[if_pos hw]
        exact(hm x (.inr hw)).symm
       ·rw[if_neg hw]
   ·cases h
section
variable {P:apu} {B:Nat→Prop} {w₀:aps}
theorem VJ{t:Fr}{S S1:VS}{o:aqh}{r:j6}(h:nz P t S o=some (r,S1)):dK S S1:=by
 unfold nz at h
 split at h
 ·cases h
 ·split at h
  ·cases h
  ·rename_i out l my
   exact(K5 (fun x hx=>Rd.zH my x hx) h).1
theorem VK(hP:iG P=true){ρ:Ren}{m:Nat→Option ag}{w:aps}{t:Fr}{a:Act}{S S1:VS}{o:aqh}{r:j6}(h:nz P t S o=some (r,S1))
 (ht:FR ρ t a)(hw:WR P B w₀ ρ m w)(hm:fG S S1 m):∃ρ' w',ρ.le ρ'∧RR ρ' r ((execOp a.eval o).run P w) w'∧WR P B w₀ ρ' (post m S1) w':=by
 unfold nz at h
 split at h
 ·cases h
 ·rename_i mz
  split at h
  ·cases h
  ·rename_i out l my
   obtain⟨h1,rfl,h3,h4,h5⟩:=K5 (fun x hx=>Rd.zH my x hx) h
   have VL:(ev P (bL t) S.next o).run m=some (out,l):=Rd.zG my fun x hx=>hm x (.inl (h4 x hx))
   obtain⟨ρ',w',h6,h7,h8⟩:=(VH hP hw (e':=a.eval) (fun x hx=>ht.eval (apR.1 mz x (aqT.2 hx)))
    (fun bk=>by obtain⟨h9,bJ⟩:=h3 bk;rw[hm _ (.inr bJ),h9]) VL).ex
   exact⟨ρ',w',h6,h7,by rw[h5 m hm];exact h8⟩
theorem xL:∀{l:List ag} {S S1:VS},rA l S=some S1→dK S S1∧S1.rd=S.rd∧(∀j,j<l.length→gt S.mem (S.next+j)=none∧S.next+j∈S1.wr)∧∀m,fG S S1 m→post m S1=iV m S.next l
 | [],S,S1,h=>by
  simp only[rA,api]at h
  subst h
  exact⟨dK.refl S,rfl,fun j hj=>absurd hj (by simp),fun m hm=>oE hm⟩
 |o::l,S,S1,h=>by
  unfold rA at h
  split at h
  ·rename_i hs hn
   obtain⟨h1,h2,h3,h4⟩:=xL h
   have ib:gt (S.mem.set 18 S.next o)=cJ (gt S.mem) S.next o:=xo hs
   have e1:dK S {S with mem:=S.mem.set 18 S.next o,next:=S.next+1,wr:=S.next::S.wr}:=by
    refine⟨fun x hx=>hx,fun x hx=>apB _ hx,fun x hx=>?_,fun hS x hx=>?_⟩
    ·show gt (S.mem.set 18 S.next o) x=_
     rw[ib,dV _ fun e=>hx (by rw[e];exact apC)]
    ·rcases hx with hx|hx
     ·exact hS x (.inl hx)
     ·rcases apx.1 hx with rfl|hx
      ·exact hs
      ·exact hS x (.inr hx)
   have fk:S.next∈S1.wr:=h1.wr _ apC
   refine⟨e1.trans h1,h2,fun j hj=>?_,fun m hm=>?_⟩
   ·cases j with
    |zero=>exact⟨hn,fk⟩
    |succ j=>
     obtain⟨h5,h6⟩:=h3 j (by simpa using hj)
     dsimp only at h5 h6
     rw[ib,dV _ (by omega)]at h5
     rw[show S.next+(j+1)=S.next+1+j by omega]
     exact⟨h5,h6⟩
   ·have cq:fG {S with mem:=S.mem.set 18 S.next o,next:=S.next+1,wr:=S.next::S.wr} S1 (cJ m S.next o):=by
     intro x hx
     show cJ m S.next o x=gt (S.mem.set 18 S.next o) x
     rw[ib]
     by_cases e:x=S.next
     ·subst e;rw[e9,e9]
     ·rw[dV _ e,dV _ e];exact hm x hx
    show post m S1=iV (cJ m S.next o) (S.next+1) l
    rw[←h4 _ cq]
    funext x
    unfold post
    by_cases hx:x∈S1.wr
    ·rw[if_pos hx,if_pos hx]
    ·rw[if_neg hx,if_neg hx,dV _ fun e=>hx (by rw[e];exact fk)]
  ·cases h
theorem K6{t:Fr}{S:VS}{o:aqh}{V:View}(h:lE P t S o=some V):
 ∃ty x i cap,o.op=.indexAddr ty x i∧bL t x=.slice (some ⟨V.b,0,none⟩) V.len cap∧gt S.mem V.b=some (.rows V.n V.size V.row)∧P.underlying ty=some (.slice V.el)∧bR P V.el=some V.size∧V.i=bL t i:=by
 unfold lE at h
 split at h
 ·rename_i ty x i cQ
  split at h
  ·rename_i b off len cap hx
   split at h
   ·rename_i n size row hb
    split at h
    ·split at h
     ·rename_i el hu
      split at h
      ·rename_i s hs
       split at h
       ·rename_i vo
        have vo:=apz vo
        subst vo
        cases h
        exact⟨ty,x,i,cap,cQ,hx,hb,hu,hs,rfl⟩
       ·cases h
      ·cases h
     ·cases h
    ·cases h
   ·cases h
  ·cases h
 ·cases h
theorem K7{S S1:VS}{b:Nat}{el:apq}{l:List SV}{r:j6}(h:xl S b el l=some (r,S1)):
 r=.val (.pointer (some ⟨S.next+kY l,0,none⟩))∧rA (gH l++[.cells (mo l S.next) el true]) {S with rd:=b::S.rd}=some S1:=by
 unfold xl at h
 split at h
 ·rename_i S2 hl
  simp only[api,apn]at h
  obtain⟨rfl,rfl⟩:=h
  exact⟨rfl,hl⟩
 ·cases h
theorem VM{S S1:VS}{b:Nat}{o:ag}(hb:gt S.mem b=some o)(h:dK {S with rd:=b::S.rd} S1):dK S S1:=by
 refine dK.trans (b:={S with rd:=b::S.rd}) ⟨fun x hx=>apB _ hx,fun x hx=>hx,fun x hx=>rfl,fun hS x hx=>?_⟩ h
 rcases hx with hx|hx
 ·rcases apx.1 hx with rfl|hx
  ·exact po hb
  ·exact hS x (.inl hx)
 ·exact hS x (.inr hx)
theorem K8{t:Fr}{S S1:VS}{o:aqh}{r:j6}{V:View}(hV:lE P t S o=some V)(h:jy P t S o=some (r,S1)):
 o.op.operands.toList.all pd=true∧∃k,pe V.i=some k∧k<V.n∧k<V.len∧xl S V.b V.el (V.row k)=some (r,S1):=by
 unfold jy at h
 rw[hV]at h
 dsimp only at h
 split at h
 ·rename_i k mz hk
  split at h
  ·rename_i hlt
   simp only[apt,dQ]at hlt
   exact⟨mz,k,hk,hlt.1,hlt.2,h⟩
  ·cases h
 ·cases h
theorem K9{t:Fr}{S:VS}{o:aqh}(hV:lE P t S o=none):jy P t S o=nz P t S o:=by
 unfold jy
 rw[hV]
theorem xM{t:Fr}{S S1:VS}{o:aqh}{r:j6}(h:jy P t S o=some (r,S1)):dK S S1:=by
 cases hV:lE P t S o with
 |none=>rw[K9 hV]at h;exact VJ h
 |some V=>
  obtain⟨_,k,_,_,_,h⟩:=K8 hV h
  obtain⟨ty,x,i,cap,_,_,hb,_⟩:=K6 hV
  exact VM hb (xL (K7 h).2).1
theorem vp(hP:iG P=true){ρ:Ren}{m:Nat→Option ag}{w:aps}{t:Fr}{a:Act}{S S1:VS}{o:aqh}{r:j6}(h:jy P t S o=some (r,S1))
 (ht:FR ρ t a)(hw:WR P B w₀ ρ m w)(hm:fG S S1 m):∃ρ' w',ρ.le ρ'∧RR ρ' r ((execOp a.eval o).run P w) w'∧WR P B w₀ ρ' (post m S1) w':=by
 cases hV:lE P t S o with
 |none=>rw[K9 hV]at h;exact VK hP h ht hw hm
 |some V=>
  have anD:=xM h
  obtain⟨mz,k,hk,jQ,xN,h⟩:=K8 hV h
  obtain⟨ty,x,i,cap,cQ,hx,hb,hu,hs,hi⟩:=K6 hV
  obtain⟨hr,hl⟩:=K7 h
  obtain⟨he,gd,cu,tE⟩:=xL hl
  have VN:m V.b=some (.rows V.n V.size V.row):=by
   rw[hm V.b (.inl (by rw[gd];exact apC)),hb]
  have DA:fG {S with rd:=V.b::S.rd} S1 m:=hm
  have tE:=tE m DA
  obtain⟨rr,Ej,ca⟩:=hw.rows _ _ _ _ VN
  have ca:=ca (by omega)
  obtain⟨c',bU,fr,h1,h2,h3,h4⟩:=ca.at_
  obtain⟨h5,h6⟩:=h4 k jQ
  have VO:w.heap[rr.aI]?=some (.cells c' bU fr):=(hw.below.block _ ca.aI).trans h1
  have hmul:k*V.size+V.size≤V.n*V.size:=by
   have:=ar2 V.size jQ
   rw[Nat.succ_mul]at this
   exact this
  let l':List ape:=(c'.toList.drop (rr.sh+k*V.size)).take V.size
  have La:l'.length=V.size:=by simp[l'];omega
  have Ek:gz P w₀ B (V.row k) l':=⟨by rw[h5,La],fun j s v hj hv=>by
   obtain⟨v',a1,a2⟩:=h6 j s hj
   have:l'[j]?=some v':=by
    show((c'.toList.drop (rr.sh+k*V.size)).take V.size)[j]?=_
    have Ad:j<V.size:=by rw[←h5];exact(app.1 hj).1
    rw[aqx,if_pos Ad,aqz]
    simpa using a1
   rw[this]at hv
   cases hv
   exact a2⟩
  have Ae:∀j,j<(gH (V.row k)++[ag.cells (mo (V.row k) S.next) V.el true]).length→m (S.next+j)=none:=fun j hj=>by
   obtain⟨a1,a2⟩:=cu j hj
   rw[hm _ (.inr a2)]
   exact a1
  obtain⟨ρ1,g1,g2,g3⟩:=xE (k:=S.next) Ek hw fun j hj=>Ae j (by rw[apv,rF];omega)
  have El:iV m S.next (gH (V.row k)) (S.next+kY (V.row k))=none:=by
   rw[zX (.inr (by rw[rF];exact apI _))]
   exact Ae _ (by rw[apv,rF];simp)
  let R:bN:=⟨rr.aI,rr.sh+k*V.size,V.size,c'.size⟩
  have g4:=g2.KJ (r:=R) El (c:=mo (V.row k) S.next) (el:=V.el) (fun q hq=>by rw[hs]at hq;cases hq;rfl) fun bk=>
   ⟨ca.aI,c',bU,fr,VO,rfl,by show rr.sh+k*V.size+_≤c'.size;rw[g3.len,La];omega,fun j v hv=>by
    obtain⟨v',b1,b2⟩:=g3.get hv
    refine⟨v',?_,b2.mono (Ren.j9 (g2.fresh _ El) _)⟩
    have b1:((c'.toList.drop (rr.sh+k*V.size)).take V.size)[j]?=some v':=b1
    rw[aqx]at b1
    split at b1
    ·rw[aqz]at b1
     simpa using b1
    ·cases b1⟩
  refine⟨_,w,Ren.le_trans g1 (Ren.j9 (g2.fresh _ El) R),?_,?_⟩
  ·-- the model's own index
   have Af:VR ρ (.slice (some ⟨V.b,0,none⟩) V.len cap) (a.eval x):=by
    rw[←hx]
    exact ht.eval (apR.1 mz x (by rw[cQ];simp[asS]))
   have Em:VR ρ (bL t i) (a.eval i):=ht.eval (apR.1 mz i (by rw[cQ];simp[asS]))
   have iI:(tg P ty (.slice (some ⟨V.b,0,none⟩) V.len cap) (bL t i)).run m=some (⟨.val (.pointer (some ⟨V.b,0+k*V.size,none⟩)),[],none⟩,[]):=by
    unfold tg
    rw[hu]
    rw[hi]at hk
    simp only[hu,hk,hs,dQ.2 xN]
    rfl
   obtain⟨ρ2,w2,f1,f2,f3⟩:=(Kz (n:=0) hw Af Em iI).ex
   obtain⟨dst,op,type,pos,after,guard⟩:=o
   dsimp only at cQ
   subst cQ
   subst hr
   generalize qz:(arL P (do let v ←arZ ty (a.eval x) (a.eval i);pure (aqs v):Sem ark) w)=ow at f2
   cases f2 with
   |val _ v' _ hv=>
    have dG:w2=w:=by
     generalize anE:a.eval x=ax at Af qz
     generalize D3:V.len=vl at Af xN
     cases Af with
     |bG _ h=>cases h
     |eh=>omega
     |sl _ _ _ _ bw r vq hc=>
      rw[hi]at hk
      obtain⟨ik,jB⟩:=pu hk
      rw[jB]at Em
      rw[Em.jL]at qz
      have:(arZ ty (.slice (some ⟨r.aI,r.sh+0,none⟩) vl bw) (.int ik k)).run P w=.ok (.pointer (some ⟨r.aI,r.sh+0+k*V.size,none⟩)) w:=by
       unfold arZ
       simp only[asIntOf,apg,apY,apf,run_underlying hu,Instr.sureAddr]
       rw[if_pos ⟨by omega,by omega⟩]
       simp only[apg,run_sizeOf hs,apf,apY,pr,Int.toNat_natCast]
      rw[apg,this]at qz
      cases qz
      rfl
    subst dG
    obtain⟨r,eO,rfl⟩:=hv.kE
    rw[f1 _ _ Ej]at eO
    cases eO
    have e:(execOp a.eval {dst,op:=Op.indexAddr ty x i,type,pos,after,guard}).run P w2=.ok (.value (.pointer (some ⟨rr.aI,rr.sh+(0+k*V.size),none⟩))) w2:=qz
    rw[e]
    refine .val _ _ _ ?_
    have:=VR.ptr (ρ:=ρ1.put (S.next+kY (V.row k)) R) (S.next+kY (V.row k)) 0 R (Ren.kG _ _ _)
    simpa[R]using this
  ·have:post m S1=cJ (iV m S.next (gH (V.row k))) (S.next+kY (V.row k)) (.cells (mo (V.row k) S.next) V.el true):=by
    rw[tE]
    show iV m S.next _=_
    rw[KK,rF]
    rfl
   rw[this]
   exact g4
def CR(ρ:Ren):bx→atX→Prop
 | .ret v,.returned v'=>VR ρ v v'
 | .panic v,.panicked chain=>∃v',chain=[{v:=v',recovered:=false}]∧VR ρ v v'
 |_,_=>False
structure ic(P:apu)(call:cB):Prop where
 ext:∀{f:apQ} {args:List ape} {S:VS} {r:bx} {S':VS},call f args S=some (r,S')→dK S S'
 ok:∀{f:apQ} {args:List ape} {S:VS} {r:bx} {S':VS},call f args S=some (r,S')→∀{B:Nat→Prop} {w₀:aps} {ρ:Ren} {m:Nat→Option ag} {w:aps} {args':Array ape},
  LR ρ args args'.toList→WR P B w₀ ρ m w→fG S S' m→Calls P f args' w fun e w'=>∃ρ',ρ.le ρ'∧CR ρ' r e∧WR P B w₀ ρ' (post m S') w'
theorem xO{call:cB}(hc:ic P call){ops:List aqh}{o:aqh}{t t1:Fr}{S S1:VS}{ow:Option ape}(h:kA P call ops o t S=some (ow,t1,S1)):dK S S1:=by
 unfold kA at h
 split at h
 ·simp only[aqm,apn]at h
  obtain⟨_,_,_,_,rfl⟩:=h
  exact dK.refl S
 ·split at h
  ·cases h
  ·rename_i r S2 hs
   have e:=xM hs
   split at h
   ·simp only[aqm,apn]at h
    obtain⟨_,_,_,_,rfl⟩:=h
    exact e
   ·simp only[aqm,apn]at h
    obtain⟨_,_,_,_,rfl⟩:=h
    exact e
   ·simp only[api,apn]at h
    obtain⟨_,_,rfl⟩:=h
    exact e
   ·cases h
   ·split at h
    ·cases h
    ·rename_i v S3 eN
     simp only[aqm,apn]at h
     obtain⟨_,_,_,_,rfl⟩:=h
     exact e.trans (hc.ext eN)
    ·rename_i v S3 eN
     simp only[api,apn]at h
     obtain⟨_,_,rfl⟩:=h
     exact e.trans (hc.ext eN)
theorem Lb{r:Option Nat}{n:Nat}{f:apQ}{args:Array ape}{w:aps}{R:atX→aps→Prop}(h:Calls P f args w R):CallsIn (FF r) n P f args w R:=(callsIn_wide (n:=n)).2 h
theorem VP{t:Fr}{S:VS}{o:aqh}{q:j6×VS}(h:jy P t S o=some q):∀c,o.op≠ .defer c:=by
 intro c hc
 unfold jy lE at h
 rw[hc]at h
 simp only at h
 unfold nz ev zy at h
 rw[hc]at h
 simp only[Rd.run]at h
 split at h<;>cases h
theorem En(hP:iG P=true){call:cB}(hc:ic P call){ops:Array aqh}{i:Nat}{o:aqh}(ho:ops[i]?=some o){t t1:Fr}{S S1:VS}{ow:Option ape}
 (h:kA P call ops.toList o t S=some (ow,t1,S1)){ρ:Ren}{m:Nat→Option ag}{w:aps}{a:Act}(ht:FR ρ t a)(hw:WR P B w₀ ρ m w)(hm:fG S S1 m)
 {r:Option Nat}{K:Act→aps→Prop}{Q:arB→Act→aps→Prop}
 (hK:ow=none→∀(ρ':Ren) (a':Act) (w':aps),ρ.le ρ'→FR ρ' t1 a'→(∃v,a'=a.put o.dst v)→WR P B w₀ ρ' (post m S1) w'→K a' w')
 (hQ:∀v,ow=some v→∀(ρ':Ren) (v':ape) (w':aps),ρ.le ρ'→VR ρ' v v'→FR ρ' t1 a→WR P B w₀ ρ' (post m S1) w'→Q (.panic [{v:=v',recovered:=false}]) a w'):
 wpOpIn (FF r) 0 P ops Q i K a w:=by
 unfold wpOpIn
 simp only[ho]
 unfold kA at h
 rw[VI ht]at h
 split at h
 ·rename_i Eo
  simp only[aqm,apn]at h
  obtain⟨t2,hp,rfl,rfl,rfl⟩:=h
  simp only[Eo,aqi,if_false]
  have tE:post m S=m:=oE hm
  exact⟨fun _ _=>trivial,hK rfl ρ _ w (Ren.le_refl ρ) (ht.put (VR.undef ρ) hp) ⟨_,rfl⟩ (by rw[tE];exact hw)⟩
 ·rename_i Eo
  simp only[Eo,if_true]
  unfold av4
  refine⟨fun _ _=>trivial,?_⟩
  split at h
  ·cases h
  ·rename_i r S2 hs
   rw[Oper.semAt_eq _ _ _ (VP hs)]
   have e:=xM hs
   split at h
   ·rename_i v
    simp only[aqm,apn]at h
    obtain⟨t2,hp,rfl,rfl,rfl⟩:=h
    obtain⟨ρ',w',h1,h2,h3⟩:=vp hP hs ht hw hm
    generalize(execOp a.eval o).run P w=q at h2
    cases h2 with
    |val _ v' _ hv=>exact hK rfl ρ' _ w' h1 ((ht.mono h1).put hv hp) ⟨_,rfl⟩ h3
   ·simp only[aqm,apn]at h
    obtain⟨t2,hp,rfl,rfl,rfl⟩:=h
    obtain⟨ρ',w',h1,h2,h3⟩:=vp hP hs ht hw hm
    generalize(execOp a.eval o).run P w=q at h2
    cases h2 with
    |skip=>exact hK rfl ρ' _ w' h1 ((ht.mono h1).put (VR.undef ρ') hp) ⟨_,rfl⟩ h3
   ·rename_i v
    simp only[api,apn]at h
    obtain⟨rfl,rfl,rfl⟩:=h
    obtain⟨ρ',w',h1,h2,h3⟩:=vp hP hs ht hw hm
    generalize(execOp a.eval o).run P w=q at h2
    cases h2 with
    |panic _ v' _ hv=>exact hQ v rfl ρ' v' w' h1 hv (ht.mono h1) h3
   ·cases h
   ·rename_i f args
    split at h
    ·cases h
    ·rename_i v S3 eN
     simp only[aqm,apn]at h
     obtain⟨t2,hp,rfl,rfl,rfl⟩:=h
     have e2:=hc.ext eN
     obtain⟨ρ',w',h1,h2,h3⟩:=vp hP hs ht hw (hm.first e2)
     generalize(execOp a.eval o).run P w=q at h2
     cases h2 with
     |enter _ _ args' _ ha=>
      refine⟨(fun hh=>by cases hh),(Lb (hc.ok eN ha h3 (hm.next e))).mono fun en Ep kj=>?_⟩
      obtain⟨ρ2,h4,h5,h6⟩:=kj
      rw[oD e2]at h6
      cases en with
      |returned v'=>exact hK rfl ρ2 _ Ep (Ren.le_trans h1 h4) ((ht.mono (Ren.le_trans h1 h4)).put h5 hp) ⟨_,rfl⟩ h6
      |panicked chain=>cases h5
      |outgrown=>cases h5
    ·rename_i v S3 eN
     simp only[api,apn]at h
     obtain⟨rfl,rfl,rfl⟩:=h
     have e2:=hc.ext eN
     obtain⟨ρ',w',h1,h2,h3⟩:=vp hP hs ht hw (hm.first e2)
     generalize(execOp a.eval o).run P w=q at h2
     cases h2 with
     |enter _ _ args' _ ha=>
      refine⟨(fun hh=>by cases hh),(Lb (hc.ok eN ha h3 (hm.next e))).mono fun en Ep kj=>?_⟩
      obtain⟨ρ2,h4,h5,h6⟩:=kj
      rw[oD e2]at h6
      cases en with
      |returned v'=>cases h5
      |panicked chain=>
       obtain⟨v',rfl,hv⟩:=h5
       exact hQ v rfl ρ2 v' Ep (Ren.le_trans h1 h4) hv (ht.mono (Ren.le_trans h1 h4)) h6
      |outgrown=>cases h5
end
end Go.Proofs.YtnlkkgpcikkpoaaGreat.Vm
namespace Go.Proofs.YtnlkkgpcikkpoaaGreat.Vm
open Go.RowKit
section
variable {P:apu} {B:Nat→Prop} {w₀:aps}
theorem Er{e e':aqM→ape}{l:List aqM}(h:∀x∈l,e x=e' x):l.map e=l.map e':=arc h
theorem Lc{e e':aqM→ape}{l:List (Nat×aqM)}(h:∀x∈l,e x.2=e' x.2):(l.map fun(i,x)=>(i,e x))=l.map fun(i,x)=>(i,e' x):=
 arc fun x hx=>by obtain⟨i,y⟩:=x;exact congrArg (Prod.mk i) (h _ hx)
theorem Ag{e e':aqM→ape}{o:Option aqM}(h:∀x,o=some x→e x=e' x):o.map e=o.map e':=by
 cases o with
 |none=>rfl
 |some x=>simp[h x rfl]
theorem VQ{e e':aqM→ape}{n:Nat}{o:aqh}(h:∀x∈o.op.operands,e x=e' x):ev P e n o=ev P e' n o:=by
 obtain⟨dst,op,type,pos,after,guard⟩:=o
 cases op<;>simp only[asS]at h<;>simp only[ev,zy]
 case move x=>rw[h x (by simp)]
 case assign x=>rw[h x (by simp)]
 case pick c a b=>rw[h c (by simp),h a (by simp),h b (by simp)]
 case box t x=>rw[h x (by simp)]
 case build t parts=>rw[Lc fun x hx=>h x.2 (by simp only[asZ,aq0];exact⟨x,hx,rfl⟩)]
 case buildSlice t len parts=>rw[Lc fun x hx=>h x.2 (by simp only[asZ,aq0];exact⟨x,hx,rfl⟩)]
 case insert t m k x=>rw[h m (by simp),h k (by simp),h x (by simp)]
 case load t a=>rw[h a (by simp)]
 case store t a x=>rw[h a (by simp),h x (by simp)]
 case nilCheck x=>rw[h x (by simp)]
 case binOp op t x y yt=>rw[h x (by simp),h y (by simp)]
 case unOp op t x=>rw[h x (by simp)]
 case convert src dst x=>rw[h x (by simp)]
 case makeInterface t x=>rw[h x (by simp)]
 case makeFunc fn first captured=>
  rw[Er (l:=first.toList) fun x hx=>h x (asb.2 (.inl (aqT.1 hx))),Er (l:=captured.toList) fun x hx=>h x (asb.2 (.inr (aqT.1 hx)))]
 case makeMap t r=>rw[Ag fun y hy=>h y (by subst hy;simp)]
 case makeSlice t a b=>rw[h a (by simp),h b (by simp)]
 case slice t x lo hi mx=>rw[h x (by simp),Ag (o:=lo) fun y hy=>h y (by subst hy;simp),Ag (o:=hi) fun y hy=>h y (by subst hy;simp),Ag (o:=mx) fun y hy=>h y (by subst hy;simp)]
 case fieldAddr s x i=>rw[h x (by simp)]
 case field s x i=>rw[h x (by simp)]
 case indexAddr t x i=>rw[h x (by simp),h i (by simp)]
 case index t x i=>rw[h x (by simp),h i (by simp)]
 case lookup t x k ok=>rw[h x (by simp),h k (by simp)]
 case mapUpdate t m k x=>rw[h m (by simp),h k (by simp),h x (by simp)]
 case typeAssert x xt at_ ok=>rw[h x (by simp)]
 case extract t i=>rw[h t (by simp)]
 case panic x=>rw[h x (by simp)]
 case call c=>
  have ha:c.args.toList.map e=c.args.toList.map e':=Er fun x hx=>h x (by unfold asw;exact asb.2 (.inr (aqT.1 hx)))
  unfold rp
  rw[ha]
  split
  ·rfl
  ·rename_i recv name hb;rw[h recv (by unfold asw;rw[hb];simp)]
  ·rename_i f hb;rw[h f (by unfold asw;rw[hb];simp)]
theorem Ld{ops:Array aqh}{o:aqh}{t:Nat}(h:Operand.tmp t∈o.op.operands):t∈o.looksAt ops:=by
 unfold avw
 refine List.mem_append_left _ (List.mem_filterMap.2 ⟨.tmp t,aqT.2 h,rfl⟩)
theorem VT{t t':Fr}{S:VS}{o:aqh}{ops:Array aqh}(h:∀s∈o.looksAt ops,t'.at s=t.at s):jy P t' S o=jy P t S o:=by
 have my:∀x∈o.op.operands,bL t' x=bL t x:=fun x hx=>by
  cases x with
  |tmp s=>exact h s (Ld hx)
  |_=>rfl
 have hv:lE P t' S o=lE P t S o:=by
  unfold lE
  cases cQ:o.op with
  |indexAddr ty x i=>
   dsimp only
   rw[my x (by rw[cQ];simp[asS]),my i (by rw[cQ];simp[asS])]
  |_=>rfl
 unfold jy
 rw[hv]
 split
 ·rfl
 unfold nz
 rw[VQ (e:=bL t') (e':=bL t) fun x hx=>by
  cases x with
  |tmp s=>exact h s (Ld hx)
  |_=>rfl]
theorem VU{t t':Fr}{o:aqh}{ops:Array aqh}(h:∀s∈o.looksAt ops,t'.at s=t.at s):aqP o (lF ops.toList t')=aqP o (lF ops.toList t):=by
 unfold aqP
 cases hg:o.guard with
 |none=>rfl
 |some p=>
  obtain⟨j,b⟩:=p
  have:lF ops.toList t' j=lF ops.toList t j:=by
   unfold lF
   rw[aqW]
   cases hd:(ops[j]?).bind (·.dst)with
   |none=>rfl
   |some d=>
    have:d∈o.looksAt ops:=by
     unfold avw
     refine List.mem_append_right _ ?_
     rw[hg]
     show d∈((ops[j]?).bind (·.dst)).toList
     rw[hd];simp
    dsimp only
    rw[h d this]
  simp only[this]
theorem Ah{t t' t1:Fr}{d:Option Tmp}{v:ape}(hn:t'.n=t.n)(h:Vm.put t d v=some t1):∃mA,Vm.put t' d v=some mA:=by
 cases d with
 |none=>exact⟨t',rfl⟩
 |some d=>
  simp only[Vm.put,Fr.ri]at h⊢
  rw[hn]
  split at h
  ·rename_i hlt;first|exact⟨_,rfl⟩|(rw[hlt];exact⟨_,rfl⟩)
  ·cases h
theorem Ai{call:cB}{ops:Array aqh}{o:aqh}{t t' t1:Fr}{S S1:VS}(h:kA P call ops.toList o t S=some (none,t1,S1))(hl:∀s∈o.looksAt ops,t'.at s=t.at s)(hn:t'.n=t.n):
 ∃v mA,Vm.put t o.dst v=some t1∧Vm.put t' o.dst v=some mA∧kA P call ops.toList o t' S=some (none,mA,S1):=by
 unfold kA at h⊢
 rw[VU hl,VT hl]
 split at h
 ·rename_i hw
  simp only[aqm,apn]at h
  obtain⟨t2,hp,_,rfl,rfl⟩:=h
  obtain⟨mA,kZ⟩:=Ah hn hp
  exact⟨_,mA,hp,kZ,by simp only[kZ,aqA]⟩
 ·rename_i hw
  cases hs:jy P t S o with
  |none=>rw[hs]at h;cases h
  |some q=>
   obtain⟨r,S2⟩:=q
   rw[hs]at h
   simp only[]at h⊢
   cases r with
   |val v=>
    simp only[aqm,apn]at h
    obtain⟨t2,hp,_,rfl,rfl⟩:=h
    obtain⟨mA,kZ⟩:=Ah hn hp
    exact⟨_,mA,hp,kZ,by simp only[kZ,aqA]⟩
   |skip=>
    simp only[aqm,apn]at h
    obtain⟨t2,hp,_,rfl,rfl⟩:=h
    obtain⟨mA,kZ⟩:=Ah hn hp
    exact⟨_,mA,hp,kZ,by simp only[kZ,aqA]⟩
   |panic v=>simp at h
   |defer d=>cases h
   |enter f args=>
    simp only[]at h⊢
    cases hc:call f args S2 with
    |none=>rw[hc]at h;cases h
    |some q2=>
     obtain⟨cr,S3⟩:=q2
     rw[hc]at h
     cases cr with
     |ret v=>
      simp only[aqm,apn]at h
      obtain⟨t2,hp,_,rfl,rfl⟩:=h
      obtain⟨mA,kZ⟩:=Ah hn hp
      exact⟨_,mA,hp,kZ,by simp only[kZ,aqA]⟩
     |panic v=>simp at h
theorem xP{t t1:Fr}{d:Option Tmp}{v:ape}(hs:t.n≤1024)(h:Vm.put t d v=some t1):t1.n=t.n∧∀s,t1.at s=if d=some s then v else t.at s:=by
 cases d with
 |none=>cases h;exact⟨rfl,fun s=>by simp⟩
 |some d=>
  simp only[Vm.put,Fr.ri]at h
  split at h
  ·rename_i hlt
   cases h
   have hlt:=dQ.1 hlt
   refine⟨rfl,fun s=>?_⟩
   unfold Fr.at
   dsimp only
   by_cases Et:s<t.n
   ·rw[dQ.2 Et]
    dsimp only
    have bJ:(2:Nat)^10=1024:=rfl
    rw[Tr.xn 10 _ _ _ _ (by omega) (by omega)]
    by_cases tt:s=d
    ·subst tt;simp
    ·have:¬(some d=some s):=fun e=>tt (by cases e;rfl)
     rw[if_neg tt,if_neg this]
   ·have hb:apy s t.n=false:=by cases hb:apy s t.n with
     |false=>rfl
     |true=>exact absurd (dQ.1 hb) Et
    rw[hb]
    dsimp only
    have:¬(some d=some s):=fun e=>Et (by cases e;exact hlt)
    rw[if_neg this]
  ·cases h
end
section
variable {X V:Type}
def st(W:Nat→X→Option V)(init:X→V)(D:Nat→Bool):Nat→X→V
 |0,x=>init x
 |k+1,x=>if D k then(W k x).getD (st W init D k x)else st W init D k x
theorem mB(W:Nat→X→Option V)(init:X→V)(D:Nat→Bool)(k:Nat)(x:X):st W init D (k+1) x=if D k then(W k x).getD (st W init D k x)else st W init D k x:=rfl
theorem Le{W:Nat→X→Option V}{init:X→V}{D:Nat→Bool}{i n:Nat}{x:X}(fk:i≤n)(hi:D i=false)
 (h1:∀k,k<i→D k=false→W k x=none)(h2:∀k,i<k→k<n→D k=true→W k x=none):st W init D n x=st W init (fun _=>true) i x:=by
 have a:∀k,k≤i→st W init D k x=st W init (fun _=>true) k x:=by
  intro k
  induction k with
  |zero=>intro _;rfl
  |succ k ih=>
   intro hk
   rw[mB,mB,ih (by omega)]
   cases hd:D k with
   |true=>rfl
   |false=>rw[h1 k (by omega) hd];simp
 have b:∀k,i≤k→k≤n→st W init D k x=st W init D i x:=by
  intro k
  induction k with
  |zero=>intro h _;have:i=0:=by omega
         subst this;rfl
  |succ k ih=>
   intro hk hn
   by_cases e:i=k+1
   ·subst e;rfl
   ·rw[mB,ih (by omega) (by omega)]
    cases hd:D k with
    |false=>simp
    |true=>
     by_cases ek:k=i
     ·subst ek;rw[hi]at hd;cases hd
     ·rw[h2 k (by omega) (by omega) hd];simp
 rw[b n fk (apI n),a i (apI i)]
theorem Lf{W:Nat→X→Option V}{init:X→V}{D:Nat→Bool}{i n:Nat}{x:X}(fk:i<n)(hi:D i=false)
 (h2:∀k,i<k→k<n→D k=true→W i x≠none→W k x=none):st W init (fun k=>D k||decide (k=i)) n x=(W i x).getD (st W init D n x):=by
 have a:∀k,k≤i→st W init (fun k=>D k||decide (k=i)) k x=st W init D k x:=by
  intro k
  induction k with
  |zero=>intro _;rfl
  |succ k ih=>
   intro hk
   have:decide (k=i)=false:=by simp;omega
   rw[mB,mB,ih (by omega),this,atN]
 cases hw:W i x with
 |none=>
  have b:∀k,i≤k→st W init (fun k=>D k||decide (k=i)) k x=st W init D k x:=by
   intro k
   induction k with
   |zero=>intro h;exact a 0 (by omega)
   |succ k ih=>
    intro hk
    by_cases e:i=k+1
    ·exact a (k+1) (by omega)
    ·have e1:=mB W init (fun k=>D k||decide (k=i)) k x
     have e2:=mB W init D k x
     rw[e1,e2,ih (by omega)]
     by_cases ek:k=i
     ·subst ek;rw[hw,hi];simp
     ·have:decide (k=i)=false:=by simp[ek]
      rw[this,atN]
  rw[b n (by omega)];rfl
 |some v=>
  have b:∀k,i<k→k≤n→st W init (fun k=>D k||decide (k=i)) k x=v:=by
   intro k
   induction k with
   |zero=>intro h;omega
   |succ k ih=>
    intro hk hn
    rw[mB]
    by_cases ek:k=i
    ·subst ek;rw[hw];simp
    ·have hd:decide (k=i)=false:=by simp[ek]
     rw[ih (by omega) (by omega),hd,atN]
     cases fm:D k with
     |false=>simp
     |true=>rw[h2 k (by omega) (by omega) fm (by rw[hw];simp)];simp
  rw[b n fk (apI n)];rfl
end
theorem Eu(m k:Nat):apw (Nat.land (asJ m k) 1) 1=m.testBit k:=by
 have h1:Nat.land (asJ m k) 1=(m>>>k)%2:=Nat.and_one_is_mod (m>>>k)
 rw[h1]
 have h2:m.testBit k=((m>>>k)%2==1):=by
  rw[Nat.testBit,Nat.one_and_eq_mod_two]
  have:(m>>>k)%2=0∨(m>>>k)%2=1:=by omega
  rcases this with h|h<;>rw[h]<;>rfl
 rw[h2]
 have:(m>>>k)%2=0∨(m>>>k)%2=1:=by omega
 rcases this with h|h<;>rw[h]<;>rfl
theorem Ev:∀{l:List Edge} {i:Nat},(jz l).testBit i=true→∃e∈l,arv .any e=true∧e.on=i
 | [],i,h=>by simp[jz]at h
 |e::l,i,h=>by
  unfold jz at h
  split at h
  ·rename_i hb
   have:as7 (Nat.shiftLeft 1 e.on) (jz l)=(1<<<e.on)|||jz l:=rfl
   rw[this,auj,arV]at h
   rcases h with h|h
   ·refine⟨e,by simp,hb,?_⟩
    rw[Nat.one_shiftLeft,Nat.testBit_two_pow]at h
    simpa using h
   ·obtain⟨e',h1,h2,h3⟩:=Ev h
    exact⟨e',by simp[h1],h2,h3⟩
  ·obtain⟨e',h1,h2,h3⟩:=Ev h
   exact⟨e',by simp[h1],h2,h3⟩
theorem Lg(m:Nat):∀{k:Nat} {bs:List Nat} {i:Nat},bs.length=k→(mq m k bs).testBit i=true→∃q b,q<k∧m.testBit q=true∧bs[k-1-q]?=some b∧b.testBit i=true
 |0,bs,i,hl,h=>by simp[mq]at h
 |k+1,[],i,hl,h=>by simp at hl
 |k+1,b::bs,i,hl,h=>by
  have qu:bs.length=k:=by simpa using hl
  unfold mq at h
  have rest:(mq m k bs).testBit i=true→∃q b',q<k+1∧m.testBit q=true∧(b::bs)[k+1-1-q]?=some b'∧b'.testBit i=true:=by
   intro h
   obtain⟨q,b',h1,h2,h3,h4⟩:=Lg m qu h
   exact⟨q,b',by omega,h2,by rw[show k+1-1-q=(k-1-q)+1 by omega];simpa using h3,h4⟩
  split at h
  ·rename_i hb
   rw[Eu]at hb
   have:as7 b (mq m k bs)=b|||mq m k bs:=rfl
   rw[this,auj,arV]at h
   rcases h with h|h
   ·exact⟨k,b,by omega,hb,by simp,h⟩
   ·exact rest h
  ·exact rest h
def Cl(ops:List aqh)(D:Nat→Bool):Prop:=∀(j:Nat) (o:aqh),ops[j]?=some o→D j=true→∀e∈o.after,arv .any e=true→D e.on=true
theorem Lh{all:List aqh}{D:Nat→Bool}(hD:Cl all D):∀{l:List aqh} {k:Nat} {bs:List Nat},bs.length=k→all.drop k=l→
 (∀(q b:Nat) (o:aqh),q<k→bs[k-1-q]?=some b→all[q]?=some o→(∀e∈o.after,arv .any e=true→D e.on=true)→∀i,b.testBit i=true→D i=true)→
 ∀(j m:Nat) (o:aqh),(rB k bs l)[j]?=some m→all[k+j]?=some o→(∀e∈o.after,arv .any e=true→D e.on=true)→∀i,m.testBit i=true→D i=true
 | [],k,bs,hk,hl,hb,j,m,o,h,_,_,_,_=>by simp[rB]at h
 |o1::l,k,bs,hk,hl,hb,j,m,o,h,ho,he,i,hi=>by
  have Li:all[k]?=some o1:=by
   have:=congrArg (fun l=>l[0]?) hl
   simpa using this
  have key:∀(o:aqh),all[k]?=some o→(∀e∈o.after,arv .any e=true→D e.on=true)→∀i,(as7 (jz o1.after.toList) (mq (jz o1.after.toList) k bs)).testBit i=true→D i=true:=by
   intro o ho he i hi
   rw[Li]at ho
   cases ho
   have:as7 (jz o1.after.toList) (mq (jz o1.after.toList) k bs)=jz o1.after.toList|||mq (jz o1.after.toList) k bs:=rfl
   rw[this,auj,arV]at hi
   have direct:∀q,(jz o1.after.toList).testBit q=true→D q=true:=by
    intro q hq
    obtain⟨e,h1,h2,h3⟩:=Ev hq
    have:=he e (aqT.1 h1) h2
    rwa[h3]at this
   rcases hi with hi|hi
   ·exact direct i hi
   ·obtain⟨q,b,h1,h2,h3,h4⟩:=Lg _ hk hi
    have Lj:q<all.length:=by
     have:k<all.length:=(app.1 Li).1
     omega
    exact hb q b _ h1 h3 (apl Lj) (hD q _ (apl Lj) (direct q h2)) i h4
  have e0:rB k bs (o1::l)=as7 (jz o1.after.toList) (mq (jz o1.after.toList) k bs)::rB (k+1) (as7 (jz o1.after.toList) (mq (jz o1.after.toList) k bs)::bs) l:=rfl
  rw[e0]at h
  cases j with
  |zero=>
   simp only[ap3,api]at h
   subst h
   exact key o (by simpa using ho) he i hi
  |succ j=>
   simp only[aqt]at h
   refine Lh hD (l:=l) (k:=k+1) (by simp[hk]) ?_ ?_ j m o h (by rw[show k+1+j=k+(j+1)by omega];exact ho) he i hi
   ·have:=congrArg List.tail hl
    simpa[List.tail_drop]using this
   ·intro q b o hq xQ Lk Ll i hi
    by_cases e:q=k
    ·subst e
     simp at xQ
     subst xQ
     exact key o Lk Ll i hi
    ·rw[show k+1-1-q=(k-1-q)+1 by omega]at xQ
     simp only[aqt]at xQ
     exact hb q b o (by omega) xQ Lk Ll i hi
theorem Lm{ops:Array aqh}{D:Nat→Bool}(hD:Cl ops.toList D){j m:Nat}{o:aqh}(h:(qf ops)[j]?=some m)(ho:ops.toList[j]?=some o)
 (he:∀e∈o.after,arv .any e=true→D e.on=true){i:Nat}(hi:m.testBit i=true):D i=true:=
 Lh hD (l:=ops.toList) (k:=0) (bs:=[]) rfl rfl (fun q b o hq=>by omega) j m o h (by simpa using ho) he i hi
end Go.Proofs.YtnlkkgpcikkpoaaGreat.Vm
namespace Go.Proofs.YtnlkkgpcikkpoaaGreat.Vm
open Go.RowKit
theorem VV{ops:Array aqh}:(qf ops).length=ops.size:=by
 have:∀(l:List aqh) (k:Nat) (bs:List Nat),(rB k bs l).length=l.length:=by
  intro l
  induction l with
  |nil=>intro k bs;rfl
  |cons o l ih=>intro k bs;simp only[rB,ap1,ih]
 unfold qf
 rw[this]
 simp
theorem Ew{ops:Array aqh}:∀{ps:List aqh} {ms:List Nat} {j:Nat} {prev:List (Nat×aqh)},zC ops j prev ms ps=true→
 ∀(q m:Nat) (p:aqh),ms[q]?=some m→ps[q]?=some p→
  (∀e∈p.after,arv .any e=true→e.on<j+q)∧(∀x∈prev,m.testBit x.1=true∨x.2.apart ops p=true)∧
  (∀(r:Nat) (o:aqh),r<q→ps[r]?=some o→m.testBit (j+r)=true∨o.apart ops p=true)
 | [],ms,j,prev,h,q,m,p,hm,hp=>by simp at hp
 |p0::ps,[],j,prev,h,q,m,p,hm,hp=>by simp at hm
 |p0::ps,m0::ms,j,prev,h,q,m,p,hm,hp=>by
  simp only[zC,apt]at h
  obtain⟨⟨h1,h2⟩,h3⟩:=h
  cases q with
  |zero=>
   simp only[ap3,api]at hm hp
   subst hm hp
   refine⟨fun e he hb=>?_,fun x hx=>?_,fun r o hr=>by omega⟩
   ·have:=apR.1 h1 e (aqT.2 he)
    rw[hb]at this
    simpa using dQ.1 (by simpa using this)
   ·have:=apR.1 h2 x hx
    rw[Eu,arV]at this
    exact this
  |succ q=>
   simp only[aqt]at hm hp
   obtain⟨h4,h5,h6⟩:=Ew h3 q m p hm hp
   refine⟨fun e he hb=>by have:=h4 e he hb;omega,fun x hx=>h5 x (by simp[hx]),fun r o hr ho=>?_⟩
   cases r with
   |zero=>
    simp only[ap3,api]at ho
    subst ho
    simpa using h5 (j,p0) (by simp)
   |succ r=>
    simp only[aqt]at ho
    have:=h6 r o (by omega) ho
    rwa[show j+1+r=j+(r+1)by omega]at this
theorem Ln:∀{ms:List Nat} {fs:List Fp} {k j m:Nat} {f:Fp},ms[j]?=some m→fs[j]?=some f→(f.rd≠[]∨f.wr≠[])→(⟨k+j,m,f⟩:Dx)∈pg k ms fs
 | [],fs,k,j,m,f,hm,_,_=>by simp at hm
 |m0::ms,[],k,j,m,f,_,hf,_=>by simp at hf
 |m0::ms,f0::fs,k,j,m,f,hm,hf,bk=>by
  cases j with
  |zero=>
   simp only[ap3,api]at hm hf
   subst hm hf
   unfold pg
   split
   ·rename_i h1 h2;rcases bk with h|h
    ·exact absurd h1 h
    ·exact absurd h2 h
   ·simp
  |succ j=>
   simp only[aqt]at hm hf
   have:=Ln (k:=k+1) hm hf bk
   rw[show k+1+j=k+(j+1)by omega]at this
   unfold pg
   split
   ·exact this
   ·exact apB _ this
theorem Ey{a b:List Nat}(h:zB a b=true){x:Nat}(ha:x∈a)(hb:x∈b):False:=by
 have:=apR.1 h x ha
 simp at this
 exact this hb
theorem apart_spec:∀{ms:List Nat} {fs:List Fp} {k:Nat},uZ (pg k ms fs)=true→∀(i j m:Nat) (f g:Fp),i<j→ms[j]?=some m→fs[i]?=some f→fs[j]?=some g→
 (ms[i]?).isSome=true→m.testBit (k+i)=true∨((∀x,x∈f.wr→x∉g.rd∧x∉g.wr)∧∀x,x∈g.wr→x∉f.rd)
 | [],fs,k,h,i,j,m,f,g,iI,hm,hf,hg,hi=>by simp at hm
 |m0::ms,[],k,h,i,j,m,f,g,iI,hm,hf,hg,hi=>by simp at hf
 |m0::ms,f0::fs,k,h,i,j,m,f,g,iI,hm,hf,hg,hi=>by
  have rest:uZ (pg (k+1) ms fs)=true:=by
   unfold pg at h
   split at h
   ·exact h
   ·simp only[uZ,apt]at h;exact h.2
  cases j with
  |zero=>omega
  |succ j=>
   simp only[aqt]at hm hg
   cases i with
   |succ i=>
    simp only[aqt]at hf hi
    have:=apart_spec rest i j m f g (by omega) hm hf hg hi
    rwa[show k+1+i=k+(i+1)by omega]at this
   |zero=>
    simp only[ap3,api]at hf
    subst hf
    by_cases Ez:f0.rd=[]∧f0.wr=[]
    ·right
     refine⟨fun x hx=>?_,fun x _=>?_⟩
     ·rw[Ez.2]at hx;cases hx
     ·rw[Ez.1];simp
    ·by_cases Aj:g.rd=[]∧g.wr=[]
     ·right
      refine⟨fun x _=>?_,fun x hx=>?_⟩
      ·rw[Aj.1,Aj.2];simp
      ·rw[Aj.2]at hx;cases hx
     ·have VW:g.rd≠[]∨g.wr≠[]:=by
       by_cases h1:g.rd=[]
       ·exact .inr fun h2=>Aj ⟨h1,h2⟩
       ·exact .inl h1
      have ib:=Ln (k:=k+1) hm hg VW
      unfold pg at h
      split at h
      ·rename_i h1 h2;exact absurd ⟨h1,h2⟩ Ez
      ·simp only[uZ,apt]at h
       have:=apR.1 h.1 _ ib
       simp only[arV]at this
       rcases this with this|this
       ·left;rw[Eu]at this;exact this
       ·right
        simp only[Kl,apt]at this
        obtain⟨⟨h1,h2⟩,h3⟩:=this
        exact⟨fun x hx=>⟨fun hh=>Ey h1 hx hh,fun hh=>Ey h2 hx hh⟩,fun x hx hh=>Ey h3 hx hh⟩
abbrev reset(S:VS):VS:={S with rd:=[],wr:=[]}
structure Trace(P:apu)(call:cB)(ops rest:List aqh)(t:Fr)(S:VS)(t1:Fr)(S1:VS)(gr:List Fp)(T:Nat→Fr)(G Bf:Nat→VS):Prop where
 t0:T 0=t
 s0:G 0=S
 tn:T rest.length=t1
 sn:G rest.length=S1
 len:gr.length=rest.length
 step:∀(j:Nat) (o:aqh),rest[j]?=some o→kA P call ops o (T j) (reset (G j))=some (none,T (j+1),Bf j)∧G (j+1)={Bf j with rd:=(Bf j).rd++(G j).rd,wr:=(Bf j).wr++(G j).wr}∧
  gr[j]?=some ⟨(Bf j).rd,(Bf j).wr⟩
theorem Lo{P:apu}{call:cB}{ops:List aqh}:∀{rest:List aqh} {t t1:Fr} {S S1:VS} {gr:List Fp},kC P call ops rest t S=some (t1,S1,gr)→
 ∃T G Bf,Trace P call ops rest t S t1 S1 gr T G Bf
 | [],t,t1,S,S1,gr,h=>by
  simp only[kC,api,apn]at h
  obtain⟨rfl,rfl,rfl⟩:=h
  exact⟨fun _=>t,fun _=>S,fun _=>S,rfl,rfl,rfl,rfl,rfl,fun j o h=>by simp at h⟩
 |o::rest,t,t1,S,S1,gr,h=>by
  unfold kC at h
  split at h
  ·rename_i t2 S2 cQ
   split at h
   ·rename_i t3 S3 VX hd
    simp only[api,apn]at h
    obtain⟨rfl,rfl,rfl⟩:=h
    obtain⟨T,G,Bf,h0,h1,h2,h3,h4,h5⟩:=Lo hd
    refine⟨fun j=>match j with|0=>t|j+1=>T j,fun j=>match j with|0=>S|j+1=>G j,fun j=>match j with|0=>S2|j+1=>Bf j,rfl,rfl,h2,h3,by simp[h4],fun j p hp=>?_⟩
    cases j with
    |zero=>
     simp only[ap3,api]at hp
     subst hp
     exact⟨by simp only[h0];exact cQ,h1,rfl⟩
    |succ j=>exact h5 j p (by simpa using hp)
   ·cases h
  ·cases h
def kl(D:Nat→Bool):Nat→Nat
 |0=>0
 |k+1=>kl D k+if D k then 0 else 1
theorem Lp{D:Nat→Bool}:∀{n:Nat},kl D n=0→∀i,i<n→D i=true
 |0,_,i,hi=>by omega
 |n+1,h,i,hi=>by
  unfold kl at h
  have h1:kl D n=0:=by omega
  by_cases e:i=n
  ·subst e
   cases hd:D i with
   |true=>rfl
   |false=>rw[hd]at h;simp at h
  ·exact Lp h1 i (by omega)
theorem Lq(D:Nat→Bool)(k:Nat):kl D (k+1)=kl D k+if D k then 0 else 1:=rfl
theorem Ls{D:Nat→Bool}{i:Nat}(hd:D i=false):∀{n:Nat},kl (fun k=>D k||decide (k=i)) n+(if i<n then 1 else 0)=kl D n
 |0=>by simp[kl]
 |n+1=>by
  have ih:=Ls hd (n:=n)
  rw[Lq,Lq]
  by_cases e:n=i
  ·subst e
   have xR:kl (fun k=>D k||decide (k=n)) n=kl D n:=by simpa using ih
   rw[xR,hd]
   simp
  ·have hdec:decide (n=i)=false:=by simp[e]
   rw[hdec,atN]
   by_cases fk:i<n
   ·have xR:kl (fun k=>D k||decide (k=i)) n+1=kl D n:=by simpa[fk]using ih
    have h2:i<n+1:=by omega
    simp only[h2,if_true]
    omega
   ·have xR:kl (fun k=>D k||decide (k=i)) n=kl D n:=by simpa[fk]using ih
    have h2:¬i<n+1:=by omega
    simp only[h2,if_false]
    omega
theorem VY(n:Nat):kl (fun _=>false) n=n:=by
 induction n with
 |zero=>rfl
 |succ n ih=>unfold kl;rw[ih];simp
theorem EA{X V:Type}{W:Nat→X→Option V}{init:X→V}{D:Nat→Bool}{x:X}:∀{n:Nat},(∀i,i<n→D i=true)→st W init D n x=st W init (fun _=>true) n x
 |0,_=>rfl
 |n+1,h=>by
  rw[mB,mB,EA fun i hi=>h i (by omega),h n (by omega)]
section
variable {P:apu} {B:Nat→Prop} {w₀:aps}
theorem VZ{l:Array Bool}{i k:Nat}(hi:i<l.size):(l.setIfInBounds i true).getD k false=(l.getD k false||decide (k=i)):=by
 rw[apW,apW]
 by_cases h:k=i
 ·subst h
  rw[aqQ,if_pos hi]
  simp
 ·rw[aqN (Ne.symm h)]
  simp[h]
theorem mem_ready{ops:Array aqh}{ec:Array Bool}{i:Nat}(hs:ec.size=ops.size):i∈asE .any ops ec↔
 ∃o,ops[i]?=some o∧ec.getD i false=false∧∀e∈o.after,arv .any e=true→ec.getD e.on false=true:=by
 unfold asE
 rw[List.mem_filter,List.mem_range,apt]
 have tF:i<ops.size→ec.getD i true=ec.getD i false:=by
  intro hi
  rw[apW,apW,ara (by omega)]
  rfl
 constructor
 ·rintro⟨hi,h1,h2⟩
  have ho:ops[i]?=some ops[i]:=ara hi
  refine⟨ops[i],ho,by rw[←tF hi];simpa using h1,fun e he hb=>?_⟩
  rw[ho]at h2
  simp only[aqA,aq4]at h2
  have:=as0.1 h2 e he
  rw[hb]at this
  simpa using this
 ·rintro⟨o,ho,h1,h2⟩
  have hi:i<ops.size:=(aqe.1 ho).1
  refine⟨hi,by rw[tF hi,h1];rfl,?_⟩
  rw[ho]
  simp only[aqA,aq4]
  refine as0.2 fun e he=>?_
  cases hb:arv .any e with
  |false=>rfl
  |true=>rw[h2 e he hb];rfl
theorem Ak{t t1:Fr}{d:Option Tmp}{v:ape}(h:Vm.put t d v=some t1):t1.ds=t.ds∧t1.base=t.base:=by
 cases d with
 |none=>cases h;exact⟨rfl,rfl⟩
 |some d=>
  simp only[Vm.put,Fr.ri]at h
  split at h
  ·cases h;exact⟨rfl,rfl⟩
  ·cases h
theorem V0(hP:iG P=true)(fw:P.follows .mixedOrders=true){call:cB}(hc:ic P call){ops:Array aqh}{id:Nat}{t t1:Fr}{S S1:VS}{gr:List Fp}
 (hd:kC P call ops.toList ops.toList t S=some (t1,S1,gr))(hok:th ops gr=true){ρ:Ren}{m:Nat→Option ag}{w:aps}{a:Act}(ht:FR ρ t a)(hw:WR P B w₀ ρ m w)
 (hm:fG S S1 m){r:Option Nat}{Q:arB→Act→aps→Prop}(hQ:∀(ρ':Ren) (a':Act) (w':aps),ρ.le ρ'→FR ρ' t1 a'→WR P B w₀ ρ' (post m S1) w'→Q .normal a' w'):
 (Code.region id ops true).wpIn (FF r) 0 P Q a w:=by
 obtain⟨T,G,Bf,tr⟩:=Lo hd
 simp only[th,apt]at hok
 obtain⟨Lt,V1⟩:=hok
 have hlen:ops.toList.length=ops.size:=by simp
 have nf:∀i,i<ops.size→∃o,ops[i]?=some o∧ops.toList[i]?=some o:=fun i hi=>⟨ops[i],ara hi,by simp[hi]⟩
 have nK:∀i,i<ops.size→∃mk,(qf ops)[i]?=some mk:=fun i hi=>⟨_,apl (by rw[VV];exact hi)⟩
 -- frames of the trace
 have xS:∀i,i≤ops.size→(T i).n=t.n:=by
  intro i
  induction i with
  |zero=>intro _;rw[tr.t0]
  |succ i ih=>
   intro hi
   obtain⟨o,ho,ie⟩:=nf i (by omega)
   obtain⟨h1,_,_⟩:=tr.step i o ie
   obtain⟨v,_,hp,_,_⟩:=Ai h1 (fun s _=>rfl) rfl
   rw[(xP (by rw[ih (by omega)];exact ht.small) hp).1,ih (by omega)]
 have Lu:∀i,i≤ops.size→(T i).ds=t.ds∧(T i).base=t.base:=by
  intro i
  induction i with
  |zero=>intro _;rw[tr.t0];exact⟨rfl,rfl⟩
  |succ i ih=>
   intro hi
   obtain⟨o,ho,ie⟩:=nf i (by omega)
   obtain⟨h1,_,_⟩:=tr.step i o ie
   obtain⟨v,_,hp,_,_⟩:=Ai h1 (fun s _=>rfl) rfl
   rw[(Ak hp).1,(Ak hp).2]
   exact ih (by omega)
 let Ws:Nat→Nat→Option ape:=fun i s=>match ops.toList[i]?with
  |some o=>if o.dst=some s then some ((T (i+1)).at s)else none
  |none=>none
 let Wm:Nat→Nat→Option (Option ag):=fun i x=>if i<ops.size∧x∈(Bf i).wr then some (gt (Bf i).mem x)else none
 have Lv:∀i s,i≤ops.size→st Ws (T 0).at (fun _=>true) i s=(T i).at s:=by
  intro i s
  induction i with
  |zero=>intro _;rfl
  |succ i ih=>
   intro hi
   obtain⟨o,ho,ie⟩:=nf i (by omega)
   obtain⟨h1,_,_⟩:=tr.step i o ie
   obtain⟨v,_,hp,_,_⟩:=Ai h1 (fun s _=>rfl) rfl
   have ca:=(xP (by rw[xS i (by omega)];exact ht.small) hp).2 s
   rw[mB,ih (by omega)]
   simp only[if_true]
   have Lw:Ws i s=if o.dst=some s then some ((T (i+1)).at s)else none:=by simp only[Ws,ie]
   rw[Lw]
   by_cases gv:o.dst=some s
   ·rw[if_pos gv];rfl
   ·rw[if_neg gv,ca,if_neg gv];rfl
 -- logs
 have V2:∀i,i≤ops.size→∀x,(x∈(G i).rd→x∈S1.rd)∧(x∈(G i).wr→x∈S1.wr):=by
  have:∀k i,i+k=ops.size→∀x,(x∈(G i).rd→x∈S1.rd)∧(x∈(G i).wr→x∈S1.wr):=by
   intro k
   induction k with
   |zero=>intro i hi x;have:G i=S1:=by rw[←tr.sn,hlen];congr 1;
          rw[this];exact⟨fun h=>h,fun h=>h⟩
   |succ k ih=>
    intro i hi x
    obtain⟨o,ho,ie⟩:=nf i (by omega)
    obtain⟨_,h2,_⟩:=tr.step i o ie
    have:=ih (i+1) (by omega) x
    rw[h2]at this
    exact⟨fun hx=>this.1 (apN.2 (.inr hx)),fun hx=>this.2 (apN.2 (.inr hx))⟩
  exact fun i hi=>this (ops.size-i) i (by omega)
 have EB:∀i,i<ops.size→∀x,(x∈(Bf i).rd→x∈S1.rd)∧(x∈(Bf i).wr→x∈S1.wr):=by
  intro i hi x
  obtain⟨o,ho,ie⟩:=nf i hi
  obtain⟨_,h2,_⟩:=tr.step i o ie
  have:=V2 (i+1) (by omega) x
  rw[h2]at this
  exact⟨fun hx=>this.1 (apN.2 (.inl hx)),fun hx=>this.2 (apN.2 (.inl hx))⟩
 have Lx:∀i,i≤ops.size→∀x,(x∈S1.rd∨x∈S1.wr)→st Wm m (fun _=>true) i x=gt (G i).mem x:=by
  intro i
  induction i with
  |zero=>intro _ x hx;rw[tr.s0];exact hm x hx
  |succ i ih=>
   intro hi x hx
   obtain⟨o,ho,ie⟩:=nf i (by omega)
   obtain⟨h1,h2,_⟩:=tr.step i o ie
   rw[mB,ih (by omega) x hx,h2]
   simp only[if_true]
   by_cases EC:x∈(Bf i).wr
   ·have:Wm i x=some (gt (Bf i).mem x):=by simp only[Wm];rw[if_pos ⟨by omega,EC⟩]
    rw[this];rfl
   ·have:Wm i x=none:=by simp only[Wm];rw[if_neg fun hh=>EC hh.2]
    rw[this]
    exact((xO hc h1).frame x EC).symm
 have V3:∀i,i≤ops.size→∀x,x∉S1.wr→st Wm m (fun _=>true) i x=m x:=by
  intro i
  induction i with
  |zero=>intro _ x _;rfl
  |succ i ih=>
   intro hi x hx
   rw[mB,ih (by omega) x hx]
   have:Wm i x=none:=by simp only[Wm];rw[if_neg fun hh=>hx ((EB i hh.1 x).2 hh.2)]
   rw[this];simp
 -- pairs
 have ED:∀(i k:Nat) (oi ok:aqh) (mk:Nat),i<k→ops.toList[i]?=some oi→ops.toList[k]?=some ok→(qf ops)[k]?=some mk→mk.testBit i=true∨oi.apart ops ok=true:=by
  intro i k oi ok mk jB EE hok kK
  have:=(Ew Lt k mk ok kK hok).2.2 i oi jB EE
  simpa using this
 have EF:∀(i k mk:Nat),i<k→k<ops.size→(qf ops)[k]?=some mk→mk.testBit i=true∨((∀x,x∈(Bf i).wr→x∉(Bf k).rd∧x∉(Bf k).wr)∧∀x,x∈(Bf k).wr→x∉(Bf i).rd):=by
  intro i k mk jB hk kK
  obtain⟨oi,_,EE⟩:=nf i (by omega)
  obtain⟨ok,_,hok⟩:=nf k hk
  obtain⟨_,_,h1⟩:=tr.step i oi EE
  obtain⟨_,_,h2⟩:=tr.step k ok hok
  obtain⟨mi,vt⟩:=nK i (by omega)
  have:=apart_spec V1 i k mk _ _ jB kK h1 h2 (by rw[vt];rfl)
  simpa using this
 refine wpIn_region_any fw ?_
 -- the invariant
 have main:∀(gP:Nat) (ec:Array Bool) (a:Act) (w:aps),ec.size=ops.size→kl (fun i=>ec.getD i false) ops.size=gP→Cl ops.toList (fun i=>ec.getD i false)→
  (∃ρ' t',ρ.le ρ'∧(t'.n=t.n∧t'.ds=t.ds∧t'.base=t.base)∧(∀s,t'.at s=st Ws (T 0).at (fun i=>ec.getD i false) ops.size s)∧FR ρ' t' a∧WR P B w₀ ρ' (st Wm m (fun i=>ec.getD i false) ops.size) w)→
  wpAnyIn (FF r) 0 P .any ops Q gP ec a w:=by
  intro gP
  have fin:∀(ec:Array Bool) (a:Act) (w:aps),(∀i,i<ops.size→ec.getD i false=true)→
   (∃ρ' t',ρ.le ρ'∧(t'.n=t.n∧t'.ds=t.ds∧t'.base=t.base)∧(∀s,t'.at s=st Ws (T 0).at (fun i=>ec.getD i false) ops.size s)∧FR ρ' t' a∧WR P B w₀ ρ' (st Wm m (fun i=>ec.getD i false) ops.size) w)→Q .normal a w:=by
   rintro ec a w kJ ⟨ρ',t',hle,⟨hn,cX,EG⟩,ca,cu,cH⟩
   have tG:T ops.size=t1:=by rw[←tr.tn,hlen]
   refine hQ ρ' a w hle ⟨?_,?_,fun i=>?_,by have:=cu.defers;rw[cX,EG,←(Lu ops.size (apI _)).1,←(Lu ops.size (apI _)).2,tG]at this;exact this⟩ ?_
   ·rw[cu.size,hn,←xS ops.size (apI _),tG]
   ·rw[←tG,xS ops.size (apI _)];exact ht.small
   ·have:=cu.at_ i
    rwa[ca i,EA kJ,Lv ops.size i (apI _),tG]at this
   ·have:st Wm m (fun i=>ec.getD i false) ops.size=post m S1:=by
     funext x
     rw[EA kJ]
     unfold post
     by_cases hx:x∈S1.wr
     ·rw[if_pos hx,Lx ops.size (apI _) x (.inr hx)]
      have:G ops.size=S1:=by rw[←tr.sn,hlen]
      rw[this]
     ·rw[if_neg hx,V3 ops.size (apI _) x hx]
    rwa[this]at cH
  have full:∀(ec:Array Bool),ec.size=ops.size→asE .any ops ec=[]→∀i,i<ops.size→ec.getD i false=true:=by
   intro ec hs hr i
   induction i using Nat.strongRecOn with
   |_ i ih=>
    intro hi
    cases qA:ec.getD i false with
    |true=>rfl
    |false=>
     exfalso
     obtain⟨o,ho,ie⟩:=nf i hi
     obtain⟨mk,xU⟩:=nK i hi
     have V4:=(Ew Lt i mk o xU ie).1
     have:i∈asE .any ops ec:=(mem_ready hs).2 ⟨o,ho,qA,fun e he hb=>by
      have:=V4 e he hb
      exact ih e.on (by omega) (by omega)⟩
     rw[hr]at this
     cases this
  induction gP with
  |zero=>
   intro ec a w hs Ly eN hinv
   have kJ:=Lp Ly
   refine⟨?_,fin ec a w kJ hinv⟩
   cases hr:asE .any ops ec with
   |nil=>rfl
   |cons i l=>
    have:i∈asE .any ops ec:=by rw[hr];simp
    obtain⟨o,ho,h1,_⟩:=(mem_ready hs).1 this
    rw[kJ i (aqe.1 ho).1]at h1
    cases h1
  |succ gP ih=>
   intro ec a w hs Ly eN hinv
   refine⟨fun hr=>fin ec a w (full ec hs hr) hinv,fun i V5=>?_⟩
   obtain⟨o,ho,qA,Lz⟩:=(mem_ready hs).1 V5
   have hi:i<ops.size:=(aqe.1 ho).1
   have ie:ops.toList[i]?=some o:=by rw[aqW];exact ho
   obtain⟨mk,xU⟩:=nK i hi
   obtain⟨V6,hG,anF⟩:=tr.step i o ie
   obtain⟨ρ',t',hle,⟨hn,cX,EG⟩,ca,cu,cH⟩:=hinv
   -- what is not ordered is apart
   have LB:∀k,k<i→ec.getD k false=false→mk.testBit k=false:=by
    intro k hk fm
    cases hb:mk.testBit k with
    |false=>rfl
    |true=>rw[Lm eN xU ie Lz hb]at fm;cases fm
   have Al:∀k mk',i<k→(qf ops)[k]?=some mk'→ec.getD k false=true→k<ops.size→mk'.testBit i=false:=by
    intro k mk' jB kK fm hk
    cases hb:mk'.testBit i with
    |false=>rfl
    |true=>
     obtain⟨ok,_,hok⟩:=nf k hk
     rw[Lm eN kK hok (fun e he V7=>eN k ok hok fm e he V7) hb]at qA
     cases qA
   have V8:∀s∈o.looksAt ops,t'.at s=(T i).at s:=by
    intro s tH
    rw[ca s,Le (W:=Ws) (i:=i) (asp hi) qA ?_ ?_,Lv i s (asp hi)]
    ·intro k hk fm
     obtain⟨ok,hok,rL⟩:=nf k (by omega)
     simp only[Ws,rL]
     rw[if_neg]
     intro gv
     rcases ED k i ok o mk hk rL ie xU with h|h
     ·rw[LB k hk fm]at h;cases h
     ·exact(at8 h).1 s gv tH
    ·intro k jB jQ fm
     obtain⟨ok,hok,rL⟩:=nf k jQ
     obtain⟨mk',kK⟩:=nK k jQ
     simp only[Ws,rL]
     rw[if_neg]
     intro gv
     rcases ED i k o ok mk' jB ie rL kK with h|h
     ·rw[Al k mk' jB kK fm jQ]at h;cases h
     ·exact(at8 h).2.2 s gv tH
   obtain⟨v,mA,hp,kZ,V9⟩:=Ai V6 V8 (by rw[hn,xS i (asp hi)])
   have Wa:fG (reset (G i)) (Bf i) (st Wm m (fun i=>ec.getD i false) ops.size):=by
    intro x hx
    have kg:x∈S1.rd∨x∈S1.wr:=hx.imp (EB i hi x).1 (EB i hi x).2
    rw[Le (W:=Wm) (i:=i) (asp hi) qA ?_ ?_,Lx i (asp hi) x kg]
    ·intro k hk fm
     simp only[Wm]
     rw[if_neg]
     rintro⟨jQ,pC⟩
     rcases EF k i mk hk hi xU with h|⟨h,_⟩
     ·rw[LB k hk fm]at h;cases h
     ·rcases hx with hx|hx
      ·exact(h x pC).1 hx
      ·exact(h x pC).2 hx
    ·intro k jB jQ fm
     simp only[Wm]
     rw[if_neg]
     rintro⟨_,pC⟩
     obtain⟨mk',kK⟩:=nK k jQ
     rcases EF i k mk' jB jQ kK with h|⟨h1,h2⟩
     ·rw[Al k mk' jB kK fm jQ]at h;cases h
     ·rcases hx with hx|hx
      ·exact h2 x pC hx
      ·exact(h1 x hx).2 pC
   have Am:∀k,(ec.setIfInBounds i true).getD k false=(ec.getD k false||decide (k=i)):=fun k=>VZ (by omega)
   have An:(fun k=>(ec.setIfInBounds i true).getD k false)=fun k=>ec.getD k false||decide (k=i):=funext Am
   refine En hP hc ho V9 cu cH Wa (fun _ ρ2 a' w' km lK _ ig=>?_) (fun v hv=>by cases hv)
   refine ih (ec.setIfInBounds i true) a' w' (by simpa using hs) ?_ ?_ ⟨ρ2,mA,Ren.le_trans hle km,?_,?_,lK,?_⟩
   ·rw[An]
    have:=Ls (D:=fun k=>ec.getD k false) qA (n:=ops.size)
    rw[if_pos hi]at this
    omega
   ·rw[An]
    intro j oj EH Ao e he hb
    simp only[arV,decide_eq_true_eq]at Ao⊢
    left
    rcases Ao with Ao|rfl
    ·exact eN j oj EH Ao e he hb
    ·rw[ie]at EH;cases EH;exact Lz e he hb
   ·rw[(xP (by rw[hn];exact ht.small) kZ).1,hn,(Ak kZ).1,(Ak kZ).2];exact⟨rfl,cX,EG⟩
   ·intro s
    rw[(xP (by rw[hn];exact ht.small) kZ).2 s,An,Lf (W:=Ws) hi qA ?_,ca s]
    ·simp only[Ws,ie]
     have:=(xP (by rw[xS i (asp hi)];exact ht.small) hp).2 s
     by_cases gv:o.dst=some s
     ·rw[if_pos gv,if_pos gv,this,if_pos gv];rfl
     ·rw[if_neg gv,if_neg gv];rfl
    ·intro k jB jQ fm tI
     obtain⟨ok,hok,rL⟩:=nf k jQ
     obtain⟨mk',kK⟩:=nK k jQ
     have Wb:o.dst=some s:=by
      simp only[Ws,ie]at tI
      by_cases h:o.dst=some s
      ·exact h
      ·rw[if_neg h]at tI;exact absurd rfl tI
     simp only[Ws,rL]
     rw[if_neg]
     intro gv
     rcases ED i k o ok mk' jB ie rL kK with h|h
     ·rw[Al k mk' jB kK fm jQ]at h;cases h
     ·exact(at8 h).2.1 s Wb gv
   ·have:st Wm m (fun k=>(ec.setIfInBounds i true).getD k false) ops.size=post (st Wm m (fun i=>ec.getD i false) ops.size) (Bf i):=by
     funext x
     rw[An,Lf (W:=Wm) hi qA ?_]
     ·unfold post
      by_cases hx:x∈(Bf i).wr
      ·have:Wm i x=some (gt (Bf i).mem x):=by simp only[Wm];rw[if_pos ⟨hi,hx⟩]
       rw[this,if_pos hx];rfl
      ·have:Wm i x=none:=by simp only[Wm];rw[if_neg fun hh=>hx hh.2]
       rw[this,if_neg hx];rfl
     ·intro k jB jQ fm tI
      obtain⟨mk',kK⟩:=nK k jQ
      have hx:x∈(Bf i).wr:=by
       by_cases h:x∈(Bf i).wr
       ·exact h
       ·simp only[Wm]at tI;rw[if_neg fun hh=>h hh.2]at tI;exact absurd rfl tI
      simp only[Wm]
      rw[if_neg]
      rintro⟨_,pC⟩
      rcases EF i k mk' jB jQ kK with h|⟨h1,_⟩
      ·rw[Al k mk' jB kK fm jQ]at h;cases h
      ·exact(h1 x hx).2 pC
    rw[this]
    exact ig
 have Wc:∀k,(aru ops.size false).getD k false=false:=by
  intro k
  rw[apW]
  by_cases h:k<ops.size<;>simp[h]
 have Ap:(fun k=>(aru ops.size false).getD k false)=fun _=>false:=funext Wc
 have LD:∀{X V:Type} (W:Nat→X→Option V) (init:X→V) (n:Nat) (x:X),st W init (fun _=>false) n x=init x:=by
  intro X V W init n x
  induction n with
  |zero=>rfl
  |succ n ih=>rw[mB,ih];simp
 refine main ops.size _ a _ (by simp) (by rw[Ap,VY]) (by rw[Ap];intro j o _ h;cases h) ⟨ρ,t,Ren.le_refl ρ,⟨rfl,rfl,rfl⟩,fun s=>?_,ht,?_⟩
 ·rw[Ap,LD,tr.t0]
 ·have:st Wm m (fun k=>(aru ops.size false).getD k false) ops.size=m:=by funext x;rw[Ap,LD]
  rw[this]
  exact hw.drew
end
end Go.Proofs.YtnlkkgpcikkpoaaGreat.Vm
namespace Go.Proofs.YtnlkkgpcikkpoaaGreat.Vm
open Go.RowKit
section
variable {P:apu}
theorem Aq{call:cB}(hc:ic P call){df:Bool}{ops:List aqh}:∀{rest:List aqh} {t t1:Fr} {S S1:VS} {x:bd},opsV P call df ops rest t S=some (x,t1,S1)→dK S S1
 | [],t,t1,S,S1,x,h=>by
  simp only[opsV,api,apn]at h
  obtain⟨_,_,rfl⟩:=h
  exact dK.refl S
 |o::rest,t,t1,S,S1,x,h=>by
  unfold opsV at h
  split at h
  ·split at h
   ·split at h
    ·exact Aq hc h
    ·cases h
   ·cases h
  ·split at h
   ·cases h
   ·rename_i v t2 S2 cQ
    simp only[api,apn]at h
    obtain⟨_,_,rfl⟩:=h
    exact xO hc cQ
   ·rename_i t2 S2 cQ
    exact(xO hc cQ).trans (Aq hc h)
theorem LG{call:cB}(hc:ic P call){ops:List aqh}:∀{rest:List aqh} {t t1:Fr} {S S1:VS} {gr:List Fp},kC P call ops rest t S=some (t1,S1,gr)→dK S S1
 | [],t,t1,S,S1,gr,h=>by
  simp only[kC,api,apn]at h
  obtain⟨_,rfl,_⟩:=h
  exact dK.refl S
 |o::rest,t,t1,S,S1,gr,h=>by
  unfold kC at h
  split at h
  ·rename_i t2 S2 cQ
   split at h
   ·rename_i t3 S3 VX hd
    simp only[api,apn]at h
    obtain⟨rfl,rfl,rfl⟩:=h
    have e1:=xO hc cQ
    have e2:=LG hc hd
    refine dK.trans ⟨fun y hy=>?_,fun y hy=>?_,fun y hy=>?_,fun hS y hy=>?_⟩ e2
    ·exact apN.2 (.inr hy)
    ·exact apN.2 (.inr hy)
    ·exact e1.frame y fun hh=>hy (apN.2 (.inl hh))
    ·have he:=e1.sm (fun z hz=>by rcases hz with hz|hz<;>cases hz)
     rcases hy with hy|hy
     ·rcases apN.1 hy with hy|hy
      ·exact he y (.inl hy)
      ·exact hS y (.inl hy)
     ·rcases apN.1 hy with hy|hy
      ·exact he y (.inr hy)
      ·exact hS y (.inr hy)
   ·cases h
  ·cases h
theorem EI{f:Fr→VS→Option (bd×Fr×VS)}(hf:∀{t t1:Fr} {S S1:VS} {x:bd},f t S=some (x,t1,S1)→dK S S1):
 ∀{k:Nat} {t t1:Fr} {S S1:VS} {x:bd},iter f k t S=some (x,t1,S1)→dK S S1
 |0,t,t1,S,S1,x,h=>by cases h
 |k+1,t,t1,S,S1,x,h=>by
  unfold iter at h
  split at h
  ·rename_i t2 S2 Wd
   exact(hf Wd).trans (EI hf h)
  ·exact hf h
theorem nL{call:cB}(hc:ic P call)(lf:Nat){df:Bool}:∀{c:apV} {t t1:Fr} {S S1:VS} {x:bd},dg P call lf df c t S=some (x,t1,S1)→dK S S1:=by
 intro c
 induction c with
 |skip=>
  intro t t1 S S1 x h
  simp only[dg,api,apn]at h
  obtain⟨_,_,rfl⟩:=h
  exact dK.refl S
 |region id ops draw=>
  intro t t1 S S1 x h
  cases draw with
  |false=>exact Aq hc h
  |true=>
   simp only[dg]at h
   split at h
   ·rename_i t2 S2 gr hd
    split at h
    ·simp only[api,apn]at h
     obtain⟨_,_,rfl⟩:=h
     exact LG hc hd
    ·cases h
   ·cases h
 |seq a b iW k9=>
  intro t t1 S S1 x h
  simp only[dg]at h
  split at h
  ·rename_i t2 S2 hx
   exact(iW hx).trans (k9 h)
  ·exact iW h
 |cond c a b iW k9=>
  intro t t1 S S1 x h
  simp only[dg]at h
  split at h
  ·exact iW h
  ·exact k9 h
  ·cases h
 |block id c ih=>
  intro t t1 S S1 x h
  simp only[dg]at h
  split at h
  ·rename_i j t2 S2 hx
   split at h
   ·simp only[api,apn]at h
    obtain⟨_,_,rfl⟩:=h
    exact ih hx
   ·simp only[api,apn]at h
    obtain⟨_,_,rfl⟩:=h
    exact ih hx
  ·exact ih h
 |loop c ih=>
  intro t t1 S S1 x h
  simp only[dg]at h
  exact EI (fun h=>ih h) h
 |exit id=>
  intro t t1 S S1 x h
  simp only[dg,api,apn]at h
  obtain⟨_,_,rfl⟩:=h
  exact dK.refl S
 |ret=>
  intro t t1 S S1 x h
  simp only[dg,api,apn]at h
  obtain⟨_,_,rfl⟩:=h
  exact dK.refl S
 |scope c ih=>
  intro t t1 S S1 x h
  simp only[dg]at h
  exact ih h
 |label l=>
  intro t t1 S S1 x h
  simp only[dg,api,apn]at h
  obtain⟨_,_,rfl⟩:=h
  exact dK.refl S
 |_=>intro t t1 S S1 x h;simp[dg]at h
theorem FR.EJ{ρ:Ren}{t:Fr}{a:Act}(h:FR ρ t a){c:aqM}{b:Bool}(hc:bL t c=.bool b):a.eval c=.bool b:=by
 cases c with
 |tmp i=>
  have h1:=h.at_ i
  have h2:t.at i=.bool b:=hc
  rw[h2]at h1
  exact h1.u0
 |const v=>exact hc
 |global g=>cases hc
 |func f=>cases hc
inductive XR(ρ:Ren):bd→arB→Prop where
 |normal:XR ρ .normal .normal
 |exit (id:Nat):XR ρ (.exit id) (.exit id)
 |ret:XR ρ .ret .ret
 |panic (v v':ape) (h:VR ρ v v'):XR ρ (.panic v) (.panic [{v:=v',recovered:=false}])
variable {B:Nat→Prop} {w₀:aps}
theorem We{t t1:Fr}{o:aqh}{c:Call}(hd:xm o=some c)(h:zA P t o c=some t1):∃(f:aqM) (k:apQ) (first captured:Array ape),o.guard=none∧c.callee=.value f∧o.op=.defer c∧
 bL t f=.func (.func k) first captured∧(pd f=true∧c.args.toList.all pd=true)∧(∃cb,(P.funcs[k]?).bind (·.body)=some cb)∧
 Vm.put {t with ds:=(k,(first.toList++c.args.toList.map (bL t))++captured.toList)::t.ds} o.dst undef=some t1:=by
 unfold zA at h
 split at h
 ·rename_i f hg jr
  split at h
  ·rename_i k first captured hok my
   split at h
   ·rename_i cb Wg
    rw[apt]at hok
    refine⟨f,k,first,captured,hg,jr,?_,my,hok,⟨cb,Wg⟩,h⟩
    unfold xm at hd
    split at hd
    ·rename_i c' lJ;cases hd;exact lJ
    ·cases hd
   ·cases h
  ·cases h
 ·cases h
theorem LH{α:Type}{ρ:Ren}{f g:α→ape}:∀{l:List α},(∀x∈l,VR ρ (f x) (g x))→LR ρ (l.map f) (l.map g)
 | [],_=>LR.nil _
 |x::l,h=>LR.cons (h x apC) (LH fun y hy=>h y (apB _ hy))
theorem Wh{F:Fence}{n:Nat}{c:apV}{Q:arB→Act→aps→Prop}{a:Act}{w:aps}(h:c.wpIn F n P (Exit.noGoto Q) a w):(Code.scope c).wpIn F n P Q a w:=by
 intro b k cs dh hb hr
 have h0:(lone (b.atR a (.code (.scope c)::k)) cs w).fenced P F:=fenced_calm hb hr rfl
 have s1:step P (lone (b.atR a (.code (.scope c)::k)) cs w)=.next (lone (b.atR a (.code c:: .inScope c::k)) cs w):=step_lone_go (by simp[stepG,avY,av5])
 have s2:∀(a:Act) (w:aps),step P (lone (b.atR a (.inScope c::k)) cs w)=.next (lone (b.atR a k) cs w):=fun a w=>step_lone_go (by simp[stepG,avY,av5])
 obtain⟨e,a₁,w₁,hq,m8⟩:=h b (.inScope c::k) cs dh hb hr
 cases e with
 |normal=>exact⟨.normal,a₁,w₁,hq,.head h0 s1 (StepsIn.trans m8 (.one (fenced_calm hb hr rfl) (s2 a₁ w₁)))⟩
 |exit id=>exact⟨_,a₁,w₁,hq,.of_steps (.one h0 s1) ⟨fun k' hk=>m8.1 k' (by simpa[exitTo]using hk),fun hr hk=>m8.2 hr (by simpa[exitTo]using hk)⟩⟩
 |goto l=>exact hq.elim
 |ret=>exact⟨.ret,a₁,w₁,hq,atJ (e:=.ret) (k:=k) (.one h0 s1) m8⟩
 |panic ch=>exact⟨.panic ch,a₁,w₁,hq,atJ (e:=.panic ch) (k:=k) (.one h0 s1) m8⟩
 |outgrown=>exact⟨.outgrown,a₁,w₁,hq,atJ (e:=.outgrown) (k:=k) (.one h0 s1) m8⟩
theorem EK(hP:iG P=true){call:cB}(hc:ic P call){df:Bool}{r:Option Nat}(xV:df=true→r=none){ops:Array aqh}:∀{rest:List aqh} {k:Nat},(∀j,rest[j]?=ops[k+j]?)→∀{t t1:Fr} {S S1:VS} {x:bd},
 opsV P call df ops.toList rest t S=some (x,t1,S1)→∀{ρ:Ren} {m:Nat→Option ag} {w:aps} {a:Act},FR ρ t a→WR P B w₀ ρ m w→fG S S1 m→∀{Q:arB→Act→aps→Prop},
 (∀(ρ':Ren) (e:arB) (a':Act) (w':aps),ρ.le ρ'→XR ρ' x e→FR ρ' t1 a'→WR P B w₀ ρ' (post m S1) w'→Q e a' w')→wpOpsIn (FF r) 0 P ops Q (atD k rest.length) a w
 | [],k,hk,t,t1,S,S1,x,h,ρ,m,w,a,ht,hw,hm,Q,hQ=>by
  simp only[opsV,api,apn]at h
  obtain⟨rfl,rfl,rfl⟩:=h
  have hp:post m S=m:=oE hm
  exact hQ ρ _ a w (Ren.le_refl ρ) .normal ht (by rw[hp];exact hw)
 |o::rest,k,hk,t,t1,S,S1,x,h,ρ,m,w,a,ht,hw,hm,Q,hQ=>by
  have ho:ops[k]?=some o:=by simpa using(hk 0).symm
  have vd:∀j,rest[j]?=ops[k+1+j]? :=fun j=>by have:=hk (j+1);simpa[arf,avx 1 j]using this
  rw[ap1,as1,wpOpsIn_cons]
  unfold opsV at h
  split at h
  ·rename_i c hd
   split at h
   ·split at h
    ·rename_i t2 EL
     cases xV rfl
     obtain⟨f,k',first,captured,hg,jr,cQ,my,hok,LI,hp⟩:=We hd EL
     unfold wpOpIn
     simp only[ho]
     have gQ:aqP o (yielded ops a.tmps)=true:=by unfold aqP;rw[hg]
     rw[if_pos gQ]
     unfold av4
     refine⟨fun _ _=>trivial,?_⟩
     obtain⟨Wi,Wj⟩:=hok
     have LJ:=ht.eval Wi
     rw[my]at LJ
     obtain⟨f',c',Wk,Wl,xW⟩:=LJ.xr
     have EM:(o.semAt (FF none).round a.eval).run P w=.ok (.defer {target:=.fn (.func k') c',args:=f'++c.args.map a.eval}) w:=by
      show(execOp a.eval o).run P w=_
      unfold execOp
      rw[cQ]
      unfold resolve
      simp only[jr,Wk,atV]
      rfl
     rw[EM]
     show wpOpsIn (FF none) 0 P ops Q _ (({a with defers:=_::a.defers}:Act).put o.dst undef) w
     have ia:LR ρ (c.args.toList.map (bL t)) (c.args.map a.eval).toList:=by
      rw[ar9]
      exact LH fun x hx=>ht.eval (apR.1 Wj x hx)
     have mC:FR ρ {t with ds:=(k',(first.toList++c.args.toList.map (bL t))++captured.toList)::t.ds} {a with defers:={target:=.fn (.func k') c',args:=f'++c.args.map a.eval}::a.defers}:=
      ⟨ht.size,ht.small,ht.at_,.cons (by rw[aq6,aq6];exact(Wl.append ia).append xW) ht.defers⟩
     exact EK hP hc xV vd h (mC.put (VR.undef ρ) hp) hw hm hQ
    ·cases h
   ·cases h
  rename_i cX
  split at h
  ·cases h
  ·rename_i v t2 S2 cQ
   simp only[api,apn]at h
   obtain⟨rfl,rfl,rfl⟩:=h
   refine En hP hc ho cQ ht hw hm (fun hh=>by cases hh) fun v2 hv ρ' v' w' hle fY cu cH=>?_
   cases hv
   exact hQ ρ' _ a w' hle (.panic v v' fY) cu cH
  ·rename_i t2 S2 cQ
   have e2:=Aq hc h
   refine En hP hc ho cQ ht hw (hm.first e2) (fun _ ρ' a' w' hle cu _ cH=>?_) fun v2 hv=>by cases hv
   refine EK hP hc xV vd h cu cH (hm.next (xO hc cQ)) fun ρ2 e a2 w2 km hx lK ig=>?_
   rw[oD e2]at ig
   exact hQ ρ2 e a2 w2 (Ren.le_trans hle km) hx lK ig
def LK(P:apu)(r:Option Nat)(c:apV)(f:Fr→VS→Option (bd×Fr×VS)):Prop:=
 ∀{t t1:Fr} {S S1:VS} {x:bd},f t S=some (x,t1,S1)→∀{B:Nat→Prop} {w₀:aps} {ρ:Ren} {m:Nat→Option ag} {w:aps} {a:Act},FR ρ t a→WR P B w₀ ρ m w→fG S S1 m→
  ∀{Q:arB→Act→aps→Prop},(∀(ρ':Ren) (e:arB) (a':Act) (w':aps),ρ.le ρ'→XR ρ' x e→FR ρ' t1 a'→WR P B w₀ ρ' (post m S1) w'→Q e a' w')→c.wpIn (FF r) 0 P Q a w
theorem LL{r:Option Nat}{c:apV}{f:Fr→VS→Option (bd×Fr×VS)}(hx:∀{t t1:Fr} {S S1:VS} {x:bd},f t S=some (x,t1,S1)→dK S S1)(hs:LK P r c f):
 ∀{k:Nat} {t t1:Fr} {S S1:VS} {x:bd},iter f k t S=some (x,t1,S1)→∀{ρ:Ren} {m:Nat→Option ag} {w:aps} {a:Act},FR ρ t a→WR P B w₀ ρ m w→fG S S1 m→
 ∀{Q:arB→Act→aps→Prop},(∀(ρ':Ren) (e:arB) (a':Act) (w':aps),ρ.le ρ'→XR ρ' x e→FR ρ' t1 a'→WR P B w₀ ρ' (post m S1) w'→Q e a' w')→Code.roundsIn (FF r) 0 P c Q k a w
 |0,t,t1,S,S1,x,h,ρ,m,w,a,ht,hw,hm,Q,hQ=>by cases h
 |k+1,t,t1,S,S1,x,h,ρ,m,w,a,ht,hw,hm,Q,hQ=>by
  rw[roundsIn_succ]
  unfold iter at h
  split at h
  ·rename_i t2 S2 hf
   have e2:=EI hx h
   refine hs hf ht hw (hm.first e2) fun ρ' e a' w' hle dF cu cH=>?_
   cases dF
   refine LL hx hs h cu cH (hm.next (hx hf)) fun ρ2 qB a2 w2 km jR lK ig=>?_
   rw[oD e2]at ig
   exact hQ ρ2 qB a2 w2 (Ren.le_trans hle km) jR lK ig
  ·rename_i bk
   refine hs h ht hw hm fun ρ' e a' w' hle dF cu cH=>?_
   cases dF with
   |normal=>exact absurd h (bk _ _)
   |_=>exact hQ ρ' _ a' w' hle (by constructor<;>assumption) cu cH
theorem tJ(hP:iG P=true)(fw:P.follows .mixedOrders=true){call:cB}(hc:ic P call)(lf:Nat){df:Bool}{r:Option Nat}(xV:df=true→r=none):∀(c:apV),LK P r c (dg P call lf df c):=by
 intro c
 induction c with
 |skip=>
  intro t t1 S S1 x h B w₀ ρ m w a ht hw hm Q hQ
  simp only[dg,api,apn]at h
  obtain⟨rfl,rfl,rfl⟩:=h
  exact wpIn_skip (hQ ρ _ a w (Ren.le_refl ρ) .normal ht (by rw[oE hm];exact hw))
 |region id ops draw=>
  intro t t1 S S1 x h B w₀ ρ m w a ht hw hm Q hQ
  cases draw with
  |false=>
   refine wpIn_region ?_
   have:=EK hP hc xV (ops:=ops) (rest:=ops.toList) (k:=0) (fun j=>by simp) h ht hw hm hQ
   rw[ati]
   simpa using this
  |true=>
   simp only[dg]at h
   split at h
   ·rename_i t2 S2 gr hd
    split at h
    ·rename_i hok
     simp only[api,apn]at h
     obtain⟨rfl,rfl,rfl⟩:=h
     exact V0 hP fw hc hd hok ht hw hm fun ρ' a' w' hle cu cH=>hQ ρ' _ a' w' hle .normal cu cH
    ·cases h
   ·cases h
 |seq a b iW k9=>
  intro t t1 S S1 x h B w₀ ρ m w a ht hw hm Q hQ
  simp only[dg]at h
  refine wpIn_seq ?_
  split at h
  ·rename_i t2 S2 hx
   have e2:=nL hc lf h
   refine iW hx ht hw (hm.first e2) fun ρ' e a' w' hle dF cu cH=>?_
   cases dF
   refine k9 h cu cH (hm.next (nL hc lf hx)) fun ρ2 qB a2 w2 km jR lK ig=>?_
   rw[oD e2]at ig
   exact hQ ρ2 qB a2 w2 (Ren.le_trans hle km) jR lK ig
  ·rename_i bk
   refine iW h ht hw hm fun ρ' e a' w' hle dF cu cH=>?_
   cases dF with
   |normal=>exact absurd h (bk _ _)
   |_=>exact hQ ρ' _ a' w' hle (by constructor<;>assumption) cu cH
 |cond c x y qC qD=>
  intro t t1 S S1 x' h B w₀ ρ m w a ht hw hm Q hQ
  simp only[dg]at h
  split at h
  ·rename_i he;exact wpIn_cond_true (ht.EJ he) (qC h ht hw hm hQ)
  ·rename_i he;exact wpIn_cond_false (ht.EJ he) (qD h ht hw hm hQ)
  ·cases h
 |block id c ih=>
  intro t t1 S S1 x h B w₀ ρ m w a ht hw hm Q hQ
  simp only[dg]at h
  refine wpIn_block ?_
  split at h
  ·rename_i j t2 S2 hx
   split at h
   ·rename_i hj
    have kH:j=id:=apz hj
    simp only[api,apn]at h
    obtain⟨rfl,rfl,rfl⟩:=h
    refine ih hx ht hw hm fun ρ' e a' w' hle dF cu cH=>?_
    cases dF
    simp only[atj,kH,if_true]
    exact hQ ρ' _ a' w' hle .normal cu cH
   ·rename_i hj
    have kH:¬j=id:=fun e=>by rw[e,Nat.beq_refl]at hj;cases hj
    simp only[api,apn]at h
    obtain⟨rfl,rfl,rfl⟩:=h
    refine ih hx ht hw hm fun ρ' e a' w' hle dF cu cH=>?_
    cases dF
    simp only[atj,kH,if_false]
    exact hQ ρ' _ a' w' hle (.exit j) cu cH
  ·rename_i bk
   refine ih h ht hw hm fun ρ' e a' w' hle dF cu cH=>?_
   cases dF with
   |exit j=>exact absurd h (bk _ _ _)
   |_=>exact hQ ρ' _ a' w' hle (by constructor<;>assumption) cu cH
 |loop c ih=>
  intro t t1 S S1 x h B w₀ ρ m w a ht hw hm Q hQ
  simp only[dg]at h
  exact wpIn_loop_rounds lf (LL (fun h=>nL hc lf h) ih h ht hw hm hQ)
 |exit id=>
  intro t t1 S S1 x h B w₀ ρ m w a ht hw hm Q hQ
  simp only[dg,api,apn]at h
  obtain⟨rfl,rfl,rfl⟩:=h
  exact wpIn_exit (hQ ρ _ a w (Ren.le_refl ρ) (.exit id) ht (by rw[oE hm];exact hw))
 |ret=>
  intro t t1 S S1 x h B w₀ ρ m w a ht hw hm Q hQ
  simp only[dg,api,apn]at h
  obtain⟨rfl,rfl,rfl⟩:=h
  exact wpIn_ret (hQ ρ _ a w (Ren.le_refl ρ) .ret ht (by rw[oE hm];exact hw))
 |scope c ih=>
  intro t t1 S S1 x h B w₀ ρ m w a ht hw hm Q hQ
  simp only[dg]at h
  refine Wh (ih h ht hw hm fun ρ' e a' w' hle dF cu cH=>?_)
  cases dF<;>exact hQ ρ' _ a' w' hle (by constructor<;>assumption) cu cH
 |label l=>
  intro t t1 S S1 x h B w₀ ρ m w a ht hw hm Q hQ
  simp only[dg,api,apn]at h
  obtain⟨rfl,rfl,rfl⟩:=h
  exact wpIn_label (hQ ρ _ a w (Ren.le_refl ρ) .normal ht (by rw[oE hm];exact hw))
 |_=>intro t t1 S S1 x h;simp[dg]at h
theorem EN{ρ:Ren}{g:Nat→Option ag}{w:aps}(hw:WR P B w₀ ρ g w){t:Fr}{a:Act}(ht:FR ρ t a):∀{rs:List ResultVar} {vs:List ape} {l:List Nat},(hI P t rs).run g=some (vs,l)→
 ∃jM:List ape,(rs.mapM (m:=Sem) fun| .tmp t=>pure (a.tmps.getD t undef)| .cell b t=>do loadVar t (←asAddr (a.tmps.getD b undef))).run P w=.ok jM w∧LR ρ vs jM
 | [],vs,l,h=>by
  simp only[hI,Rd.run,api,apn]at h
  obtain⟨rfl,rfl⟩:=h
  exact⟨[],rfl,LR.nil ρ⟩
 | .tmp i::rs,vs,l,h=>by
  simp only[hI]at h
  obtain⟨r,l1,l2,h1,h2,rfl⟩:=(Rd.run_bind _ _ _ _ _).1 h
  simp only[Rd.run,api,apn]at h2
  obtain⟨rfl,rfl⟩:=h2
  obtain⟨jM,h3,h4⟩:=EN hw ht h1
  refine⟨a.tmps.getD i undef::jM,?_,LR.cons (ht.at_ i) h4⟩
  rw[atv]
  simp only[apg,apY,apf,h3]
 | .cell i ty::rs,vs,l,h=>by
  simp only[hI]at h
  split at h
  ·rename_i b off hp
   obtain⟨v,l1,l2,h1,h2,rfl⟩:=(Rd.run_bind _ _ _ _ _).1 h
   obtain⟨r,l3,l4,h3,h4,rfl⟩:=(Rd.run_bind _ _ _ _ _).1 h2
   simp only[Rd.run,api,apn]at h4
   obtain⟨rfl,rfl⟩:=h4
   have hi:=ht.at_ i
   rw[hp]at hi
   obtain⟨LN,hr,hi⟩:=hi.kE
   obtain⟨v',h5,h6⟩:=va hw h1 hr
   obtain⟨jM,h7,h8⟩:=EN hw ht h3
   refine⟨v'::jM,?_,LR.cons h6 h8⟩
   rw[atv]
   have h9:(asAddr (a.tmps.getD i undef)).run P w=.ok ⟨LN.aI,LN.sh+off,none⟩ w:=by rw[hi];rfl
   simp only[apg,apY,apf,h9,h5,h7]
  ·cases h
theorem EP{ρ:Ren}{g:Nat→Option ag}{w:aps}(hw:WR P B w₀ ρ g w){t:Fr}{a:Act}(ht:FR ρ t a){fn:atb}{vs:List ape}{l:List Nat}(h:(hI P t fn.results.toList).run g=some (vs,l)):
 ∃v',(results fn a.tmps).run P w=.ok v' w∧VR ρ (mU vs) v':=by
 obtain⟨jM,h1,h2⟩:=EN hw ht h
 have h3:∀F:ResultVar→Sem ape,(fn.results.toList.mapM F).run P w=.ok jM w→(fn.results.mapM F).run P w=.ok jM.toArray w:=by
  intro F hF
  rw[Array.mapM_eq_mapM_toList]
  show(fn.results.toList.mapM F>>=fun l=>pure l.toArray).run P w=_
  rw[apg,hF]
  rfl
 unfold results
 rw[apg]
 refine⟨(if h:jM.toArray.size=1 then jM.toArray[0]else .tuple jM.toArray),?_,?_⟩
 ·exact Eq.trans (congrArg (fun r=>Result.andThen r _) (h3 _ h1)) rfl
 ·cases vs with
  |nil=>
   rw[h2.kD]
   exact VR.zI (LR.nil ρ)
  |cons v vs=>
   obtain⟨v',r,rfl,h4,h5⟩:=h2.gI
   cases vs with
   |nil=>rw[h5.kD];exact h4
   |cons u vs=>
    obtain⟨u',r',rfl,h6,h7⟩:=h5.gI
    have:¬((v'::u'::r').toArray.size=1):=by simp
    rw[dif_neg this]
    exact VR.zI h2
theorem Fr.xX:∀{args:List ape} {i:Nat} {t:Tr ape} {j:Nat},i+args.length≤1024→j<1024→
 (Fr.rj args i t).get 10 j=if i≤j∧j<i+args.length then args[j-i]?else t.get 10 j
 | [],i,t,j,h,hj=>by
  have:¬(i≤j∧j<i+([]:List ape).length):=by simp
  rw[if_neg this];rfl
 |v::args,i,t,j,h,hj=>by
  simp only[ap1]at h⊢
  unfold Fr.rj
  rw[Fr.xX (by omega) hj]
  have bJ:(2:Nat)^10=1024:=rfl
  by_cases h1:i+1≤j∧j<i+1+args.length
  ·rw[if_pos h1,if_pos (by omega),show j-i=(j-(i+1))+1 by omega,aqt]
  ·rw[if_neg h1,Tr.xn 10 _ _ _ _ (by omega) (by omega)]
   by_cases h2:j=i
   ·subst h2
    rw[if_pos rfl,if_pos (by omega)]
    simp
   ·rw[if_neg h2,if_neg (by omega)]
theorem Fr.EQ{ρ:Ren}{args:List ape}{args':Array ape}(ha:LR ρ args args'.toList){n:Nat}{t0:Fr}(h:Fr.of args n=some t0):
 FR ρ t0 {tmps:=args'++aru (n-args'.size) undef,defers:=[]}:=by
 unfold Fr.of at h
 split at h
 ·rename_i hb
  cases h
  simp only[apt]at hb
  have h1:args.length≤n:=by simpa[au4]using hb.1
  have h2:n≤1024:=by simpa[au4]using hb.2
  have hlen:args.length=args'.size:=by have:=ha.len;simpa using this
  refine⟨by simp;omega,h2,fun i=>?_,.nil⟩
  unfold Fr.at
  dsimp only
  by_cases hi:i<n
  ·rw[dQ.2 hi]
   dsimp only
   rw[Fr.xX (by omega) (by omega),Tr.Dz]
   rw[apW]
   by_cases LO:i<args.length
   ·rw[if_pos (by omega),asx (by omega)]
    obtain⟨v',h3,h4⟩:=ha.get (apl LO)
    have h5:args'[i]?=some v':=by simpa using h3
    rw[h5]
    simp only[Nat.sub_zero,apl LO]
    exact h4
   ·rw[if_neg (by omega),Array.getElem?_append_right (by omega)]
    have:(aru (n-args'.size) undef)[i-args'.size]?=some undef:=by
     rw[Array.getElem?_replicate,if_pos (by omega)]
    rw[this]
    exact VR.undef ρ
  ·have hb:apy i n=false:=by cases hb:apy i n with
    |false=>rfl
    |true=>exact absurd (dQ.1 hb) hi
   rw[hb]
   dsimp only
   rw[apW,asm (by simp;omega)]
   exact VR.undef ρ
 ·cases h
theorem ER{t:Fr}{fn:atb}{S S1:VS}{r:bx}(h:oh P t fn S=some (r,S1)):
 ∃vs l,(hI P t fn.results.toList).run (gt S.mem)=some (vs,l)∧r=.ret (mU vs)∧S1={S with rd:=l++S.rd}:=by
 unfold oh at h
 split at h
 ·rename_i vs l hr
  simp only[api,apn]at h
  exact⟨vs,l,hr,h.1.symm,h.2.symm⟩
 ·cases h
theorem Ar{t:Fr}{fn:atb}{S S1:VS}{r:bx}(h:oh P t fn S=some (r,S1)):dK S S1:=by
 obtain⟨vs,l,hr,_,rfl⟩:=ER h
 refine⟨fun x hx=>apN.2 (.inr hx),fun x hx=>hx,fun x _=>rfl,fun hS x hx=>?_⟩
 rcases hx with hx|hx
 ·rcases apN.1 hx with hx|hx
  ·obtain⟨o,ho⟩:=Rd.zH hr x hx;exact po ho
  ·exact hS x (.inl hx)
 ·exact hS x (.inr hx)
def kL(ρ:Ren):Md→arR→Prop
 | .ret,u=>u=.returning
 | .mV v,u=>∃v',u=.panicking [{v:=v',recovered:=false}]∧VR ρ v v'
theorem kL.mono{ρ ρ':Ren}(hl:ρ.le ρ'):∀{md:Md} {u:arR},kL ρ md u→kL ρ' md u
 | .ret,_,h=>h
 | .mV v,_,⟨v',h,hv⟩=>⟨v',h,hv.mono hl⟩
theorem kL.settled{ρ:Ren}:∀{md:Md} {u:arR},kL ρ md u→kL ρ md (settle u)
 | .ret,_,h=>by cases h;rfl
 | .mV v,_,⟨v',h,hv⟩=>⟨v',by rw[h];rfl,hv⟩
theorem kL.Wn{ρ:Ren}:∀{md:Md} {u:arR},kL ρ md u→u≠ .run
 | .ret,_,h=>by cases h;simp
 | .mV v,_,⟨v',h,hv⟩=>by rw[h];simp
theorem ES:∀{rest:List aqh} {t t1:Fr} {S S1:VS},ph P rest t S=some (t1,S1)→dK S S1
 | [],t,t1,S,S1,h=>by
  simp only[ph,api,apn]at h
  obtain⟨_,rfl⟩:=h
  exact dK.refl S
 |o::rest,t,t1,S,S1,h=>by
  unfold ph at h
  split at h
  ·cases h
  ·split at h
   ·rename_i v S2 hs
    split at h
    ·exact(xM hs).trans (ES h)
    ·cases h
   ·cases h
theorem ET(hP:iG P=true){ops:Array aqh}:∀{rest:List aqh} {k:Nat},(∀j,rest[j]?=ops[k+j]?)→∀{t t1:Fr} {S S1:VS},
 ph P rest t S=some (t1,S1)→∀{ρ:Ren} {m:Nat→Option ag} {w:aps} {a:Act} {cs:List atk},FR ρ t a→WR P B w₀ ρ m w→fG S S1 m→∀{Q:arB→Act→List atk→aps→Prop},
 (∀(ρ':Ren) (a':Act) (w':aps),ρ.le ρ'→FR ρ' t1 a'→WR P B w₀ ρ' (post m S1) w'→Q .normal a' cs w')→wpOpsS P ops Q (atD k rest.length) a cs w
 | [],k,hk,t,t1,S,S1,h,ρ,m,w,a,cs,ht,hw,hm,Q,hQ=>by
  simp only[ph,api,apn]at h
  obtain⟨rfl,rfl⟩:=h
  exact hQ ρ a w (Ren.le_refl ρ) ht (by rw[oE hm];exact hw)
 |o::rest,k,hk,t,t1,S,S1,h,ρ,m,w,a,cs,ht,hw,hm,Q,hQ=>by
  have ho:ops[k]?=some o:=by simpa using(hk 0).symm
  have vd:∀j,rest[j]?=ops[k+1+j]? :=fun j=>by have:=hk (j+1);simpa[arf,avx 1 j]using this
  rw[ap1,as1]
  unfold wpOpsS
  simp only[ho]
  unfold ph at h
  split at h
  ·cases h
  ·rename_i hg
   have gQ:aqP o (yielded ops a.tmps)=true:=by unfold aqP;rw[hg]
   rw[if_pos gQ]
   split at h
   ·rename_i v S2 hs
    split at h
    ·rename_i t2 hp
     have e2:=ES h
     obtain⟨ρ',w',h1,h2,h3⟩:=vp hP hs ht hw (hm.first e2)
     generalize(execOp a.eval o).run P w=q at h2
     cases h2 with
     |val _ v' _ hv=>
      refine ET hP vd h ((ht.mono h1).put hv hp) h3 (hm.next (xM hs)) fun ρ2 a2 w2 km lK ig=>?_
      rw[oD e2]at ig
      exact hQ ρ2 a2 w2 (Ren.le_trans h1 km) lK ig
    ·cases h
   ·cases h
theorem EU{call:cB}(hc:ic P call){lf:Nat}{md:Md}:∀{c:apV} {t t1:Fr} {S S1:VS} {fB:Md} {x:bd},j7 P call lf md c t S=some (fB,x,t1,S1)→dK S S1:=by
 intro c
 have oG:∀{c:apV} {t t1:Fr} {S S1:VS} {fB:Md} {x:bd},(dg P call lf false c t S).map (fun r=>(md,r))=some (fB,x,t1,S1)→dK S S1:=by
  intro c t t1 S S1 fB x h
  simp only[aqm,apn]at h
  obtain⟨_,jS,rfl,rfl⟩:=h
  exact nL hc lf jS
 induction c with
 |seq a b iW k9=>
  intro t t1 S S1 fB x h
  unfold j7 at h
  split at h
  ·rename_i Wo t2 S2 h1
   simp only[aqm,apn]at h
   obtain⟨_,jS,rfl,rfl⟩:=h
   exact(iW h1).trans (nL hc lf jS)
  ·exact iW h
 |region id ops draw=>
  intro t t1 S S1 fB x h
  cases draw with
  |true=>unfold j7 at h;exact oG h
  |false=>
   unfold j7 at h
   split at h
   ·split at h
    ·split at h
     ·split at h
      ·rename_i hq
       simp only[api,apn]at h
       obtain⟨_,_,_,rfl⟩:=h
       exact ES hq
      ·cases h
     ·cases h
    ·exact oG h
   ·cases h
 |_=>intro t t1 S S1 fB x h;unfold j7 at h;exact oG h
abbrev LP(P:apu)(B:Nat→Prop)(w₀:aps)(ρ:Ren)(m:Nat→Option ag)(fB:Md)(x:bd)(t1:Fr)(S1:VS)(c₀:atk)(cs:List atk)(Q:arB→Act→List atk→aps→Prop):Prop:=
 ∀(ρ':Ren) (e:arB) (a':Act) (u':arR) (w':aps),ρ.le ρ'→XR ρ' x e→FR ρ' t1 a'→kL ρ' fB (settle u')→WR P B w₀ ρ' (post m S1) w'→Q e a' ({c₀ with mode:=u'}::cs) w'
theorem Wp(hP:iG P=true)(fw:P.follows .mixedOrders=true){call:cB}(hc:ic P call){lf:Nat}{md:Md}:∀{c:apV} {t t1:Fr} {S S1:VS} {fB:Md} {x:bd},
 j7 P call lf md c t S=some (fB,x,t1,S1)→∀{ρ:Ren} {m:Nat→Option ag} {w:aps} {a:Act} {c₀:atk} {cs:List atk},FR ρ t a→WR P B w₀ ρ m w→fG S S1 m→kL ρ md c₀.mode→
 ∀{Q:arB→Act→List atk→aps→Prop},LP P B w₀ ρ m fB x t1 S1 c₀ cs Q→c.wpS P Q a (c₀::cs) w:=by
 intro c
 have oG:∀{c:apV} {t t1:Fr} {S S1:VS} {fB:Md} {x:bd},(dg P call lf false c t S).map (fun r=>(md,r))=some (fB,x,t1,S1)→∀{ρ:Ren} {m:Nat→Option ag} {w:aps} {a:Act} {c₀:atk} {cs:List atk},FR ρ t a→WR P B w₀ ρ m w→fG S S1 m→kL ρ md c₀.mode→
  ∀{Q:arB→Act→List atk→aps→Prop},LP P B w₀ ρ m fB x t1 S1 c₀ cs Q→c.wpS P Q a (c₀::cs) w:=by
  intro c t t1 S S1 fB x h ρ m w a c₀ cs ht hw hm iJ Q hQ
  ·simp only[aqm,apn]at h
   obtain⟨_,jS,rfl,rfl⟩:=h
   refine wpS_of_wp (as8.1 (tJ hP fw hc lf (r:=none) (fun h=>by cases h) c jS ht hw hm fun ρ' e a' w' hle dF cu cH=>?_))
   exact hQ ρ' e a' c₀.mode w' hle dF cu (iJ.mono hle).settled cH
 induction c with
 |seq a b iW k9=>
  intro t t1 S S1 fB x h ρ m w ac c₀ cs ht hw hm iJ Q hQ
  unfold j7 at h
  refine wpS_seq ?_
  split at h
  ·rename_i Wo t2 S2 h1
   ·simp only[aqm,apn]at h
    obtain⟨_,jS,rfl,rfl⟩:=h
    have e2:=nL hc lf jS
    refine iW h1 ht hw (hm.first e2) iJ fun ρ' e a' u' w' hle dF cu oH cH=>?_
    cases dF
    refine wpS_of_wp (as8.1 (tJ hP fw hc lf (r:=none) (fun h=>by cases h) b jS cu cH (hm.next (EU hc h1)) fun ρ2 qB a2 w2 km jR lK ig=>?_))
    rw[oD e2]at ig
    exact hQ ρ2 qB a2 u' w2 (Ren.le_trans hle km) jR lK (oH.mono km) ig
  ·rename_i bk
   refine iW h ht hw hm iJ fun ρ' e a' u' w' hle dF cu oH cH=>?_
   cases dF with
   |normal=>exact absurd h (bk _ _ _)
   |_=>exact hQ ρ' _ a' u' w' hle (by constructor<;>assumption) cu oH cH
 |region id ops draw=>
  intro t t1 S S1 fB x h ρ m w a c₀ cs ht hw hm iJ Q hQ
  cases draw with
  |true=>unfold j7 at h;exact oG h ht hw hm iJ hQ
  |false=>
   unfold j7 at h
   split at h
   ·rename_i o rest mz
    split at h
    ·rename_i lL
     split at h
     ·rename_i t2 hp
      split at h
      ·rename_i t3 S2 hq
       simp only[api,apn]at h
       obtain⟨rfl,rfl,rfl,rfl⟩:=h
       refine wpS_region ?_
       have cf:ops.size=rest.length+1:=by rw[←Array.length_toList,mz];rfl
       have ho:ops[0]?=some o:=by rw[←aqW,mz];rfl
       rw[ati,cf,as1]
       obtain⟨at_,ty,cQ,hg⟩:∃ar at_,o.op=.call ⟨.builtin .recover,ar,at_⟩∧o.guard=none:=by
        unfold Dy at lL
        split at lL
        ·rename_i ar at_ h1 h2;exact⟨ar,at_,h1,h2⟩
        ·cases lL
       unfold wpOpsS
       simp only[ho]
       have gQ:aqP o (yielded ops a.tmps)=true:=by unfold aqP;rw[hg]
       rw[if_pos gQ]
       have EM:(execOp a.eval o).run P w=.ok .recover w:=by
        unfold execOp
        rw[cQ]
        rfl
       rw[EM]
       have hk:∀j,rest[j]?=ops[0+1+j]? :=fun j=>by
        rw[←aqW,mz,show 0+1+j=j+1 by omega];rfl
       cases md with
       |ret=>
        have As:c₀.mode=.returning:=iJ
        have gd:recoverD (c₀::cs)=none:=by simp[recoverD,As]
        simp only[gd]
        exact ET hP hk hq (ht.put (.bG _ rfl) hp) hw hm fun ρ' a' w' hle cu cH=>hQ ρ' .normal a' c₀.mode w' hle .normal cu (by rw[As];rfl) cH
       |mV v=>
        obtain⟨v',As,hv⟩:=iJ
        have gd:recoverD (c₀::cs)=some (v',{c₀ with mode:=.panicking [{v:=v',recovered:=true}]}::cs):=by simp[recoverD,As]
        simp only[gd]
        exact ET hP hk hq (ht.put hv hp) hw hm fun ρ' a' w' hle cu cH=>hQ ρ' .normal a' _ w' hle .normal cu rfl cH
      ·cases h
     ·cases h
    ·exact oG h ht hw hm iJ hQ
   ·cases h
 |_=>intro t t1 S S1 fB x h ρ m w a c₀ cs ht hw hm iJ Q hQ;unfold j7 at h;exact oG h ht hw hm iJ hQ
theorem EV{call:cB}{lf:Nat}{md:Md}{k:apQ}{args:List ape}{S S':VS}{jg:Md}(h:ti P call lf md k args S=some (jg,S')):
 ∃fn c t0 x t S1 r,P.funcs[k]?=some fn∧fn.body=some c∧Fr.of args fn.ntmps=some t0∧j7 P call lf md c t0 S=some (jg,x,t,S1)∧(x=.normal∨x=.ret)∧t.ds=[]∧t.base=[]∧oh P t fn S1=some (r,S'):=by
 unfold ti at h
 split at h
 ·cases h
 ·rename_i fn gJ
  split at h
  ·cases h
  ·rename_i c hb
   split at h
   ·cases h
   ·rename_i t0 lM
    split at h
    ·rename_i fB x t S1 tK
     split at h
     ·rename_i gv qn
      split at h
      ·rename_i r S2 hl
       simp only[api,apn]at h
       obtain⟨rfl,rfl⟩:=h
       exact⟨fn,c,t0,_,t,S1,r,gJ,hb,lM,tK,.inl rfl,gv,qn,hl⟩
      ·cases h
     ·rename_i gv qn
      split at h
      ·rename_i r S2 hl
       simp only[api,apn]at h
       obtain⟨rfl,rfl⟩:=h
       exact⟨fn,c,t0,_,t,S1,r,gJ,hb,lM,tK,.inr rfl,gv,qn,hl⟩
      ·cases h
     ·cases h
    ·cases h
theorem LQ{call:cB}(hc:ic P call){lf:Nat}{md:Md}{k:apQ}{args:List ape}{S S':VS}{jg:Md}(h:ti P call lf md k args S=some (jg,S')):dK S S':=by
 obtain⟨fn,c,t0,x,t,S1,r,_,_,_,tK,_,_,_,hl⟩:=EV h
 exact(EU hc tK).trans (Ar hl)
theorem Wq(hP:iG P=true)(fw:P.follows .mixedOrders=true){call:cB}(hc:ic P call){lf:Nat}{md:Md}{k:apQ}{args:List ape}{S S':VS}{jg:Md}
 (h:ti P call lf md k args S=some (jg,S')){ρ:Ren}{m:Nat→Option ag}{w:aps}{args':Array ape}{u:arR}(iJ:kL ρ md u)(ha:LR ρ args args'.toList)(hw:WR P B w₀ ρ m w)(hm:fG S S' m)
 {R:atX→arR→aps→Prop}(hR:∀(ρ':Ren) (v:ape) (u':arR) (w':aps),ρ.le ρ'→kL ρ' jg (settle u')→WR P B w₀ ρ' (post m S') w'→R (.returned v) u' w'):CallsD P k args' u w R:=by
 obtain⟨fn,c,t0,x,t,S1,r,gJ,hb,lM,tK,hx,gv,qn,hl⟩:=EV h
 refine callsD_of_wpS gJ hb fun c₀ cs hu=>?_
 subst hu
 have e2:=Ar hl
 have e1:=EU hc tK
 obtain⟨vs,l,qz,rfl,rfl⟩:=ER hl
 refine Wp hP fw hc tK (Fr.EQ ha lM) hw (hm.first e2) iJ fun ρ' e a' u' w' hle dF cu oH cH=>?_
 have m7:=hm.next e1
 have EW:(hI P t fn.results.toList).run (post m S1)=some (vs,l):=Rd.zG qz fun y hy=>m7 y (.inl (apN.2 (.inl hy)))
 obtain⟨v',h1,h2⟩:=EP cH cu EW
 have hd:a'.defers=[]:=by rw[cu.rK gv,qn]
 have fin:a'.defers=[]∧∃u1,({c₀ with mode:=u'}::cs:List atk)={c₀ with mode:=u1}::cs∧∃v,(results fn a'.tmps).run P w'=.ok v w'∧R (.returned v) u1 w':=
  ⟨hd,u',rfl,v',h1,hR ρ' v' u' w' hle oH cH⟩
 rcases hx with rfl|rfl<;>cases dF<;>exact fin
theorem xY{call:cB}(hc:ic P call){lf:Nat}:∀{ds:List (apQ×List ape)} {md jg:Md} {S S':VS},ol P call lf ds md S=some (jg,S')→dK S S'
 | [],md,jg,S,S',h=>by
  simp only[ol,api,apn]at h
  obtain⟨_,rfl⟩:=h
  exact dK.refl S
 |(k,args)::l,md,jg,S,S',h=>by
  unfold ol at h
  split at h
  ·rename_i fB S1 h1
   exact(LQ hc h1).trans (xY hc h)
  ·cases h
theorem enters(hP:iG P=true){k:apQ}{fn:atb}{c:apV}(hf:P.funcs[k]?=some fn)(hb:fn.body=some c)(args:Array ape)(w:aps):(callFunc k args).run P w=.ok (.enter k args) w:=by
 have lH:(fn.name== "runtime.NumGoroutine")=false:=by
  have:=apR.1 hP fn (by rw[aqT];exact aui hf)
  simpa using this
 unfold callFunc
 rw[apg,arl,apf]
 simp only[hf,lH,hb,auG,aqi,if_false,apY]
theorem EX(hP:iG P=true)(fw:P.follows .mixedOrders=true){call:cB}(hc:ic P call){lf:Nat}{fn:atb}{tmps:Array ape}{R:atX→aps→Prop}:
 ∀{ds:List (apQ×List ape)} {l:List aqS} {md jg:Md} {S S':VS},ol P call lf ds md S=some (jg,S')→∀{ρ:Ren} {m:Nat→Option ag} {w:aps} {u:arR},qx ρ [] ds l→kL ρ md u→WR P B w₀ ρ m w→fG S S' m→
 (∀(ρ':Ren) (u':arR) (w':aps),ρ.le ρ'→kL ρ' jg u'→WR P B w₀ ρ' (post m S') w'→avy P fn tmps R [] u' w')→avy P fn tmps R l u w
 | [],l,md,jg,S,S',h,ρ,m,w,u,hd,iJ,hw,hm,hK=>by
  simp only[ol,api,apn]at h
  obtain⟨rfl,rfl⟩:=h
  cases hd
  exact hK ρ u w (Ren.le_refl ρ) iJ (by rw[oE hm];exact hw)
 |(k,args)::ds,l,md,jg,S,S',h,ρ,m,w,u,hd,iJ,hw,hm,hK=>by
  unfold ol at h
  split at h
  ·rename_i fB S1 h1
   have e2:=xY hc h
   cases hd with
   |cons ia Au=>
    obtain⟨anG,c,_,_,_,_,_,gJ,hb,_⟩:=EV h1
    refine leaves_cons iJ.Wn (f:=k) (enters hP gJ hb _ _) ?_
    refine Wq hP fw hc h1 iJ ia hw (hm.first e2) fun ρ' v u' w' hle oH cH=>?_
    refine EX hP fw hc h (Au.mono hle) oH cH (hm.next (LQ hc h1)) fun ρ2 u2 w2 km LS ig=>?_
    rw[oD e2]at ig
    exact hK ρ2 u2 w2 (Ren.le_trans hle km) LS ig
  ·cases h
theorem LU{call:cB}{lf:Nat}{fn:atb}{md:Md}{t:Fr}{S S':VS}{r:bx}(h:pj P call lf fn md t S=some (r,S')):
 t.base=[]∧∃jg S1,ol P call lf t.ds md S=some (jg,S1)∧((jg=.ret∧oh P t fn S1=some (r,S'))∨∃v,jg=.mV v∧r=.panic v∧S'=S1):=by
 unfold pj at h
 split at h
 ·rename_i hb
  refine⟨hb,?_⟩
  split at h
  ·rename_i S1 h1;exact⟨_,S1,h1,.inl ⟨rfl,h⟩⟩
  ·rename_i v S1 h1
   simp only[api,apn]at h
   exact⟨_,S1,h1,.inr ⟨v,rfl,h.1.symm,h.2.symm⟩⟩
  ·cases h
 ·cases h
theorem LV{call:cB}(hc:ic P call){lf:Nat}{fn:atb}{md:Md}{t:Fr}{S S':VS}{r:bx}(h:pj P call lf fn md t S=some (r,S')):dK S S':=by
 obtain⟨_,jg,S1,h1,h2⟩:=LU h
 rcases h2 with⟨_,hl⟩|⟨v,_,_,rfl⟩
 ·exact(xY hc h1).trans (Ar hl)
 ·exact xY hc h1
theorem Wr(hP:iG P=true)(fw:P.follows .mixedOrders=true){call:cB}(hc:ic P call){lf:Nat}{fn:atb}{md:Md}{t:Fr}{S S':VS}{r:bx}(h:pj P call lf fn md t S=some (r,S'))
 {ρ:Ren}{m:Nat→Option ag}{w:aps}{a:Act}{u:arR}(ht:FR ρ t a)(iJ:kL ρ md u)(hw:WR P B w₀ ρ m w)(hm:fG S S' m)
 {R:atX→aps→Prop}(hR:∀(ρ':Ren) (e:atX) (w':aps),ρ.le ρ'→CR ρ' r e→WR P B w₀ ρ' (post m S') w'→R e w'):avy P fn a.tmps R a.defers u w:=by
 obtain⟨hb,jg,S1,h1,h2⟩:=LU h
 have gv:=ht.defers
 rw[hb]at gv
 rcases h2 with⟨rfl,hl⟩|⟨v,rfl,rfl,rfl⟩
 ·have e2:=Ar hl
  obtain⟨vs,l,qz,rfl,rfl⟩:=ER hl
  refine EX hP fw hc h1 gv iJ hw (hm.first e2) fun ρ' u' w' hle oH cH=>?_
  cases oH
  have m7:=hm.next (xY hc h1)
  have EW:(hI P t fn.results.toList).run (post m S1)=some (vs,l):=Rd.zG qz fun y hy=>m7 y (.inl (apN.2 (.inl hy)))
  obtain⟨v',h3,h4⟩:=EP cH (ht.mono hle) EW
  exact⟨v',h3,hR ρ' _ w' hle h4 cH⟩
 ·refine EX hP fw hc h1 gv iJ hw hm fun ρ' u' w' hle oH cH=>?_
  obtain⟨v',rfl,hv⟩:=oH
  exact hR ρ' _ w' hle ⟨v',rfl,hv⟩ cH
theorem LW(hP:iG P=true)(fw:P.follows .mixedOrders=true){sp:cB→cB}(dk:∀call,ic P call→ic P (sp call))(lf:Nat):∀(d:Nat),ic P (mr P sp lf d)
 |0=>{ext:=(by intro f args S r S' h;cases h),ok:=(by intro f args S r S' h;cases h)}
 |d+1=>by
  have hc:=dk _ (LW hP fw dk lf d)
  have body:∀{f:apQ} {args:List ape} {S:VS} {r:bx} {S':VS},mr P sp lf (d+1) f args S=some (r,S')→
   ∃fn c t0 x t S1 md,P.funcs[f]?=some fn∧fn.body=some c∧Fr.of args fn.ntmps=some t0∧dg P (sp (mr P sp lf d)) lf true c t0 S=some (x,t,S1)∧
    (((x=.normal∨x=.ret)∧md=.ret)∨∃v,x=.panic v∧md=.mV v)∧pj P (sp (mr P sp lf d)) lf fn md t S1=some (r,S'):=by
   intro f args S r S' h
   unfold mr at h
   split at h
   ·cases h
   ·rename_i fn gJ
    split at h
    ·cases h
    ·rename_i c hb
     split at h
     ·cases h
     ·rename_i t0 lM
      split at h
      ·rename_i t S1 jS;exact⟨fn,c,t0,_,t,S1,_,gJ,hb,lM,jS,.inl ⟨.inl rfl,rfl⟩,h⟩
      ·rename_i t S1 jS;exact⟨fn,c,t0,_,t,S1,_,gJ,hb,lM,jS,.inl ⟨.inr rfl,rfl⟩,h⟩
      ·rename_i v t S1 jS;exact⟨fn,c,t0,_,t,S1,_,gJ,hb,lM,jS,.inr ⟨v,rfl,rfl⟩,h⟩
      ·cases h
  refine⟨fun h=>?_,fun h=>?_⟩
  ·obtain⟨fn,c,t0,x,t,S1,md,gJ,hb,lM,jS,hr,he⟩:=body h
   exact(nL hc lf jS).trans (LV hc he)
  ·intro B w₀ ρ m w args' ha hw hm
   obtain⟨fn,c,t0,x,t,S1,md,gJ,hb,lM,jS,hr,he⟩:=body h
   refine calls_of_wp_defers gJ hb ?_
   refine(as8 (n:=0)).1 ?_
   have e2:=LV hc he
   have e1:=nL hc lf jS
   refine tJ hP fw hc lf (r:=none) (fun _=>rfl) c jS (Fr.EQ ha lM) hw (hm.first e2) fun ρ' e a' w' hle dF cu cH=>?_
   have fin:∀u,kL ρ' md u→avy P fn a'.tmps (fun e w'=>∃ρ',ρ.le ρ'∧CR ρ' _ e∧WR P B w₀ ρ' (post m _) w') a'.defers u w':=fun u iJ=>
    Wr hP fw hc he cu iJ cH (hm.next e1) fun ρ2 e w2 h1 h2 h3=>⟨ρ2,Ren.le_trans hle h1,h2,by rwa[oD e2]at h3⟩
   rcases hr with⟨hx,rfl⟩|⟨v,rfl,rfl⟩
   ·rcases hx with rfl|rfl<;>cases dF<;>exact fin _ rfl
   ·cases dF with
    |panic _ v' hv=>exact fin _ ⟨v',rfl,hv⟩
theorem WR.start(w:aps)(he:Env (fun k=>k<w.heap.size) w):WR P (fun k=>k<w.heap.size) w (fun _=>none) (fun _=>none) w:=
 {below:=gu.refl _ _,env:=he,size:=fun _ h=>h,live:=(by intro x o r h;cases h),inj:=(by intro x y ox oy rx ry h;cases h),fresh:=fun _ _=>rfl,rows:=(by intro x n s q h;cases h),nil:=(by intro x el ro r h;cases h),named:=(by intro x o h;cases h),abs:=.none (by intro x d h;cases h)}
end
end Go.Proofs.YtnlkkgpcikkpoaaGreat.Vm
namespace Go.Proofs.YtnlkkgpcikkpoaaGreat.Vm
open Go.RowKit
def Fr.dH(b:List aqS)(f:Fr):Fr:={f with base:=b}
theorem Fr.xZ(b:List aqS)(f:Fr)(i:Nat):(f.dH b).at i=f.at i:=rfl
theorem EY(b:List aqS)(f:Fr):bL (f.dH b)=bL f:=by
 funext x;cases x<;>rfl
theorem Wt{P:apu}(b:List aqS)(t:Fr)(S:VS)(o:aqh):jy P (t.dH b) S o=jy P t S o:=by
 have h0:nz P (t.dH b) S o=nz P t S o:=by unfold nz;rw[EY]
 have h1:lE P (t.dH b) S o=lE P t S o:=by unfold lE;rw[EY]
 unfold jy
 rw[h1,h0]
theorem Wu(b:List aqS)(t:Fr)(i:Nat)(v:ape):(t.dH b).set i v=(t.set i v).map (Fr.dH b):=by
 rw[Fr.ri,Fr.ri]
 show(match apy i t.n with|true=>_|false=>_)=_
 cases apy i t.n<;>rfl
theorem Av(b:List aqS)(t:Fr)(d:Option Tmp)(v:ape):put (t.dH b) d v=(put t d v).map (Fr.dH b):=by
 cases d with
 |none=>rfl
 |some d=>exact Wu b t d v
theorem Wv(b:List aqS)(ops:List aqh)(t:Fr):lF ops (t.dH b)=lF ops t:=by
 funext j;unfold lF;rfl
def x5{α β:Type}(b:List aqS):α×Fr×β→α×Fr×β:=fun p=>(p.1,p.2.1.dH b,p.2.2)
def Ww{β:Type}(b:List aqS):Fr×β→Fr×β:=fun p=>(p.1.dH b,p.2)
theorem LX{P:apu}{call:cB}(b:List aqS)(ops:List aqh)(o:aqh)(t:Fr)(S:VS):kA P call ops o (t.dH b) S=(kA P call ops o t S).map (x5 b):=by
 unfold kA
 rw[Wv,Wt]
 cases aqP o (lF ops t)with
 |false=>simp only[Av,aty];cases put t o.dst undef<;>rfl
 |true=>
  dsimp only
  cases hs:jy P t S o with
  |none=>rfl
  |some p=>
   obtain⟨r,S1⟩:=p
   dsimp only
   cases r with
   |val v=>dsimp only;simp only[Av,aty];cases put t o.dst v<;>rfl
   |skip=>dsimp only;simp only[Av,aty];cases put t o.dst undef<;>rfl
   |panic v=>rfl
   |defer d=>rfl
   |enter f args=>
    dsimp only
    cases hc:call f args S1 with
    |none=>rfl
    |some q=>
     obtain⟨cr,S2⟩:=q
     cases cr with
     |ret v=>dsimp only;simp only[Av,aty];cases put t o.dst v<;>rfl
     |panic v=>rfl
theorem LY{P:apu}{call:cB}(b:List aqS)(ops:List aqh):∀(l:List aqh) (t:Fr) (S:VS),opsV P call false ops l (t.dH b) S=(opsV P call false ops l t S).map (x5 b)
 | [],t,S=>rfl
 |o::rest,t,S=>by
  unfold opsV
  cases xm o with
  |some c=>rfl
  |none=>
   dsimp only
   rw[LX]
   cases kA P call ops o t S with
   |none=>rfl
   |some p=>
    obtain⟨v,t1,S1⟩:=p
    cases v with
    |some v=>rfl
    |none=>exact LY b ops rest t1 S1
theorem LZ{P:apu}{call:cB}(b:List aqS)(ops:List aqh):∀(l:List aqh) (t:Fr) (S:VS),kC P call ops l (t.dH b) S=(kC P call ops l t S).map (Ww b)
 | [],t,S=>rfl
 |o::rest,t,S=>by
  unfold kC
  rw[LX]
  cases kA P call ops o t {S with rd:=[],wr:=[]}with
  |none=>rfl
  |some p=>
   obtain⟨v,t1,S1⟩:=p
   cases v with
   |some v=>rfl
   |none=>
    show(match kC P call ops rest (t1.dH b) _ with|some (t2,S2,gr)=>_|none=>_)=_
    rw[LZ b ops rest]
    dsimp only
    cases kC P call ops rest t1 {S1 with rd:=S1.rd++S.rd,wr:=S1.wr++S.wr}with
    |none=>rfl
    |some q=>rfl
theorem L0(b:List aqS){f:Fr→VS→Option (bd×Fr×VS)}(hf:∀t S,f (t.dH b) S=(f t S).map (x5 b)):∀(k:Nat) (t:Fr) (S:VS),iter f k (t.dH b) S=(iter f k t S).map (x5 b)
 |0,t,S=>rfl
 |k+1,t,S=>by
  unfold iter
  rw[hf]
  cases f t S with
  |none=>rfl
  |some p=>
   obtain⟨x,t1,S1⟩:=p
   cases x with
   |normal=>exact L0 b hf k t1 S1
   |exit id=>rfl
   |ret=>rfl
   |panic v=>rfl
theorem Wx{P:apu}{call:cB}(lf:Nat)(b:List aqS):∀(c:apV) (t:Fr) (S:VS),dg P call lf false c (t.dH b) S=(dg P call lf false c t S).map (x5 b):=by
 intro c
 induction c with
 |skip=>intro t S;rfl
 |region id ops dr=>
  intro t S
  cases dr with
  |false=>exact LY b _ _ t S
  |true=>
   unfold dg
   rw[LZ]
   cases kC P call ops.toList ops.toList t S with
   |none=>rfl
   |some p=>
    obtain⟨t1,S1,gr⟩:=p
    show(match th ops gr with|true=>_|false=>_)=au5 _ (match th ops gr with|true=>_|false=>_)
    cases th ops gr<;>rfl
 |seq x y qC qD=>
  intro t S
  unfold dg
  rw[qC]
  cases dg P call lf false x t S with
  |none=>rfl
  |some p=>
   obtain⟨e,t1,S1⟩:=p
   cases e with
   |normal=>exact qD t1 S1
   |exit id=>rfl
   |ret=>rfl
   |panic v=>rfl
 |cond c x y qC qD=>
  intro t S
  unfold dg
  rw[EY]
  split
  ·exact qC t S
  ·exact qD t S
  ·rfl
 |block id c ih=>
  intro t S
  unfold dg
  rw[ih]
  cases dg P call lf false c t S with
  |none=>rfl
  |some p=>
   obtain⟨e,t1,S1⟩:=p
   cases e with
   |exit j=>
    show(match apw j id with|true=>_|false=>_)=au5 _ (match apw j id with|true=>_|false=>_)
    cases apw j id<;>rfl
   |normal=>rfl
   |ret=>rfl
   |panic v=>rfl
 |loop c ih=>intro t S;exact L0 b ih lf t S
 |exit id=>intro t S;rfl
 |ret=>intro t S;rfl
 |scope c ih=>intro t S;exact ih t S
 |label l=>intro t S;rfl
 |_=>intros;rfl
def rM:Obj→Bool
 | .deferred _| .loop _=>true
 |_=>false
theorem OR.row{P:apu}{ρ:Ren}{r:bN}{o:ag}{o':Obj}(h:OR P ρ r o o'):rM o'=false:=by cases h<;>rfl
section
variable {P:apu} {B:Nat→Prop} {w₀ w w':aps} {ρ:Ren} {g:Nat→Option ag} {M:List Nat}
theorem SR.EZ(hb:gu B w₀ w){s:SV}{v:ape}(h:SR P w₀ B s v):SR P w (fun k=>B k∨k∈M) s v:=by
 induction h with
 |val v h=>exact .val v h
 |nil el a=>exact .nil el a
 |cells n c el b off cap c' bU fr hB hJ hc hl hn gY=>exact .cells n c el b off cap c' bU fr (.inl hB) ((hb.block b hB).trans hJ) hc hl hn gY
 |nE size row a=>exact .nE size row a
 |rows n size row b off cap c' bU fr hB hJ hl hn gY hlen u hu hr ih=>exact .rows n size row b off cap c' bU fr (.inl hB) ((hb.block b hB).trans hJ) hl hn gY hlen u hu ih
theorem SR.E0(hb:gu B w₀ w)(hq:∀D∈M,∃o,w.heap[D]?=some o∧rM o=true){s:SV}{v:ape}(h:SR P w (fun k=>B k∨k∈M) s v):SR P w₀ B s v:=by
 have key:∀{b:Nat} {c':Array ape} {bU:apq} {fr:Nat×Nat},(B b∨b∈M)→w.heap[b]?=some (.cells c' bU fr)→B b:=fun hB hJ=>by
  rcases hB with hB|hB
  ·exact hB
  ·obtain⟨o,h1,h2⟩:=hq _ hB
   rw[hJ]at h1
   cases h1
   cases h2
 induction h with
 |val v h=>exact .val v h
 |nil el a=>exact .nil el a
 |cells n c el b off cap c' bU fr hB hJ hc hl hn gY=>exact .cells n c el b off cap c' bU fr (key hB hJ) ((hb.block b (key hB hJ)).symm.trans hJ) hc hl hn gY
 |nE size row a=>exact .nE size row a
 |rows n size row b off cap c' bU fr hB hJ hl hn gY hlen u hu hr ih=>exact .rows n size row b off cap c' bU fr (key hB hJ) ((hb.block b (key hB hJ)).symm.trans hJ) hl hn gY hlen u hu ih
theorem mY.EZ(hb:gu B w₀ w){r:bN}{n size:Nat}{row:Nat→List SV}(h:mY P w₀ B r n size row):mY P w (fun k=>B k∨k∈M) r n size row:=by
 obtain⟨h1,h2,c',bU,fr,h3,h4,h5,h6⟩:=h
 exact⟨.inl h1,h2,c',bU,fr,(hb.block _ h1).trans h3,h4,h5,fun i hi=>⟨(h6 i hi).1,fun k sv hk=>let⟨v',a,b⟩:=(h6 i hi).2 k sv hk;⟨v',a,b.EZ hb⟩⟩⟩
theorem mY.E0(hb:gu B w₀ w)(hq:∀D∈M,∃o,w.heap[D]?=some o∧rM o=true){r:bN}{n size:Nat}{row:Nat→List SV}(h:mY P w (fun k=>B k∨k∈M) r n size row):mY P w₀ B r n size row:=by
 obtain⟨h1,h2,c',bU,fr,h3,h4,h5,h6⟩:=h
 have hB:B r.aI:=by
  rcases h1 with h1|h1
  ·exact h1
  ·obtain⟨o,a,b⟩:=hq _ h1
   rw[h3]at a
   cases a
   cases b
 exact⟨hB,h2,c',bU,fr,(hb.block _ hB).symm.trans h3,h4,h5,fun i hi=>⟨(h6 i hi).1,fun k sv hk=>let⟨v',a,b⟩:=(h6 i hi).2 k sv hk;⟨v',a,b.E0 hb hq⟩⟩⟩
theorem WR.Aw(h:WR P B w₀ ρ g w)(hq:∀D∈M,∃o,w.heap[D]?=some o∧rM o=true):WR P (fun k=>B k∨k∈M) w ρ g w where
 env:=h.env.next h.below fun _ hk=>.inl hk
 below:=gu.refl _ _
 size:=by
  rintro k (hk|hk)
  ·exact h.size k hk
  ·obtain⟨o,a,_⟩:=hq k hk
   exact(aqe.1 a).1
 live:=fun x o r hx hr hl=>by
  obtain⟨o',h1,h2,h3⟩:=h.live x o r hx hr hl
  refine⟨o',h1,h2,fun e=>?_⟩
  rintro(hk|hk)
  ·exact h3 e hk
  ·obtain⟨o2,a,b⟩:=hq _ hk
   rw[h1]at a
   cases a
   rw[h2.row]at b
   cases b
 inj:=h.inj
 fresh:=h.fresh
 rows:=fun x n size row hx=>let⟨r,a,b⟩:=h.rows x n size row hx;⟨r,a,fun hn=>(b hn).EZ h.below⟩
 nil:=h.nil
 named:=h.named
 abs:=by
  obtain⟨F,a1,a2,a3⟩:=h.abs
  refine⟨fun x k=>F x k∧∃o,w.heap[k]?=some o∧zq o=true,fun x d hx=>?_,fun x k hk=>?_,fun x y k p q=>a3 x y k p.1 q.1⟩
  ·obtain⟨r,S,c,e,f⟩:=a1 x d hx
   exact⟨r,S,c,e,fun k hk=>⟨f k hk,e.row k hk⟩⟩
  ·obtain⟨b1,b2,b3,b4⟩:=a2 x k hk.1
   refine⟨b1,b2,?_,b4⟩
   rintro(hB|hM)
   ·exact b3 hB
   ·obtain⟨o,ho,hr⟩:=hk.2
    obtain⟨o2,x6,hn⟩:=hq k hM
    rw[ho]at x6
    cases x6
    cases o<;>first|(cases hr;done)|(cases hn;done)
theorem WR.Ax(h:WR P (fun k=>B k∨k∈M) w ρ g w')(he:Env B w₀)(hb:gu B w₀ w)(hs:∀k,B k→k<w.heap.size)(hq:∀D∈M,∃o,w.heap[D]?=some o∧rM o=true):WR P B w₀ ρ g w' where
 env:=he
 below:=hb.trans ⟨h.below.os,h.below.tape,h.below.output,h.below.size,fun k hk=>h.below.block k (.inl hk)⟩
 size:=fun k hk=>h.size k (.inl hk)
 live:=fun x o r hx hr hl=>by
  obtain⟨o',h1,h2,h3⟩:=h.live x o r hx hr hl
  exact⟨o',h1,h2,fun e hk=>h3 e (.inl hk)⟩
 inj:=h.inj
 fresh:=h.fresh
 rows:=fun x n size row hx=>let⟨r,a,b⟩:=h.rows x n size row hx;⟨r,a,fun hn=>(b hn).E0 hb hq⟩
 nil:=h.nil
 named:=h.named
 abs:=h.abs.next (fun x d hx=>⟨hx,rfl⟩) (fun k _ a b=>⟨rfl,fun hB=>a (.inl hB),b⟩) (apI _)
theorem WR.Ay(h:WR P (fun k=>B k∨k∈M) w ρ g w'){D:Nat}(hD:D∈M):w'.heap[D]?=w.heap[D]? :=h.below.block D (.inr hD)
end
end Go.Proofs.YtnlkkgpcikkpoaaGreat.Vm
