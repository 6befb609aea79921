/- Part of the proof: Vb. -/
import Derived.Test.YtnlkkgpcikkpoaaGreatJAa
import Derived.LoopNIn
import Derived.OrdersIn
import Derived.Scope
import Derived.Recover
open Array renaming all_eq_true_iff_forall_mem→asA,ext'→aqI,getD_eq_getD_getElem?→apx,getElem?_append_left→ar7,getElem?_eq_getElem→aqL,getElem?_eq_none→arW,getElem?_eq_some_iff→apQ,getElem?_setIfInBounds_ne→aqp,getElem?_setIfInBounds_self→aqu,getElem?_toList→aqA,mem_append→arM,mem_of_getElem?→atL,mem_toList_iff→aqy,replicate→aq5,toList_append→aqM,toList_extract→aq4,toList_map→arK
open Bool renaming and_eq_true→ao3,false_eq_true→apT,not_false→atK,or_eq_true→aru,or_false→ati
open Go renaming Addr→arf,Code→apw,Deferred→aqx,Ending→atr,Exit→arc,Frame→asS,FrameMode→arq,Func→asK,FuncId→apr,Leaves→au2,MapEntry→apl,Next→aqV,Oper→apS,Operand→aqo,Program→ao7,TypeDesc→asy,TypeId→ao1,Value→aoP,World→ao4,run_program→aqW,wpIn_wide→asH
open Go.ArrivesIn renaming of_steps→atf
open Go.Builtin renaming append_→arS,clear_→asm,copy_→at1,delete_→asb,firstCells→aq2,growBy→auI,lenOf→auO,len_→aqC,nextslicecap→asO,zeroCells→aqN
open Go.Call renaming operands→ar6
open Go.Deferred renaming ofValue→atp
open Go.Exit renaming inBlock→asR
open Go.Frame renaming atR→avx
open Go.Instr renaming checkKey→as4,findKey→auP,findNow→arP,indexAt→arA,lookup→aq9,mapUpdate→asa,sameNow→asw
open Go.IntKind renaming i64→ao2
open Go.Made renaming depth→avp
open Go.Next renaming value→ap4
open Go.Op renaming operands→ast
open Go.Oper renaming apart_spec→atA,looksAt→au0,wpIn→avw
open Go.Question renaming appendCap→asd
open Go.Region renaming binds→aq6,ready→ase,wanted→aqt
open Go.Result renaming andThen_ok→aoQ
open Go.Sem renaming run→arl,run_bind→aoR,run_pure→apA
open Go.Value renaming int→aoW
open Go.stepG renaming exec→avq
open List renaming all_eq_true→aps,eq_nil_of_length_eq_zero→apL,extract_eq_take_drop→aq1,getElem?_append_left→apH,getElem?_append_right→apz,getElem?_cons_succ→ap5,getElem?_cons_zero→apE,getElem?_drop→aqb,getElem?_eq_getElem→aoV,getElem?_eq_some_iff→ao0,getElem?_take→ap9,length_append→ao5,length_cons→apC,length_eraseIdx→atU,mapM_cons→as3,map_congr_left→aq0,mem_append→apo,mem_cons→ao8,mem_cons_of_mem→apc,mem_cons_self→ape,mem_map→aqv,mem_toArray→asz,range'→auo,range'_succ→asB,range_eq_range'→asQ,take_of_length_le→ap8
open Nat renaming add_assoc→aqP,add_comm→au1,add_mul→atE,beq→ao6,ble_eq→auz,blt→ao9,eq_of_beq_eq_true→apa,le_of_ble_eq_true→apk,le_of_lt→asf,le_refl→apn,lor→asG,min→as2,mul_eq_zero→auy,mul_le_mul_right→arD,shiftRight→asl,testBit_or→atM,zero_add→aqr,zero_mul→asN
open Option renaming getD_some→aqG,isNone_some→at8,map→auA,map_eq_some_iff→apX,map_map→as6,map_some→aqc
open Option.some renaming injEq→aoU
open Prod.mk renaming injEq→aoX
set_option linter.unusedVariables false
set_option linter.unusedSimpArgs false
set_option maxRecDepth 100000
namespace Go.Proofs.YtnlkkgpcikkpoaaGreat.Vm
open Go.RowKit
section
variable {P:ao7} {B:Nat→Prop} {w₀:ao4} {ρ:Ren} {g:Nat→Option ak} {n:Nat} {w:ao4}
theorem zP{a:Option arf}{l c:Nat}(h:ag (.slice a l c)=true):a=none∧l=0∧c=0:=by
 cases a with
 |some a=>simp[ag]at h
 |none=>
  cases l with
  |succ l=>simp[ag]at h
  |zero=>cases c with
   |succ c=>simp[ag]at h
   |zero=>exact⟨rfl,rfl,rfl⟩
theorem Kw{x x':aoP}(hx:VR ρ x x'){k:Nat}(h:rj x=some k):(auO x').run P w=.ok k w:=by
 unfold rj at h
 split at h
 ·cases h;cases hx<;>first|rfl|(rename_i h;unfold ag at h;split at h<;>first|(rename_i e;cases e;rfl)|cases h)
 ·cases h;rw[hx.pq];rfl
 ·cases h
theorem Kx(hw:WR P B w₀ ρ g w){x x':aoP}(hx:VR ρ x x'){size k m:Nat}(hm:rj x=some m)(hk:k≤m){xs:List aoP}{l:List Nat}
 (h:(ri size x k).run g=some (xs,l)):∃jJ:Array aoP,(∀w':ao4,w'.heap=w.heap→(aq2 size k x').run P w'=.ok jJ w')∧LR ρ xs jJ.toList:=by
 unfold ri at h
 split at h
 ·rename_i b off len cap
  obtain⟨o,l',hb,dU,rfl⟩:=Rd.run_read h
  split at dU
  ·rename_i c el ro
   have qn:=Rd.J8 dU
   obtain⟨hle,rfl⟩:=u0 qn
   simp only[rj,aoU]at hm
   cases hx with
   |bM _ h=>cases h
   |eD _ a'=>
    have:k=0:=by omega
    subst this
    refine⟨#[],fun w' _=>?_,by simpa using LR.nil ρ⟩
    unfold aq2
    simp only[asN]
    cases a'<;>rfl
   |sl _ _ _ _ bI r hr hc=>
    by_cases hlen:k*size=0
    ·refine⟨#[],fun w' _=>?_,by rw[hlen];simpa using LR.nil ρ⟩
     unfold aq2
     simp only[hlen]
     rfl
    obtain⟨c',fr,⟨b8,h1,he⟩,hp,iW,hz,hf,hl,hB⟩:=rB hw hb hr (oq (by intro e;rw[e]at hle;simp at hle;omega))
    refine⟨_,fun w' hh=>zG (by rw[hh];exact h1) _ _ (by omega),?_⟩
    simpa using zI hl hle
  ·cases dU
 ·cases hx with
  |bM=>
   simp only[Rd.run,aoU,aoX]at h
   obtain⟨rfl,rfl⟩:=h
   exact⟨#[],fun w' _=>rfl,by simpa using LR.nil ρ⟩
 ·rename_i s
  rw[hx.pq]
  simp only[Rd.run,aoU,aoX]at h
  obtain⟨rfl,rfl⟩:=h
  refine⟨_,fun w' _=>rfl,?_⟩
  have:(Array.map (fun b:UInt8=>aoW .u8 b.toNat) (s.extract 0 k).data).toList=(s.data.toList.take k).map fun b=>aoW .u8 b.toNat:=by
   simp[ByteArray.data_extract,aq4,aq1]
  rw[this]
  exact LR.map _ _ _ fun b _=>.bM _ rfl
 ·cases h
theorem U2{x:aoP}{size:Nat}{xs:List aoP}{l:List Nat}(h:(ri size x 0).run g=some (xs,l)):xs=[]:=by
 unfold ri at h
 split at h
 ·obtain⟨o,l',hb,dU,rfl⟩:=Rd.run_read h
  split at dU
  ·obtain⟨hle,rfl⟩:=u0 (Rd.J8 dU)
   simp
  ·cases dU
 ·simp only[Rd.run,aoU,aoX]at h;exact h.1.symm
 ·simp only[Rd.run,aoU,aoX]at h;rw[←h.1];rfl
 ·cases h
theorem Ky(va:Nat):∀(r c:Nat),c≤va+(va+768)/4→auI va r c≤va+(va+768)/4
 |0,c,h=>h
 |r+1,c,h=>by
  unfold auI
  split
  ·exact h
  ·exact Ky va r _ (by omega)
theorem nextslicecap_le{cM cap:Nat}(h:cap<cM):asO cM cap≤2*cM+768:=by
 unfold asO
 split
 ·omega
 ·split
  ·omega
  ·have:=Ky cM 4 cap (by omega)
   omega
structure DL(P:ao7)(w:ao4)(argTypes:Array ao1)(args:Array aoP)(elem:ao1)(size len cap k:Nat)(base:Option arf)(x:aoP)(z:aoP)(bytes:Nat)(xs:Array aoP):Prop where
 e1:∃sT xT rest xd,argTypes.toList=sT::xT::rest∧P.underlying sT=some (.slice elem)∧P.underlying xT=some xd∧isInt xd=false
 e2:∃rest,args.toList=.slice base len cap::x::rest
 sz:b7 P elem=some size
 zero:zeroOf P elem=some z
 am5:∃inf,P.info? elem=some inf∧inf.bytes=bytes
 len_:∀w:ao4,(auO x).run P w=.ok k w
 cells:∀w':ao4,w'.heap=w.heap→(aq2 size k x).run P w'=.ok xs w'
theorem j8{α:Type}{a:Array α}{l:List α}(h:a.toList=l)(i:Nat):a[i]?=l[i]? :=by rw[←h];simp
theorem xy{argTypes:Array ao1}{ty:ao1}{args:Array aoP}{elem:ao1}{size len cap k:Nat}{base:Option arf}{x z:aoP}{bytes:Nat}{xs:Array aoP}
 (h:DL P w argTypes args elem size len cap k base x z bytes xs)(hle:len+k≤cap):
 (arS argTypes ty args).run P w=match base with
   |some a=>((storeCells (a.add (len*size)) xs.toList).run P w).andThen fun _ w'=>.ok (.slice (some a) (len+k) cap) w'
   |none=>.ok (.slice none (len+k) cap) w:=by
 obtain⟨⟨sT,xT,rest,xd,h1,h2,h3,h4⟩,⟨rD,h5⟩,h6,h7,h8,h9,bP⟩:=h
 unfold arS
 have a0:argTypes[0]?=some sT:=by rw[j8 h1];rfl
 have a1:argTypes[1]?=some xT:=by rw[j8 h1];rfl
 have b0:args[0]?=some (.slice base len cap):=by rw[j8 h5];rfl
 have b1:args[1]?=some x:=by rw[j8 h5];rfl
 simp only[a0,a1,b0,b1]
 rw[aoR,run_underlying h2,aoQ]
 dsimp only
 rw[aoR,run_sizeOf h6,aoQ]
 rw[aoR,run_underlying h3,aoQ,aoR,apA,aoQ]
 cases xd
 case int=>cases h4
 all_goals
  dsimp only
  simp only[apT,if_false]
  rw[aoR,h9,aoQ,if_pos hle]
  simp only[atK,if_true]
  rw[aoR,bP w rfl,aoQ]
  cases base with
  |none=>rfl
  |some a=>rw[aoR];rfl
theorem run_append_grow{argTypes:Array ao1}{ty:ao1}{args:Array aoP}{elem:ao1}{size len cap k:Nat}{base:Option arf}{x z:aoP}{bytes:Nat}{xs old:Array aoP}
 (h:DL P w argTypes args elem size len cap k base x z bytes xs)(hlt:cap<len+k)(hb:bytes≤1000000)(hn:len+k≤1000000)
 (hold:(aq2 size len (.slice base len cap)).run P w.drew=.ok old w.drew):
 ∃bI,len+k≤bI∧(arS argTypes ty args).run P w=
  .ok (.slice (some ⟨w.heap.size,0,none⟩) (len+k) bI) (w.drew.alloc (.cells (old++xs++aqN z.cells (bI-(len+k))) elem)):=by
 obtain⟨⟨sT,xT,rest,xd,h1,h2,h3,h4⟩,⟨rD,h5⟩,h6,h7,⟨inf,h8,am6⟩,h9,bP⟩:=h
 refine⟨(asd (len+k) cap elem).cut (w.tape w.drawn (.appendCap (len+k) cap elem)),by simp[Question.cut],?_⟩
 generalize hq:(asd (len+k) cap elem).cut (w.tape w.drawn (.appendCap (len+k) cap elem))=bI
 unfold arS
 have a0:argTypes[0]?=some sT:=by rw[j8 h1];rfl
 have a1:argTypes[1]?=some xT:=by rw[j8 h1];rfl
 have b0:args[0]?=some (.slice base len cap):=by rw[j8 h5];rfl
 have b1:args[1]?=some x:=by rw[j8 h5];rfl
 simp only[a0,a1,b0,b1]
 rw[aoR,run_underlying h2,aoQ]
 dsimp only
 rw[aoR,run_sizeOf h6,aoQ]
 rw[aoR,run_underlying h3,aoQ,aoR,apA,aoQ]
 cases xd
 case int=>cases h4
 all_goals
  dsimp only
  simp only[apT,if_false]
  rw[aoR,h9,aoQ,if_neg (by omega)]
  have xz:∀w:ao4,(typeInfo elem).run P w=.ok inf w:=fun w=>by unfold typeInfo;rw[aoR,aqW,aoQ,h8];rfl
  have am7:=nextslicecap_le hlt
  have UP:asO (len+k) cap*inf.bytes≤2000768*1000000:=Nat.mul_le_mul (by omega) (by omega)
  have DM:¬((len+k:Nat):Int)>ao2.max:=by
   have:ao2.max=9223372036854775807:=rfl
   rw[this];omega
  rw[aoR,xz,aoQ]
  rw[if_neg (by rintro⟨h,_⟩;exact DM h)]
  rw[aoR,xz,aoQ]
  rw[if_neg (by omega)]
  rw[aoR,run_choose,if_neg (by simp[Question.forced]),hq,aoQ,aoR,xz,aoQ,aoR,run_askRoom,aoQ]
  have U3:=hold
  simp only[World.drew_eq]
  rw[aoR,U3,aoQ,aoR]
  simp only[atK,if_true]
  rw[bP w.drew rfl,aoQ,aoR,mZ h7,aoQ,aoR,u6,aoQ]
  rfl
theorem U4(z:Array aoP)(m:Nat):(aqN z m).size=m*z.size:=by simp[aqN]
theorem U5{elem:ao1}{size len k:Nat}{b off:Nat}{xs:List aoP}{out:bq}{l:List Nat}(h:(uR elem size len k (some ⟨b,off,none⟩) xs n).run g=some (out,l)):
 ∃c,g b=some (.cells c elem false)∧off+len*size=c.length∧out=⟨.val (.slice (some ⟨n,0,none⟩) (len+k) (len+k)),[(b,.dead)],some (.cells (c.drop off++xs) elem false)⟩:=by
 unfold uR at h
 obtain⟨o,l',hb,hk,rfl⟩:=Rd.run_read h
 split at hk
 ·rename_i c el
  split at hk
  ·rename_i hc
   simp only[ao3]at hc
   have h1:=apa hc.1
   have h2:=apa hc.2
   subst h2
   simp only[Rd.run,aoU,aoX]at hk
   exact⟨c,hb,h1,hk.1.symm⟩
  ·cases hk
 ·cases hk
theorem U6{size len cap k:Nat}{b off:Nat}{xs:List aoP}{out:bq}{l:List Nat}(h:(wW size len cap k (some ⟨b,off,none⟩) xs).run g=some (out,l)):
 ∃c el,g b=some (.cells c el false)∧off+len*size+xs.length≤c.length∧len+k≤cap∧
  out=⟨.val (.slice (some ⟨b,off,none⟩) (len+k) cap),[(b,.cells (bf c (off+len*size) xs) el false)],none⟩:=by
 unfold wW at h
 obtain⟨o,l',hb,hk,rfl⟩:=Rd.run_read h
 split at hk
 ·rename_i c el
  split at hk
  ·rename_i hc
   simp only[ao3]at hc
   have h0:=apk hc.1
   have h1:=apk hc.2
   simp only[Rd.run,aoU,aoX]at hk
   exact⟨c,el,hb,h1,h0,hk.1.symm⟩
  ·cases hk
 ·cases hk
theorem Fits.grown(hw:WR P B w₀ ρ g w)(hn:g n=none){cs:List aoP}{old xs:Array aoP}{elem:ao1}{size cM bI:Nat}{z:aoP}(cd:b7 P elem=some size)(hz:z.cells.size=size)
 (hle:cM≤bI)(hl:LR ρ cs (old++xs).toList)(hlen:cs.length=cM*size):
 Fits P B w₀ ρ g n ⟨.val (.slice (some ⟨n,0,none⟩) cM cM),[],some (.cells cs elem false)⟩
  (.ok (.value (.slice (some ⟨w.heap.size,0,none⟩) cM bI)) (w.drew.alloc (.cells (old++xs++aqN z.cells (bI-cM)) elem))):=by
 have hs:(old++xs).size=cM*size:=by have:=hl.len;simp at this⊢;omega
 have hmul:cM*size+(bI-cM)*size=bI*size:=by rw[←atE];congr 1;omega
 have Kz:(old++xs++aqN z.cells (bI-cM)).size=bI*size:=by
  rw[Array.size_append,hs,U4,hz,hmul]
 refine⟨ρ.put n ⟨w.drew.heap.size,0,(b7 P elem).getD 0,(old++xs++aqN z.cells (bI-cM)).size⟩,_,Ren.j6 (hw.fresh n hn) _,.val _ _ _ ?_,hw.drew.newRow hn ?_ (.inl rfl) ?_⟩
 ·have:=VR.sl (ρ:=ρ.put n ⟨w.drew.heap.size,0,(b7 P elem).getD 0,(old++xs++aqN z.cells (bI-cM)).size⟩) n 0 cM cM bI _ (Ren.kC _ _ _) (.inr ⟨hle,by rw[Kz,cd];simp⟩)
  simpa using this
 ·rw[Kz,hlen];exact arD _ hle
 ·rw[aqM,hlen,List.take_append_of_le_length (by simp at hs⊢;omega),ap8 (by simp at hs⊢;omega)]
  exact hl
theorem Fits.kill{b:Nat}{ob:ak}(hb:g b=some ob){v:aoP}{o:ak}{oB:Result aqV}(h:Fits P B w₀ ρ (cT g b .dead) n ⟨.val v,[],some o⟩ oB):
 Fits P B w₀ ρ g n ⟨.val v,[(b,.dead)],some o⟩ oB:=by
 obtain⟨ρ',w',h1,h2,h3⟩:=h
 exact⟨ρ',w',h1,h2,h3⟩
theorem U7(hw:WR P B w₀ ρ g w){argTypes:Array ao1}{ty:ao1}{args:List aoP}{args':Array aoP}(gZ:LR ρ args args'.toList){out:bq}{l:List Nat}
 (hn:out.nw≠none→g n=none)(h:(wX P argTypes.toList args n).run g=some (out,l)):Fits P B w₀ ρ g n out ((do let v ←arS argTypes ty args';pure (ap4 v):Sem aqV).run P w):=by
 unfold wX at h
 split at h
 ·rename_i sT xT rest base len cap x zQ cn
  obtain⟨s',t',ht,nK,jK⟩:=gZ.gG
  obtain⟨x',t2,rfl,gy,xA⟩:=jK.gG
  split at h
  ·rename_i elem xd vb tl
   split at h
   ·rename_i size k z bytes cd hlen hz qp
    obtain⟨inf,oE,tm⟩:∃inf,P.info? elem=some inf∧inf.bytes=bytes:=by
     cases oE:P.info? elem with
     |none=>rw[oE]at qp;cases qp
     |some inf=>rw[oE]at qp;cases qp;exact⟨inf,rfl,rfl⟩
    split at h
    ·cases h
    ·rename_i gu
     simp only[ao3,Bool.not_eq_true']at gu
     obtain⟨⟨⟨hint,gY⟩,xB⟩,tp⟩:=gu
     have tp:0<size:=by simp[ao9]at tp;omega
     have gY:=apk gY
     have xB:=apa xB
     have mr:∀{DN bI:Nat} {rE:Option arf} {jJ:Array aoP} {k:Nat},s'=.slice rE DN bI→rj x=some k→
      (∀w':ao4,w'.heap=w.heap→(aq2 size k x').run P w'=.ok jJ w')→DL P w argTypes args' elem size DN bI k rE x' z bytes jJ:=by
      intro DN bI rE jJ k hs hl hc
      subst hs
      exact⟨⟨sT,xT,rest,xd,cn,vb,tl,hint⟩,⟨t2,ht⟩,cd,hz,⟨inf,oE,tm⟩,fun w=>Kw gy hl,hc⟩
     obtain⟨xs,l1,l2,h1,h2,rfl⟩:=(Rd.run_bind _ _ _ _ _).1 h
     obtain⟨jJ,px,iX⟩:=Kx hw gy hlen (apn _) h1
     split at h2
     ·cases h2
     ·rename_i gu
      simp only[ao3]at gu
      obtain⟨⟨dx,zR⟩,j9⟩:=gu
      have dx:=apk dx
      have j9:=apa j9
      have am8:jJ.size=k*size:=by have:=iX.len;simp at this;omega
      have KA:∀q,b7 P elem=some q→(b7 P elem).getD 0=q:=fun q hq=>by rw[hq];rfl
      split at h2
      ·rename_i zS
       have zS:cap≤len:=by
        unfold full at zS
        split at zS
        ·omega
        ·exact apk zS
       cases base with
       |none=>
        cases nK with
        |bM _ iy=>
         obtain⟨_,rfl,rfl⟩:=zP iy
         have KB:out=⟨.val (.slice (some ⟨n,0,none⟩) k k),[],some (.cells xs elem false)⟩:=by
          unfold uR at h2
          simp only[Rd.run,aoU,aoX]at h2
          exact h2.1.symm
         subst KB
         replace hn:=hn (by intro hh;cases hh)
         by_cases iw:k=0
         ·subst iw
          have nL:xs=[]:=apL (by rw[j9];omega)
          subst nL
          have fR:jJ.toList=[]:=iX.kx
          rw[aoR,xy (mr rfl hlen px) (apn 0)]
          exact⟨_,w,Ren.j6 (hw.fresh n hn) ⟨0,0,(b7 P elem).getD 0,0⟩,.val _ _ _ (.eD _ _),hw.xw hn rfl (fun m s q e=>by cases e) (fun el ro e=>by cases e;exact KA)⟩
         ·obtain⟨bI,h3,h4⟩:=run_append_grow (ty:=ty) (old:= #[]) (mr rfl hlen px) (by omega) gY dx rfl
          rw[aoR,h4,aoQ]
          rw[aqr]at h3⊢
          exact Fits.grown hw hn cd xB h3 (by simpa using iX) j9
       |some a=>
        obtain⟨b,off,spot⟩:=a
        cases spot with
        |some sp=>cases h2
        |none=>
         obtain⟨c,hb,tq,rfl⟩:=U5 h2
         replace hn:=hn (by intro hh;cases hh)
         have bu:n≠b:=by rintro rfl;rw[hn]at hb;cases hb
         have DP:cT g b .dead n=none:=by rw[ec _ bu,hn]
         have KC:(c.drop off).length=len*size:=by simp;omega
         have eh:(c.drop off++xs).length=(len+k)*size:=by rw[ao5,KC,j9,atE len k size]
         have KD:∀a',s'=.slice a' 0 0→len=0→c.drop off=[]→Fits P B w₀ ρ g n ⟨.val (.slice (some ⟨n,0,none⟩) (len+k) (len+k)),[(b,.dead)],some (.cells (c.drop off++xs) elem false)⟩ ((do let v ←arS argTypes ty args';pure (ap4 v):Sem aqV).run P w):=by
          intro a' hs zT py
          subst zT
          by_cases iw:k=0
          ·subst iw
           have nL:xs=[]:=apL (by rw[j9];omega)
           subst nL
           have fR:jJ.toList=[]:=iX.kx
           rw[aoR,xy (mr hs hlen px) (apn 0),py]
           refine Fits.kill hb ?_
           suffices m9:WR P B w₀ (ρ.put n ⟨0,0,(b7 P elem).getD 0,0⟩) (cT (cT g b .dead) n (.cells ([]++[]) elem false)) w by
            cases a' with
            |none=>exact⟨_,w,Ren.j6 (hw.fresh n hn) _,.val _ _ _ (.eD _ _),m9⟩
            |some a'=>rw[fR];exact⟨_,w,Ren.j6 (hw.fresh n hn) _,.val _ _ _ (.eD _ _),m9⟩
           exact(hw.kill b hb).xw DP rfl (fun m s q e=>by cases e) (fun el ro e=>by cases e;exact KA)
          ·obtain⟨bI,h3,h4⟩:=run_append_grow (ty:=ty) (old:= #[]) (mr hs hlen px) (by omega) gY dx (by unfold aq2;simp only[asN];cases a'<;>rfl)
           rw[aoR,h4,aoQ]
           refine Fits.kill hb (Fits.grown (hw.kill b hb) DP cd xB h3 ?_ eh)
           rw[py];simpa using iX
         generalize pz:s'=sv at nK
         cases nK with
         |bM _ iy=>cases iy
         |eD _ a'=>exact KD a' pz rfl (by rw[List.drop_eq_nil_iff];omega)
         |sl _ _ _ _ bI r hr hc=>
          cases lC:Live (.cells c elem false) r with
          |false=>
           obtain⟨KE,U8⟩:=Dk lC
           have iu:=Kc hw hb hr size cd
           have zT:len=0:=by
            rw[KE]at tq
            have:len*size=0:=by simp at tq;omega
            rcases auy.1 this with h|h<;>omega
           have U9:bI=0:=by
            rcases hc with hc|⟨_,hc⟩
            ·omega
            ·rw[U8,iu]at hc
             have:bI*size=0:=by omega
             rcases auy.1 this with h|h<;>omega
           refine KD _ (by rw[pz,zT,U9]) zT (by rw[KE];simp)
          |true=>
           obtain⟨c',fr,⟨b8,KF,he⟩,hp,iW,zU,hf,hl,hB⟩:=rB hw hb hr lC
           obtain rfl:=he rfl
           replace hf:=hf rfl
           have Va:r.sz=size:=zU size cd
           by_cases fq:len+k≤bI
           ·have KG:r.sh+off+(len+k)*size≤r.dz:=by
             rcases hc with hc|⟨kW,gM⟩
             ·have iw:k=0:=by omega
              subst iw
              rw[Nat.add_zero];omega
             ·rw[Va]at gM
              have am9:(len+k)*size≤bI*size:=arD _ fq
              omega
            have Vb:=KG
            rw[atE len k size]at Vb
            obtain⟨w',h3,h4⟩:=Dt (P:=P) jJ.toList w c' (r.sh+off+len*size) 0 (ow.refl KF) (by simp;omega) (by rwa[hp]) (iX.zB zR)
            rw[aoR,xy (mr pz hlen px) fq]
            simp only[pr]
            rw[h3]
            refine⟨ρ.put n ⟨r.aN,r.sh+off,r.sz,r.dz⟩,w',Ren.j6 (hw.fresh n hn) _,.val _ _ _ ?_,hw.rename hn hb lC hr (hB rfl) h4 rfl ?_⟩
            ·have Vc:Df ⟨r.aN,r.sh+off,r.sz,r.dz⟩ 0 (len+k) bI:=by
              rcases hc with hc|⟨kW,gM⟩
              ·left;omega
              ·right;exact⟨fq,by simpa using gM⟩
             have:=VR.sl (ρ:=ρ.put n ⟨r.aN,r.sh+off,r.sz,r.dz⟩) n 0 (len+k) (len+k) bI _ (Ren.kC _ _ _) Vc
             simpa using this
            ·refine .cells _ _ _ _ _ fr (by rw[Ds];exact hp) (by show r.sh+off+(c.drop off++xs).length≤r.dz;rw[eh];exact KG) (fun _=>rfl) (fun m hm=>zU m hm) (fun _=>hf) fun i v hi=>?_
             simp only at*
             rw[zE _ _ _ _ (by simp;omega)]
             have Vd:=iX.len
             simp at Vd
             by_cases qu:i<len*size
             ·rw[apH (by omega),aqb]at hi
              rw[if_neg (by omega)]
              obtain⟨v',h5,h6⟩:=hl.get hi
              rw[ap9]at h5
              split at h5
              ·exact⟨v',by simpa[aqP]using h5,h6.mono (Ren.j6 (hw.fresh n hn) _)⟩
              ·cases h5
             ·rw[apz (by omega),KC]at hi
              have ana:i-len*size<xs.length:=(ao0.1 hi).1
              obtain⟨v',h5,h6⟩:=iX.get hi
              rw[if_pos (by simp;omega)]
              refine⟨v',?_,h6.mono (Ren.j6 (hw.fresh n hn) _)⟩
              rw[←h5]
              congr 1
              omega
           ·have hold:∀w':ao4,w'.heap=w.heap→(aq2 size len (.slice (some ⟨r.aN,r.sh+off,none⟩) len bI)).run P w'=.ok ((c'.toList.drop (r.sh+off)).take (len*size)).toArray w':=
             fun w' hh=>zG (by rw[hh];exact KF) _ _ (by omega)
            obtain⟨KH,h3,h4⟩:=run_append_grow (ty:=ty) (mr pz hlen px) (by omega) gY dx (hold w.drew rfl)
            rw[aoR,h4,aoQ]
            refine Fits.kill hb (Fits.grown (hw.kill b hb) DP cd xB h3 ?_ eh)
            have h5:=zI hl (off:=off) (n:=len*size) (by omega)
            rw[ap8 (by omega:(c.drop off).length≤len*size)]at h5
            simpa using h5.append iX
      ·cases base with
       |none=>cases h2
       |some a=>
        obtain⟨b,off,spot⟩:=a
        cases spot with
        |some sp=>cases h2
        |none=>
         obtain⟨c,el,hb,hbound,hle,rfl⟩:=U6 h2
         generalize pz:s'=sv at nK
         cases nK with
         |bM _ iy=>cases iy
         |eD _ a'=>
          have nL:xs=[]:=apL (by rw[j9];have:k=0:=by omega
                                 rw[this];omega)
          subst nL
          have fR:jJ.toList=[]:=iX.kx
          have iw:k=0:=by omega
          subst iw
          have:cT g b (.cells (bf c (off+0*size) []) el false)=g:=by
           funext x
           by_cases e:x=b
           ·subst e;rw[fh,hb];simp[bf]
           ·rw[ec _ e]
          rw[aoR,xy (mr pz hlen px) (by omega)]
          suffices m9:WR P B w₀ ρ (cT g b (.cells (bf c (off+0*size) []) el false)) w by
           cases a' with
           |none=>exact⟨ρ,w,Ren.le_refl ρ,.val _ _ _ (.eD _ _),m9⟩
           |some a'=>rw[fR];exact⟨ρ,w,Ren.le_refl ρ,.val _ _ _ (.eD _ _),m9⟩
          rw[this]
          exact hw
         |sl _ _ _ _ bI r hr hc=>
          have jn:cap≤bI:=by rcases hc with hc|hc<;>omega
          obtain⟨w',h3,h4⟩:=hw.store hb hr iX hbound zR
          rw[aoR,xy (mr pz hlen px) (by omega)]
          simp only[pr,aqP]
          rw[h3]
          exact⟨ρ,w',Ren.le_refl ρ,.val _ _ _ (.sl _ _ _ _ _ _ hr hc),h4⟩
   ·cases h
  ·cases h
 ·cases h
theorem Ve(hw:WR P B w₀ ρ g w){argTypes:Array ao1}{ty:ao1}{args:List aoP}{args':Array aoP}(gZ:LR ρ args args'.toList){out:bq}{l:List Nat}
 (h:(copyV P argTypes.toList args).run g=some (out,l)):Fits P B w₀ ρ g n out ((do let v ←at1 argTypes ty args';pure (ap4 v):Sem aqV).run P w):=by
 unfold copyV at h
 split at h
 ·rename_i dT rest base len cap x zQ cn
  obtain⟨s',t',ht,nK,jK⟩:=gZ.gG
  obtain⟨x',t2,rfl,gy,xA⟩:=jK.gG
  split at h
  ·rename_i elem hu
   split at h
   ·rename_i size k cd hlen
    obtain⟨xs,l1,l2,h1,h2,rfl⟩:=(Rd.run_bind _ _ _ _ _).1 h
    obtain⟨jJ,px,iX⟩:=Kx hw gy hlen (Nat.min_le_left _ _) h1
    have a0:argTypes[0]?=some dT:=by rw[j8 cn];rfl
    have b0:args'[0]?=some s':=by rw[j8 ht];rfl
    have b1:args'[1]?=some x':=by rw[j8 ht];rfl
    have key:∀(rE:Option arf) (bI:Nat),s'=.slice rE len bI→(at1 argTypes ty args').run P w=match rE with
     |some a=>((storeCells a jJ.toList).run P w).andThen fun _ w'=>.ok (.int .i64 (as2 k len)) w'
     |none=>.ok (.int .i64 (as2 k len)) w:=by
     intro rE bI hs
     subst hs
     unfold at1
     simp only[a0,b0,b1]
     rw[aoR,run_underlying hu,aoQ]
     dsimp only
     rw[aoR,Kw gy hlen,aoQ]
     rw[aoR,run_sizeOf cd,aoQ,aoR,px w rfl,aoQ]
     cases rE with
     |none=>rfl
     |some a=>rw[aoR];rfl
    split at h2
    ·cases nK with
     |bM _ iy=>
      rw[aoR,key _ _ rfl]
      exact Fits.dG hw h2 (.bM _ rfl)
    ·rename_i b off
     obtain⟨o,l',hb,hk,rfl⟩:=Rd.run_read h2
     split at hk
     ·rename_i c el
      split at hk
      ·rename_i gu
       simp only[ao3]at gu
       have hle:=apk gu.1
       simp only[Rd.run,aoU,aoX]at hk
       obtain⟨rfl,rfl⟩:=hk
       cases nK with
       |bM _ iy=>cases iy
       |eD _ a'=>
        have nL:xs=[]:=U2 (by have hm:as2 k 0=0:=Nat.min_zero k;rw[hm]at h1;exact h1)
        subst nL
        have fR:jJ.toList=[]:=iX.kx
        rw[aoR,key _ _ rfl]
        simp only[fR]
        suffices m9:WR P B w₀ ρ (uZ g n {r:=j3.val (aoW .i64 (as2 k 0)),ws:=[(b,ak.cells (bf c off []) el false)],nw:=none}) w by
         cases a'<;>exact⟨ρ,w,Ren.le_refl ρ,.val _ _ _ (.bM _ rfl),m9⟩
        have dq:bf c off []=c:=by
         unfold bf
         simp
        have:uZ g n {r:=j3.val (aoW .i64 (as2 k 0)),ws:=[(b,ak.cells (bf c off []) el false)],nw:=none}=g:=by
         show cT g b _=g
         rw[dq]
         exact Kl hb
        rw[this]
        exact hw
       |sl _ _ _ _ bI r hr hc=>
        obtain⟨w',h3,h4⟩:=hw.store hb hr iX hle gu.2
        rw[aoR,key _ _ rfl]
        simp only[h3,aoQ]
        exact⟨ρ,w',Ren.le_refl ρ,.val _ _ _ (.bM _ rfl),h4⟩
      ·cases hk
     ·cases hk
    ·cases h2
   ·cases h
  ·cases h
 ·cases h
end
end Go.Proofs.YtnlkkgpcikkpoaaGreat.Vm
namespace Go.Proofs.YtnlkkgpcikkpoaaGreat.Vm
open Go.RowKit
theorem Vf{x y:ByteArray}(h:(x==y)=true):x=y:=by
 have h2:(x.data==y.data)=true:=h
 cases x;cases y
 simp at h2
 rw[h2]
theorem KI(x:ByteArray):(x==x)=true:=by
 show(x.data==x.data)=true
 simp
section
variable {P:ao7} {B:Nat→Prop} {w₀:ao4} {ρ:Ren} {g:Nat→Option ak} {n:Nat} {w:ao4}
theorem zV(hw:WR P B w₀ ρ g w){b:Nat}{es:List apl}{clock:Nat}(hb:g b=some (.map es clock)){r:bT}(hr:ρ b=some r):
 ∃cW,w.heap[r.aN]?=some (.map cW clock)∧es.length=cW.toList.length∧(∀(i:Nat) (e e':apl),es[i]?=some e→cW.toList[i]?=some e'→mY ρ e e')∧¬B r.aN:=by
 obtain⟨o',h1,h2,h3⟩:=hw.mem hb rfl hr
 cases h2 with
 |map _ cW _ h4 h5=>exact⟨cW,h1,h4,h5,h3 rfl⟩
theorem xC{t:ao1}{k:aoP}(h:pf P t k=true):∃d,P.underlying t=some d∧((∃ik,d=.int ik∧∃j m,k=.int j m)∨(d=.string∧∃s,k=.string s)):=by
 unfold pf at h
 split at h
 ·rename_i ik j m hu;exact⟨_,hu,.inl ⟨ik,rfl,j,m,rfl⟩⟩
 ·rename_i s hu;exact⟨_,hu,.inr ⟨rfl,s,rfl⟩⟩
 ·cases h
theorem Vg(b:Bool)(t:ao1)(v:aoP):as4 b 10000 t v=as4 b (9999+1) t v:=rfl
theorem run_checkKey{t:ao1}{k:aoP}(h:pf P t k=true)(b:Bool):(as4 b 10000 t k).run P w=.ok () w:=by
 obtain⟨d,hu,hd⟩:=xC h
 rw[Vg]
 unfold as4
 rw[aoR,run_underlying hu,aoQ]
 rcases hd with⟨ik,rfl,j,m,rfl⟩|⟨rfl,s,rfl⟩<;>rfl
theorem vc{t:ao1}{d:asy}{k:aoP}(hu:P.underlying t=some d)(hd:(∃ik,d=.int ik∧∃j m,k=.int j m)∨(d=.string∧∃s,k=.string s)):
 ∀{es:List apl} {cW:List apl} {i:Nat} {r:Option (Nat×aoP)},es.length=cW.length→(∀(i:Nat) (e e':apl),es[i]?=some e→cW[i]?=some e'→mY ρ e e')→
  fm k es i=some r→∃r',arP d k cW i=some r'∧((r=none∧r'=none)∨∃j v v' e',r=some (i+j,v)∧r'=some (i+j,v')∧VR ρ v v'∧cW[j]?=some e'∧e'.key=k∧∃e,es[j]?=some e∧e.val=v):=by
 intro es
 induction es with
 |nil=>
  intro cW i r hl he h
  simp only[fm,aoU]at h
  subst h
  cases cW with
  |nil=>exact⟨none,rfl,.inl ⟨rfl,rfl⟩⟩
  |cons=>simp at hl
 |cons e es ih=>
  intro cW i r hl he h
  cases cW with
  |nil=>simp at hl
  |cons e' cW=>
   have zW:=he 0 e e' rfl rfl
   have qv:es.length=cW.length:=by simpa using hl
   have tt:∀(i:Nat) (a a':apl),es[i]?=some a→cW[i]?=some a'→mY ρ a a':=fun i a a' h1 h2=>he (i+1) a a' (by simpa using h1) (by simpa using h2)
   have rest:∀{r},fm k es (i+1)=some r→asw d k e'.key=some false→∃r',arP d k (e'::cW) i=some r'∧((r=none∧r'=none)∨∃j v v' e2,r=some (i+j,v)∧r'=some (i+j,v')∧VR ρ v v'∧(e'::cW)[j]?=some e2∧e2.key=k∧∃e0,(e::es)[j]?=some e0∧e0.val=v):=by
    intro r h hs
    obtain⟨r',h1,h2⟩:=ih qv tt h
    refine⟨r',by unfold arP;simp only[hs,h1],?_⟩
    rcases h2 with h2|⟨j,v,v',e2,ha,hb,hc,hd,hk,e0,hf,hv⟩
    ·exact .inl h2
    ·exact .inr ⟨j+1,v,v',e2,by rw[ha];congr 2;omega,by rw[hb];congr 2;omega,hc,by simpa using hd,hk,e0,by simpa using hf,hv⟩
   unfold fm at h
   split at h
   ·rename_i a x b y rF
    have tu:e'.key=.int b y:=by have:=zW.key;rw[rF]at this;exact this.jG
    rcases hd with⟨ik,rfl,j,m,dU⟩|⟨rfl,s,dU⟩
    ·split at h
     ·rename_i jv
      have jv:a=b:=by simpa using jv
      subst jv
      by_cases nM:(x==y)=true
      ·rw[if_pos nM]at h
       cases h
       have:x=y:=by simpa using nM
       subst this
       exact⟨some (i,e'.val),by unfold arP asw;rw[tu];simp,.inr ⟨0,e.val,e'.val,e',rfl,rfl,zW.val,rfl,tu,e,rfl,rfl⟩⟩
      ·rw[if_neg nM]at h
       refine rest h ?_
       unfold asw
       rw[tu]
       simp at nM⊢
       exact nM
     ·cases h
    ·cases dU
   ·rename_i x y rF
    have tu:e'.key=.string y:=by have:=zW.key;rw[rF]at this;exact this.pq
    rcases hd with⟨ik,rfl,j,m,dU⟩|⟨rfl,s,dU⟩
    ·cases dU
    ·by_cases nM:(x==y)=true
     ·rw[if_pos nM]at h
      cases h
      have:x=y:=Vf nM
      subst this
      exact⟨some (i,e'.val),by unfold arP asw;rw[tu];simp only[KI],.inr ⟨0,e.val,e'.val,e',rfl,rfl,zW.val,rfl,tu,e,rfl,rfl⟩⟩
     ·rw[if_neg nM]at h
      refine rest h ?_
      unfold asw
      rw[tu]
      have:(x==y)=false:=by cases hh:(x==y)with
       |true=>exact absurd hh nM
       |false=>rfl
      simp only[this]
   ·cases h
theorem run_findKey{t:ao1}{d:asy}{k:aoP}(hu:P.underlying t=some d){es:List apl}{r:Option (Nat×aoP)}(h:arP d k es 0=some r):
 (auP t k es).run P w=.ok r w:=by
 unfold auP
 rw[aoR,run_underlying hu,aoQ]
 simp only[h,apA]
theorem run_getObj_map{b:Nat}{es:Array apl}{clock:Nat}(h:w.heap[b]?=some (.map es clock)):(getObj b).run P w=.ok (.map es clock) w:=by
 simp only[getObj,arl,h]
theorem run_setObj_map{b:Nat}{es:Array apl}{clock:Nat}(h:w.heap[b]?=some (.map es clock))(o:Obj):
 (setObj b o).run P w=.ok () {w with heap:=w.heap.setIfInBounds b o}:=by
 simp only[setObj,arl,h]
theorem zX{b:Nat}{o1:Obj}(h:w.heap[b]?=some o1)(o:Obj):ow w {w with heap:=w.heap.setIfInBounds b o} b o:=by
 have hb:b<w.heap.size:=(apQ.1 h).1
 refine⟨rfl,rfl,rfl,by simp,by simp[hb],fun k hk=>?_⟩
 show(w.heap.setIfInBounds b o)[k]?=_
 rw[aqp (Ne.symm hk)]
theorem DQ(hw:WR P B w₀ ρ g w){v v':aoP}(hv:VR ρ v v')(ok b:Bool){out:bq}{l:List Nat}(h:(val (if ok then .tuple #[v,.bool b]else v)).run g=some (out,l)):
 Fits P B w₀ ρ g n out (.ok (.value (if ok then .tuple #[v',.bool b]else v')) w):=by
 cases ok with
 |true=>exact Fits.dG hw h (.zA (LR.cons hv (LR.cons (.bM _ rfl) (LR.nil ρ))))
 |false=>exact Fits.dG hw h hv
theorem Vh(hw:WR P B w₀ ρ g w){t:ao1}{x x' k k':aoP}(hx:VR ρ x x')(hk:VR ρ k k')(ok:Bool){out:bq}{l:List Nat}(h:(CS P t x k ok).run g=some (out,l)):
 Fits P B w₀ ρ g n out ((do let v ←aq9 t x' k' ok;pure (ap4 v):Sem aqV).run P w):=by
 unfold CS at h
 split at h
 ·rename_i kt et hu
  split at h
  ·rename_i z iY hz
   obtain⟨d,ka,hd⟩:=xC iY
   have dU:k'=k:=by
    rcases hd with⟨ik,rfl,j,m,rfl⟩|⟨rfl,s,rfl⟩
    ·exact hk.jG
    ·exact hk.pq
   subst dU
   dsimp only at h
   split at h
   ·split at h
    ·rename_i oA
     cases hx with
     |bM=>
      have:(aq9 t (.map none) k' ok).run P w=.ok (if ok then .tuple #[z,.bool false]else z) w:=by
       unfold aq9
       rw[aoR,run_underlying hu,aoQ]
       dsimp only
       rw[aoR,apA,aoQ,aoR,run_checkKey iY,aoQ,aoR,run_findKey ka (by rfl:arP d k' [] 0=some none),aoQ]
       dsimp only
       first|rw[aoR,aoR,mZ hz]|rw[aoR,mZ hz]
       rfl
      rw[aoR,this]
      exact DQ hw (nH oA) ok false h
    ·cases h
   ·rename_i b
    obtain⟨r,hr,rfl⟩:=hx.qh
    obtain⟨o,l',hb,dU,rfl⟩:=Rd.run_read h
    split at dU
    ·rename_i es clock
     split at dU
     ·rename_i f qw oA
      obtain⟨cW,h1,h2,h3,hB⟩:=zV hw hb hr
      obtain⟨r',h4,h5⟩:=vc ka hd h2 h3 qw
      have pre:∀(rest:Option (Nat×aoP)→Sem aoP),True:=fun _=>trivial
      rcases h5 with⟨rfl,rfl⟩|⟨j,v,v',e',rfl,rfl,hv,_,_,_⟩
      ·have:(aq9 t (.map (some r.aN)) k' ok).run P w=.ok (if ok then .tuple #[z,.bool false]else z) w:=by
        unfold aq9
        rw[aoR,run_underlying hu,aoQ]
        dsimp only
        rw[aoR,run_getObj_map h1,aoQ]
        dsimp only
        rw[aoR,apA,aoQ,aoR,run_checkKey iY,aoQ,aoR,run_findKey ka h4,aoQ]
        dsimp only
        first|rw[aoR,aoR,mZ hz]|rw[aoR,mZ hz]
        rfl
       rw[aoR,this]
       exact DQ hw (nH oA) ok false dU
      ·have:(aq9 t (.map (some r.aN)) k' ok).run P w=.ok (if ok then .tuple #[v',.bool true]else v') w:=by
        unfold aq9
        rw[aoR,run_underlying hu,aoQ]
        dsimp only
        rw[aoR,run_getObj_map h1,aoQ]
        dsimp only
        rw[aoR,apA,aoQ,aoR,run_checkKey iY,aoQ,aoR,run_findKey ka h4,aoQ]
        rfl
       rw[aoR,this]
       exact DQ hw hv ok true dU
     ·cases dU
    ·cases dU
   ·cases h
  ·cases h
 ·cases h
theorem sameBits_self{k:aoP}{d:asy}(hd:(∃ik,d=.int ik∧∃j m,k=.int j m)∨(d=.string∧∃s,k=.string s)):Instr.sameBits 10000 k k=true:=by
 rcases hd with⟨ik,_,j,m,rfl⟩|⟨_,s,rfl⟩
 ·show(j==j&&m==m)=true;simp
 ·exact KI s
theorem KJ(hw:WR P B w₀ ρ g w){t:ao1}{x x' k k' v v':aoP}(hx:VR ρ x x')(hk:VR ρ k k')(hv:VR ρ v v'){out:bq}{l:List Nat}
 (h:(wY P t x k v).run g=some (out,l)):Fits P B w₀ ρ g n out ((do asa t x' k' v';pure Next.skip:Sem aqV).run P w):=by
 unfold wY at h
 split at h
 ·rename_i kt et hu
  split at h
  ·rename_i b iY
   obtain⟨r,hr,rfl⟩:=hx.qh
   obtain⟨d,ka,hd⟩:=xC iY
   have dU:k'=k:=by
    rcases hd with⟨ik,rfl,j,m,rfl⟩|⟨rfl,s,rfl⟩
    ·exact hk.jG
    ·exact hk.pq
   subst dU
   obtain⟨o,l',hb,dU,rfl⟩:=Rd.run_read h
   split at dU
   ·rename_i es clock
    obtain⟨cW,h1,h2,h3,hB⟩:=zV hw hb hr
    split at dU
    ·rename_i i vv qw
     obtain⟨r',h4,h5⟩:=vc ka hd h2 h3 qw
     rcases h5 with⟨h5,_⟩|⟨j,u,u',e',h5,rfl,rG,tt,rF,_⟩
     ·cases h5
     ·simp only[aqr,aoU,aoX]at h5
      obtain⟨rfl,rfl⟩:=h5
      simp only[Rd.run,aoU,aoX]at dU
      obtain⟨rfl,rfl⟩:=dU
      have vd:cW[i]?=some e':=by simpa using tt
      have j7:(asa t (.map (some r.aN)) k' v').run P w=.ok () {w with heap:=w.heap.setIfInBounds r.aN (.map (cW.modify i fun e=>{e with key:=k',val:=v'}) clock)}:=by
       unfold asa
       rw[aoR,run_underlying hu,aoQ]
       dsimp only
       rw[aoR,run_getObj_map h1,aoQ]
       dsimp only
       rw[aoR,run_checkKey iY,aoQ,aoR,run_findKey ka h4,aoQ]
       simp only[aqr,vd,aqc,aqG,rF]
       rw[aoR]
       unfold Instr.keyThatStays
       rw[if_pos (sameBits_self hd),apA,aoQ,run_setObj_map h1]
      rw[aoR,j7,aoQ]
      refine⟨ρ,_,Ren.le_refl ρ,.skip _,hw.change hb (by first|rfl|exact DR _ _) hr hB (zX h1 _) ?_⟩
      refine .map _ _ _ (by simp[h2]) fun m a a' ha fW=>?_
      rw[List.getElem?_modify]at ha
      rw[aqA,Array.getElem?_modify]at fW
      by_cases gN:i=m
      ·subst gN
       rw[if_pos rfl,vd]at fW
       cases fW
       cases hg:es[i]?with
       |none=>rw[hg]at ha;cases ha
       |some e0=>
        rw[hg]at ha
        simp at ha
        subst ha
        exact⟨hk,hv,(h3 i e0 e' hg tt).born⟩
      ·rw[if_neg gN]at fW
       cases hg:es[m]?with
       |none=>rw[hg]at ha;cases ha
       |some e0=>
        rw[hg]at ha
        simp[gN]at ha
        subst ha
        exact h3 m e0 a' hg (by simpa using fW)
    ·rename_i qw
     obtain⟨r',h4,h5⟩:=vc ka hd h2 h3 qw
     rcases h5 with⟨_,rfl⟩|⟨j,u,u',e',h5,_⟩
     ·simp only[Rd.run,aoU,aoX]at dU
      obtain⟨rfl,rfl⟩:=dU
      have j7:(asa t (.map (some r.aN)) k' v').run P w=.ok () {w with heap:=w.heap.setIfInBounds r.aN (.map (cW.push {key:=k',val:=v',born:=clock}) (clock+1))}:=by
       unfold asa
       rw[aoR,run_underlying hu,aoQ]
       dsimp only
       rw[aoR,run_getObj_map h1,aoQ]
       dsimp only
       rw[aoR,run_checkKey iY,aoQ,aoR,run_findKey ka h4,aoQ]
       dsimp only
       rw[run_setObj_map h1]
      rw[aoR,j7,aoQ]
      refine⟨ρ,_,Ren.le_refl ρ,.skip _,hw.change hb (by first|rfl|exact DR _ _) hr hB (zX h1 _) ?_⟩
      refine .map _ _ _ (by simp[h2]) fun m a a' ha fW=>?_
      rw[Array.toList_push]at fW
      by_cases hm:m<es.length
      ·rw[apH hm]at ha
       rw[apH (by omega)]at fW
       exact h3 m a a' ha fW
      ·rw[apz (by omega)]at ha
       rw[apz (by omega)]at fW
       rw[←h2]at fW
       cases hs:m-es.length with
       |zero=>rw[hs]at ha fW;cases ha;cases fW;exact⟨hk,hv,rfl⟩
       |succ q=>rw[hs]at ha;cases ha
     ·cases h5
    ·cases dU
   ·cases dU
  ·cases h
 ·cases h
theorem toList_erase(a:Array apl)(i:Nat):(a.eraseIdxIfInBounds i).toList=a.toList.eraseIdx i:=by simp
theorem Vi(hw:WR P B w₀ ρ g w){argTypes:Array ao1}{ty:ao1}{args:List aoP}{args':Array aoP}(gZ:LR ρ args args'.toList){out:bq}{l:List Nat}
 (h:(wZ P argTypes.toList args).run g=some (out,l)):Fits P B w₀ ρ g n out ((do let v ←asb argTypes ty args';pure (ap4 v):Sem aqV).run P w):=by
 unfold wZ at h
 split at h
 ·rename_i t rest b k zQ cn
  obtain⟨s',t',ht,nK,jK⟩:=gZ.gG
  obtain⟨k',t2,rfl,hk,xA⟩:=jK.gG
  obtain⟨r,hr,rfl⟩:=nK.qh
  have a0:argTypes[0]?=some t:=by rw[j8 cn];rfl
  have b0:args'[0]?=some (.map (some r.aN)):=by rw[j8 ht];rfl
  have b1:args'[1]?=some k':=by rw[j8 ht];rfl
  split at h
  ·rename_i kt et hu
   split at h
   ·rename_i iY
    obtain⟨d,ka,hd⟩:=xC iY
    have dU:k'=k:=by
     rcases hd with⟨ik,rfl,j,m,rfl⟩|⟨rfl,s,rfl⟩
     ·exact hk.jG
     ·exact hk.pq
    subst dU
    obtain⟨o,l',hb,dU,rfl⟩:=Rd.run_read h
    split at dU
    ·rename_i es clock
     obtain⟨cW,h1,h2,h3,hB⟩:=zV hw hb hr
     split at dU
     ·rename_i i vv qw
      obtain⟨r',h4,h5⟩:=vc ka hd h2 h3 qw
      rcases h5 with⟨h5,_⟩|⟨j,u,u',e',h5,rfl,rG,tt,rF,_⟩
      ·cases h5
      ·simp only[aqr,aoU,aoX]at h5
       obtain⟨rfl,rfl⟩:=h5
       simp only[Rd.run,aoU,aoX]at dU
       obtain⟨rfl,rfl⟩:=dU
       have j7:(asb argTypes ty args').run P w=.ok (.tuple #[]) {w with heap:=w.heap.setIfInBounds r.aN (.map (cW.eraseIdxIfInBounds i) clock)}:=by
        unfold asb
        simp only[a0,b0,b1]
        rw[aoR,run_underlying hu,aoQ]
        dsimp only
        rw[aoR,run_getObj_map h1,aoQ]
        dsimp only
        rw[aoR,run_checkKey iY,aoQ,aoR,run_findKey ka h4,aoQ]
        simp only[aqr]
        rw[aoR,run_setObj_map h1]
        rfl
       rw[aoR,j7,aoQ]
       refine⟨ρ,_,Ren.le_refl ρ,.val _ _ _ (VR.undef ρ),hw.change hb (by first|rfl|exact DR _ _) hr hB (zX h1 _) ?_⟩
       refine .map _ _ _ (by rw[toList_erase,atU,atU,h2]) fun m a a' ha fW=>?_
       rw[toList_erase]at fW
       rw[List.getElem?_eraseIdx]at ha fW
       split at ha
       ·rename_i hm;rw[if_pos hm]at fW;exact h3 m a a' ha fW
       ·rename_i hm;rw[if_neg hm]at fW;exact h3 _ a a' ha fW
     ·rename_i qw
      obtain⟨r',h4,h5⟩:=vc ka hd h2 h3 qw
      rcases h5 with⟨_,rfl⟩|⟨j,u,u',e',h5,_⟩
      ·simp only[Rd.run,aoU,aoX]at dU
       obtain⟨rfl,rfl⟩:=dU
       have j7:(asb argTypes ty args').run P w=.ok (.tuple #[]) {w with heap:=w.heap.setIfInBounds r.aN (.map cW clock)}:=by
        unfold asb
        simp only[a0,b0,b1]
        rw[aoR,run_underlying hu,aoQ]
        dsimp only
        rw[aoR,run_getObj_map h1,aoQ]
        dsimp only
        rw[aoR,run_checkKey iY,aoQ,aoR,run_findKey ka h4,aoQ]
        dsimp only
        rw[aoR,run_setObj_map h1]
        rfl
       rw[aoR,j7,aoQ]
       exact⟨ρ,_,Ren.le_refl ρ,.val _ _ _ (VR.undef ρ),hw.change hb (by first|rfl|exact DR _ _) hr hB (zX h1 _) (.map _ _ _ h2 h3)⟩
      ·cases h5
     ·cases dU
    ·cases dU
   ·cases h
  ·cases h
 ·cases h
theorem Vj(hw:WR P B w₀ ρ g w){argTypes:Array ao1}{ty:ao1}{args:List aoP}{args':Array aoP}(gZ:LR ρ args args'.toList){out:bq}{l:List Nat}
 (h:(CT P argTypes.toList args).run g=some (out,l)):Fits P B w₀ ρ g n out ((do let v ←aqC argTypes ty args';pure (ap4 v):Sem aqV).run P w):=by
 unfold CT at h
 split at h
 ·rename_i t rest x zQ cn
  obtain⟨x',t',ht,hx,jK⟩:=gZ.gG
  have a0:argTypes[0]?=some t:=by rw[j8 cn];rfl
  have b0:args'[0]?=some x':=by rw[j8 ht];rfl
  split at h
  ·rename_i sa m sc hu
   cases hx with
   |bM _ iy=>
    obtain⟨rfl,rfl,rfl⟩:=zP iy
    have hr:(aqC argTypes ty args').run P w=.ok (goInt (0:Nat)) w:=by unfold aqC;simp only[a0,b0];rw[aoR,run_underlying hu,aoQ];rfl
    rw[aoR,hr];exact Fits.dG hw h (.bM _ rfl)
   |sl=>
    have hr:(aqC argTypes ty args').run P w=.ok (goInt m) w:=by unfold aqC;simp only[a0,b0];rw[aoR,run_underlying hu,aoQ];rfl
    rw[aoR,hr];exact Fits.dG hw h (.bM _ rfl)
   |mV=>
    have hr:(aqC argTypes ty args').run P w=.ok (goInt m) w:=by unfold aqC;simp only[a0,b0];rw[aoR,run_underlying hu,aoQ];rfl
    rw[aoR,hr];exact Fits.dG hw h (.bM _ rfl)
   |eD=>
    have hr:(aqC argTypes ty args').run P w=.ok (goInt (0:Nat)) w:=by unfold aqC;simp only[a0,b0];rw[aoR,run_underlying hu,aoQ];rfl
    rw[aoR,hr];exact Fits.dG hw h (.bM _ rfl)
  ·rename_i hu
   cases hx with
   |bM=>
    have hr:(aqC argTypes ty args').run P w=.ok (goInt 0) w:=by unfold aqC;simp only[a0,b0];rw[aoR,run_underlying hu,aoQ];rfl
    rw[aoR,hr];exact Fits.dG hw h (.bM _ rfl)
  ·rename_i b hu
   obtain⟨r,hr,rfl⟩:=hx.qh
   obtain⟨o,l',hb,hk,rfl⟩:=Rd.run_read h
   split at hk
   ·rename_i es clock
    obtain⟨cW,h1,h2,h3,hB⟩:=zV hw hb hr
    have hr:(aqC argTypes ty args').run P w=.ok (goInt cW.size) w:=by
     unfold aqC;simp only[a0,b0];rw[aoR,run_underlying hu,aoQ]
     dsimp only
     rw[aoR,run_getObj_map h1];rfl
    rw[aoR,hr]
    refine Fits.dG hw hk ?_
    have:es.length=cW.size:=by simpa using h2
    rw[this]
    exact .bM _ rfl
   ·cases hk
  ·rename_i k el hu
   have hr:(aqC argTypes ty args').run P w=.ok (goInt k) w:=by unfold aqC;simp only[a0,b0];rw[aoR,run_underlying hu,aoQ];rfl
   rw[aoR,hr]
   exact Fits.dG hw h (.bM _ rfl)
  ·rename_i a hu
   split at h
   ·rename_i k el tl
    have hr:(aqC argTypes ty args').run P w=.ok (goInt k) w:=by
     unfold aqC;simp only[a0,b0];rw[aoR,run_underlying hu,aoQ]
     dsimp only
     rw[aoR,run_underlying tl];rfl
    rw[aoR,hr]
    exact Fits.dG hw h (.bM _ rfl)
   ·cases h
  ·cases h
 ·cases h
theorem Vk{z:aoP}(k:Nat):(aqN z.cells k).toList=fg z.cells.toList k:=by
 have:=DE z k
 unfold aqN
 rw[this]
theorem Vl(hw:WR P B w₀ ρ g w){argTypes:Array ao1}{ty:ao1}{args:List aoP}{args':Array aoP}(gZ:LR ρ args args'.toList){out:bq}{l:List Nat}
 (h:(w5 P argTypes.toList args).run g=some (out,l)):Fits P B w₀ ρ g n out ((do let v ←asm argTypes ty args';pure (ap4 v):Sem aqV).run P w):=by
 unfold w5 at h
 split at h
 ·rename_i t rest x zQ cn
  obtain⟨x',t',ht,hx,jK⟩:=gZ.gG
  have a0:argTypes[0]?=some t:=by rw[j8 cn];rfl
  have b0:args'[0]?=some x':=by rw[j8 ht];rfl
  have none_:∀{d},P.underlying t=some d→(∃a c,x'=.slice a 0 c)∨(∃l c,x'=.slice none l c)→(asm argTypes ty args').run P w=.ok (.tuple #[]) w:=by
   intro d hu hc
   unfold asm
   simp only[a0,b0]
   rw[aoR,run_underlying hu,aoQ]
   rcases hc with⟨a,c,rfl⟩|⟨l,c,rfl⟩
   ·cases a<;>cases d<;>rfl
   ·cases d<;>rfl
  split at h
  ·rename_i hu
   cases hx with
   |bM _ iy=>
    obtain⟨_,rfl,rfl⟩:=zP iy
    rw[aoR,none_ hu (.inr ⟨_,_,rfl⟩)]
    exact Fits.dG hw h (VR.undef ρ)
  ·rename_i hu
   rw[aoR]
   cases hx with
   |bM _ iy=>
    obtain⟨rfl,_,rfl⟩:=zP iy
    rw[none_ hu (.inl ⟨_,_,rfl⟩)]
    exact Fits.dG hw h (VR.undef ρ)
   |sl=>rw[none_ hu (.inl ⟨_,_,rfl⟩)];exact Fits.dG hw h (VR.undef ρ)
   |eD=>rw[none_ hu (.inl ⟨_,_,rfl⟩)];exact Fits.dG hw h (VR.undef ρ)
   |mV=>rw[none_ hu (.inl ⟨_,_,rfl⟩)];exact Fits.dG hw h (VR.undef ρ)
  ·rename_i el b off k cap iw hu
   split at h
   ·rename_i size z hs hz
    obtain⟨o,l',hb,hk,rfl⟩:=Rd.run_read h
    split at hk
    ·rename_i c ce
     split at hk
     ·rename_i gu
      simp only[ao3]at gu
      obtain⟨⟨⟨hf,h1⟩,h2⟩,h3⟩:=gu
      have h1:=apa h1
      have h2:=apk h2
      simp only[Rd.run,aoU,aoX]at hk
      obtain⟨rfl,rfl⟩:=hk
      have xq:(fg z.cells.toList k).length=k*size:=by rw[zK,←h1];simp
      have zR:((fg z.cells.toList k).all Value.oneCell')=true:=by
       rw[aps]at h3⊢
       intro v hv
       obtain⟨i,hi⟩:=List.getElem?_of_mem hv
       have hlt:i<(fg z.cells.toList k).length:=(ao0.1 hi).1
       rw[DD _ _ _ (by rw[zK]at hlt;exact hlt)]at hi
       exact h3 _ (List.mem_of_getElem? hi)
      cases hx with
      |bM _ iy=>cases iy
      |eD=>first|exact(iw rfl).elim|exact(iw _ _ rfl).elim|exact(iw _ rfl).elim
      |sl _ _ _ _ bI r hr hc=>
       obtain⟨w',h4,h5⟩:=hw.store hb hr ((xr hf).fg k) (off:=off) (by rw[xq];exact h2) zR
       have j7:(asm argTypes ty args').run P w=.ok (.tuple #[]) w':=by
        unfold asm
        simp only[a0,b0]
        rw[aoR,run_underlying hu,aoQ]
        cases k with
        |zero=>first|exact(iw rfl).elim|exact(iw _ _ rfl).elim|exact(iw _ rfl).elim
        |succ k=>
         show((do let z ←zeroValue el;storeCells ⟨r.aN,r.sh+off,none⟩ (aqN z.cells (k+1)).toList;pure (Value.tuple #[])):Sem aoP).run P w=_
         rw[aoR,mZ hz,aoQ,Vk,aoR,h4]
         rfl
       rw[aoR,j7]
       exact⟨ρ,w',Ren.le_refl ρ,.val _ _ _ (VR.undef ρ),h5⟩
     ·cases hk
    ·cases hk
   ·cases h
  ·cases h
 ·cases h
end
end Go.Proofs.YtnlkkgpcikkpoaaGreat.Vm
namespace Go.Proofs.YtnlkkgpcikkpoaaGreat.Vm
open Go.RowKit
section
variable {P:ao7} {B:Nat→Prop} {w₀:ao4} {ρ:Ren} {g:Nat→Option ak} {n:Nat} {w:ao4}
inductive ve(ρ:Ren):Pl→Place→Prop where
 |val (v v':aoP) (h:VR ρ v v'):ve ρ (.val v) (.val v')
 |var (b off:Nat) (r:bT) (h:ρ b=some r):ve ρ (.var b off) (.var ⟨r.aN,r.sh+off,none⟩)
theorem KK(hw:WR P B w₀ ρ g w){t:ao1}{x:Pl}{x':Place}(hx:ve ρ x x'){v:aoP}{l:List Nat}
 (h:(zj P t x).run g=some (v,l)):∃v',(x'.get t).run P w=.ok v' w∧VR ρ v v':=by
 cases hx with
 |val u u' hu=>
  simp only[zj,Rd.run,aoU,aoX]at h
  obtain⟨rfl,rfl⟩:=h
  exact⟨u',rfl,hu⟩
 |var b off r hr=>
  obtain⟨v',h1,h2⟩:=u5 hw h hr
  exact⟨v',h1,h2⟩
theorem Vn(hw:WR P B w₀ ρ g w):∀{path:List FieldStep} {t:ao1} {x:Pl} {x':Place},ve ρ x x'→∀{t2:ao1} {y:Pl} {l:List Nat},(uS P path t x).run g=some ((t2,y),l)→
 ∃y',(follow path t x').run P w=.ok (t2,y') w∧ve ρ y y':=by
 intro path
 induction path with
 |nil=>
  intro t x x' hx t2 y l h
  simp only[uS,Rd.run,aoU,aoX]at h
  obtain⟨⟨rfl,rfl⟩,_⟩:=h
  exact⟨x',rfl,hx⟩
 |cons s rest ih=>
  intro t x x' hx t2 y l h
  unfold uS at h
  split at h
  ·cases h
  ·rename_i off ft k hf
   obtain⟨fs,f,hu,KL,rfl,rfl,hk,iw⟩:=DA hf
   split at h
   ·rename_i hd
    obtain⟨v,l1,l2,h1,h2,rfl⟩:=(Rd.run_bind _ _ _ _ _).1 h
    obtain⟨v',h3,h4⟩:=KK hw hx h1
    split at h2
    ·rename_i b o
     obtain⟨r,hr,rfl⟩:=h4.ky
     obtain⟨y',h5,h6⟩:=ih (.var b (o+f.offset) r hr) h2
     refine⟨y',?_,h6⟩
     unfold follow
     rw[aoR,run_underlying hu,aoQ]
     simp only[KL,hd,if_true]
     rw[aoR,h3,aoQ]
     simp only[asAddr,aoR,apA,aoQ,DB hk iw]
     rw[aqP]
     exact h5
    ·cases h2
   ·rename_i hd
    cases hx with
    |val=>cases h
    |var b o r hr=>
     obtain⟨y',h5,h6⟩:=ih (.var b (o+f.offset) r hr) h
     refine⟨y',?_,h6⟩
     unfold follow
     rw[aoR,run_underlying hu,aoQ]
     simp only[KL,hd,apT,if_false]
     rw[aoR,DB hk iw,aoQ,aqP]
     exact h5
theorem Vo(xt:ao1)(a:arf)(name:String):(Builtin.ssaWrapNilChk_ #[xt] xt #[.pointer (some a),strVal "",strVal name]).run P w=.ok (.pointer (some a)) w:=rfl
theorem Vp(hw:WR P B w₀ ρ g w){t:ao1}{x:Pl}{x':Place}(hx:ve ρ x x'){ptr:Bool}{v:aoP}{l:List Nat}(h:(CU P t x ptr).run g=some (v,l))(wr:Option String):
 ∃v',(receiverAt t x' ptr wr).run P w=.ok v' w∧VR ρ v v':=by
 unfold CU at h
 unfold receiverAt
 split at h
 ·rename_i e u hu
  cases hx with
  |val _ u' hv=>
   simp only[Rd.run,aoU,aoX]at h
   obtain⟨rfl,rfl⟩:=h
   exact⟨u',by rw[aoR,run_underlying hu,aoQ];rfl,hv⟩
 ·rename_i e b o hu
  cases hx with
  |var _ _ r hr=>
   obtain⟨v',h1,h2⟩:=u5 hw h hr
   exact⟨v',by rw[aoR,run_underlying hu,aoQ];exact h1,h2⟩
 ·rename_i e b o hu
  cases hx with
  |val _ u' hv=>
   obtain⟨r,hr,rfl⟩:=hv.ky
   obtain⟨v',h1,h2⟩:=u5 hw h hr
   refine⟨v',?_,h2⟩
   rw[aoR,run_underlying hu,aoQ]
   dsimp only
   rw[aoR]
   show((arl P (pure (Value.pointer (some ⟨r.aN,r.sh+o,none⟩))) w).andThen _)=_
   rw[apA,aoQ]
   cases wr with
   |none=>simp only[aoR,apA,aoQ,asAddr,h1]
   |some name=>simp only[aoR,Vo,apA,aoQ,asAddr,h1]
 ·cases h
 ·rename_i d b o hd hu
  cases hx with
  |var _ _ r hr=>
   simp only[Rd.run,aoU,aoX]at h
   obtain⟨rfl,rfl⟩:=h
   refine⟨_,?_,.ptr b o r hr⟩
   rw[aoR,run_underlying hu,aoQ]
   cases d<;>first|rfl|exact(hd _ rfl).elim
 ·rename_i d u _ hd hu
  cases hx with
  |val _ u' hv=>
   simp only[Rd.run,aoU,aoX]at h
   obtain⟨rfl,rfl⟩:=h
   refine⟨u',?_,hv⟩
   rw[aoR,run_underlying hu,aoQ]
   cases d<;>first|rfl|exact(hd _ rfl).elim
 ·rename_i d b o hd hu
  cases hx with
  |var _ _ r hr=>
   obtain⟨v',h1,h2⟩:=u5 hw h hr
   refine⟨v',?_,h2⟩
   rw[aoR,run_underlying hu,aoQ]
   cases d<;>first|exact h1|exact(hd _ rfl).elim
 ·cases h
theorem KM(hw:WR P B w₀ ρ g w):∀(d:Nat) {t:ao1} {v v':aoP} {name:String} {f:apr} {r:aoP} {l:List Nat},VR ρ v v'→(zk P d t v name).run g=some ((f,r),l)→
 ∀gO,d≤gO→∃r',(method gO t v' name).run P w=.ok (f,r') w∧VR ρ r r'
 |0,t,v,v',name,f,r,l,hv,h,gO,hf=>by cases h
 |d+1,t,v,v',name,f,r,l,hv,h,gO,hf=>by
  cases gO with
  |zero=>omega
  |succ gO=>
   unfold zk at h
   unfold method
   split at h
   ·cases h
   ·rename_i m hm
    obtain⟨inf,oE,Vq⟩:=Option.bind_eq_some_iff.1 hm
    obtain⟨⟨xt,x⟩,l1,l2,h1,h2,rfl⟩:=(Rd.run_bind _ _ _ _ _).1 h
    obtain⟨x',h3,h4⟩:=Vn hw (.val v v' hv) h1
    have xz:(typeInfo t).run P w=.ok inf w:=by unfold typeInfo;rw[aoR,aqW,aoQ,oE];rfl
    rw[aoR,xz,aoQ]
    simp only[Vq]
    rw[aoR,h3,aoQ]
    dsimp only at h2⊢
    split at h2
    ·rename_i DU
     obtain⟨u,l3,l4,h5,h6,rfl⟩:=(Rd.run_bind _ _ _ _ _).1 h2
     obtain⟨u',h7,h8⟩:=KK hw h4 h5
     split at h6
     ·rename_i t' q
      obtain⟨q',rfl,hq⟩:=h8.xh
      obtain⟨r',h9,bP⟩:=KM hw d hq h6 gO (by omega)
      refine⟨r',?_,bP⟩
      simp only[DU]
      rw[aoR,h7,aoQ]
      exact h9
     ·cases h6
    ·rename_i f2 ptr DU
     obtain⟨u,l3,l4,h5,h6,rfl⟩:=(Rd.run_bind _ _ _ _ _).1 h2
     simp only[Rd.run,aoU,aoX]at h6
     obtain⟨⟨rfl,rfl⟩,_⟩:=h6
     obtain⟨u',h7,h8⟩:=Vp hw h4 h5 (if m.path.isEmpty then some ((name.splitOn ".").getLastD name)else none)
     refine⟨u',?_,h8⟩
     simp only[DU]
     rw[aoR,h7,aoQ]
     rfl
def iz(P:ao7):Bool:=P.funcs.toList.all fun f=> !(f.name== "runtime.NumGoroutine")
theorem KN(hP:iz P=true)(hw:WR P B w₀ ρ g w){f:apr}{args:List aoP}{args':Array aoP}(ha:LR ρ args args'.toList){out:bq}{l:List Nat}
 (h:(enter P f args).run g=some (out,l)):Fits P B w₀ ρ g n out ((callFunc f args').run P w):=by
 unfold enter at h
 split at h
 ·rename_i fn hf
  have lD:(fn.name== "runtime.NumGoroutine")=false:=by
   have:=aps.1 hP fn (by rw[aqy];exact atL hf)
   simpa using this
  split at h
  ·rename_i c hc
   simp only[Rd.run,aoU,aoX]at h
   obtain⟨rfl,rfl⟩:=h
   have:(callFunc f args').run P w=.ok (.enter f args') w:=by
    unfold callFunc
    rw[aoR,aqW,aoQ]
    simp only[hf,lD,hc,at8,apT,if_false,apA]
   rw[this]
   exact⟨ρ,w,Ren.le_refl ρ,.enter f args args' w ha,hw⟩
  ·split at h
   ·rename_i fQ
    have:args'=args.toArray:=by apply aqI;simpa using ha.xk fQ
    rw[this]
    exact oC hw h
   ·cases h
 ·cases h
theorem KO(hP:iz P=true)(hw:WR P B w₀ ρ g w){recv qx:aoP}(hr:VR ρ recv qx){name:String}{args:List aoP}{args':Array aoP}(ha:LR ρ args args'.toList){out:bq}{l:List Nat}
 (h:(zm P recv name args).run g=some (out,l)):Fits P B w₀ ρ g n out ((callMethod qx name args').run P w):=by
 unfold zm at h
 split at h
 ·rename_i t v
  obtain⟨v',rfl,hv⟩:=hr.xh
  obtain⟨⟨f,r⟩,l1,l2,h1,h2,rfl⟩:=(Rd.run_bind _ _ _ _ _).1 h
  obtain⟨r',h3,h4⟩:=KM hw 9 hv h1 (P.types.size+avp) (by have:avp=100:=rfl;omega)
  have:(callMethod (.iface t v') name args').run P w=(callFunc f (#[r']++args')).run P w:=by
   unfold callMethod
   simp only[aoR,aqW,aoQ,h3]
  rw[this]
  exact KN hP hw (by rw[aqM];exact LR.cons h4 ha) h2
 ·cases h
theorem Vr(hw:WR P B w₀ ρ g w){b:Builtin}{argTypes:Array ao1}{ty:ao1}{uT:Array Bool}{args:List aoP}{args':Array aoP}(ha:LR ρ args args'.toList){out:bq}{l:List Nat}
 (hn:out.nw≠none→g n=none)(h:(CV P b argTypes ty uT args n).run g=some (out,l)):Fits P B w₀ ρ g n out ((builtin b argTypes ty uT args').run P w):=by
 unfold CV at h
 split at h
 ·rename_i hq
  simp only[ao3]at hq
  have:args'=args.toArray:=by apply aqI;simpa using ha.xk hq.2
  rw[this]
  exact oC hw h
 ·split at h
  ·exact U7 hw ha hn h
  ·exact Ve hw ha h
  ·exact Vj hw ha h
  ·exact Vi hw ha h
  ·exact Vl hw ha h
  ·cases h
theorem Vs(hP:iz P=true)(hw:WR P B w₀ ρ g w){c:Call}{e e':aqo→aoP}(he:∀x∈c.operands,VR ρ (e x) (e' x)){ty:ao1}{out:bq}{l:List Nat}
 (hn:out.nw≠none→g n=none)(h:(rk P c e ty n).run g=some (out,l)):Fits P B w₀ ρ g n out ((do let d ←resolve e' c ty;invoke d.target d.args:Sem aqV).run P w):=by
 have gZ:LR ρ (c.args.toList.map e) (c.args.map e').toList:=by
  rw[arK]
  exact LR.map _ _ _ fun x hx=>he x (by unfold ar6;exact arM.2 (.inr (aqy.1 hx)))
 unfold rk at h
 unfold resolve
 split at h
 ·rename_i b hb
  simp only[hb]
  rw[aoR,apA,aoQ]
  exact Vr hw gZ hn h
 ·rename_i recv name hb
  simp only[hb]
  rw[aoR,apA,aoQ]
  have hr:VR ρ (e recv) (e' recv):=he recv (by unfold ar6;rw[hb];simp)
  have:=KO (n:=n) hP hw hr gZ h
  have e2:(invoke (.fn (.method name) #[]) (#[e' recv]++c.args.map e')).run P w=(callMethod (e' recv) name (c.args.map e')).run P w:=by
   unfold invoke
   have h0:(#[e' recv]++c.args.map e')[0]?=some (e' recv):=by rw[ar7 (by simp)];rfl
   have h1:(#[e' recv]++c.args.map e').extract 1 (#[e' recv]++c.args.map e').size=c.args.map e':=by
    apply aqI
    simp[aq4,aq1]
    exact ap8 (by simp)
   simp only[h0,h1]
  rw[e2]
  exact this
 ·rename_i f hb
  simp only[hb]
  have hr:VR ρ (e f) (e' f):=he f (by unfold ar6;rw[hb];simp)
  unfold J5 at h
  split at h
  ·rename_i k first captured xD
   rw[xD]at hr
   obtain⟨f',c',h1,h2,h3⟩:=hr.xj
   rw[h1]
   simp only[atp]
   rw[aoR,apA,aoQ]
   simp only[invoke]
   refine KN hP hw ?_ h
   rw[aqM,aqM]
   exact(h2.append gZ).append h3
  ·rename_i name first captured xD
   rw[xD]at hr
   obtain⟨f',c',h1,h2,h3⟩:=hr.xj
   rw[h1]
   simp only[atp]
   rw[aoR,apA,aoQ]
   split at h
   ·rename_i recv rest KP
    have hl:=h2.append gZ
    rw[KP]at hl
    obtain⟨qx,rD,h4,h5,h6⟩:=hl.gG
    have m6:(f'++c.args.map e')=(qx::rD).toArray:=by apply aqI;rw[aqM,h4]
    have e2:(invoke (.fn (.method name) c') (f'++c.args.map e')).run P w=(callMethod qx name rD.toArray).run P w:=by
     rw[m6]
     unfold invoke
     have h0:(qx::rD).toArray[0]?=some qx:=by simp
     have h1:(qx::rD).toArray.extract 1 (qx::rD).toArray.size=rD.toArray:=by
      apply aqI
      simp[aq4,aq1]
     simp only[h0,h1]
    rw[e2]
    exact KO hP hw h5 (by simpa using h6) h
   ·cases h
  ·cases h
theorem Vt(hP:iz P=true)(hw:WR P B w₀ ρ g w){o:apS}{e e':aqo→aoP}(he:∀x∈o.op.operands,VR ρ (e x) (e' x)){out:bq}{l:List Nat}
 (hn:out.nw≠none→g n=none)(h:(ev P e n o).run g=some (out,l)):Fits P B w₀ ρ g n out ((execOp e' o).run P w):=by
 obtain⟨dst,op,type,pos,after,guard⟩:=o
 have KQ:∀{a:Array aqo},(∀x∈a,VR ρ (e x) (e' x))→LR ρ (a.toList.map e) (a.map e').toList:=fun{a} ha=>by
  rw[arK];exact LR.map _ _ _ fun x hx=>ha x (aqy.1 hx)
 cases op<;>simp only[ast]at he<;>simp only[ev,zq]at h<;>try(cases h;done)
 case move x=>exact Fits.dG hw h (he x (by simp))
 case assign x=>exact Fits.dG hw h (he x (by simp))
 case pick c a b=>exact Ul hw (he c (by simp)) (he a (by simp)) (he b (by simp)) h
 case alloc t=>exact Uf hw hn h
 case box t x=>exact Ug hw (he x (by simp)) hn h
 case build t parts=>
  refine UU hw ?_ h
  rw[arK]
  exact PR.map _ fun x hx=>he x.2 (by simp only[asz,aqv];exact⟨x,hx,rfl⟩)
 case buildSlice t len parts=>
  refine UX hw ?_ hn h
  rw[arK]
  exact PR.map _ fun x hx=>he x.2 (by simp only[asz,aqv];exact⟨x,hx,rfl⟩)
 case insert t m k x=>exact KJ hw (he m (by simp)) (he k (by simp)) (he x (by simp)) h
 case load t a=>exact Uh hw (he a (by simp)) h
 case store t a x=>exact Ui hw (he a (by simp)) (he x (by simp)) h
 case nilCheck x=>exact Um hw (he x (by simp)) h e' x rfl _ rfl
 case binOp op t x y yt=>exact Un hw (he x (by simp)) (he y (by simp)) h
 case unOp op t x=>exact Uo hw (he x (by simp)) h
 case convert src dst x=>exact UH hw (he x (by simp)) hn h
 case makeInterface t x=>exact Up hw (he x (by simp)) h
 case makeFunc fn first captured=>
  exact Uq hw (KQ fun x hx=>he x (arM.2 (.inl hx))) (KQ fun x hx=>he x (arM.2 (.inr hx))) h
 case makeMap t r=>
  have:=qt.map (ρ:=ρ) (e:=e) (e':=e') r fun y hy=>he y (by subst hy;simp)
  exact UL hw this.some_ this.none_ hn h
 case makeSlice t a b=>exact UN hw (he a (by simp)) (he b (by simp)) hn h
 case slice t x lo hi mx=>
  exact UY hw (he x (by simp)) (qt.map lo fun y hy=>he y (by subst hy;simp)) (qt.map hi fun y hy=>he y (by subst hy;simp)) (qt.map mx fun y hy=>he y (by subst hy;simp)) h
 case fieldAddr s x i=>exact Uu hw (he x (by simp)) i h
 case field s x i=>exact Uv hw (he x (by simp)) i h
 case indexAddr t x i=>exact Kk hw (he x (by simp)) (he i (by simp)) h
 case index t x i=>exact Uw hw (he x (by simp)) (he i (by simp)) h
 case lookup t x k ok=>exact Vh hw (he x (by simp)) (he k (by simp)) ok h
 case mapUpdate t m k x=>exact KJ hw (he m (by simp)) (he k (by simp)) (he x (by simp)) h
 case typeAssert x xt at_ ok=>exact Us hw (he x (by simp)) xt at_ ok h
 case extract t i=>exact Ur hw (he t (by simp)) i h
 case call c=>exact Vs hP hw he hn h
 case panic x=>exact Ut hw (he x (by simp)) h
end
end Go.Proofs.YtnlkkgpcikkpoaaGreat.Vm
namespace Go.Proofs.YtnlkkgpcikkpoaaGreat.Vm
open Go.RowKit
abbrev FF(r:Option Nat):Fence:={Fence.wide with round:=r}
inductive qy(ρ:Ren)(base:List aqx):List (apr×List aoP)→List aqx→Prop where
 |nil:qy ρ base [] base
 |cons {k:apr} {vs:List aoP} {cap args:Array aoP} {ds:List (apr×List aoP)} {l:List aqx} (h:LR ρ vs (args++cap).toList) (t:qy ρ base ds l):
  qy ρ base ((k,vs)::ds) ({target:=.fn (.func k) cap,args:=args}::l)
theorem qy.mono{ρ ρ':Ren}(hl:ρ.le ρ'){base:List aqx}{ds:List (apr×List aoP)}{l:List aqx}(h:qy ρ base ds l):qy ρ' base ds l:=by
 induction h with
 |nil=>exact .nil
 |cons h t ih=>exact .cons (h.mono hl) ih
structure FR(ρ:Ren)(t:Fr)(a:Act):Prop where
 size:a.tmps.size=t.n
 small:t.n≤1024
 at_:∀i,VR ρ (t.at i) (a.tmps.getD i undef)
 defers:qy ρ t.base t.ds a.defers
theorem FR.mono{ρ ρ':Ren}(hl:ρ.le ρ'){t:Fr}{a:Act}(h:FR ρ t a):FR ρ' t a:=⟨h.size,h.small,fun i=>(h.at_ i).mono hl,h.defers.mono hl⟩
theorem FR.rH{ρ:Ren}{t:Fr}{a:Act}(h:FR ρ t a)(h1:t.ds=[]):a.defers=t.base:=by
 have key:∀{ds:List (apr×List aoP)} {l:List aqx},qy ρ t.base ds l→ds=[]→l=t.base:=by
  intro ds l hd e
  cases hd with
  |nil=>rfl
  |cons=>cases e
 exact key h.defers h1
theorem FR.eval{ρ:Ren}{t:Fr}{a:Act}(h:FR ρ t a){x:aqo}(hx:pd x=true):VR ρ (bR t x) (a.eval x):=by
 cases x with
 |tmp i=>exact h.at_ i
 |const v=>exact nH hx
 |global g=>cases hx
 |func f=>exact .func _ _ _ _ _ rfl rfl (fun i v v' h=>by simp at h) rfl (fun i v v' h=>by simp at h)
theorem dV{a b:Nat}:ao9 a b=true↔a<b:=by
 unfold ao9
 rw[auz]
 omega
theorem FR.put{ρ:Ren}{t t1:Fr}{a:Act}(h:FR ρ t a){d:Option Tmp}{v v':aoP}(hv:VR ρ v v')(hp:Vm.put t d v=some t1):FR ρ t1 (a.put d v'):=by
 unfold Vm.put at hp
 unfold Act.put
 cases d with
 |none=>cases hp;exact h
 |some d=>
  simp only[Fr.rf]at hp
  split at hp
  ·rename_i hlt
   have hlt:=dV.1 hlt
   cases hp
   refine⟨by simpa using h.size,h.small,fun j=>?_,h.defers⟩
   have hj:=h.at_ j
   unfold Fr.at at hj⊢
   dsimp only at hj⊢
   by_cases zY:j<t.n
   ·rw[dV.2 zY]at hj⊢
    dsimp only at hj⊢
    have bP:(2:Nat)^10=1024:=rfl
    rw[Tr.xe 10 _ _ _ _ (by have:=h.small;omega) (by have:=h.small;omega)]
    by_cases DV:j=d
    ·subst DV
     rw[if_pos rfl]
     have zZ:j<a.tmps.size:=by rw[h.size];exact zY
     simp only[apx,aqu,zZ,if_true,aqG]
     exact hv
    ·rw[if_neg DV]
     rw[apx,aqp (Ne.symm DV),←apx]
     exact hj
   ·have hb:ao9 j t.n=false:=by cases hb:ao9 j t.n with
     |false=>rfl
     |true=>exact absurd (dV.1 hb) zY
    rw[hb]
    dsimp only
    have zZ:¬j<a.tmps.size:=by rw[h.size];exact zY
    rw[apx,arW (by simp;omega)]
    exact VR.undef ρ
  ·cases hp
theorem Vu{ρ:Ren}{t:Fr}{a:Act}(h:FR ρ t a)(ops:Array apS):lB ops.toList t=yielded ops a.tmps:=by
 funext j
 unfold lB yielded
 rw[aqA]
 cases hd:(ops[j]?).bind (·.dst)with
 |none=>rfl
 |some d=>
  dsimp only[Option.bind_some]
  have hv:=h.at_ d
  rw[apx]at hv
  cases hc:a.tmps[d]?with
  |none=>
   rw[hc]at hv
   have hu:∀b,t.at d≠ .bool b:=by
    intro b e
    rw[e]at hv
    have:=hv.uW
    cases this
   split
   ·rename_i b e;exact absurd e (hu b)
   ·rfl
  |some u=>
   rw[hc]at hv
   simp only[aqG]at hv
   split
   ·rename_i b e
    rw[e]at hv
    rw[hv.uW]
   ·rename_i bu
    split
    ·rename_i b e
     simp only[aoU]at e
     subst e
     generalize hx:t.at d=x at hv bu
     cases hv
     exact absurd rfl (bu b)
    ·rfl
structure dP(S S':VS):Prop where
 rd:∀x,x∈S.rd→x∈S'.rd
 wr:∀x,x∈S.wr→x∈S'.wr
 frame:∀x,x∉S'.wr→gt S'.mem x=gt S.mem x
 sm:(∀x,(x∈S.rd∨x∈S.wr)→small x=true)→∀x,(x∈S'.rd∨x∈S'.wr)→small x=true
theorem dP.refl(S:VS):dP S S:=⟨fun _ h=>h,fun _ h=>h,fun _ _=>rfl,fun h=>h⟩
theorem dP.trans{a b c:VS}(h:dP a b)(k:dP b c):dP a c:=
 ⟨fun x hx=>k.rd x (h.rd x hx),fun x hx=>k.wr x (h.wr x hx),fun x hx=>(k.frame x hx).trans (h.frame x fun hh=>hx (k.wr x hh)),fun hs=>k.sm (h.sm hs)⟩
def fI(S S':VS)(m:Nat→Option ak):Prop:=∀x,(x∈S'.rd∨x∈S'.wr)→m x=gt S.mem x
def post(m:Nat→Option ak)(S':VS):Nat→Option ak:=fun x=>if x∈S'.wr then gt S'.mem x else m x
theorem fI.first{S S1 S2:VS}{m:Nat→Option ak}(h:fI S S2 m)(e:dP S1 S2):fI S S1 m:=
 fun x hx=>h x (hx.imp (e.rd x) (e.wr x))
theorem fI.next{S S1 S2:VS}{m:Nat→Option ak}(h:fI S S2 m)(e1:dP S S1):fI S1 S2 (post m S1):=by
 intro x hx
 unfold post
 by_cases hw:x∈S1.wr
 ·rw[if_pos hw]
 ·rw[if_neg hw,h x hx,e1.frame x hw]
theorem oG{m:Nat→Option ak}{S1 S2:VS}(e:dP S1 S2):post (post m S1) S2=post m S2:=by
 funext x
 unfold post
 by_cases h2:x∈S2.wr
 ·rw[if_pos h2,if_pos h2]
 ·rw[if_neg h2,if_neg h2,if_neg fun h=>h2 (e.wr x h)]
theorem oH{m:Nat→Option ak}{S:VS}(h:fI S S m):post m S=m:=by
 funext x
 unfold post
 by_cases hw:x∈S.wr
 ·rw[if_pos hw,h x (.inr hw)]
 ·rw[if_neg hw]
abbrev oI(g:Nat→Option ak)(ws:List (Nat×ak)):Nat→Option ak:=ws.foldl (fun g (p:Nat×ak)=>cT g p.1 p.2) g
abbrev iB(S:VS)(ws:List (Nat×ak)):VS:=ws.foldl (fun(S:VS) (p:Nat×ak)=>{S with mem:=S.mem.set 18 p.1 p.2,wr:=p.1::S.wr}) S
theorem qz:∀{ws:List (Nat×ak)} {g:Nat→Option ak} {x:Nat},(∀p∈ws,p.1≠x)→oI g ws x=g x
 | [],g,x,_=>rfl
 |p::ws,g,x,h=>by
  show oI (cT g p.1 p.2) ws x=g x
  rw[qz fun q hq=>h q (by simp[hq]),ec _ (Ne.symm (h p (by simp)))]
theorem DW:∀{ws:List (Nat×ak)} {g g':Nat→Option ak} {x:Nat},(∃p∈ws,p.1=x)→oI g ws x=oI g' ws x
 | [],g,g',x,h=>by obtain⟨p,hp,_⟩:=h;cases hp
 |p::ws,g,g',x,h=>by
  show oI (cT g p.1 p.2) ws x=oI (cT g' p.1 p.2) ws x
  by_cases hr:∃q∈ws,q.1=x
  ·exact DW hr
  ·have hn:∀q∈ws,q.1≠x:=fun q hq e=>hr ⟨q,hq,e⟩
   rw[qz hn,qz hn]
   obtain⟨q,hq,e⟩:=h
   rcases ao8.1 hq with rfl|hq
   ·subst e;rw[fh,fh]
   ·exact absurd e (hn q hq)
theorem KR:∀{ws:List (Nat×ak)} {S:VS},(∀p∈ws,small p.1=true)→
 gt (iB S ws).mem=oI (gt S.mem) ws∧(iB S ws).rd=S.rd∧(iB S ws).next=S.next∧∀x,x∈(iB S ws).wr↔(∃p∈ws,p.1=x)∨x∈S.wr
 | [],S,_=>⟨rfl,rfl,rfl,fun x=>by simp⟩
 |p::ws,S,h=>by
  obtain⟨h1,h2,h3,h4⟩:=KR (ws:=ws) (S:={S with mem:=S.mem.set 18 p.1 p.2,wr:=p.1::S.wr}) fun q hq=>h q (by simp[hq])
  refine⟨?_,h2,h3,fun x=>?_⟩
  ·show gt (iB _ ws).mem=oI (cT (gt S.mem) p.1 p.2) ws
   rw[h1,←xf (h p (by simp))]
  ·show x∈(iB _ ws).wr↔_
   rw[h4 x]
   simp only[ao8]
   constructor
   ·rintro(⟨q,hq,e⟩|rfl|hx)
    ·exact .inl ⟨q,.inr hq,e⟩
    ·exact .inl ⟨p,.inl rfl,rfl⟩
    ·exact .inr hx
   ·rintro(⟨q,rfl|hq,e⟩|hx)
    ·exact .inr (.inl e.symm)
    ·exact .inl ⟨q,hq,e⟩
    ·exact .inr (.inr hx)
theorem KS{S S1:VS}{l:List Nat}{out:bq}{r:j3}(hl:∀x∈l,∃o,gt S.mem x=some o)(h:zr S l out=some (r,S1)):
 dP S S1∧r=out.r∧(out.nw≠none→gt S.mem S.next=none∧S.next∈S1.wr)∧(∀x∈l,x∈S1.rd)∧∀m,fI S S1 m→post m S1=uZ m S.next out:=by
 unfold zr at h
 dsimp only at h
 split at h
 ·cases h
 ·rename_i kE
  have eE:∀p∈out.ws,small p.1=true:=by
   intro p hp
   have:=aps.1 kE p hp
   obtain⟨o,ho⟩:=hl p.1 (by simpa using this)
   exact po ho
  obtain⟨h1,h2,h3,h4⟩:=KR (ws:=out.ws) (S:={S with rd:=l++S.rd}) eE
  split at h
  ·rename_i oJ
   simp only[aoU,aoX]at h
   obtain⟨rfl,rfl⟩:=h
   refine⟨⟨fun x hx=>?_,fun x hx=>?_,fun x hx=>?_,fun hS x hx=>?_⟩,rfl,fun bu=>absurd oJ bu,fun x hx=>?_,fun m hm=>?_⟩
   ·show x∈(iB _ out.ws).rd;rw[h2];simp[hx]
   ·exact(h4 x).2 (.inr hx)
   ·show gt (iB _ out.ws).mem x=_
    rw[h1,qz fun p hp e=>hx ((h4 x).2 (.inl ⟨p,hp,e⟩))]
   ·rcases hx with hx|hx
    ·have hx:x∈(iB {S with rd:=l++S.rd} out.ws).rd:=hx
     rw[h2]at hx
     rcases apo.1 hx with hx|hx
     ·obtain⟨o,ho⟩:=hl x hx;exact po ho
     ·exact hS x (.inl hx)
    ·rcases(h4 x).1 hx with⟨p,hp,rfl⟩|hx
     ·exact eE p hp
     ·exact hS x (.inr hx)
   ·show x∈(iB _ out.ws).rd;rw[h2];simp[hx]
   ·funext x
    unfold post uZ
    rw[oJ]
    show(if x∈(iB _ out.ws).wr then gt (iB _ out.ws).mem x else m x)=oI m out.ws x
    by_cases hx:∃p∈out.ws,p.1=x
    ·rw[if_pos ((h4 x).2 (.inl hx)),h1]
     exact DW hx
    ·have hn:∀p∈out.ws,p.1≠x:=fun p hp e=>hx ⟨p,hp,e⟩
     rw[qz hn]
     by_cases hw:x∈(iB {S with rd:=l++S.rd} out.ws).wr
     ·rw[if_pos hw,h1,qz hn]
      exact(hm x (.inr hw)).symm
     ·rw[if_neg hw]
  ·rename_i o oJ
   split at h
   ·rename_i hs pA
    simp only[aoU,aoX]at h
    obtain⟨rfl,rfl⟩:=h
    have g9:gt ((iB {S with rd:=l++S.rd} out.ws).mem.set 18 S.next o)=cT (oI (gt S.mem) out.ws) S.next o:=by rw[xf hs,h1]
    refine⟨⟨fun x hx=>?_,fun x hx=>?_,fun x hx=>?_,fun hS x hx=>?_⟩,rfl,fun _=>⟨pA,by simp⟩,fun x hx=>?_,fun m hm=>?_⟩
    ·show x∈(iB _ out.ws).rd;rw[h2];simp[hx]
    ·show x∈S.next::(iB _ out.ws).wr
     exact apc _ ((h4 x).2 (.inr hx))
    rotate_left
    ·rcases hx with hx|hx
     ·have hx:x∈(iB {S with rd:=l++S.rd} out.ws).rd:=hx
      rw[h2]at hx
      rcases apo.1 hx with hx|hx
      ·obtain⟨o,ho⟩:=hl x hx;exact po ho
      ·exact hS x (.inl hx)
     ·have hx:x∈S.next::(iB {S with rd:=l++S.rd} out.ws).wr:=hx
      rcases ao8.1 hx with rfl|hx
      ·exact hs
      ·rcases(h4 x).1 hx with⟨p,hp,rfl⟩|hx
       ·exact eE p hp
       ·exact hS x (.inr hx)
    rotate_left
    rotate_left
    ·have gy:x∉S.next::(iB {S with rd:=l++S.rd} out.ws).wr:=hx
     simp only[ao8,not_or]at gy
     show gt ((iB {S with rd:=l++S.rd} out.ws).mem.set 18 S.next o) x=_
     rw[g9,ec _ gy.1,qz fun p hp e=>gy.2 ((h4 x).2 (.inl ⟨p,hp,e⟩))]
    ·show x∈(iB _ out.ws).rd;rw[h2];simp[hx]
    ·funext x
     unfold post uZ
     rw[oJ]
     show(if x∈S.next::(iB _ out.ws).wr then gt ((iB {S with rd:=l++S.rd} out.ws).mem.set 18 S.next o) x else m x)=cT (oI m out.ws) S.next o x
     rw[g9]
     by_cases DX:x=S.next
     ·subst DX
      rw[if_pos (by simp),fh,fh]
     ·rw[ec _ DX,ec _ DX]
      by_cases hx:∃p∈out.ws,p.1=x
      ·rw[if_pos (apc _ ((h4 x).2 (.inl hx)))]
       exact DW hx
      ·have hn:∀p∈out.ws,p.1≠x:=fun p hp e=>hx ⟨p,hp,e⟩
       rw[qz hn,qz hn]
       by_cases hw:x∈S.next::(iB {S with rd:=l++S.rd} out.ws).wr
       ·rw[if_pos hw]
        exact(hm x (.inr hw)).symm
       ·rw[if_neg hw]
   ·cases h
section
variable {P:ao7} {B:Nat→Prop} {w₀:ao4}
theorem Vv{t:Fr}{S S1:VS}{o:apS}{r:j3}(h:nG P t S o=some (r,S1)):dP S S1:=by
 unfold nG at h
 split at h
 ·cases h
 ·split at h
  ·cases h
  ·rename_i out l mu
   exact(KS (fun x hx=>Rd.zz mu x hx) h).1
theorem Vw(hP:iz P=true){ρ:Ren}{m:Nat→Option ak}{w:ao4}{t:Fr}{a:Act}{S S1:VS}{o:apS}{r:j3}(h:nG P t S o=some (r,S1))
 (ht:FR ρ t a)(hw:WR P B w₀ ρ m w)(hm:fI S S1 m):∃ρ' w',ρ.le ρ'∧RR ρ' r ((execOp a.eval o).run P w) w'∧WR P B w₀ ρ' (post m S1) w':=by
 unfold nG at h
 split at h
 ·cases h
 ·rename_i mv
  split at h
  ·cases h
  ·rename_i out l mu
   obtain⟨h1,rfl,h3,h4,h5⟩:=KS (fun x hx=>Rd.zz mu x hx) h
   have Vx:(ev P (bR t) S.next o).run m=some (out,l):=Rd.zy mu fun x hx=>hm x (.inl (h4 x hx))
   obtain⟨ρ',w',h6,h7,h8⟩:=(Vt hP hw (e':=a.eval) (fun x hx=>ht.eval (aps.1 mv x (aqy.2 hx)))
    (fun bu=>by obtain⟨h9,bP⟩:=h3 bu;rw[hm _ (.inr bP),h9]) Vx).ex
   exact⟨ρ',w',h6,h7,by rw[h5 m hm];exact h8⟩
theorem xE:∀{l:List ak} {S S1:VS},rp l S=some S1→dP S S1∧S1.rd=S.rd∧(∀j,j<l.length→gt S.mem (S.next+j)=none∧S.next+j∈S1.wr)∧∀m,fI S S1 m→post m S1=iP m S.next l
 | [],S,S1,h=>by
  simp only[rp,aoU]at h
  subst h
  exact⟨dP.refl S,rfl,fun j hj=>absurd hj (by simp),fun m hm=>oH hm⟩
 |o::l,S,S1,h=>by
  unfold rp at h
  split at h
  ·rename_i hs hn
   obtain⟨h1,h2,h3,h4⟩:=xE h
   have g9:gt (S.mem.set 18 S.next o)=cT (gt S.mem) S.next o:=xf hs
   have e1:dP S {S with mem:=S.mem.set 18 S.next o,next:=S.next+1,wr:=S.next::S.wr}:=by
    refine⟨fun x hx=>hx,fun x hx=>apc _ hx,fun x hx=>?_,fun hS x hx=>?_⟩
    ·show gt (S.mem.set 18 S.next o) x=_
     rw[g9,ec _ fun e=>hx (by rw[e];exact ape)]
    ·rcases hx with hx|hx
     ·exact hS x (.inl hx)
     ·rcases ao8.1 hx with rfl|hx
      ·exact hs
      ·exact hS x (.inr hx)
   have fq:S.next∈S1.wr:=h1.wr _ ape
   refine⟨e1.trans h1,h2,fun j hj=>?_,fun m hm=>?_⟩
   ·cases j with
    |zero=>exact⟨hn,fq⟩
    |succ j=>
     obtain⟨h5,h6⟩:=h3 j (by simpa using hj)
     dsimp only at h5 h6
     rw[g9,ec _ (by omega)]at h5
     rw[show S.next+(j+1)=S.next+1+j by omega]
     exact⟨h5,h6⟩
   ·have cy:fI {S with mem:=S.mem.set 18 S.next o,next:=S.next+1,wr:=S.next::S.wr} S1 (cT m S.next o):=by
     intro x hx
     show cT m S.next o x=gt (S.mem.set 18 S.next o) x
     rw[g9]
     by_cases e:x=S.next
     ·subst e;rw[fh,fh]
     ·rw[ec _ e,ec _ e];exact hm x hx
    show post m S1=iP (cT m S.next o) (S.next+1) l
    rw[←h4 _ cy]
    funext x
    unfold post
    by_cases hx:x∈S1.wr
    ·rw[if_pos hx,if_pos hx]
    ·rw[if_neg hx,if_neg hx,ec _ fun e=>hx (by rw[e];exact fq)]
  ·cases h
theorem KT{t:Fr}{S:VS}{o:apS}{V:View}(h:lz P t S o=some V):
 ∃ty x i cap,o.op=.indexAddr ty x i∧bR t x=.slice (some ⟨V.b,0,none⟩) V.len cap∧gt S.mem V.b=some (.rows V.n V.size V.row)∧P.underlying ty=some (.slice V.el)∧b7 P V.el=some V.size∧V.i=bR t i:=by
 unfold lz at h
 split at h
 ·rename_i ty x i cX
  split at h
  ·rename_i b off len cap hx
   split at h
   ·rename_i n size row hb
    split at h
    ·split at h
     ·rename_i el hu
      split at h
      ·rename_i s hs
       split at h
       ·rename_i vg
        have vg:=apa vg
        subst vg
        cases h
        exact⟨ty,x,i,cap,cX,hx,hb,hu,hs,rfl⟩
       ·cases h
      ·cases h
     ·cases h
    ·cases h
   ·cases h
  ·cases h
 ·cases h
theorem KU{S S1:VS}{b:Nat}{el:ao1}{l:List SV}{r:j3}(h:xa S b el l=some (r,S1)):
 r=.val (.pointer (some ⟨S.next+kV l,0,none⟩))∧rp (gF l++[.cells (ml l S.next) el true]) {S with rd:=b::S.rd}=some S1:=by
 unfold xa at h
 split at h
 ·rename_i S2 hl
  simp only[aoU,aoX]at h
  obtain⟨rfl,rfl⟩:=h
  exact⟨rfl,hl⟩
 ·cases h
theorem Vy{S S1:VS}{b:Nat}{o:ak}(hb:gt S.mem b=some o)(h:dP {S with rd:=b::S.rd} S1):dP S S1:=by
 refine dP.trans (b:={S with rd:=b::S.rd}) ⟨fun x hx=>apc _ hx,fun x hx=>hx,fun x hx=>rfl,fun hS x hx=>?_⟩ h
 rcases hx with hx|hx
 ·rcases ao8.1 hx with rfl|hx
  ·exact po hb
  ·exact hS x (.inl hx)
 ·exact hS x (.inr hx)
theorem KV{t:Fr}{S S1:VS}{o:apS}{r:j3}{V:View}(hV:lz P t S o=some V)(h:jt P t S o=some (r,S1)):
 o.op.operands.toList.all pd=true∧∃k,pe V.i=some k∧k<V.n∧k<V.len∧xa S V.b V.el (V.row k)=some (r,S1):=by
 unfold jt at h
 rw[hV]at h
 dsimp only at h
 split at h
 ·rename_i k mv hk
  split at h
  ·rename_i hlt
   simp only[ao3,dV]at hlt
   exact⟨mv,k,hk,hlt.1,hlt.2,h⟩
  ·cases h
 ·cases h
theorem KW{t:Fr}{S:VS}{o:apS}(hV:lz P t S o=none):jt P t S o=nG P t S o:=by
 unfold jt
 rw[hV]
theorem xF{t:Fr}{S S1:VS}{o:apS}{r:j3}(h:jt P t S o=some (r,S1)):dP S S1:=by
 cases hV:lz P t S o with
 |none=>rw[KW hV]at h;exact Vv h
 |some V=>
  obtain⟨_,k,_,_,_,h⟩:=KV hV h
  obtain⟨ty,x,i,cap,_,_,hb,_⟩:=KT hV
  exact Vy hb (xE (KU h).2).1
theorem vh(hP:iz P=true){ρ:Ren}{m:Nat→Option ak}{w:ao4}{t:Fr}{a:Act}{S S1:VS}{o:apS}{r:j3}(h:jt P t S o=some (r,S1))
 (ht:FR ρ t a)(hw:WR P B w₀ ρ m w)(hm:fI S S1 m):∃ρ' w',ρ.le ρ'∧RR ρ' r ((execOp a.eval o).run P w) w'∧WR P B w₀ ρ' (post m S1) w':=by
 cases hV:lz P t S o with
 |none=>rw[KW hV]at h;exact Vw hP h ht hw hm
 |some V=>
  have anb:=xF h
  obtain⟨mv,k,hk,jL,xG,h⟩:=KV hV h
  obtain⟨ty,x,i,cap,cX,hx,hb,hu,hs,hi⟩:=KT hV
  obtain⟨hr,hl⟩:=KU h
  obtain⟨he,fX,cB,tw⟩:=xE hl
  have Vz:m V.b=some (.rows V.n V.size V.row):=by
   rw[hm V.b (.inl (by rw[fX];exact ape)),hb]
  have De:fI {S with rd:=V.b::S.rd} S1 m:=hm
  have tw:=tw m De
  obtain⟨rr,DY,cn⟩:=hw.rows _ _ _ _ Vz
  have cn:=cn (by omega)
  obtain⟨c',b8,fr,h1,h2,h3,h4⟩:=cn.at_
  obtain⟨h5,h6⟩:=h4 k jL
  have VA:w.heap[rr.aN]?=some (.cells c' b8 fr):=(hw.below.block _ cn.aN).trans h1
  have hmul:k*V.size+V.size≤V.n*V.size:=by
   have:=arD V.size jL
   rw[Nat.succ_mul]at this
   exact this
  let l':List aoP:=(c'.toList.drop (rr.sh+k*V.size)).take V.size
  have KX:l'.length=V.size:=by simp[l'];omega
  have DZ:gv P w₀ B (V.row k) l':=⟨by rw[h5,KX],fun j s v hj hv=>by
   obtain⟨v',a1,a2⟩:=h6 j s hj
   have:l'[j]?=some v':=by
    show((c'.toList.drop (rr.sh+k*V.size)).take V.size)[j]?=_
    have zZ:j<V.size:=by rw[←h5];exact(ao0.1 hj).1
    rw[ap9,if_pos zZ,aqb]
    simpa using a1
   rw[this]at hv
   cases hv
   exact a2⟩
  have z1:∀j,j<(gF (V.row k)++[ak.cells (ml (V.row k) S.next) V.el true]).length→m (S.next+j)=none:=fun j hj=>by
   obtain⟨a1,a2⟩:=cB j hj
   rw[hm _ (.inr a2)]
   exact a1
  obtain⟨ρ1,g1,g2,g3⟩:=xx (k:=S.next) DZ hw fun j hj=>z1 j (by rw[ao5,rC];omega)
  have D1:iP m S.next (gF (V.row k)) (S.next+kV (V.row k))=none:=by
   rw[zO (.inr (by rw[rC];exact apn _))]
   exact z1 _ (by rw[ao5,rC];simp)
  let R:bT:=⟨rr.aN,rr.sh+k*V.size,V.size,c'.size⟩
  have g4:=g2.Ku (r:=R) D1 (c:=ml (V.row k) S.next) (el:=V.el) (fun q hq=>by rw[hs]at hq;cases hq;rfl) fun bu=>
   ⟨cn.aN,c',b8,fr,VA,rfl,by show rr.sh+k*V.size+_≤c'.size;rw[g3.len,KX];omega,fun j v hv=>by
    obtain⟨v',b1,b2⟩:=g3.get hv
    refine⟨v',?_,b2.mono (Ren.j6 (g2.fresh _ D1) _)⟩
    have b1:((c'.toList.drop (rr.sh+k*V.size)).take V.size)[j]?=some v':=b1
    rw[ap9]at b1
    split at b1
    ·rw[aqb]at b1
     simpa using b1
    ·cases b1⟩
  refine⟨_,w,Ren.le_trans g1 (Ren.j6 (g2.fresh _ D1) R),?_,?_⟩
  ·-- the model's own index
   have z2:VR ρ (.slice (some ⟨V.b,0,none⟩) V.len cap) (a.eval x):=by
    rw[←hx]
    exact ht.eval (aps.1 mv x (by rw[cX];simp[ast]))
   have D2:VR ρ (bR t i) (a.eval i):=ht.eval (aps.1 mv i (by rw[cX];simp[ast]))
   have iC:(tb P ty (.slice (some ⟨V.b,0,none⟩) V.len cap) (bR t i)).run m=some (⟨.val (.pointer (some ⟨V.b,0+k*V.size,none⟩)),[],none⟩,[]):=by
    unfold tb
    rw[hu]
    rw[hi]at hk
    simp only[hu,hk,hs,dV.2 xG]
    rfl
   obtain⟨ρ2,w2,f1,f2,f3⟩:=(Kk (n:=0) hw z2 D2 iC).ex
   obtain⟨dst,op,type,pos,after,guard⟩:=o
   dsimp only at cX
   subst cX
   subst hr
   generalize qA:(arl P (do let v ←arA ty (a.eval x) (a.eval i);pure (ap4 v):Sem aqV) w)=oB at f2
   cases f2 with
   |val _ v' _ hv=>
    have dK:w2=w:=by
     generalize anc:a.eval x=ax at z2 qA
     generalize DF:V.len=vl at z2 xG
     cases z2 with
     |bM _ h=>cases h
     |eD=>omega
     |sl _ _ _ _ bI r vi hc=>
      rw[hi]at hk
      obtain⟨ik,jw⟩:=pu hk
      rw[jw]at D2
      rw[D2.jG]at qA
      have:(arA ty (.slice (some ⟨r.aN,r.sh+0,none⟩) vl bI) (.int ik k)).run P w=.ok (.pointer (some ⟨r.aN,r.sh+0+k*V.size,none⟩)) w:=by
       unfold arA
       simp only[asIntOf,aoR,apA,aoQ,run_underlying hu,Instr.sureAddr]
       rw[if_pos ⟨by omega,by omega⟩]
       simp only[aoR,run_sizeOf hs,aoQ,apA,pr,Int.toNat_natCast]
      rw[aoR,this]at qA
      cases qA
      rfl
    subst dK
    obtain⟨r,eL,rfl⟩:=hv.ky
    rw[f1 _ _ DY]at eL
    cases eL
    have e:(execOp a.eval {dst,op:=Op.indexAddr ty x i,type,pos,after,guard}).run P w2=.ok (.value (.pointer (some ⟨rr.aN,rr.sh+(0+k*V.size),none⟩))) w2:=qA
    rw[e]
    refine .val _ _ _ ?_
    have:=VR.ptr (ρ:=ρ1.put (S.next+kV (V.row k)) R) (S.next+kV (V.row k)) 0 R (Ren.kC _ _ _)
    simpa[R]using this
  ·have:post m S1=cT (iP m S.next (gF (V.row k))) (S.next+kV (V.row k)) (.cells (ml (V.row k) S.next) V.el true):=by
    rw[tw]
    show iP m S.next _=_
    rw[Kv,rC]
    rfl
   rw[this]
   exact g4
def CR(ρ:Ren):bO→atr→Prop
 | .ret v,.returned v'=>VR ρ v v'
 | .panic v,.panicked chain=>∃v',chain=[{v:=v',recovered:=false}]∧VR ρ v v'
 |_,_=>False
structure hI(P:ao7)(call:cL):Prop where
 ext:∀{f:apr} {args:List aoP} {S:VS} {r:bO} {S':VS},call f args S=some (r,S')→dP S S'
 ok:∀{f:apr} {args:List aoP} {S:VS} {r:bO} {S':VS},call f args S=some (r,S')→∀{B:Nat→Prop} {w₀:ao4} {ρ:Ren} {m:Nat→Option ak} {w:ao4} {args':Array aoP},
  LR ρ args args'.toList→WR P B w₀ ρ m w→fI S S' m→Calls P f args' w fun e w'=>∃ρ',ρ.le ρ'∧CR ρ' r e∧WR P B w₀ ρ' (post m S') w'
theorem xH{call:cL}(hc:hI P call){ops:List apS}{o:apS}{t t1:Fr}{S S1:VS}{oB:Option aoP}(h:kv P call ops o t S=some (oB,t1,S1)):dP S S1:=by
 unfold kv at h
 split at h
 ·simp only[apX,aoX]at h
  obtain⟨_,_,_,_,rfl⟩:=h
  exact dP.refl S
 ·split at h
  ·cases h
  ·rename_i r S2 hs
   have e:=xF hs
   split at h
   ·simp only[apX,aoX]at h
    obtain⟨_,_,_,_,rfl⟩:=h
    exact e
   ·simp only[apX,aoX]at h
    obtain⟨_,_,_,_,rfl⟩:=h
    exact e
   ·simp only[aoU,aoX]at h
    obtain⟨_,_,rfl⟩:=h
    exact e
   ·cases h
   ·split at h
    ·cases h
    ·rename_i v S3 eh
     simp only[apX,aoX]at h
     obtain⟨_,_,_,_,rfl⟩:=h
     exact e.trans (hc.ext eh)
    ·rename_i v S3 eh
     simp only[aoU,aoX]at h
     obtain⟨_,_,rfl⟩:=h
     exact e.trans (hc.ext eh)
theorem KY{r:Option Nat}{n:Nat}{f:apr}{args:Array aoP}{w:ao4}{R:atr→ao4→Prop}(h:Calls P f args w R):CallsIn (FF r) n P f args w R:=(callsIn_wide (n:=n)).2 h
theorem VB{t:Fr}{S:VS}{o:apS}{q:j3×VS}(h:jt P t S o=some q):∀c,o.op≠ .defer c:=by
 intro c hc
 unfold jt lz at h
 rw[hc]at h
 simp only at h
 unfold nG ev zq at h
 rw[hc]at h
 simp only[Rd.run]at h
 split at h<;>cases h
theorem D3(hP:iz P=true){call:cL}(hc:hI P call){ops:Array apS}{i:Nat}{o:apS}(ho:ops[i]?=some o){t t1:Fr}{S S1:VS}{oB:Option aoP}
 (h:kv P call ops.toList o t S=some (oB,t1,S1)){ρ:Ren}{m:Nat→Option ak}{w:ao4}{a:Act}(ht:FR ρ t a)(hw:WR P B w₀ ρ m w)(hm:fI S S1 m)
 {r:Option Nat}{K:Act→ao4→Prop}{Q:arc→Act→ao4→Prop}
 (hK:oB=none→∀(ρ':Ren) (a':Act) (w':ao4),ρ.le ρ'→FR ρ' t1 a'→(∃v,a'=a.put o.dst v)→WR P B w₀ ρ' (post m S1) w'→K a' w')
 (hQ:∀v,oB=some v→∀(ρ':Ren) (v':aoP) (w':ao4),ρ.le ρ'→VR ρ' v v'→FR ρ' t1 a→WR P B w₀ ρ' (post m S1) w'→Q (.panic [{v:=v',recovered:=false}]) a w'):
 wpOpIn (FF r) 0 P ops Q i K a w:=by
 unfold wpOpIn
 simp only[ho]
 unfold kv at h
 rw[Vu ht]at h
 split at h
 ·rename_i D4
  simp only[apX,aoX]at h
  obtain⟨t2,hp,rfl,rfl,rfl⟩:=h
  simp only[D4,apT,if_false]
  have tw:post m S=m:=oH hm
  exact⟨fun _ _=>trivial,hK rfl ρ _ w (Ren.le_refl ρ) (ht.put (VR.undef ρ) hp) ⟨_,rfl⟩ (by rw[tw];exact hw)⟩
 ·rename_i D4
  simp only[D4,if_true]
  unfold avw
  refine⟨fun _ _=>trivial,?_⟩
  split at h
  ·cases h
  ·rename_i r S2 hs
   rw[Oper.semAt_eq _ _ _ (VB hs)]
   have e:=xF hs
   split at h
   ·rename_i v
    simp only[apX,aoX]at h
    obtain⟨t2,hp,rfl,rfl,rfl⟩:=h
    obtain⟨ρ',w',h1,h2,h3⟩:=vh hP hs ht hw hm
    generalize(execOp a.eval o).run P w=q at h2
    cases h2 with
    |val _ v' _ hv=>exact hK rfl ρ' _ w' h1 ((ht.mono h1).put hv hp) ⟨_,rfl⟩ h3
   ·simp only[apX,aoX]at h
    obtain⟨t2,hp,rfl,rfl,rfl⟩:=h
    obtain⟨ρ',w',h1,h2,h3⟩:=vh hP hs ht hw hm
    generalize(execOp a.eval o).run P w=q at h2
    cases h2 with
    |skip=>exact hK rfl ρ' _ w' h1 ((ht.mono h1).put (VR.undef ρ') hp) ⟨_,rfl⟩ h3
   ·rename_i v
    simp only[aoU,aoX]at h
    obtain⟨rfl,rfl,rfl⟩:=h
    obtain⟨ρ',w',h1,h2,h3⟩:=vh hP hs ht hw hm
    generalize(execOp a.eval o).run P w=q at h2
    cases h2 with
    |panic _ v' _ hv=>exact hQ v rfl ρ' v' w' h1 hv (ht.mono h1) h3
   ·cases h
   ·rename_i f args
    split at h
    ·cases h
    ·rename_i v S3 eh
     simp only[apX,aoX]at h
     obtain⟨t2,hp,rfl,rfl,rfl⟩:=h
     have e2:=hc.ext eh
     obtain⟨ρ',w',h1,h2,h3⟩:=vh hP hs ht hw (hm.first e2)
     generalize(execOp a.eval o).run P w=q at h2
     cases h2 with
     |enter _ _ args' _ ha=>
      refine⟨(fun hh=>by cases hh),(KY (hc.ok eh ha h3 (hm.next e))).mono fun en D5 lF=>?_⟩
      obtain⟨ρ2,h4,h5,h6⟩:=lF
      rw[oG e2]at h6
      cases en with
      |returned v'=>exact hK rfl ρ2 _ D5 (Ren.le_trans h1 h4) ((ht.mono (Ren.le_trans h1 h4)).put h5 hp) ⟨_,rfl⟩ h6
      |panicked chain=>cases h5
      |outgrown=>cases h5
    ·rename_i v S3 eh
     simp only[aoU,aoX]at h
     obtain⟨rfl,rfl,rfl⟩:=h
     have e2:=hc.ext eh
     obtain⟨ρ',w',h1,h2,h3⟩:=vh hP hs ht hw (hm.first e2)
     generalize(execOp a.eval o).run P w=q at h2
     cases h2 with
     |enter _ _ args' _ ha=>
      refine⟨(fun hh=>by cases hh),(KY (hc.ok eh ha h3 (hm.next e))).mono fun en D5 lF=>?_⟩
      obtain⟨ρ2,h4,h5,h6⟩:=lF
      rw[oG e2]at h6
      cases en with
      |returned v'=>cases h5
      |panicked chain=>
       obtain⟨v',rfl,hv⟩:=h5
       exact hQ v rfl ρ2 v' D5 (Ren.le_trans h1 h4) hv (ht.mono (Ren.le_trans h1 h4)) h6
      |outgrown=>cases h5
end
end Go.Proofs.YtnlkkgpcikkpoaaGreat.Vm
namespace Go.Proofs.YtnlkkgpcikkpoaaGreat.Vm
open Go.RowKit
section
variable {P:ao7} {B:Nat→Prop} {w₀:ao4}
theorem D6{e e':aqo→aoP}{l:List aqo}(h:∀x∈l,e x=e' x):l.map e=l.map e':=aq0 h
theorem KZ{e e':aqo→aoP}{l:List (Nat×aqo)}(h:∀x∈l,e x.2=e' x.2):(l.map fun(i,x)=>(i,e x))=l.map fun(i,x)=>(i,e' x):=
 aq0 fun x hx=>by obtain⟨i,y⟩:=x;exact congrArg (Prod.mk i) (h _ hx)
theorem z6{e e':aqo→aoP}{o:Option aqo}(h:∀x,o=some x→e x=e' x):o.map e=o.map e':=by
 cases o with
 |none=>rfl
 |some x=>simp[h x rfl]
theorem VC{e e':aqo→aoP}{n:Nat}{o:apS}(h:∀x∈o.op.operands,e x=e' x):ev P e n o=ev P e' n o:=by
 obtain⟨dst,op,type,pos,after,guard⟩:=o
 cases op<;>simp only[ast]at h<;>simp only[ev,zq]
 case move x=>rw[h x (by simp)]
 case assign x=>rw[h x (by simp)]
 case pick c a b=>rw[h c (by simp),h a (by simp),h b (by simp)]
 case box t x=>rw[h x (by simp)]
 case build t parts=>rw[KZ fun x hx=>h x.2 (by simp only[asz,aqv];exact⟨x,hx,rfl⟩)]
 case buildSlice t len parts=>rw[KZ fun x hx=>h x.2 (by simp only[asz,aqv];exact⟨x,hx,rfl⟩)]
 case insert t m k x=>rw[h m (by simp),h k (by simp),h x (by simp)]
 case load t a=>rw[h a (by simp)]
 case store t a x=>rw[h a (by simp),h x (by simp)]
 case nilCheck x=>rw[h x (by simp)]
 case binOp op t x y yt=>rw[h x (by simp),h y (by simp)]
 case unOp op t x=>rw[h x (by simp)]
 case convert src dst x=>rw[h x (by simp)]
 case makeInterface t x=>rw[h x (by simp)]
 case makeFunc fn first captured=>
  rw[D6 (l:=first.toList) fun x hx=>h x (arM.2 (.inl (aqy.1 hx))),D6 (l:=captured.toList) fun x hx=>h x (arM.2 (.inr (aqy.1 hx)))]
 case makeMap t r=>rw[z6 fun y hy=>h y (by subst hy;simp)]
 case makeSlice t a b=>rw[h a (by simp),h b (by simp)]
 case slice t x lo hi mx=>rw[h x (by simp),z6 (o:=lo) fun y hy=>h y (by subst hy;simp),z6 (o:=hi) fun y hy=>h y (by subst hy;simp),z6 (o:=mx) fun y hy=>h y (by subst hy;simp)]
 case fieldAddr s x i=>rw[h x (by simp)]
 case field s x i=>rw[h x (by simp)]
 case indexAddr t x i=>rw[h x (by simp),h i (by simp)]
 case index t x i=>rw[h x (by simp),h i (by simp)]
 case lookup t x k ok=>rw[h x (by simp),h k (by simp)]
 case mapUpdate t m k x=>rw[h m (by simp),h k (by simp),h x (by simp)]
 case typeAssert x xt at_ ok=>rw[h x (by simp)]
 case extract t i=>rw[h t (by simp)]
 case panic x=>rw[h x (by simp)]
 case call c=>
  have ha:c.args.toList.map e=c.args.toList.map e':=D6 fun x hx=>h x (by unfold ar6;exact arM.2 (.inr (aqy.1 hx)))
  unfold rk
  rw[ha]
  split
  ·rfl
  ·rename_i recv name hb;rw[h recv (by unfold ar6;rw[hb];simp)]
  ·rename_i f hb;rw[h f (by unfold ar6;rw[hb];simp)]
theorem K0{ops:Array apS}{o:apS}{t:Nat}(h:Operand.tmp t∈o.op.operands):t∈o.looksAt ops:=by
 unfold au0
 refine List.mem_append_left _ (List.mem_filterMap.2 ⟨.tmp t,aqy.2 h,rfl⟩)
theorem VD{t t':Fr}{S:VS}{o:apS}{ops:Array apS}(h:∀s∈o.looksAt ops,t'.at s=t.at s):jt P t' S o=jt P t S o:=by
 have mu:∀x∈o.op.operands,bR t' x=bR t x:=fun x hx=>by
  cases x with
  |tmp s=>exact h s (K0 hx)
  |_=>rfl
 have hv:lz P t' S o=lz P t S o:=by
  unfold lz
  cases cX:o.op with
  |indexAddr ty x i=>
   dsimp only
   rw[mu x (by rw[cX];simp[ast]),mu i (by rw[cX];simp[ast])]
  |_=>rfl
 unfold jt
 rw[hv]
 split
 ·rfl
 unfold nG
 rw[VC (e:=bR t') (e':=bR t) fun x hx=>by
  cases x with
  |tmp s=>exact h s (K0 hx)
  |_=>rfl]
theorem VE{t t':Fr}{o:apS}{ops:Array apS}(h:∀s∈o.looksAt ops,t'.at s=t.at s):aqt o (lB ops.toList t')=aqt o (lB ops.toList t):=by
 unfold aqt
 cases hg:o.guard with
 |none=>rfl
 |some p=>
  obtain⟨j,b⟩:=p
  have:lB ops.toList t' j=lB ops.toList t j:=by
   unfold lB
   rw[aqA]
   cases hd:(ops[j]?).bind (·.dst)with
   |none=>rfl
   |some d=>
    have:d∈o.looksAt ops:=by
     unfold au0
     refine List.mem_append_right _ ?_
     rw[hg]
     show d∈((ops[j]?).bind (·.dst)).toList
     rw[hd];simp
    dsimp only
    rw[h d this]
  simp only[this]
theorem z7{t t' t1:Fr}{d:Option Tmp}{v:aoP}(hn:t'.n=t.n)(h:Vm.put t d v=some t1):∃mw,Vm.put t' d v=some mw:=by
 cases d with
 |none=>exact⟨t',rfl⟩
 |some d=>
  simp only[Vm.put,Fr.rf]at h⊢
  rw[hn]
  split at h
  ·rename_i hlt;first|exact⟨_,rfl⟩|(rw[hlt];exact⟨_,rfl⟩)
  ·cases h
theorem z8{call:cL}{ops:Array apS}{o:apS}{t t' t1:Fr}{S S1:VS}(h:kv P call ops.toList o t S=some (none,t1,S1))(hl:∀s∈o.looksAt ops,t'.at s=t.at s)(hn:t'.n=t.n):
 ∃v mw,Vm.put t o.dst v=some t1∧Vm.put t' o.dst v=some mw∧kv P call ops.toList o t' S=some (none,mw,S1):=by
 unfold kv at h⊢
 rw[VE hl,VD hl]
 split at h
 ·rename_i hw
  simp only[apX,aoX]at h
  obtain⟨t2,hp,_,rfl,rfl⟩:=h
  obtain⟨mw,kX⟩:=z7 hn hp
  exact⟨_,mw,hp,kX,by simp only[kX,aqc]⟩
 ·rename_i hw
  cases hs:jt P t S o with
  |none=>rw[hs]at h;cases h
  |some q=>
   obtain⟨r,S2⟩:=q
   rw[hs]at h
   simp only[]at h⊢
   cases r with
   |val v=>
    simp only[apX,aoX]at h
    obtain⟨t2,hp,_,rfl,rfl⟩:=h
    obtain⟨mw,kX⟩:=z7 hn hp
    exact⟨_,mw,hp,kX,by simp only[kX,aqc]⟩
   |skip=>
    simp only[apX,aoX]at h
    obtain⟨t2,hp,_,rfl,rfl⟩:=h
    obtain⟨mw,kX⟩:=z7 hn hp
    exact⟨_,mw,hp,kX,by simp only[kX,aqc]⟩
   |panic v=>simp at h
   |defer d=>cases h
   |enter f args=>
    simp only[]at h⊢
    cases hc:call f args S2 with
    |none=>rw[hc]at h;cases h
    |some q2=>
     obtain⟨cr,S3⟩:=q2
     rw[hc]at h
     cases cr with
     |ret v=>
      simp only[apX,aoX]at h
      obtain⟨t2,hp,_,rfl,rfl⟩:=h
      obtain⟨mw,kX⟩:=z7 hn hp
      exact⟨_,mw,hp,kX,by simp only[kX,aqc]⟩
     |panic v=>simp at h
theorem xI{t t1:Fr}{d:Option Tmp}{v:aoP}(hs:t.n≤1024)(h:Vm.put t d v=some t1):t1.n=t.n∧∀s,t1.at s=if d=some s then v else t.at s:=by
 cases d with
 |none=>cases h;exact⟨rfl,fun s=>by simp⟩
 |some d=>
  simp only[Vm.put,Fr.rf]at h
  split at h
  ·rename_i hlt
   cases h
   have hlt:=dV.1 hlt
   refine⟨rfl,fun s=>?_⟩
   unfold Fr.at
   dsimp only
   by_cases D7:s<t.n
   ·rw[dV.2 D7]
    dsimp only
    have bP:(2:Nat)^10=1024:=rfl
    rw[Tr.xe 10 _ _ _ _ (by omega) (by omega)]
    by_cases tj:s=d
    ·subst tj;simp
    ·have:¬(some d=some s):=fun e=>tj (by cases e;rfl)
     rw[if_neg tj,if_neg this]
   ·have hb:ao9 s t.n=false:=by cases hb:ao9 s t.n with
     |false=>rfl
     |true=>exact absurd (dV.1 hb) D7
    rw[hb]
    dsimp only
    have:¬(some d=some s):=fun e=>D7 (by cases e;exact hlt)
    rw[if_neg this]
  ·cases h
end
section
variable {X V:Type}
def st(W:Nat→X→Option V)(init:X→V)(D:Nat→Bool):Nat→X→V
 |0,x=>init x
 |k+1,x=>if D k then(W k x).getD (st W init D k x)else st W init D k x
theorem my(W:Nat→X→Option V)(init:X→V)(D:Nat→Bool)(k:Nat)(x:X):st W init D (k+1) x=if D k then(W k x).getD (st W init D k x)else st W init D k x:=rfl
theorem K1{W:Nat→X→Option V}{init:X→V}{D:Nat→Bool}{i n:Nat}{x:X}(fq:i≤n)(hi:D i=false)
 (h1:∀k,k<i→D k=false→W k x=none)(h2:∀k,i<k→k<n→D k=true→W k x=none):st W init D n x=st W init (fun _=>true) i x:=by
 have a:∀k,k≤i→st W init D k x=st W init (fun _=>true) k x:=by
  intro k
  induction k with
  |zero=>intro _;rfl
  |succ k ih=>
   intro hk
   rw[my,my,ih (by omega)]
   cases hd:D k with
   |true=>rfl
   |false=>rw[h1 k (by omega) hd];simp
 have b:∀k,i≤k→k≤n→st W init D k x=st W init D i x:=by
  intro k
  induction k with
  |zero=>intro h _;have:i=0:=by omega
         subst this;rfl
  |succ k ih=>
   intro hk hn
   by_cases e:i=k+1
   ·subst e;rfl
   ·rw[my,ih (by omega) (by omega)]
    cases hd:D k with
    |false=>simp
    |true=>
     by_cases ek:k=i
     ·subst ek;rw[hi]at hd;cases hd
     ·rw[h2 k (by omega) (by omega) hd];simp
 rw[b n fq (apn n),a i (apn i)]
theorem K2{W:Nat→X→Option V}{init:X→V}{D:Nat→Bool}{i n:Nat}{x:X}(fq:i<n)(hi:D i=false)
 (h2:∀k,i<k→k<n→D k=true→W i x≠none→W k x=none):st W init (fun k=>D k||decide (k=i)) n x=(W i x).getD (st W init D n x):=by
 have a:∀k,k≤i→st W init (fun k=>D k||decide (k=i)) k x=st W init D k x:=by
  intro k
  induction k with
  |zero=>intro _;rfl
  |succ k ih=>
   intro hk
   have:decide (k=i)=false:=by simp;omega
   rw[my,my,ih (by omega),this,ati]
 cases hw:W i x with
 |none=>
  have b:∀k,i≤k→st W init (fun k=>D k||decide (k=i)) k x=st W init D k x:=by
   intro k
   induction k with
   |zero=>intro h;exact a 0 (by omega)
   |succ k ih=>
    intro hk
    by_cases e:i=k+1
    ·exact a (k+1) (by omega)
    ·have e1:=my W init (fun k=>D k||decide (k=i)) k x
     have e2:=my W init D k x
     rw[e1,e2,ih (by omega)]
     by_cases ek:k=i
     ·subst ek;rw[hw,hi];simp
     ·have:decide (k=i)=false:=by simp[ek]
      rw[this,ati]
  rw[b n (by omega)];rfl
 |some v=>
  have b:∀k,i<k→k≤n→st W init (fun k=>D k||decide (k=i)) k x=v:=by
   intro k
   induction k with
   |zero=>intro h;omega
   |succ k ih=>
    intro hk hn
    rw[my]
    by_cases ek:k=i
    ·subst ek;rw[hw];simp
    ·have hd:decide (k=i)=false:=by simp[ek]
     rw[ih (by omega) (by omega),hd,ati]
     cases fJ:D k with
     |false=>simp
     |true=>rw[h2 k (by omega) (by omega) fJ (by rw[hw];simp)];simp
  rw[b n fq (apn n)];rfl
end
theorem D8(m k:Nat):ao6 (Nat.land (asl m k) 1) 1=m.testBit k:=by
 have h1:Nat.land (asl m k) 1=(m>>>k)%2:=Nat.and_one_is_mod (m>>>k)
 rw[h1]
 have h2:m.testBit k=((m>>>k)%2==1):=by
  rw[Nat.testBit,Nat.one_and_eq_mod_two]
  have:(m>>>k)%2=0∨(m>>>k)%2=1:=by omega
  rcases this with h|h<;>rw[h]<;>rfl
 rw[h2]
 have:(m>>>k)%2=0∨(m>>>k)%2=1:=by omega
 rcases this with h|h<;>rw[h]<;>rfl
theorem D9:∀{l:List Edge} {i:Nat},(ju l).testBit i=true→∃e∈l,aq6 .any e=true∧e.on=i
 | [],i,h=>by simp[ju]at h
 |e::l,i,h=>by
  unfold ju at h
  split at h
  ·rename_i hb
   have:asG (Nat.shiftLeft 1 e.on) (ju l)=(1<<<e.on)|||ju l:=rfl
   rw[this,atM,aru]at h
   rcases h with h|h
   ·refine⟨e,by simp,hb,?_⟩
    rw[Nat.one_shiftLeft,Nat.testBit_two_pow]at h
    simpa using h
   ·obtain⟨e',h1,h2,h3⟩:=D9 h
    exact⟨e',by simp[h1],h2,h3⟩
  ·obtain⟨e',h1,h2,h3⟩:=D9 h
   exact⟨e',by simp[h1],h2,h3⟩
theorem K3(m:Nat):∀{k:Nat} {bs:List Nat} {i:Nat},bs.length=k→(mm m k bs).testBit i=true→∃q b,q<k∧m.testBit q=true∧bs[k-1-q]?=some b∧b.testBit i=true
 |0,bs,i,hl,h=>by simp[mm]at h
 |k+1,[],i,hl,h=>by simp at hl
 |k+1,b::bs,i,hl,h=>by
  have qv:bs.length=k:=by simpa using hl
  unfold mm at h
  have rest:(mm m k bs).testBit i=true→∃q b',q<k+1∧m.testBit q=true∧(b::bs)[k+1-1-q]?=some b'∧b'.testBit i=true:=by
   intro h
   obtain⟨q,b',h1,h2,h3,h4⟩:=K3 m qv h
   exact⟨q,b',by omega,h2,by rw[show k+1-1-q=(k-1-q)+1 by omega];simpa using h3,h4⟩
  split at h
  ·rename_i hb
   rw[D8]at hb
   have:asG b (mm m k bs)=b|||mm m k bs:=rfl
   rw[this,atM,aru]at h
   rcases h with h|h
   ·exact⟨k,b,by omega,hb,by simp,h⟩
   ·exact rest h
  ·exact rest h
def Cl(ops:List apS)(D:Nat→Bool):Prop:=∀(j:Nat) (o:apS),ops[j]?=some o→D j=true→∀e∈o.after,aq6 .any e=true→D e.on=true
theorem K4{all:List apS}{D:Nat→Bool}(hD:Cl all D):∀{l:List apS} {k:Nat} {bs:List Nat},bs.length=k→all.drop k=l→
 (∀(q b:Nat) (o:apS),q<k→bs[k-1-q]?=some b→all[q]?=some o→(∀e∈o.after,aq6 .any e=true→D e.on=true)→∀i,b.testBit i=true→D i=true)→
 ∀(j m:Nat) (o:apS),(rq k bs l)[j]?=some m→all[k+j]?=some o→(∀e∈o.after,aq6 .any e=true→D e.on=true)→∀i,m.testBit i=true→D i=true
 | [],k,bs,hk,hl,hb,j,m,o,h,_,_,_,_=>by simp[rq]at h
 |o1::l,k,bs,hk,hl,hb,j,m,o,h,ho,he,i,hi=>by
  have K5:all[k]?=some o1:=by
   have:=congrArg (fun l=>l[0]?) hl
   simpa using this
  have key:∀(o:apS),all[k]?=some o→(∀e∈o.after,aq6 .any e=true→D e.on=true)→∀i,(asG (ju o1.after.toList) (mm (ju o1.after.toList) k bs)).testBit i=true→D i=true:=by
   intro o ho he i hi
   rw[K5]at ho
   cases ho
   have:asG (ju o1.after.toList) (mm (ju o1.after.toList) k bs)=ju o1.after.toList|||mm (ju o1.after.toList) k bs:=rfl
   rw[this,atM,aru]at hi
   have direct:∀q,(ju o1.after.toList).testBit q=true→D q=true:=by
    intro q hq
    obtain⟨e,h1,h2,h3⟩:=D9 hq
    have:=he e (aqy.1 h1) h2
    rwa[h3]at this
   rcases hi with hi|hi
   ·exact direct i hi
   ·obtain⟨q,b,h1,h2,h3,h4⟩:=K3 _ hk hi
    have K6:q<all.length:=by
     have:k<all.length:=(ao0.1 K5).1
     omega
    exact hb q b _ h1 h3 (aoV K6) (hD q _ (aoV K6) (direct q h2)) i h4
  have e0:rq k bs (o1::l)=asG (ju o1.after.toList) (mm (ju o1.after.toList) k bs)::rq (k+1) (asG (ju o1.after.toList) (mm (ju o1.after.toList) k bs)::bs) l:=rfl
  rw[e0]at h
  cases j with
  |zero=>
   simp only[apE,aoU]at h
   subst h
   exact key o (by simpa using ho) he i hi
  |succ j=>
   simp only[ap5]at h
   refine K4 hD (l:=l) (k:=k+1) (by simp[hk]) ?_ ?_ j m o h (by rw[show k+1+j=k+(j+1)by omega];exact ho) he i hi
   ·have:=congrArg List.tail hl
    simpa[List.tail_drop]using this
   ·intro q b o hq xJ K7 K8 i hi
    by_cases e:q=k
    ·subst e
     simp at xJ
     subst xJ
     exact key o K7 K8 i hi
    ·rw[show k+1-1-q=(k-1-q)+1 by omega]at xJ
     simp only[ap5]at xJ
     exact hb q b o (by omega) xJ K7 K8 i hi
theorem K9{ops:Array apS}{D:Nat→Bool}(hD:Cl ops.toList D){j m:Nat}{o:apS}(h:(qg ops)[j]?=some m)(ho:ops.toList[j]?=some o)
 (he:∀e∈o.after,aq6 .any e=true→D e.on=true){i:Nat}(hi:m.testBit i=true):D i=true:=
 K4 hD (l:=ops.toList) (k:=0) (bs:=[]) rfl rfl (fun q b o hq=>by omega) j m o h (by simpa using ho) he i hi
end Go.Proofs.YtnlkkgpcikkpoaaGreat.Vm
namespace Go.Proofs.YtnlkkgpcikkpoaaGreat.Vm
open Go.RowKit
theorem VF{ops:Array apS}:(qg ops).length=ops.size:=by
 have:∀(l:List apS) (k:Nat) (bs:List Nat),(rq k bs l).length=l.length:=by
  intro l
  induction l with
  |nil=>intro k bs;rfl
  |cons o l ih=>intro k bs;simp only[rq,apC,ih]
 unfold qg
 rw[this]
 simp
theorem Ea{ops:Array apS}:∀{ps:List apS} {ms:List Nat} {j:Nat} {prev:List (Nat×apS)},zv ops j prev ms ps=true→
 ∀(q m:Nat) (p:apS),ms[q]?=some m→ps[q]?=some p→
  (∀e∈p.after,aq6 .any e=true→e.on<j+q)∧(∀x∈prev,m.testBit x.1=true∨x.2.apart ops p=true)∧
  (∀(r:Nat) (o:apS),r<q→ps[r]?=some o→m.testBit (j+r)=true∨o.apart ops p=true)
 | [],ms,j,prev,h,q,m,p,hm,hp=>by simp at hp
 |p0::ps,[],j,prev,h,q,m,p,hm,hp=>by simp at hm
 |p0::ps,m0::ms,j,prev,h,q,m,p,hm,hp=>by
  simp only[zv,ao3]at h
  obtain⟨⟨h1,h2⟩,h3⟩:=h
  cases q with
  |zero=>
   simp only[apE,aoU]at hm hp
   subst hm hp
   refine⟨fun e he hb=>?_,fun x hx=>?_,fun r o hr=>by omega⟩
   ·have:=aps.1 h1 e (aqy.2 he)
    rw[hb]at this
    simpa using dV.1 (by simpa using this)
   ·have:=aps.1 h2 x hx
    rw[D8,aru]at this
    exact this
  |succ q=>
   simp only[ap5]at hm hp
   obtain⟨h4,h5,h6⟩:=Ea h3 q m p hm hp
   refine⟨fun e he hb=>by have:=h4 e he hb;omega,fun x hx=>h5 x (by simp[hx]),fun r o hr ho=>?_⟩
   cases r with
   |zero=>
    simp only[apE,aoU]at ho
    subst ho
    simpa using h5 (j,p0) (by simp)
   |succ r=>
    simp only[ap5]at ho
    have:=h6 r o (by omega) ho
    rwa[show j+1+r=j+(r+1)by omega]at this
theorem La:∀{ms:List Nat} {fs:List Fp} {k j m:Nat} {f:Fp},ms[j]?=some m→fs[j]?=some f→(f.rd≠[]∨f.wr≠[])→(⟨k+j,m,f⟩:Db)∈pg k ms fs
 | [],fs,k,j,m,f,hm,_,_=>by simp at hm
 |m0::ms,[],k,j,m,f,_,hf,_=>by simp at hf
 |m0::ms,f0::fs,k,j,m,f,hm,hf,bu=>by
  cases j with
  |zero=>
   simp only[apE,aoU]at hm hf
   subst hm hf
   unfold pg
   split
   ·rename_i h1 h2;rcases bu with h|h
    ·exact absurd h1 h
    ·exact absurd h2 h
   ·simp
  |succ j=>
   simp only[ap5]at hm hf
   have:=La (k:=k+1) hm hf bu
   rw[show k+1+j=k+(j+1)by omega]at this
   unfold pg
   split
   ·exact this
   ·exact apc _ this
theorem Eb{a b:List Nat}(h:zu a b=true){x:Nat}(ha:x∈a)(hb:x∈b):False:=by
 have:=aps.1 h x ha
 simp at this
 exact this hb
theorem apart_spec:∀{ms:List Nat} {fs:List Fp} {k:Nat},uV (pg k ms fs)=true→∀(i j m:Nat) (f g:Fp),i<j→ms[j]?=some m→fs[i]?=some f→fs[j]?=some g→
 (ms[i]?).isSome=true→m.testBit (k+i)=true∨((∀x,x∈f.wr→x∉g.rd∧x∉g.wr)∧∀x,x∈g.wr→x∉f.rd)
 | [],fs,k,h,i,j,m,f,g,iC,hm,hf,hg,hi=>by simp at hm
 |m0::ms,[],k,h,i,j,m,f,g,iC,hm,hf,hg,hi=>by simp at hf
 |m0::ms,f0::fs,k,h,i,j,m,f,g,iC,hm,hf,hg,hi=>by
  have rest:uV (pg (k+1) ms fs)=true:=by
   unfold pg at h
   split at h
   ·exact h
   ·simp only[uV,ao3]at h;exact h.2
  cases j with
  |zero=>omega
  |succ j=>
   simp only[ap5]at hm hg
   cases i with
   |succ i=>
    simp only[ap5]at hf hi
    have:=apart_spec rest i j m f g (by omega) hm hf hg hi
    rwa[show k+1+i=k+(i+1)by omega]at this
   |zero=>
    simp only[apE,aoU]at hf
    subst hf
    by_cases Ec:f0.rd=[]∧f0.wr=[]
    ·right
     refine⟨fun x hx=>?_,fun x _=>?_⟩
     ·rw[Ec.2]at hx;cases hx
     ·rw[Ec.1];simp
    ·by_cases Aa:g.rd=[]∧g.wr=[]
     ·right
      refine⟨fun x _=>?_,fun x hx=>?_⟩
      ·rw[Aa.1,Aa.2];simp
      ·rw[Aa.2]at hx;cases hx
     ·have VG:g.rd≠[]∨g.wr≠[]:=by
       by_cases h1:g.rd=[]
       ·exact .inr fun h2=>Aa ⟨h1,h2⟩
       ·exact .inl h1
      have g9:=La (k:=k+1) hm hg VG
      unfold pg at h
      split at h
      ·rename_i h1 h2;exact absurd ⟨h1,h2⟩ Ec
      ·simp only[uV,ao3]at h
       have:=aps.1 h.1 _ g9
       simp only[aru]at this
       rcases this with this|this
       ·left;rw[D8]at this;exact this
       ·right
        simp only[J6,ao3]at this
        obtain⟨⟨h1,h2⟩,h3⟩:=this
        exact⟨fun x hx=>⟨fun hh=>Eb h1 hx hh,fun hh=>Eb h2 hx hh⟩,fun x hx hh=>Eb h3 hx hh⟩
abbrev reset(S:VS):VS:={S with rd:=[],wr:=[]}
structure Trace(P:ao7)(call:cL)(ops rest:List apS)(t:Fr)(S:VS)(t1:Fr)(S1:VS)(gp:List Fp)(T:Nat→Fr)(G Bf:Nat→VS):Prop where
 t0:T 0=t
 s0:G 0=S
 tn:T rest.length=t1
 sn:G rest.length=S1
 len:gp.length=rest.length
 step:∀(j:Nat) (o:apS),rest[j]?=some o→kv P call ops o (T j) (reset (G j))=some (none,T (j+1),Bf j)∧G (j+1)={Bf j with rd:=(Bf j).rd++(G j).rd,wr:=(Bf j).wr++(G j).wr}∧
  gp[j]?=some ⟨(Bf j).rd,(Bf j).wr⟩
theorem Lb{P:ao7}{call:cL}{ops:List apS}:∀{rest:List apS} {t t1:Fr} {S S1:VS} {gp:List Fp},kw P call ops rest t S=some (t1,S1,gp)→
 ∃T G Bf,Trace P call ops rest t S t1 S1 gp T G Bf
 | [],t,t1,S,S1,gp,h=>by
  simp only[kw,aoU,aoX]at h
  obtain⟨rfl,rfl,rfl⟩:=h
  exact⟨fun _=>t,fun _=>S,fun _=>S,rfl,rfl,rfl,rfl,rfl,fun j o h=>by simp at h⟩
 |o::rest,t,t1,S,S1,gp,h=>by
  unfold kw at h
  split at h
  ·rename_i t2 S2 cX
   split at h
   ·rename_i t3 S3 VH hd
    simp only[aoU,aoX]at h
    obtain⟨rfl,rfl,rfl⟩:=h
    obtain⟨T,G,Bf,h0,h1,h2,h3,h4,h5⟩:=Lb hd
    refine⟨fun j=>match j with|0=>t|j+1=>T j,fun j=>match j with|0=>S|j+1=>G j,fun j=>match j with|0=>S2|j+1=>Bf j,rfl,rfl,h2,h3,by simp[h4],fun j p hp=>?_⟩
    cases j with
    |zero=>
     simp only[apE,aoU]at hp
     subst hp
     exact⟨by simp only[h0];exact cX,h1,rfl⟩
    |succ j=>exact h5 j p (by simpa using hp)
   ·cases h
  ·cases h
def ke(D:Nat→Bool):Nat→Nat
 |0=>0
 |k+1=>ke D k+if D k then 0 else 1
theorem Lc{D:Nat→Bool}:∀{n:Nat},ke D n=0→∀i,i<n→D i=true
 |0,_,i,hi=>by omega
 |n+1,h,i,hi=>by
  unfold ke at h
  have h1:ke D n=0:=by omega
  by_cases e:i=n
  ·subst e
   cases hd:D i with
   |true=>rfl
   |false=>rw[hd]at h;simp at h
  ·exact Lc h1 i (by omega)
theorem Ld(D:Nat→Bool)(k:Nat):ke D (k+1)=ke D k+if D k then 0 else 1:=rfl
theorem Le{D:Nat→Bool}{i:Nat}(hd:D i=false):∀{n:Nat},ke (fun k=>D k||decide (k=i)) n+(if i<n then 1 else 0)=ke D n
 |0=>by simp[ke]
 |n+1=>by
  have ih:=Le hd (n:=n)
  rw[Ld,Ld]
  by_cases e:n=i
  ·subst e
   have xK:ke (fun k=>D k||decide (k=n)) n=ke D n:=by simpa using ih
   rw[xK,hd]
   simp
  ·have hdec:decide (n=i)=false:=by simp[e]
   rw[hdec,ati]
   by_cases fq:i<n
   ·have xK:ke (fun k=>D k||decide (k=i)) n+1=ke D n:=by simpa[fq]using ih
    have h2:i<n+1:=by omega
    simp only[h2,if_true]
    omega
   ·have xK:ke (fun k=>D k||decide (k=i)) n=ke D n:=by simpa[fq]using ih
    have h2:¬i<n+1:=by omega
    simp only[h2,if_false]
    omega
theorem VI(n:Nat):ke (fun _=>false) n=n:=by
 induction n with
 |zero=>rfl
 |succ n ih=>unfold ke;rw[ih];simp
theorem Ed{X V:Type}{W:Nat→X→Option V}{init:X→V}{D:Nat→Bool}{x:X}:∀{n:Nat},(∀i,i<n→D i=true)→st W init D n x=st W init (fun _=>true) n x
 |0,_=>rfl
 |n+1,h=>by
  rw[my,my,Ed fun i hi=>h i (by omega),h n (by omega)]
section
variable {P:ao7} {B:Nat→Prop} {w₀:ao4}
theorem VJ{l:Array Bool}{i k:Nat}(hi:i<l.size):(l.setIfInBounds i true).getD k false=(l.getD k false||decide (k=i)):=by
 rw[apx,apx]
 by_cases h:k=i
 ·subst h
  rw[aqu,if_pos hi]
  simp
 ·rw[aqp (Ne.symm h)]
  simp[h]
theorem mem_ready{ops:Array apS}{eo:Array Bool}{i:Nat}(hs:eo.size=ops.size):i∈ase .any ops eo↔
 ∃o,ops[i]?=some o∧eo.getD i false=false∧∀e∈o.after,aq6 .any e=true→eo.getD e.on false=true:=by
 unfold ase
 rw[List.mem_filter,List.mem_range,ao3]
 have tx:i<ops.size→eo.getD i true=eo.getD i false:=by
  intro hi
  rw[apx,apx,aqL (by omega)]
  rfl
 constructor
 ·rintro⟨hi,h1,h2⟩
  have ho:ops[i]?=some ops[i]:=aqL hi
  refine⟨ops[i],ho,by rw[←tx hi];simpa using h1,fun e he hb=>?_⟩
  rw[ho]at h2
  simp only[aqc,aqG]at h2
  have:=asA.1 h2 e he
  rw[hb]at this
  simpa using this
 ·rintro⟨o,ho,h1,h2⟩
  have hi:i<ops.size:=(apQ.1 ho).1
  refine⟨hi,by rw[tx hi,h1];rfl,?_⟩
  rw[ho]
  simp only[aqc,aqG]
  refine asA.2 fun e he=>?_
  cases hb:aq6 .any e with
  |false=>rfl
  |true=>rw[h2 e he hb];rfl
theorem Ab{t t1:Fr}{d:Option Tmp}{v:aoP}(h:Vm.put t d v=some t1):t1.ds=t.ds∧t1.base=t.base:=by
 cases d with
 |none=>cases h;exact⟨rfl,rfl⟩
 |some d=>
  simp only[Vm.put,Fr.rf]at h
  split at h
  ·cases h;exact⟨rfl,rfl⟩
  ·cases h
theorem VK(hP:iz P=true)(fx:P.follows .mixedOrders=true){call:cL}(hc:hI P call){ops:Array apS}{id:Nat}{t t1:Fr}{S S1:VS}{gp:List Fp}
 (hd:kw P call ops.toList ops.toList t S=some (t1,S1,gp))(hok:tc ops gp=true){ρ:Ren}{m:Nat→Option ak}{w:ao4}{a:Act}(ht:FR ρ t a)(hw:WR P B w₀ ρ m w)
 (hm:fI S S1 m){r:Option Nat}{Q:arc→Act→ao4→Prop}(hQ:∀(ρ':Ren) (a':Act) (w':ao4),ρ.le ρ'→FR ρ' t1 a'→WR P B w₀ ρ' (post m S1) w'→Q .normal a' w'):
 (Code.region id ops true).wpIn (FF r) 0 P Q a w:=by
 obtain⟨T,G,Bf,tr⟩:=Lb hd
 simp only[tc,ao3]at hok
 obtain⟨Lf,VL⟩:=hok
 have hlen:ops.toList.length=ops.size:=by simp
 have na:∀i,i<ops.size→∃o,ops[i]?=some o∧ops.toList[i]?=some o:=fun i hi=>⟨ops[i],aqL hi,by simp[hi]⟩
 have nN:∀i,i<ops.size→∃mk,(qg ops)[i]?=some mk:=fun i hi=>⟨_,aoV (by rw[VF];exact hi)⟩
 -- frames of the trace
 have xL:∀i,i≤ops.size→(T i).n=t.n:=by
  intro i
  induction i with
  |zero=>intro _;rw[tr.t0]
  |succ i ih=>
   intro hi
   obtain⟨o,ho,hJ⟩:=na i (by omega)
   obtain⟨h1,_,_⟩:=tr.step i o hJ
   obtain⟨v,_,hp,_,_⟩:=z8 h1 (fun s _=>rfl) rfl
   rw[(xI (by rw[ih (by omega)];exact ht.small) hp).1,ih (by omega)]
 have Lg:∀i,i≤ops.size→(T i).ds=t.ds∧(T i).base=t.base:=by
  intro i
  induction i with
  |zero=>intro _;rw[tr.t0];exact⟨rfl,rfl⟩
  |succ i ih=>
   intro hi
   obtain⟨o,ho,hJ⟩:=na i (by omega)
   obtain⟨h1,_,_⟩:=tr.step i o hJ
   obtain⟨v,_,hp,_,_⟩:=z8 h1 (fun s _=>rfl) rfl
   rw[(Ab hp).1,(Ab hp).2]
   exact ih (by omega)
 let Ws:Nat→Nat→Option aoP:=fun i s=>match ops.toList[i]?with
  |some o=>if o.dst=some s then some ((T (i+1)).at s)else none
  |none=>none
 let Wm:Nat→Nat→Option (Option ak):=fun i x=>if i<ops.size∧x∈(Bf i).wr then some (gt (Bf i).mem x)else none
 have Lh:∀i s,i≤ops.size→st Ws (T 0).at (fun _=>true) i s=(T i).at s:=by
  intro i s
  induction i with
  |zero=>intro _;rfl
  |succ i ih=>
   intro hi
   obtain⟨o,ho,hJ⟩:=na i (by omega)
   obtain⟨h1,_,_⟩:=tr.step i o hJ
   obtain⟨v,_,hp,_,_⟩:=z8 h1 (fun s _=>rfl) rfl
   have cn:=(xI (by rw[xL i (by omega)];exact ht.small) hp).2 s
   rw[my,ih (by omega)]
   simp only[if_true]
   have Li:Ws i s=if o.dst=some s then some ((T (i+1)).at s)else none:=by simp only[Ws,hJ]
   rw[Li]
   by_cases gr:o.dst=some s
   ·rw[if_pos gr];rfl
   ·rw[if_neg gr,cn,if_neg gr];rfl
 -- logs
 have VM:∀i,i≤ops.size→∀x,(x∈(G i).rd→x∈S1.rd)∧(x∈(G i).wr→x∈S1.wr):=by
  have:∀k i,i+k=ops.size→∀x,(x∈(G i).rd→x∈S1.rd)∧(x∈(G i).wr→x∈S1.wr):=by
   intro k
   induction k with
   |zero=>intro i hi x;have:G i=S1:=by rw[←tr.sn,hlen];congr 1;
          rw[this];exact⟨fun h=>h,fun h=>h⟩
   |succ k ih=>
    intro i hi x
    obtain⟨o,ho,hJ⟩:=na i (by omega)
    obtain⟨_,h2,_⟩:=tr.step i o hJ
    have:=ih (i+1) (by omega) x
    rw[h2]at this
    exact⟨fun hx=>this.1 (apo.2 (.inr hx)),fun hx=>this.2 (apo.2 (.inr hx))⟩
  exact fun i hi=>this (ops.size-i) i (by omega)
 have Ee:∀i,i<ops.size→∀x,(x∈(Bf i).rd→x∈S1.rd)∧(x∈(Bf i).wr→x∈S1.wr):=by
  intro i hi x
  obtain⟨o,ho,hJ⟩:=na i hi
  obtain⟨_,h2,_⟩:=tr.step i o hJ
  have:=VM (i+1) (by omega) x
  rw[h2]at this
  exact⟨fun hx=>this.1 (apo.2 (.inl hx)),fun hx=>this.2 (apo.2 (.inl hx))⟩
 have Lj:∀i,i≤ops.size→∀x,(x∈S1.rd∨x∈S1.wr)→st Wm m (fun _=>true) i x=gt (G i).mem x:=by
  intro i
  induction i with
  |zero=>intro _ x hx;rw[tr.s0];exact hm x hx
  |succ i ih=>
   intro hi x hx
   obtain⟨o,ho,hJ⟩:=na i (by omega)
   obtain⟨h1,h2,_⟩:=tr.step i o hJ
   rw[my,ih (by omega) x hx,h2]
   simp only[if_true]
   by_cases Ef:x∈(Bf i).wr
   ·have:Wm i x=some (gt (Bf i).mem x):=by simp only[Wm];rw[if_pos ⟨by omega,Ef⟩]
    rw[this];rfl
   ·have:Wm i x=none:=by simp only[Wm];rw[if_neg fun hh=>Ef hh.2]
    rw[this]
    exact((xH hc h1).frame x Ef).symm
 have VN:∀i,i≤ops.size→∀x,x∉S1.wr→st Wm m (fun _=>true) i x=m x:=by
  intro i
  induction i with
  |zero=>intro _ x _;rfl
  |succ i ih=>
   intro hi x hx
   rw[my,ih (by omega) x hx]
   have:Wm i x=none:=by simp only[Wm];rw[if_neg fun hh=>hx ((Ee i hh.1 x).2 hh.2)]
   rw[this];simp
 -- pairs
 have Eg:∀(i k:Nat) (oi ok:apS) (mk:Nat),i<k→ops.toList[i]?=some oi→ops.toList[k]?=some ok→(qg ops)[k]?=some mk→mk.testBit i=true∨oi.apart ops ok=true:=by
  intro i k oi ok mk jw Eh hok kF
  have:=(Ea Lf k mk ok kF hok).2.2 i oi jw Eh
  simpa using this
 have Ei:∀(i k mk:Nat),i<k→k<ops.size→(qg ops)[k]?=some mk→mk.testBit i=true∨((∀x,x∈(Bf i).wr→x∉(Bf k).rd∧x∉(Bf k).wr)∧∀x,x∈(Bf k).wr→x∉(Bf i).rd):=by
  intro i k mk jw hk kF
  obtain⟨oi,_,Eh⟩:=na i (by omega)
  obtain⟨ok,_,hok⟩:=na k hk
  obtain⟨_,_,h1⟩:=tr.step i oi Eh
  obtain⟨_,_,h2⟩:=tr.step k ok hok
  obtain⟨mi,vj⟩:=nN i (by omega)
  have:=apart_spec VL i k mk _ _ jw kF h1 h2 (by rw[vj];rfl)
  simpa using this
 refine wpIn_region_any fx ?_
 -- the invariant
 have main:∀(gO:Nat) (eo:Array Bool) (a:Act) (w:ao4),eo.size=ops.size→ke (fun i=>eo.getD i false) ops.size=gO→Cl ops.toList (fun i=>eo.getD i false)→
  (∃ρ' t',ρ.le ρ'∧(t'.n=t.n∧t'.ds=t.ds∧t'.base=t.base)∧(∀s,t'.at s=st Ws (T 0).at (fun i=>eo.getD i false) ops.size s)∧FR ρ' t' a∧WR P B w₀ ρ' (st Wm m (fun i=>eo.getD i false) ops.size) w)→
  wpAnyIn (FF r) 0 P .any ops Q gO eo a w:=by
  intro gO
  have fin:∀(eo:Array Bool) (a:Act) (w:ao4),(∀i,i<ops.size→eo.getD i false=true)→
   (∃ρ' t',ρ.le ρ'∧(t'.n=t.n∧t'.ds=t.ds∧t'.base=t.base)∧(∀s,t'.at s=st Ws (T 0).at (fun i=>eo.getD i false) ops.size s)∧FR ρ' t' a∧WR P B w₀ ρ' (st Wm m (fun i=>eo.getD i false) ops.size) w)→Q .normal a w:=by
   rintro eo a w kE ⟨ρ',t',hle,⟨hn,dx,Ej⟩,cn,cB,cQ⟩
   have tz:T ops.size=t1:=by rw[←tr.tn,hlen]
   refine hQ ρ' a w hle ⟨?_,?_,fun i=>?_,by have:=cB.defers;rw[dx,Ej,←(Lg ops.size (apn _)).1,←(Lg ops.size (apn _)).2,tz]at this;exact this⟩ ?_
   ·rw[cB.size,hn,←xL ops.size (apn _),tz]
   ·rw[←tz,xL ops.size (apn _)];exact ht.small
   ·have:=cB.at_ i
    rwa[cn i,Ed kE,Lh ops.size i (apn _),tz]at this
   ·have:st Wm m (fun i=>eo.getD i false) ops.size=post m S1:=by
     funext x
     rw[Ed kE]
     unfold post
     by_cases hx:x∈S1.wr
     ·rw[if_pos hx,Lj ops.size (apn _) x (.inr hx)]
      have:G ops.size=S1:=by rw[←tr.sn,hlen]
      rw[this]
     ·rw[if_neg hx,VN ops.size (apn _) x hx]
    rwa[this]at cQ
  have full:∀(eo:Array Bool),eo.size=ops.size→ase .any ops eo=[]→∀i,i<ops.size→eo.getD i false=true:=by
   intro eo hs hr i
   induction i using Nat.strongRecOn with
   |_ i ih=>
    intro hi
    cases qB:eo.getD i false with
    |true=>rfl
    |false=>
     exfalso
     obtain⟨o,ho,hJ⟩:=na i hi
     obtain⟨mk,xM⟩:=nN i hi
     have VO:=(Ea Lf i mk o xM hJ).1
     have:i∈ase .any ops eo:=(mem_ready hs).2 ⟨o,ho,qB,fun e he hb=>by
      have:=VO e he hb
      exact ih e.on (by omega) (by omega)⟩
     rw[hr]at this
     cases this
  induction gO with
  |zero=>
   intro eo a w hs Lk eh hinv
   have kE:=Lc Lk
   refine⟨?_,fin eo a w kE hinv⟩
   cases hr:ase .any ops eo with
   |nil=>rfl
   |cons i l=>
    have:i∈ase .any ops eo:=by rw[hr];simp
    obtain⟨o,ho,h1,_⟩:=(mem_ready hs).1 this
    rw[kE i (apQ.1 ho).1]at h1
    cases h1
  |succ gO ih=>
   intro eo a w hs Lk eh hinv
   refine⟨fun hr=>fin eo a w (full eo hs hr) hinv,fun i VP=>?_⟩
   obtain⟨o,ho,qB,Ll⟩:=(mem_ready hs).1 VP
   have hi:i<ops.size:=(apQ.1 ho).1
   have hJ:ops.toList[i]?=some o:=by rw[aqA];exact ho
   obtain⟨mk,xM⟩:=nN i hi
   obtain⟨VQ,hG,ane⟩:=tr.step i o hJ
   obtain⟨ρ',t',hle,⟨hn,dx,Ej⟩,cn,cB,cQ⟩:=hinv
   -- what is not ordered is apart
   have Lm:∀k,k<i→eo.getD k false=false→mk.testBit k=false:=by
    intro k hk fJ
    cases hb:mk.testBit k with
    |false=>rfl
    |true=>rw[K9 eh xM hJ Ll hb]at fJ;cases fJ
   have Ac:∀k mk',i<k→(qg ops)[k]?=some mk'→eo.getD k false=true→k<ops.size→mk'.testBit i=false:=by
    intro k mk' jw kF fJ hk
    cases hb:mk'.testBit i with
    |false=>rfl
    |true=>
     obtain⟨ok,_,hok⟩:=na k hk
     rw[K9 eh kF hok (fun e he VT=>eh k ok hok fJ e he VT) hb]at qB
     cases qB
   have VU:∀s∈o.looksAt ops,t'.at s=(T i).at s:=by
    intro s tA
    rw[cn s,K1 (W:=Ws) (i:=i) (asf hi) qB ?_ ?_,Lh i s (asf hi)]
    ·intro k hk fJ
     obtain⟨ok,hok,rI⟩:=na k (by omega)
     simp only[Ws,rI]
     rw[if_neg]
     intro gr
     rcases Eg k i ok o mk hk rI hJ xM with h|h
     ·rw[Lm k hk fJ]at h;cases h
     ·exact(atA h).1 s gr tA
    ·intro k jw jL fJ
     obtain⟨ok,hok,rI⟩:=na k jL
     obtain⟨mk',kF⟩:=nN k jL
     simp only[Ws,rI]
     rw[if_neg]
     intro gr
     rcases Eg i k o ok mk' jw hJ rI kF with h|h
     ·rw[Ac k mk' jw kF fJ jL]at h;cases h
     ·exact(atA h).2.2 s gr tA
   obtain⟨v,mw,hp,kX,VV⟩:=z8 VQ VU (by rw[hn,xL i (asf hi)])
   have VW:fI (reset (G i)) (Bf i) (st Wm m (fun i=>eo.getD i false) ops.size):=by
    intro x hx
    have j9:x∈S1.rd∨x∈S1.wr:=hx.imp (Ee i hi x).1 (Ee i hi x).2
    rw[K1 (W:=Wm) (i:=i) (asf hi) qB ?_ ?_,Lj i (asf hi) x j9]
    ·intro k hk fJ
     simp only[Wm]
     rw[if_neg]
     rintro⟨jL,pB⟩
     rcases Ei k i mk hk hi xM with h|⟨h,_⟩
     ·rw[Lm k hk fJ]at h;cases h
     ·rcases hx with hx|hx
      ·exact(h x pB).1 hx
      ·exact(h x pB).2 hx
    ·intro k jw jL fJ
     simp only[Wm]
     rw[if_neg]
     rintro⟨_,pB⟩
     obtain⟨mk',kF⟩:=nN k jL
     rcases Ei i k mk' jw jL kF with h|⟨h1,h2⟩
     ·rw[Ac k mk' jw kF fJ jL]at h;cases h
     ·rcases hx with hx|hx
      ·exact h2 x pB hx
      ·exact(h1 x hx).2 pB
   have Ln:∀k,(eo.setIfInBounds i true).getD k false=(eo.getD k false||decide (k=i)):=fun k=>VJ (by omega)
   have Ad:(fun k=>(eo.setIfInBounds i true).getD k false)=fun k=>eo.getD k false||decide (k=i):=funext Ln
   refine D3 hP hc ho VV cB cQ VW (fun _ ρ2 a' w' kg lG _ ia=>?_) (fun v hv=>by cases hv)
   refine ih (eo.setIfInBounds i true) a' w' (by simpa using hs) ?_ ?_ ⟨ρ2,mw,Ren.le_trans hle kg,?_,?_,lG,?_⟩
   ·rw[Ad]
    have:=Le (D:=fun k=>eo.getD k false) qB (n:=ops.size)
    rw[if_pos hi]at this
    omega
   ·rw[Ad]
    intro j oj Ek Ae e he hb
    simp only[aru,decide_eq_true_eq]at Ae⊢
    left
    rcases Ae with Ae|rfl
    ·exact eh j oj Ek Ae e he hb
    ·rw[hJ]at Ek;cases Ek;exact Ll e he hb
   ·rw[(xI (by rw[hn];exact ht.small) kX).1,hn,(Ab kX).1,(Ab kX).2];exact⟨rfl,dx,Ej⟩
   ·intro s
    rw[(xI (by rw[hn];exact ht.small) kX).2 s,Ad,K2 (W:=Ws) hi qB ?_,cn s]
    ·simp only[Ws,hJ]
     have:=(xI (by rw[xL i (asf hi)];exact ht.small) hp).2 s
     by_cases gr:o.dst=some s
     ·rw[if_pos gr,if_pos gr,this,if_pos gr];rfl
     ·rw[if_neg gr,if_neg gr];rfl
    ·intro k jw jL fJ tB
     obtain⟨ok,hok,rI⟩:=na k jL
     obtain⟨mk',kF⟩:=nN k jL
     have VX:o.dst=some s:=by
      simp only[Ws,hJ]at tB
      by_cases h:o.dst=some s
      ·exact h
      ·rw[if_neg h]at tB;exact absurd rfl tB
     simp only[Ws,rI]
     rw[if_neg]
     intro gr
     rcases Eg i k o ok mk' jw hJ rI kF with h|h
     ·rw[Ac k mk' jw kF fJ jL]at h;cases h
     ·exact(atA h).2.1 s VX gr
   ·have:st Wm m (fun k=>(eo.setIfInBounds i true).getD k false) ops.size=post (st Wm m (fun i=>eo.getD i false) ops.size) (Bf i):=by
     funext x
     rw[Ad,K2 (W:=Wm) hi qB ?_]
     ·unfold post
      by_cases hx:x∈(Bf i).wr
      ·have:Wm i x=some (gt (Bf i).mem x):=by simp only[Wm];rw[if_pos ⟨hi,hx⟩]
       rw[this,if_pos hx];rfl
      ·have:Wm i x=none:=by simp only[Wm];rw[if_neg fun hh=>hx hh.2]
       rw[this,if_neg hx];rfl
     ·intro k jw jL fJ tB
      obtain⟨mk',kF⟩:=nN k jL
      have hx:x∈(Bf i).wr:=by
       by_cases h:x∈(Bf i).wr
       ·exact h
       ·simp only[Wm]at tB;rw[if_neg fun hh=>h hh.2]at tB;exact absurd rfl tB
      simp only[Wm]
      rw[if_neg]
      rintro⟨_,pB⟩
      rcases Ei i k mk' jw jL kF with h|⟨h1,_⟩
      ·rw[Ac k mk' jw kF fJ jL]at h;cases h
      ·exact(h1 x hx).2 pB
    rw[this]
    exact ia
 have VY:∀k,(aq5 ops.size false).getD k false=false:=by
  intro k
  rw[apx]
  by_cases h:k<ops.size<;>simp[h]
 have Af:(fun k=>(aq5 ops.size false).getD k false)=fun _=>false:=funext VY
 have Lo:∀{X V:Type} (W:Nat→X→Option V) (init:X→V) (n:Nat) (x:X),st W init (fun _=>false) n x=init x:=by
  intro X V W init n x
  induction n with
  |zero=>rfl
  |succ n ih=>rw[my,ih];simp
 refine main ops.size _ a _ (by simp) (by rw[Af,VI]) (by rw[Af];intro j o _ h;cases h) ⟨ρ,t,Ren.le_refl ρ,⟨rfl,rfl,rfl⟩,fun s=>?_,ht,?_⟩
 ·rw[Af,Lo,tr.t0]
 ·have:st Wm m (fun k=>(aq5 ops.size false).getD k false) ops.size=m:=by funext x;rw[Af,Lo]
  rw[this]
  exact hw.drew
end
end Go.Proofs.YtnlkkgpcikkpoaaGreat.Vm
namespace Go.Proofs.YtnlkkgpcikkpoaaGreat.Vm
open Go.RowKit
section
variable {P:ao7}
theorem Ag{call:cL}(hc:hI P call){df:Bool}{ops:List apS}:∀{rest:List apS} {t t1:Fr} {S S1:VS} {x:bj},opsV P call df ops rest t S=some (x,t1,S1)→dP S S1
 | [],t,t1,S,S1,x,h=>by
  simp only[opsV,aoU,aoX]at h
  obtain⟨_,_,rfl⟩:=h
  exact dP.refl S
 |o::rest,t,t1,S,S1,x,h=>by
  unfold opsV at h
  split at h
  ·split at h
   ·split at h
    ·exact Ag hc h
    ·cases h
   ·cases h
  ·split at h
   ·cases h
   ·rename_i v t2 S2 cX
    simp only[aoU,aoX]at h
    obtain⟨_,_,rfl⟩:=h
    exact xH hc cX
   ·rename_i t2 S2 cX
    exact(xH hc cX).trans (Ag hc h)
theorem Lp{call:cL}(hc:hI P call){ops:List apS}:∀{rest:List apS} {t t1:Fr} {S S1:VS} {gp:List Fp},kw P call ops rest t S=some (t1,S1,gp)→dP S S1
 | [],t,t1,S,S1,gp,h=>by
  simp only[kw,aoU,aoX]at h
  obtain⟨_,rfl,_⟩:=h
  exact dP.refl S
 |o::rest,t,t1,S,S1,gp,h=>by
  unfold kw at h
  split at h
  ·rename_i t2 S2 cX
   split at h
   ·rename_i t3 S3 VH hd
    simp only[aoU,aoX]at h
    obtain⟨rfl,rfl,rfl⟩:=h
    have e1:=xH hc cX
    have e2:=Lp hc hd
    refine dP.trans ⟨fun y hy=>?_,fun y hy=>?_,fun y hy=>?_,fun hS y hy=>?_⟩ e2
    ·exact apo.2 (.inr hy)
    ·exact apo.2 (.inr hy)
    ·exact e1.frame y fun hh=>hy (apo.2 (.inl hh))
    ·have he:=e1.sm (fun z hz=>by rcases hz with hz|hz<;>cases hz)
     rcases hy with hy|hy
     ·rcases apo.1 hy with hy|hy
      ·exact he y (.inl hy)
      ·exact hS y (.inl hy)
     ·rcases apo.1 hy with hy|hy
      ·exact he y (.inr hy)
      ·exact hS y (.inr hy)
   ·cases h
  ·cases h
theorem El{f:Fr→VS→Option (bj×Fr×VS)}(hf:∀{t t1:Fr} {S S1:VS} {x:bj},f t S=some (x,t1,S1)→dP S S1):
 ∀{k:Nat} {t t1:Fr} {S S1:VS} {x:bj},iter f k t S=some (x,t1,S1)→dP S S1
 |0,t,t1,S,S1,x,h=>by cases h
 |k+1,t,t1,S,S1,x,h=>by
  unfold iter at h
  split at h
  ·rename_i t2 S2 VZ
   exact(hf VZ).trans (El hf h)
  ·exact hf h
theorem nO{call:cL}(hc:hI P call)(lf:Nat){df:Bool}:∀{c:apw} {t t1:Fr} {S S1:VS} {x:bj},di P call lf df c t S=some (x,t1,S1)→dP S S1:=by
 intro c
 induction c with
 |skip=>
  intro t t1 S S1 x h
  simp only[di,aoU,aoX]at h
  obtain⟨_,_,rfl⟩:=h
  exact dP.refl S
 |region id ops draw=>
  intro t t1 S S1 x h
  cases draw with
  |false=>exact Ag hc h
  |true=>
   simp only[di]at h
   split at h
   ·rename_i t2 S2 gp hd
    split at h
    ·simp only[aoU,aoX]at h
     obtain⟨_,_,rfl⟩:=h
     exact Lp hc hd
    ·cases h
   ·cases h
 |seq a b iQ kY=>
  intro t t1 S S1 x h
  simp only[di]at h
  split at h
  ·rename_i t2 S2 hx
   exact(iQ hx).trans (kY h)
  ·exact iQ h
 |cond c a b iQ kY=>
  intro t t1 S S1 x h
  simp only[di]at h
  split at h
  ·exact iQ h
  ·exact kY h
  ·cases h
 |block id c ih=>
  intro t t1 S S1 x h
  simp only[di]at h
  split at h
  ·rename_i j t2 S2 hx
   split at h
   ·simp only[aoU,aoX]at h
    obtain⟨_,_,rfl⟩:=h
    exact ih hx
   ·simp only[aoU,aoX]at h
    obtain⟨_,_,rfl⟩:=h
    exact ih hx
  ·exact ih h
 |loop c ih=>
  intro t t1 S S1 x h
  simp only[di]at h
  exact El (fun h=>ih h) h
 |exit id=>
  intro t t1 S S1 x h
  simp only[di,aoU,aoX]at h
  obtain⟨_,_,rfl⟩:=h
  exact dP.refl S
 |ret=>
  intro t t1 S S1 x h
  simp only[di,aoU,aoX]at h
  obtain⟨_,_,rfl⟩:=h
  exact dP.refl S
 |scope c ih=>
  intro t t1 S S1 x h
  simp only[di]at h
  exact ih h
 |label l=>
  intro t t1 S S1 x h
  simp only[di,aoU,aoX]at h
  obtain⟨_,_,rfl⟩:=h
  exact dP.refl S
 |_=>intro t t1 S S1 x h;simp[di]at h
theorem FR.Em{ρ:Ren}{t:Fr}{a:Act}(h:FR ρ t a){c:aqo}{b:Bool}(hc:bR t c=.bool b):a.eval c=.bool b:=by
 cases c with
 |tmp i=>
  have h1:=h.at_ i
  have h2:t.at i=.bool b:=hc
  rw[h2]at h1
  exact h1.uW
 |const v=>exact hc
 |global g=>cases hc
 |func f=>cases hc
inductive XR(ρ:Ren):bj→arc→Prop where
 |normal:XR ρ .normal .normal
 |exit (id:Nat):XR ρ (.exit id) (.exit id)
 |ret:XR ρ .ret .ret
 |panic (v v':aoP) (h:VR ρ v v'):XR ρ (.panic v) (.panic [{v:=v',recovered:=false}])
variable {B:Nat→Prop} {w₀:ao4}
theorem V0{t t1:Fr}{o:apS}{c:Call}(hd:xc o=some c)(h:zt P t o c=some t1):∃(f:aqo) (k:apr) (first captured:Array aoP),o.guard=none∧c.callee=.value f∧o.op=.defer c∧
 bR t f=.func (.func k) first captured∧(pd f=true∧c.args.toList.all pd=true)∧(∃cb,(P.funcs[k]?).bind (·.body)=some cb)∧
 Vm.put {t with ds:=(k,(first.toList++c.args.toList.map (bR t))++captured.toList)::t.ds} o.dst undef=some t1:=by
 unfold zt at h
 split at h
 ·rename_i f hg jn
  split at h
  ·rename_i k first captured hok mu
   split at h
   ·rename_i cb En
    rw[ao3]at hok
    refine⟨f,k,first,captured,hg,jn,?_,mu,hok,⟨cb,En⟩,h⟩
    unfold xc at hd
    split at hd
    ·rename_i c' oF;cases hd;exact oF
    ·cases hd
   ·cases h
  ·cases h
 ·cases h
theorem Lq{α:Type}{ρ:Ren}{f g:α→aoP}:∀{l:List α},(∀x∈l,VR ρ (f x) (g x))→LR ρ (l.map f) (l.map g)
 | [],_=>LR.nil _
 |x::l,h=>LR.cons (h x ape) (Lq fun y hy=>h y (apc _ hy))
theorem V1{F:Fence}{n:Nat}{c:apw}{Q:arc→Act→ao4→Prop}{a:Act}{w:ao4}(h:c.wpIn F n P (Exit.noGoto Q) a w):(Code.scope c).wpIn F n P Q a w:=by
 intro b k cs dw hb hr
 have h0:(lone (b.atR a (.code (.scope c)::k)) cs w).fenced P F:=fenced_calm hb hr rfl
 have s1:step P (lone (b.atR a (.code (.scope c)::k)) cs w)=.next (lone (b.atR a (.code c:: .inScope c::k)) cs w):=step_lone_go (by simp[stepG,avq,avx])
 have s2:∀(a:Act) (w:ao4),step P (lone (b.atR a (.inScope c::k)) cs w)=.next (lone (b.atR a k) cs w):=fun a w=>step_lone_go (by simp[stepG,avq,avx])
 obtain⟨e,a₁,w₁,hq,m6⟩:=h b (.inScope c::k) cs dw hb hr
 cases e with
 |normal=>exact⟨.normal,a₁,w₁,hq,.head h0 s1 (StepsIn.trans m6 (.one (fenced_calm hb hr rfl) (s2 a₁ w₁)))⟩
 |exit id=>exact⟨_,a₁,w₁,hq,.of_steps (.one h0 s1) ⟨fun k' hk=>m6.1 k' (by simpa[exitTo]using hk),fun hr hk=>m6.2 hr (by simpa[exitTo]using hk)⟩⟩
 |goto l=>exact hq.elim
 |ret=>exact⟨.ret,a₁,w₁,hq,atf (e:=.ret) (k:=k) (.one h0 s1) m6⟩
 |panic ch=>exact⟨.panic ch,a₁,w₁,hq,atf (e:=.panic ch) (k:=k) (.one h0 s1) m6⟩
 |outgrown=>exact⟨.outgrown,a₁,w₁,hq,atf (e:=.outgrown) (k:=k) (.one h0 s1) m6⟩
theorem Eo(hP:iz P=true){call:cL}(hc:hI P call){df:Bool}{r:Option Nat}(xN:df=true→r=none){ops:Array apS}:∀{rest:List apS} {k:Nat},(∀j,rest[j]?=ops[k+j]?)→∀{t t1:Fr} {S S1:VS} {x:bj},
 opsV P call df ops.toList rest t S=some (x,t1,S1)→∀{ρ:Ren} {m:Nat→Option ak} {w:ao4} {a:Act},FR ρ t a→WR P B w₀ ρ m w→fI S S1 m→∀{Q:arc→Act→ao4→Prop},
 (∀(ρ':Ren) (e:arc) (a':Act) (w':ao4),ρ.le ρ'→XR ρ' x e→FR ρ' t1 a'→WR P B w₀ ρ' (post m S1) w'→Q e a' w')→wpOpsIn (FF r) 0 P ops Q (auo k rest.length) a w
 | [],k,hk,t,t1,S,S1,x,h,ρ,m,w,a,ht,hw,hm,Q,hQ=>by
  simp only[opsV,aoU,aoX]at h
  obtain⟨rfl,rfl,rfl⟩:=h
  have hp:post m S=m:=oH hm
  exact hQ ρ _ a w (Ren.le_refl ρ) .normal ht (by rw[hp];exact hw)
 |o::rest,k,hk,t,t1,S,S1,x,h,ρ,m,w,a,ht,hw,hm,Q,hQ=>by
  have ho:ops[k]?=some o:=by simpa using(hk 0).symm
  have u9:∀j,rest[j]?=ops[k+1+j]? :=fun j=>by have:=hk (j+1);simpa[aqP,au1 1 j]using this
  rw[apC,asB,wpOpsIn_cons]
  unfold opsV at h
  split at h
  ·rename_i c hd
   split at h
   ·split at h
    ·rename_i t2 Ep
     cases xN rfl
     obtain⟨f,k',first,captured,hg,jn,cX,mu,hok,Ls,hp⟩:=V0 hd Ep
     unfold wpOpIn
     simp only[ho]
     have gP:aqt o (yielded ops a.tmps)=true:=by unfold aqt;rw[hg]
     rw[if_pos gP]
     unfold avw
     refine⟨fun _ _=>trivial,?_⟩
     obtain⟨V2,V3⟩:=hok
     have Lt:=ht.eval V2
     rw[mu]at Lt
     obtain⟨f',c',V4,V5,xO⟩:=Lt.xj
     have Er:(o.semAt (FF none).round a.eval).run P w=.ok (.defer {target:=.fn (.func k') c',args:=f'++c.args.map a.eval}) w:=by
      show(execOp a.eval o).run P w=_
      unfold execOp
      rw[cX]
      unfold resolve
      simp only[jn,V4,atp]
      rfl
     rw[Er]
     show wpOpsIn (FF none) 0 P ops Q _ (({a with defers:=_::a.defers}:Act).put o.dst undef) w
     have gZ:LR ρ (c.args.toList.map (bR t)) (c.args.map a.eval).toList:=by
      rw[arK]
      exact Lq fun x hx=>ht.eval (aps.1 V3 x hx)
     have mz:FR ρ {t with ds:=(k',(first.toList++c.args.toList.map (bR t))++captured.toList)::t.ds} {a with defers:={target:=.fn (.func k') c',args:=f'++c.args.map a.eval}::a.defers}:=
      ⟨ht.size,ht.small,ht.at_,.cons (by rw[aqM,aqM];exact(V5.append gZ).append xO) ht.defers⟩
     exact Eo hP hc xN u9 h (mz.put (VR.undef ρ) hp) hw hm hQ
    ·cases h
   ·cases h
  rename_i dx
  split at h
  ·cases h
  ·rename_i v t2 S2 cX
   simp only[aoU,aoX]at h
   obtain⟨rfl,rfl,rfl⟩:=h
   refine D3 hP hc ho cX ht hw hm (fun hh=>by cases hh) fun v2 hv ρ' v' w' hle fV cB cQ=>?_
   cases hv
   exact hQ ρ' _ a w' hle (.panic v v' fV) cB cQ
  ·rename_i t2 S2 cX
   have e2:=Ag hc h
   refine D3 hP hc ho cX ht hw (hm.first e2) (fun _ ρ' a' w' hle cB _ cQ=>?_) fun v2 hv=>by cases hv
   refine Eo hP hc xN u9 h cB cQ (hm.next (xH hc cX)) fun ρ2 e a2 w2 kg hx lG ia=>?_
   rw[oG e2]at ia
   exact hQ ρ2 e a2 w2 (Ren.le_trans hle kg) hx lG ia
def Lu(P:ao7)(r:Option Nat)(c:apw)(f:Fr→VS→Option (bj×Fr×VS)):Prop:=
 ∀{t t1:Fr} {S S1:VS} {x:bj},f t S=some (x,t1,S1)→∀{B:Nat→Prop} {w₀:ao4} {ρ:Ren} {m:Nat→Option ak} {w:ao4} {a:Act},FR ρ t a→WR P B w₀ ρ m w→fI S S1 m→
  ∀{Q:arc→Act→ao4→Prop},(∀(ρ':Ren) (e:arc) (a':Act) (w':ao4),ρ.le ρ'→XR ρ' x e→FR ρ' t1 a'→WR P B w₀ ρ' (post m S1) w'→Q e a' w')→c.wpIn (FF r) 0 P Q a w
theorem Lv{r:Option Nat}{c:apw}{f:Fr→VS→Option (bj×Fr×VS)}(hx:∀{t t1:Fr} {S S1:VS} {x:bj},f t S=some (x,t1,S1)→dP S S1)(hs:Lu P r c f):
 ∀{k:Nat} {t t1:Fr} {S S1:VS} {x:bj},iter f k t S=some (x,t1,S1)→∀{ρ:Ren} {m:Nat→Option ak} {w:ao4} {a:Act},FR ρ t a→WR P B w₀ ρ m w→fI S S1 m→
 ∀{Q:arc→Act→ao4→Prop},(∀(ρ':Ren) (e:arc) (a':Act) (w':ao4),ρ.le ρ'→XR ρ' x e→FR ρ' t1 a'→WR P B w₀ ρ' (post m S1) w'→Q e a' w')→Code.roundsIn (FF r) 0 P c Q k a w
 |0,t,t1,S,S1,x,h,ρ,m,w,a,ht,hw,hm,Q,hQ=>by cases h
 |k+1,t,t1,S,S1,x,h,ρ,m,w,a,ht,hw,hm,Q,hQ=>by
  rw[roundsIn_succ]
  unfold iter at h
  split at h
  ·rename_i t2 S2 hf
   have e2:=El hx h
   refine hs hf ht hw (hm.first e2) fun ρ' e a' w' hle dH cB cQ=>?_
   cases dH
   refine Lv hx hs h cB cQ (hm.next (hx hf)) fun ρ2 qC a2 w2 kg jM lG ia=>?_
   rw[oG e2]at ia
   exact hQ ρ2 qC a2 w2 (Ren.le_trans hle kg) jM lG ia
  ·rename_i bu
   refine hs h ht hw hm fun ρ' e a' w' hle dH cB cQ=>?_
   cases dH with
   |normal=>exact absurd h (bu _ _)
   |_=>exact hQ ρ' _ a' w' hle (by constructor<;>assumption) cB cQ
theorem tC(hP:iz P=true)(fx:P.follows .mixedOrders=true){call:cL}(hc:hI P call)(lf:Nat){df:Bool}{r:Option Nat}(xN:df=true→r=none):∀(c:apw),Lu P r c (di P call lf df c):=by
 intro c
 induction c with
 |skip=>
  intro t t1 S S1 x h B w₀ ρ m w a ht hw hm Q hQ
  simp only[di,aoU,aoX]at h
  obtain⟨rfl,rfl,rfl⟩:=h
  exact wpIn_skip (hQ ρ _ a w (Ren.le_refl ρ) .normal ht (by rw[oH hm];exact hw))
 |region id ops draw=>
  intro t t1 S S1 x h B w₀ ρ m w a ht hw hm Q hQ
  cases draw with
  |false=>
   refine wpIn_region ?_
   have:=Eo hP hc xN (ops:=ops) (rest:=ops.toList) (k:=0) (fun j=>by simp) h ht hw hm hQ
   rw[asQ]
   simpa using this
  |true=>
   simp only[di]at h
   split at h
   ·rename_i t2 S2 gp hd
    split at h
    ·rename_i hok
     simp only[aoU,aoX]at h
     obtain⟨rfl,rfl,rfl⟩:=h
     exact VK hP fx hc hd hok ht hw hm fun ρ' a' w' hle cB cQ=>hQ ρ' _ a' w' hle .normal cB cQ
    ·cases h
   ·cases h
 |seq a b iQ kY=>
  intro t t1 S S1 x h B w₀ ρ m w a ht hw hm Q hQ
  simp only[di]at h
  refine wpIn_seq ?_
  split at h
  ·rename_i t2 S2 hx
   have e2:=nO hc lf h
   refine iQ hx ht hw (hm.first e2) fun ρ' e a' w' hle dH cB cQ=>?_
   cases dH
   refine kY h cB cQ (hm.next (nO hc lf hx)) fun ρ2 qC a2 w2 kg jM lG ia=>?_
   rw[oG e2]at ia
   exact hQ ρ2 qC a2 w2 (Ren.le_trans hle kg) jM lG ia
  ·rename_i bu
   refine iQ h ht hw hm fun ρ' e a' w' hle dH cB cQ=>?_
   cases dH with
   |normal=>exact absurd h (bu _ _)
   |_=>exact hQ ρ' _ a' w' hle (by constructor<;>assumption) cB cQ
 |cond c x y qD qE=>
  intro t t1 S S1 x' h B w₀ ρ m w a ht hw hm Q hQ
  simp only[di]at h
  split at h
  ·rename_i he;exact wpIn_cond_true (ht.Em he) (qD h ht hw hm hQ)
  ·rename_i he;exact wpIn_cond_false (ht.Em he) (qE h ht hw hm hQ)
  ·cases h
 |block id c ih=>
  intro t t1 S S1 x h B w₀ ρ m w a ht hw hm Q hQ
  simp only[di]at h
  refine wpIn_block ?_
  split at h
  ·rename_i j t2 S2 hx
   split at h
   ·rename_i hj
    have kD:j=id:=apa hj
    simp only[aoU,aoX]at h
    obtain⟨rfl,rfl,rfl⟩:=h
    refine ih hx ht hw hm fun ρ' e a' w' hle dH cB cQ=>?_
    cases dH
    simp only[asR,kD,if_true]
    exact hQ ρ' _ a' w' hle .normal cB cQ
   ·rename_i hj
    have kD:¬j=id:=fun e=>by rw[e,Nat.beq_refl]at hj;cases hj
    simp only[aoU,aoX]at h
    obtain⟨rfl,rfl,rfl⟩:=h
    refine ih hx ht hw hm fun ρ' e a' w' hle dH cB cQ=>?_
    cases dH
    simp only[asR,kD,if_false]
    exact hQ ρ' _ a' w' hle (.exit j) cB cQ
  ·rename_i bu
   refine ih h ht hw hm fun ρ' e a' w' hle dH cB cQ=>?_
   cases dH with
   |exit j=>exact absurd h (bu _ _ _)
   |_=>exact hQ ρ' _ a' w' hle (by constructor<;>assumption) cB cQ
 |loop c ih=>
  intro t t1 S S1 x h B w₀ ρ m w a ht hw hm Q hQ
  simp only[di]at h
  exact wpIn_loop_rounds lf (Lv (fun h=>nO hc lf h) ih h ht hw hm hQ)
 |exit id=>
  intro t t1 S S1 x h B w₀ ρ m w a ht hw hm Q hQ
  simp only[di,aoU,aoX]at h
  obtain⟨rfl,rfl,rfl⟩:=h
  exact wpIn_exit (hQ ρ _ a w (Ren.le_refl ρ) (.exit id) ht (by rw[oH hm];exact hw))
 |ret=>
  intro t t1 S S1 x h B w₀ ρ m w a ht hw hm Q hQ
  simp only[di,aoU,aoX]at h
  obtain⟨rfl,rfl,rfl⟩:=h
  exact wpIn_ret (hQ ρ _ a w (Ren.le_refl ρ) .ret ht (by rw[oH hm];exact hw))
 |scope c ih=>
  intro t t1 S S1 x h B w₀ ρ m w a ht hw hm Q hQ
  simp only[di]at h
  refine V1 (ih h ht hw hm fun ρ' e a' w' hle dH cB cQ=>?_)
  cases dH<;>exact hQ ρ' _ a' w' hle (by constructor<;>assumption) cB cQ
 |label l=>
  intro t t1 S S1 x h B w₀ ρ m w a ht hw hm Q hQ
  simp only[di,aoU,aoX]at h
  obtain⟨rfl,rfl,rfl⟩:=h
  exact wpIn_label (hQ ρ _ a w (Ren.le_refl ρ) .normal ht (by rw[oH hm];exact hw))
 |_=>intro t t1 S S1 x h;simp[di]at h
theorem Et{ρ:Ren}{g:Nat→Option ak}{w:ao4}(hw:WR P B w₀ ρ g w){t:Fr}{a:Act}(ht:FR ρ t a):∀{rs:List ResultVar} {vs:List aoP} {l:List Nat},(gX P t rs).run g=some (vs,l)→
 ∃jH:List aoP,(rs.mapM (m:=Sem) fun| .tmp t=>pure (a.tmps.getD t undef)| .cell b t=>do loadVar t (←asAddr (a.tmps.getD b undef))).run P w=.ok jH w∧LR ρ vs jH
 | [],vs,l,h=>by
  simp only[gX,Rd.run,aoU,aoX]at h
  obtain⟨rfl,rfl⟩:=h
  exact⟨[],rfl,LR.nil ρ⟩
 | .tmp i::rs,vs,l,h=>by
  simp only[gX]at h
  obtain⟨r,l1,l2,h1,h2,rfl⟩:=(Rd.run_bind _ _ _ _ _).1 h
  simp only[Rd.run,aoU,aoX]at h2
  obtain⟨rfl,rfl⟩:=h2
  obtain⟨jH,h3,h4⟩:=Et hw ht h1
  refine⟨a.tmps.getD i undef::jH,?_,LR.cons (ht.at_ i) h4⟩
  rw[as3]
  simp only[aoR,apA,aoQ,h3]
 | .cell i ty::rs,vs,l,h=>by
  simp only[gX]at h
  split at h
  ·rename_i b off hp
   obtain⟨v,l1,l2,h1,h2,rfl⟩:=(Rd.run_bind _ _ _ _ _).1 h
   obtain⟨r,l3,l4,h3,h4,rfl⟩:=(Rd.run_bind _ _ _ _ _).1 h2
   simp only[Rd.run,aoU,aoX]at h4
   obtain⟨rfl,rfl⟩:=h4
   have hi:=ht.at_ i
   rw[hp]at hi
   obtain⟨Lw,hr,hi⟩:=hi.ky
   obtain⟨v',h5,h6⟩:=u5 hw h1 hr
   obtain⟨jH,h7,h8⟩:=Et hw ht h3
   refine⟨v'::jH,?_,LR.cons h6 h8⟩
   rw[as3]
   have h9:(asAddr (a.tmps.getD i undef)).run P w=.ok ⟨Lw.aN,Lw.sh+off,none⟩ w:=by rw[hi];rfl
   simp only[aoR,apA,aoQ,h9,h5,h7]
  ·cases h
theorem Eu{ρ:Ren}{g:Nat→Option ak}{w:ao4}(hw:WR P B w₀ ρ g w){t:Fr}{a:Act}(ht:FR ρ t a){fn:asK}{vs:List aoP}{l:List Nat}(h:(gX P t fn.results.toList).run g=some (vs,l)):
 ∃v',(results fn a.tmps).run P w=.ok v' w∧VR ρ (mT vs) v':=by
 obtain⟨jH,h1,h2⟩:=Et hw ht h
 have h3:∀F:ResultVar→Sem aoP,(fn.results.toList.mapM F).run P w=.ok jH w→(fn.results.mapM F).run P w=.ok jH.toArray w:=by
  intro F hF
  rw[Array.mapM_eq_mapM_toList]
  show(fn.results.toList.mapM F>>=fun l=>pure l.toArray).run P w=_
  rw[aoR,hF]
  rfl
 unfold results
 rw[aoR]
 refine⟨(if h:jH.toArray.size=1 then jH.toArray[0]else .tuple jH.toArray),?_,?_⟩
 ·exact Eq.trans (congrArg (fun r=>Result.andThen r _) (h3 _ h1)) rfl
 ·cases vs with
  |nil=>
   rw[h2.kx]
   exact VR.zA (LR.nil ρ)
  |cons v vs=>
   obtain⟨v',r,rfl,h4,h5⟩:=h2.gG
   cases vs with
   |nil=>rw[h5.kx];exact h4
   |cons u vs=>
    obtain⟨u',r',rfl,h6,h7⟩:=h5.gG
    have:¬((v'::u'::r').toArray.size=1):=by simp
    rw[dif_neg this]
    exact VR.zA h2
theorem Fr.xP:∀{args:List aoP} {i:Nat} {t:Tr aoP} {j:Nat},i+args.length≤1024→j<1024→
 (Fr.rh args i t).get 10 j=if i≤j∧j<i+args.length then args[j-i]?else t.get 10 j
 | [],i,t,j,h,hj=>by
  have:¬(i≤j∧j<i+([]:List aoP).length):=by simp
  rw[if_neg this];rfl
 |v::args,i,t,j,h,hj=>by
  simp only[apC]at h⊢
  unfold Fr.rh
  rw[Fr.xP (by omega) hj]
  have bP:(2:Nat)^10=1024:=rfl
  by_cases h1:i+1≤j∧j<i+1+args.length
  ·rw[if_pos h1,if_pos (by omega),show j-i=(j-(i+1))+1 by omega,ap5]
  ·rw[if_neg h1,Tr.xe 10 _ _ _ _ (by omega) (by omega)]
   by_cases h2:j=i
   ·subst h2
    rw[if_pos rfl,if_pos (by omega)]
    simp
   ·rw[if_neg h2,if_neg (by omega)]
theorem Fr.Ev{ρ:Ren}{args:List aoP}{args':Array aoP}(ha:LR ρ args args'.toList){n:Nat}{t0:Fr}(h:Fr.of args n=some t0):
 FR ρ t0 {tmps:=args'++aq5 (n-args'.size) undef,defers:=[]}:=by
 unfold Fr.of at h
 split at h
 ·rename_i hb
  cases h
  simp only[ao3]at hb
  have h1:args.length≤n:=by simpa[auz]using hb.1
  have h2:n≤1024:=by simpa[auz]using hb.2
  have hlen:args.length=args'.size:=by have:=ha.len;simpa using this
  refine⟨by simp;omega,h2,fun i=>?_,.nil⟩
  unfold Fr.at
  dsimp only
  by_cases hi:i<n
  ·rw[dV.2 hi]
   dsimp only
   rw[Fr.xP (by omega) (by omega),Tr.Dd]
   rw[apx]
   by_cases Lx:i<args.length
   ·rw[if_pos (by omega),ar7 (by omega)]
    obtain⟨v',h3,h4⟩:=ha.get (aoV Lx)
    have h5:args'[i]?=some v':=by simpa using h3
    rw[h5]
    simp only[Nat.sub_zero,aoV Lx]
    exact h4
   ·rw[if_neg (by omega),Array.getElem?_append_right (by omega)]
    have:(aq5 (n-args'.size) undef)[i-args'.size]?=some undef:=by
     rw[Array.getElem?_replicate,if_pos (by omega)]
    rw[this]
    exact VR.undef ρ
  ·have hb:ao9 i n=false:=by cases hb:ao9 i n with
    |false=>rfl
    |true=>exact absurd (dV.1 hb) hi
   rw[hb]
   dsimp only
   rw[apx,arW (by simp;omega)]
   exact VR.undef ρ
 ·cases h
theorem Ew{t:Fr}{fn:asK}{S S1:VS}{r:bO}(h:ol P t fn S=some (r,S1)):
 ∃vs l,(gX P t fn.results.toList).run (gt S.mem)=some (vs,l)∧r=.ret (mT vs)∧S1={S with rd:=l++S.rd}:=by
 unfold ol at h
 split at h
 ·rename_i vs l hr
  simp only[aoU,aoX]at h
  exact⟨vs,l,hr,h.1.symm,h.2.symm⟩
 ·cases h
theorem Ah{t:Fr}{fn:asK}{S S1:VS}{r:bO}(h:ol P t fn S=some (r,S1)):dP S S1:=by
 obtain⟨vs,l,hr,_,rfl⟩:=Ew h
 refine⟨fun x hx=>apo.2 (.inr hx),fun x hx=>hx,fun x _=>rfl,fun hS x hx=>?_⟩
 rcases hx with hx|hx
 ·rcases apo.1 hx with hx|hx
  ·obtain⟨o,ho⟩:=Rd.zz hr x hx;exact po ho
  ·exact hS x (.inl hx)
 ·exact hS x (.inr hx)
def kG(ρ:Ren):Md→arq→Prop
 | .ret,u=>u=.returning
 | .mU v,u=>∃v',u=.panicking [{v:=v',recovered:=false}]∧VR ρ v v'
theorem kG.mono{ρ ρ':Ren}(hl:ρ.le ρ'):∀{md:Md} {u:arq},kG ρ md u→kG ρ' md u
 | .ret,_,h=>h
 | .mU v,_,⟨v',h,hv⟩=>⟨v',h,hv.mono hl⟩
theorem kG.settled{ρ:Ren}:∀{md:Md} {u:arq},kG ρ md u→kG ρ md (settle u)
 | .ret,_,h=>by cases h;rfl
 | .mU v,_,⟨v',h,hv⟩=>⟨v',by rw[h];rfl,hv⟩
theorem kG.V6{ρ:Ren}:∀{md:Md} {u:arq},kG ρ md u→u≠ .run
 | .ret,_,h=>by cases h;simp
 | .mU v,_,⟨v',h,hv⟩=>by rw[h];simp
theorem Ey:∀{rest:List apS} {t t1:Fr} {S S1:VS},ph P rest t S=some (t1,S1)→dP S S1
 | [],t,t1,S,S1,h=>by
  simp only[ph,aoU,aoX]at h
  obtain⟨_,rfl⟩:=h
  exact dP.refl S
 |o::rest,t,t1,S,S1,h=>by
  unfold ph at h
  split at h
  ·cases h
  ·split at h
   ·rename_i v S2 hs
    split at h
    ·exact(xF hs).trans (Ey h)
    ·cases h
   ·cases h
theorem Ez(hP:iz P=true){ops:Array apS}:∀{rest:List apS} {k:Nat},(∀j,rest[j]?=ops[k+j]?)→∀{t t1:Fr} {S S1:VS},
 ph P rest t S=some (t1,S1)→∀{ρ:Ren} {m:Nat→Option ak} {w:ao4} {a:Act} {cs:List asS},FR ρ t a→WR P B w₀ ρ m w→fI S S1 m→∀{Q:arc→Act→List asS→ao4→Prop},
 (∀(ρ':Ren) (a':Act) (w':ao4),ρ.le ρ'→FR ρ' t1 a'→WR P B w₀ ρ' (post m S1) w'→Q .normal a' cs w')→wpOpsS P ops Q (auo k rest.length) a cs w
 | [],k,hk,t,t1,S,S1,h,ρ,m,w,a,cs,ht,hw,hm,Q,hQ=>by
  simp only[ph,aoU,aoX]at h
  obtain⟨rfl,rfl⟩:=h
  exact hQ ρ a w (Ren.le_refl ρ) ht (by rw[oH hm];exact hw)
 |o::rest,k,hk,t,t1,S,S1,h,ρ,m,w,a,cs,ht,hw,hm,Q,hQ=>by
  have ho:ops[k]?=some o:=by simpa using(hk 0).symm
  have u9:∀j,rest[j]?=ops[k+1+j]? :=fun j=>by have:=hk (j+1);simpa[aqP,au1 1 j]using this
  rw[apC,asB]
  unfold wpOpsS
  simp only[ho]
  unfold ph at h
  split at h
  ·cases h
  ·rename_i hg
   have gP:aqt o (yielded ops a.tmps)=true:=by unfold aqt;rw[hg]
   rw[if_pos gP]
   split at h
   ·rename_i v S2 hs
    split at h
    ·rename_i t2 hp
     have e2:=Ey h
     obtain⟨ρ',w',h1,h2,h3⟩:=vh hP hs ht hw (hm.first e2)
     generalize(execOp a.eval o).run P w=q at h2
     cases h2 with
     |val _ v' _ hv=>
      refine Ez hP u9 h ((ht.mono h1).put hv hp) h3 (hm.next (xF hs)) fun ρ2 a2 w2 kg lG ia=>?_
      rw[oG e2]at ia
      exact hQ ρ2 a2 w2 (Ren.le_trans h1 kg) lG ia
    ·cases h
   ·cases h
theorem EA{call:cL}(hc:hI P call){lf:Nat}{md:Md}:∀{c:apw} {t t1:Fr} {S S1:VS} {fB:Md} {x:bj},j4 P call lf md c t S=some (fB,x,t1,S1)→dP S S1:=by
 intro c
 have oK:∀{c:apw} {t t1:Fr} {S S1:VS} {fB:Md} {x:bj},(di P call lf false c t S).map (fun r=>(md,r))=some (fB,x,t1,S1)→dP S S1:=by
  intro c t t1 S S1 fB x h
  simp only[apX,aoX]at h
  obtain⟨_,jN,rfl,rfl⟩:=h
  exact nO hc lf jN
 induction c with
 |seq a b iQ kY=>
  intro t t1 S S1 fB x h
  unfold j4 at h
  split at h
  ·rename_i V7 t2 S2 h1
   simp only[apX,aoX]at h
   obtain⟨_,jN,rfl,rfl⟩:=h
   exact(iQ h1).trans (nO hc lf jN)
  ·exact iQ h
 |region id ops draw=>
  intro t t1 S S1 fB x h
  cases draw with
  |true=>unfold j4 at h;exact oK h
  |false=>
   unfold j4 at h
   split at h
   ·split at h
    ·split at h
     ·split at h
      ·rename_i hq
       simp only[aoU,aoX]at h
       obtain⟨_,_,_,rfl⟩:=h
       exact Ey hq
      ·cases h
     ·cases h
    ·exact oK h
   ·cases h
 |_=>intro t t1 S S1 fB x h;unfold j4 at h;exact oK h
abbrev Ly(P:ao7)(B:Nat→Prop)(w₀:ao4)(ρ:Ren)(m:Nat→Option ak)(fB:Md)(x:bj)(t1:Fr)(S1:VS)(c₀:asS)(cs:List asS)(Q:arc→Act→List asS→ao4→Prop):Prop:=
 ∀(ρ':Ren) (e:arc) (a':Act) (u':arq) (w':ao4),ρ.le ρ'→XR ρ' x e→FR ρ' t1 a'→kG ρ' fB (settle u')→WR P B w₀ ρ' (post m S1) w'→Q e a' ({c₀ with mode:=u'}::cs) w'
theorem V8(hP:iz P=true)(fx:P.follows .mixedOrders=true){call:cL}(hc:hI P call){lf:Nat}{md:Md}:∀{c:apw} {t t1:Fr} {S S1:VS} {fB:Md} {x:bj},
 j4 P call lf md c t S=some (fB,x,t1,S1)→∀{ρ:Ren} {m:Nat→Option ak} {w:ao4} {a:Act} {c₀:asS} {cs:List asS},FR ρ t a→WR P B w₀ ρ m w→fI S S1 m→kG ρ md c₀.mode→
 ∀{Q:arc→Act→List asS→ao4→Prop},Ly P B w₀ ρ m fB x t1 S1 c₀ cs Q→c.wpS P Q a (c₀::cs) w:=by
 intro c
 have oK:∀{c:apw} {t t1:Fr} {S S1:VS} {fB:Md} {x:bj},(di P call lf false c t S).map (fun r=>(md,r))=some (fB,x,t1,S1)→∀{ρ:Ren} {m:Nat→Option ak} {w:ao4} {a:Act} {c₀:asS} {cs:List asS},FR ρ t a→WR P B w₀ ρ m w→fI S S1 m→kG ρ md c₀.mode→
  ∀{Q:arc→Act→List asS→ao4→Prop},Ly P B w₀ ρ m fB x t1 S1 c₀ cs Q→c.wpS P Q a (c₀::cs) w:=by
  intro c t t1 S S1 fB x h ρ m w a c₀ cs ht hw hm iE Q hQ
  ·simp only[apX,aoX]at h
   obtain⟨_,jN,rfl,rfl⟩:=h
   refine wpS_of_wp (asH.1 (tC hP fx hc lf (r:=none) (fun h=>by cases h) c jN ht hw hm fun ρ' e a' w' hle dH cB cQ=>?_))
   exact hQ ρ' e a' c₀.mode w' hle dH cB (iE.mono hle).settled cQ
 induction c with
 |seq a b iQ kY=>
  intro t t1 S S1 fB x h ρ m w ac c₀ cs ht hw hm iE Q hQ
  unfold j4 at h
  refine wpS_seq ?_
  split at h
  ·rename_i V7 t2 S2 h1
   ·simp only[apX,aoX]at h
    obtain⟨_,jN,rfl,rfl⟩:=h
    have e2:=nO hc lf jN
    refine iQ h1 ht hw (hm.first e2) iE fun ρ' e a' u' w' hle dH cB oL cQ=>?_
    cases dH
    refine wpS_of_wp (asH.1 (tC hP fx hc lf (r:=none) (fun h=>by cases h) b jN cB cQ (hm.next (EA hc h1)) fun ρ2 qC a2 w2 kg jM lG ia=>?_))
    rw[oG e2]at ia
    exact hQ ρ2 qC a2 u' w2 (Ren.le_trans hle kg) jM lG (oL.mono kg) ia
  ·rename_i bu
   refine iQ h ht hw hm iE fun ρ' e a' u' w' hle dH cB oL cQ=>?_
   cases dH with
   |normal=>exact absurd h (bu _ _ _)
   |_=>exact hQ ρ' _ a' u' w' hle (by constructor<;>assumption) cB oL cQ
 |region id ops draw=>
  intro t t1 S S1 fB x h ρ m w a c₀ cs ht hw hm iE Q hQ
  cases draw with
  |true=>unfold j4 at h;exact oK h ht hw hm iE hQ
  |false=>
   unfold j4 at h
   split at h
   ·rename_i o rest mv
    split at h
    ·rename_i lH
     split at h
     ·rename_i t2 hp
      split at h
      ·rename_i t3 S2 hq
       simp only[aoU,aoX]at h
       obtain⟨rfl,rfl,rfl,rfl⟩:=h
       refine wpS_region ?_
       have cd:ops.size=rest.length+1:=by rw[←Array.length_toList,mv];rfl
       have ho:ops[0]?=some o:=by rw[←aqA,mv];rfl
       rw[asQ,cd,asB]
       obtain⟨at_,ty,cX,hg⟩:∃ar at_,o.op=.call ⟨.builtin .recover,ar,at_⟩∧o.guard=none:=by
        unfold Dc at lH
        split at lH
        ·rename_i ar at_ h1 h2;exact⟨ar,at_,h1,h2⟩
        ·cases lH
       unfold wpOpsS
       simp only[ho]
       have gP:aqt o (yielded ops a.tmps)=true:=by unfold aqt;rw[hg]
       rw[if_pos gP]
       have Er:(execOp a.eval o).run P w=.ok .recover w:=by
        unfold execOp
        rw[cX]
        rfl
       rw[Er]
       have hk:∀j,rest[j]?=ops[0+1+j]? :=fun j=>by
        rw[←aqA,mv,show 0+1+j=j+1 by omega];rfl
       cases md with
       |ret=>
        have Ai:c₀.mode=.returning:=iE
        have fX:recoverD (c₀::cs)=none:=by simp[recoverD,Ai]
        simp only[fX]
        exact Ez hP hk hq (ht.put (.bM _ rfl) hp) hw hm fun ρ' a' w' hle cB cQ=>hQ ρ' .normal a' c₀.mode w' hle .normal cB (by rw[Ai];rfl) cQ
       |mU v=>
        obtain⟨v',Ai,hv⟩:=iE
        have fX:recoverD (c₀::cs)=some (v',{c₀ with mode:=.panicking [{v:=v',recovered:=true}]}::cs):=by simp[recoverD,Ai]
        simp only[fX]
        exact Ez hP hk hq (ht.put hv hp) hw hm fun ρ' a' w' hle cB cQ=>hQ ρ' .normal a' _ w' hle .normal cB rfl cQ
      ·cases h
     ·cases h
    ·exact oK h ht hw hm iE hQ
   ·cases h
 |_=>intro t t1 S S1 fB x h ρ m w a c₀ cs ht hw hm iE Q hQ;unfold j4 at h;exact oK h ht hw hm iE hQ
theorem EB{call:cL}{lf:Nat}{md:Md}{k:apr}{args:List aoP}{S S':VS}{ja:Md}(h:td P call lf md k args S=some (ja,S')):
 ∃fn c t0 x t S1 r,P.funcs[k]?=some fn∧fn.body=some c∧Fr.of args fn.ntmps=some t0∧j4 P call lf md c t0 S=some (ja,x,t,S1)∧(x=.normal∨x=.ret)∧t.ds=[]∧t.base=[]∧ol P t fn S1=some (r,S'):=by
 unfold td at h
 split at h
 ·cases h
 ·rename_i fn gH
  split at h
  ·cases h
  ·rename_i c hb
   split at h
   ·cases h
   ·rename_i t0 lI
    split at h
    ·rename_i fB x t S1 tD
     split at h
     ·rename_i gr qo
      split at h
      ·rename_i r S2 hl
       simp only[aoU,aoX]at h
       obtain⟨rfl,rfl⟩:=h
       exact⟨fn,c,t0,_,t,S1,r,gH,hb,lI,tD,.inl rfl,gr,qo,hl⟩
      ·cases h
     ·rename_i gr qo
      split at h
      ·rename_i r S2 hl
       simp only[aoU,aoX]at h
       obtain⟨rfl,rfl⟩:=h
       exact⟨fn,c,t0,_,t,S1,r,gH,hb,lI,tD,.inr rfl,gr,qo,hl⟩
      ·cases h
     ·cases h
    ·cases h
theorem Lz{call:cL}(hc:hI P call){lf:Nat}{md:Md}{k:apr}{args:List aoP}{S S':VS}{ja:Md}(h:td P call lf md k args S=some (ja,S')):dP S S':=by
 obtain⟨fn,c,t0,x,t,S1,r,_,_,_,tD,_,_,_,hl⟩:=EB h
 exact(EA hc tD).trans (Ah hl)
theorem V9(hP:iz P=true)(fx:P.follows .mixedOrders=true){call:cL}(hc:hI P call){lf:Nat}{md:Md}{k:apr}{args:List aoP}{S S':VS}{ja:Md}
 (h:td P call lf md k args S=some (ja,S')){ρ:Ren}{m:Nat→Option ak}{w:ao4}{args':Array aoP}{u:arq}(iE:kG ρ md u)(ha:LR ρ args args'.toList)(hw:WR P B w₀ ρ m w)(hm:fI S S' m)
 {R:atr→arq→ao4→Prop}(hR:∀(ρ':Ren) (v:aoP) (u':arq) (w':ao4),ρ.le ρ'→kG ρ' ja (settle u')→WR P B w₀ ρ' (post m S') w'→R (.returned v) u' w'):CallsD P k args' u w R:=by
 obtain⟨fn,c,t0,x,t,S1,r,gH,hb,lI,tD,hx,gr,qo,hl⟩:=EB h
 refine callsD_of_wpS gH hb fun c₀ cs hu=>?_
 subst hu
 have e2:=Ah hl
 have e1:=EA hc tD
 obtain⟨vs,l,qA,rfl,rfl⟩:=Ew hl
 refine V8 hP fx hc tD (Fr.Ev ha lI) hw (hm.first e2) iE fun ρ' e a' u' w' hle dH cB oL cQ=>?_
 have m5:=hm.next e1
 have EC:(gX P t fn.results.toList).run (post m S1)=some (vs,l):=Rd.zy qA fun y hy=>m5 y (.inl (apo.2 (.inl hy)))
 obtain⟨v',h1,h2⟩:=Eu cQ cB EC
 have hd:a'.defers=[]:=by rw[cB.rH gr,qo]
 have fin:a'.defers=[]∧∃u1,({c₀ with mode:=u'}::cs:List asS)={c₀ with mode:=u1}::cs∧∃v,(results fn a'.tmps).run P w'=.ok v w'∧R (.returned v) u1 w':=
  ⟨hd,u',rfl,v',h1,hR ρ' v' u' w' hle oL cQ⟩
 rcases hx with rfl|rfl<;>cases dH<;>exact fin
theorem xQ{call:cL}(hc:hI P call){lf:Nat}:∀{ds:List (apr×List aoP)} {md ja:Md} {S S':VS},om P call lf ds md S=some (ja,S')→dP S S'
 | [],md,ja,S,S',h=>by
  simp only[om,aoU,aoX]at h
  obtain⟨_,rfl⟩:=h
  exact dP.refl S
 |(k,args)::l,md,ja,S,S',h=>by
  unfold om at h
  split at h
  ·rename_i fB S1 h1
   exact(Lz hc h1).trans (xQ hc h)
  ·cases h
theorem enters(hP:iz P=true){k:apr}{fn:asK}{c:apw}(hf:P.funcs[k]?=some fn)(hb:fn.body=some c)(args:Array aoP)(w:ao4):(callFunc k args).run P w=.ok (.enter k args) w:=by
 have lD:(fn.name== "runtime.NumGoroutine")=false:=by
  have:=aps.1 hP fn (by rw[aqy];exact atL hf)
  simpa using this
 unfold callFunc
 rw[aoR,aqW,aoQ]
 simp only[hf,lD,hb,at8,apT,if_false,apA]
theorem ED(hP:iz P=true)(fx:P.follows .mixedOrders=true){call:cL}(hc:hI P call){lf:Nat}{fn:asK}{tmps:Array aoP}{R:atr→ao4→Prop}:
 ∀{ds:List (apr×List aoP)} {l:List aqx} {md ja:Md} {S S':VS},om P call lf ds md S=some (ja,S')→∀{ρ:Ren} {m:Nat→Option ak} {w:ao4} {u:arq},qy ρ [] ds l→kG ρ md u→WR P B w₀ ρ m w→fI S S' m→
 (∀(ρ':Ren) (u':arq) (w':ao4),ρ.le ρ'→kG ρ' ja u'→WR P B w₀ ρ' (post m S') w'→au2 P fn tmps R [] u' w')→au2 P fn tmps R l u w
 | [],l,md,ja,S,S',h,ρ,m,w,u,hd,iE,hw,hm,hK=>by
  simp only[om,aoU,aoX]at h
  obtain⟨rfl,rfl⟩:=h
  cases hd
  exact hK ρ u w (Ren.le_refl ρ) iE (by rw[oH hm];exact hw)
 |(k,args)::ds,l,md,ja,S,S',h,ρ,m,w,u,hd,iE,hw,hm,hK=>by
  unfold om at h
  split at h
  ·rename_i fB S1 h1
   have e2:=xQ hc h
   cases hd with
   |cons gZ Aj=>
    obtain⟨anf,c,_,_,_,_,_,gH,hb,_⟩:=EB h1
    refine leaves_cons iE.V6 (f:=k) (enters hP gH hb _ _) ?_
    refine V9 hP fx hc h1 iE gZ hw (hm.first e2) fun ρ' v u' w' hle oL cQ=>?_
    refine ED hP fx hc h (Aj.mono hle) oL cQ (hm.next (Lz hc h1)) fun ρ2 u2 w2 kg LB ia=>?_
    rw[oG e2]at ia
    exact hK ρ2 u2 w2 (Ren.le_trans hle kg) LB ia
  ·cases h
theorem LD{call:cL}{lf:Nat}{fn:asK}{md:Md}{t:Fr}{S S':VS}{r:bO}(h:pj P call lf fn md t S=some (r,S')):
 t.base=[]∧∃ja S1,om P call lf t.ds md S=some (ja,S1)∧((ja=.ret∧ol P t fn S1=some (r,S'))∨∃v,ja=.mU v∧r=.panic v∧S'=S1):=by
 unfold pj at h
 split at h
 ·rename_i hb
  refine⟨hb,?_⟩
  split at h
  ·rename_i S1 h1;exact⟨_,S1,h1,.inl ⟨rfl,h⟩⟩
  ·rename_i v S1 h1
   simp only[aoU,aoX]at h
   exact⟨_,S1,h1,.inr ⟨v,rfl,h.1.symm,h.2.symm⟩⟩
  ·cases h
 ·cases h
theorem LG{call:cL}(hc:hI P call){lf:Nat}{fn:asK}{md:Md}{t:Fr}{S S':VS}{r:bO}(h:pj P call lf fn md t S=some (r,S')):dP S S':=by
 obtain⟨_,ja,S1,h1,h2⟩:=LD h
 rcases h2 with⟨_,hl⟩|⟨v,_,_,rfl⟩
 ·exact(xQ hc h1).trans (Ah hl)
 ·exact xQ hc h1
theorem Wa(hP:iz P=true)(fx:P.follows .mixedOrders=true){call:cL}(hc:hI P call){lf:Nat}{fn:asK}{md:Md}{t:Fr}{S S':VS}{r:bO}(h:pj P call lf fn md t S=some (r,S'))
 {ρ:Ren}{m:Nat→Option ak}{w:ao4}{a:Act}{u:arq}(ht:FR ρ t a)(iE:kG ρ md u)(hw:WR P B w₀ ρ m w)(hm:fI S S' m)
 {R:atr→ao4→Prop}(hR:∀(ρ':Ren) (e:atr) (w':ao4),ρ.le ρ'→CR ρ' r e→WR P B w₀ ρ' (post m S') w'→R e w'):au2 P fn a.tmps R a.defers u w:=by
 obtain⟨hb,ja,S1,h1,h2⟩:=LD h
 have gr:=ht.defers
 rw[hb]at gr
 rcases h2 with⟨rfl,hl⟩|⟨v,rfl,rfl,rfl⟩
 ·have e2:=Ah hl
  obtain⟨vs,l,qA,rfl,rfl⟩:=Ew hl
  refine ED hP fx hc h1 gr iE hw (hm.first e2) fun ρ' u' w' hle oL cQ=>?_
  cases oL
  have m5:=hm.next (xQ hc h1)
  have EC:(gX P t fn.results.toList).run (post m S1)=some (vs,l):=Rd.zy qA fun y hy=>m5 y (.inl (apo.2 (.inl hy)))
  obtain⟨v',h3,h4⟩:=Eu cQ (ht.mono hle) EC
  exact⟨v',h3,hR ρ' _ w' hle h4 cQ⟩
 ·refine ED hP fx hc h1 gr iE hw hm fun ρ' u' w' hle oL cQ=>?_
  obtain⟨v',rfl,hv⟩:=oL
  exact hR ρ' _ w' hle ⟨v',rfl,hv⟩ cQ
theorem LH(hP:iz P=true)(fx:P.follows .mixedOrders=true){sp:cL→cL}(dq:∀call,hI P call→hI P (sp call))(lf:Nat):∀(d:Nat),hI P (mn P sp lf d)
 |0=>{ext:=(by intro f args S r S' h;cases h),ok:=(by intro f args S r S' h;cases h)}
 |d+1=>by
  have hc:=dq _ (LH hP fx dq lf d)
  have body:∀{f:apr} {args:List aoP} {S:VS} {r:bO} {S':VS},mn P sp lf (d+1) f args S=some (r,S')→
   ∃fn c t0 x t S1 md,P.funcs[f]?=some fn∧fn.body=some c∧Fr.of args fn.ntmps=some t0∧di P (sp (mn P sp lf d)) lf true c t0 S=some (x,t,S1)∧
    (((x=.normal∨x=.ret)∧md=.ret)∨∃v,x=.panic v∧md=.mU v)∧pj P (sp (mn P sp lf d)) lf fn md t S1=some (r,S'):=by
   intro f args S r S' h
   unfold mn at h
   split at h
   ·cases h
   ·rename_i fn gH
    split at h
    ·cases h
    ·rename_i c hb
     split at h
     ·cases h
     ·rename_i t0 lI
      split at h
      ·rename_i t S1 jN;exact⟨fn,c,t0,_,t,S1,_,gH,hb,lI,jN,.inl ⟨.inl rfl,rfl⟩,h⟩
      ·rename_i t S1 jN;exact⟨fn,c,t0,_,t,S1,_,gH,hb,lI,jN,.inl ⟨.inr rfl,rfl⟩,h⟩
      ·rename_i v t S1 jN;exact⟨fn,c,t0,_,t,S1,_,gH,hb,lI,jN,.inr ⟨v,rfl,rfl⟩,h⟩
      ·cases h
  refine⟨fun h=>?_,fun h=>?_⟩
  ·obtain⟨fn,c,t0,x,t,S1,md,gH,hb,lI,jN,hr,he⟩:=body h
   exact(nO hc lf jN).trans (LG hc he)
  ·intro B w₀ ρ m w args' ha hw hm
   obtain⟨fn,c,t0,x,t,S1,md,gH,hb,lI,jN,hr,he⟩:=body h
   refine calls_of_wp_defers gH hb ?_
   refine(asH (n:=0)).1 ?_
   have e2:=LG hc he
   have e1:=nO hc lf jN
   refine tC hP fx hc lf (r:=none) (fun _=>rfl) c jN (Fr.Ev ha lI) hw (hm.first e2) fun ρ' e a' w' hle dH cB cQ=>?_
   have fin:∀u,kG ρ' md u→au2 P fn a'.tmps (fun e w'=>∃ρ',ρ.le ρ'∧CR ρ' _ e∧WR P B w₀ ρ' (post m _) w') a'.defers u w':=fun u iE=>
    Wa hP fx hc he cB iE cQ (hm.next e1) fun ρ2 e w2 h1 h2 h3=>⟨ρ2,Ren.le_trans hle h1,h2,by rwa[oG e2]at h3⟩
   rcases hr with⟨hx,rfl⟩|⟨v,rfl,rfl⟩
   ·rcases hx with rfl|rfl<;>cases dH<;>exact fin _ rfl
   ·cases dH with
    |panic _ v' hv=>exact fin _ ⟨v',rfl,hv⟩
theorem WR.start(w:ao4)(he:Env (fun k=>k<w.heap.size) w):WR P (fun k=>k<w.heap.size) w (fun _=>none) (fun _=>none) w:=
 {below:=gq.refl _ _,env:=he,size:=fun _ h=>h,live:=(by intro x o r h;cases h),inj:=(by intro x y ox oy rx ry h;cases h),fresh:=fun _ _=>rfl,rows:=(by intro x n s q h;cases h),nil:=(by intro x el ro r h;cases h),named:=(by intro x o h;cases h),abs:=.none (by intro x d h;cases h)}
end
end Go.Proofs.YtnlkkgpcikkpoaaGreat.Vm
namespace Go.Proofs.YtnlkkgpcikkpoaaGreat.Vm
open Go.RowKit
def Fr.dL(b:List aqx)(f:Fr):Fr:={f with base:=b}
theorem Fr.xR(b:List aqx)(f:Fr)(i:Nat):(f.dL b).at i=f.at i:=rfl
theorem EE(b:List aqx)(f:Fr):bR (f.dL b)=bR f:=by
 funext x;cases x<;>rfl
theorem Wb{P:ao7}(b:List aqx)(t:Fr)(S:VS)(o:apS):jt P (t.dL b) S o=jt P t S o:=by
 have h0:nG P (t.dL b) S o=nG P t S o:=by unfold nG;rw[EE]
 have h1:lz P (t.dL b) S o=lz P t S o:=by unfold lz;rw[EE]
 unfold jt
 rw[h1,h0]
theorem Wc(b:List aqx)(t:Fr)(i:Nat)(v:aoP):(t.dL b).set i v=(t.set i v).map (Fr.dL b):=by
 rw[Fr.rf,Fr.rf]
 show(match ao9 i t.n with|true=>_|false=>_)=_
 cases ao9 i t.n<;>rfl
theorem Ak(b:List aqx)(t:Fr)(d:Option Tmp)(v:aoP):put (t.dL b) d v=(put t d v).map (Fr.dL b):=by
 cases d with
 |none=>rfl
 |some d=>exact Wc b t d v
theorem Wd(b:List aqx)(ops:List apS)(t:Fr):lB ops (t.dL b)=lB ops t:=by
 funext j;unfold lB;rfl
def xS{α β:Type}(b:List aqx):α×Fr×β→α×Fr×β:=fun p=>(p.1,p.2.1.dL b,p.2.2)
def We{β:Type}(b:List aqx):Fr×β→Fr×β:=fun p=>(p.1.dL b,p.2)
theorem LI{P:ao7}{call:cL}(b:List aqx)(ops:List apS)(o:apS)(t:Fr)(S:VS):kv P call ops o (t.dL b) S=(kv P call ops o t S).map (xS b):=by
 unfold kv
 rw[Wd,Wb]
 cases aqt o (lB ops t)with
 |false=>simp only[Ak,as6];cases put t o.dst undef<;>rfl
 |true=>
  dsimp only
  cases hs:jt P t S o with
  |none=>rfl
  |some p=>
   obtain⟨r,S1⟩:=p
   dsimp only
   cases r with
   |val v=>dsimp only;simp only[Ak,as6];cases put t o.dst v<;>rfl
   |skip=>dsimp only;simp only[Ak,as6];cases put t o.dst undef<;>rfl
   |panic v=>rfl
   |defer d=>rfl
   |enter f args=>
    dsimp only
    cases hc:call f args S1 with
    |none=>rfl
    |some q=>
     obtain⟨cr,S2⟩:=q
     cases cr with
     |ret v=>dsimp only;simp only[Ak,as6];cases put t o.dst v<;>rfl
     |panic v=>rfl
theorem LJ{P:ao7}{call:cL}(b:List aqx)(ops:List apS):∀(l:List apS) (t:Fr) (S:VS),opsV P call false ops l (t.dL b) S=(opsV P call false ops l t S).map (xS b)
 | [],t,S=>rfl
 |o::rest,t,S=>by
  unfold opsV
  cases xc o with
  |some c=>rfl
  |none=>
   dsimp only
   rw[LI]
   cases kv P call ops o t S with
   |none=>rfl
   |some p=>
    obtain⟨v,t1,S1⟩:=p
    cases v with
    |some v=>rfl
    |none=>exact LJ b ops rest t1 S1
theorem LK{P:ao7}{call:cL}(b:List aqx)(ops:List apS):∀(l:List apS) (t:Fr) (S:VS),kw P call ops l (t.dL b) S=(kw P call ops l t S).map (We b)
 | [],t,S=>rfl
 |o::rest,t,S=>by
  unfold kw
  rw[LI]
  cases kv P call ops o t {S with rd:=[],wr:=[]}with
  |none=>rfl
  |some p=>
   obtain⟨v,t1,S1⟩:=p
   cases v with
   |some v=>rfl
   |none=>
    show(match kw P call ops rest (t1.dL b) _ with|some (t2,S2,gp)=>_|none=>_)=_
    rw[LK b ops rest]
    dsimp only
    cases kw P call ops rest t1 {S1 with rd:=S1.rd++S.rd,wr:=S1.wr++S.wr}with
    |none=>rfl
    |some q=>rfl
theorem LL(b:List aqx){f:Fr→VS→Option (bj×Fr×VS)}(hf:∀t S,f (t.dL b) S=(f t S).map (xS b)):∀(k:Nat) (t:Fr) (S:VS),iter f k (t.dL b) S=(iter f k t S).map (xS b)
 |0,t,S=>rfl
 |k+1,t,S=>by
  unfold iter
  rw[hf]
  cases f t S with
  |none=>rfl
  |some p=>
   obtain⟨x,t1,S1⟩:=p
   cases x with
   |normal=>exact LL b hf k t1 S1
   |exit id=>rfl
   |ret=>rfl
   |panic v=>rfl
theorem Wg{P:ao7}{call:cL}(lf:Nat)(b:List aqx):∀(c:apw) (t:Fr) (S:VS),di P call lf false c (t.dL b) S=(di P call lf false c t S).map (xS b):=by
 intro c
 induction c with
 |skip=>intro t S;rfl
 |region id ops dr=>
  intro t S
  cases dr with
  |false=>exact LJ b _ _ t S
  |true=>
   unfold di
   rw[LK]
   cases kw P call ops.toList ops.toList t S with
   |none=>rfl
   |some p=>
    obtain⟨t1,S1,gp⟩:=p
    show(match tc ops gp with|true=>_|false=>_)=auA _ (match tc ops gp with|true=>_|false=>_)
    cases tc ops gp<;>rfl
 |seq x y qD qE=>
  intro t S
  unfold di
  rw[qD]
  cases di P call lf false x t S with
  |none=>rfl
  |some p=>
   obtain⟨e,t1,S1⟩:=p
   cases e with
   |normal=>exact qE t1 S1
   |exit id=>rfl
   |ret=>rfl
   |panic v=>rfl
 |cond c x y qD qE=>
  intro t S
  unfold di
  rw[EE]
  split
  ·exact qD t S
  ·exact qE t S
  ·rfl
 |block id c ih=>
  intro t S
  unfold di
  rw[ih]
  cases di P call lf false c t S with
  |none=>rfl
  |some p=>
   obtain⟨e,t1,S1⟩:=p
   cases e with
   |exit j=>
    show(match ao6 j id with|true=>_|false=>_)=auA _ (match ao6 j id with|true=>_|false=>_)
    cases ao6 j id<;>rfl
   |normal=>rfl
   |ret=>rfl
   |panic v=>rfl
 |loop c ih=>intro t S;exact LL b ih lf t S
 |exit id=>intro t S;rfl
 |ret=>intro t S;rfl
 |scope c ih=>intro t S;exact ih t S
 |label l=>intro t S;rfl
 |_=>intros;rfl
def rJ:Obj→Bool
 | .deferred _| .loop _=>true
 |_=>false
theorem OR.row{P:ao7}{ρ:Ren}{r:bT}{o:ak}{o':Obj}(h:OR P ρ r o o'):rJ o'=false:=by cases h<;>rfl
section
variable {P:ao7} {B:Nat→Prop} {w₀ w w':ao4} {ρ:Ren} {g:Nat→Option ak} {M:List Nat}
theorem SR.EF(hb:gq B w₀ w){s:SV}{v:aoP}(h:SR P w₀ B s v):SR P w (fun k=>B k∨k∈M) s v:=by
 induction h with
 |val v h=>exact .val v h
 |nil el a=>exact .nil el a
 |cells n c el b off cap c' b8 fr hB gY hc hl hn gU=>exact .cells n c el b off cap c' b8 fr (.inl hB) ((hb.block b hB).trans gY) hc hl hn gU
 |nI size row a=>exact .nI size row a
 |rows n size row b off cap c' b8 fr hB gY hl hn gU hlen u hu hr ih=>exact .rows n size row b off cap c' b8 fr (.inl hB) ((hb.block b hB).trans gY) hl hn gU hlen u hu ih
theorem SR.EG(hb:gq B w₀ w)(hq:∀D∈M,∃o,w.heap[D]?=some o∧rJ o=true){s:SV}{v:aoP}(h:SR P w (fun k=>B k∨k∈M) s v):SR P w₀ B s v:=by
 have key:∀{b:Nat} {c':Array aoP} {b8:ao1} {fr:Nat×Nat},(B b∨b∈M)→w.heap[b]?=some (.cells c' b8 fr)→B b:=fun hB gY=>by
  rcases hB with hB|hB
  ·exact hB
  ·obtain⟨o,h1,h2⟩:=hq _ hB
   rw[gY]at h1
   cases h1
   cases h2
 induction h with
 |val v h=>exact .val v h
 |nil el a=>exact .nil el a
 |cells n c el b off cap c' b8 fr hB gY hc hl hn gU=>exact .cells n c el b off cap c' b8 fr (key hB gY) ((hb.block b (key hB gY)).symm.trans gY) hc hl hn gU
 |nI size row a=>exact .nI size row a
 |rows n size row b off cap c' b8 fr hB gY hl hn gU hlen u hu hr ih=>exact .rows n size row b off cap c' b8 fr (key hB gY) ((hb.block b (key hB gY)).symm.trans gY) hl hn gU hlen u hu ih
theorem mX.EF(hb:gq B w₀ w){r:bT}{n size:Nat}{row:Nat→List SV}(h:mX P w₀ B r n size row):mX P w (fun k=>B k∨k∈M) r n size row:=by
 obtain⟨h1,h2,c',b8,fr,h3,h4,h5,h6⟩:=h
 exact⟨.inl h1,h2,c',b8,fr,(hb.block _ h1).trans h3,h4,h5,fun i hi=>⟨(h6 i hi).1,fun k sv hk=>let⟨v',a,b⟩:=(h6 i hi).2 k sv hk;⟨v',a,b.EF hb⟩⟩⟩
theorem mX.EG(hb:gq B w₀ w)(hq:∀D∈M,∃o,w.heap[D]?=some o∧rJ o=true){r:bT}{n size:Nat}{row:Nat→List SV}(h:mX P w (fun k=>B k∨k∈M) r n size row):mX P w₀ B r n size row:=by
 obtain⟨h1,h2,c',b8,fr,h3,h4,h5,h6⟩:=h
 have hB:B r.aN:=by
  rcases h1 with h1|h1
  ·exact h1
  ·obtain⟨o,a,b⟩:=hq _ h1
   rw[h3]at a
   cases a
   cases b
 exact⟨hB,h2,c',b8,fr,(hb.block _ hB).symm.trans h3,h4,h5,fun i hi=>⟨(h6 i hi).1,fun k sv hk=>let⟨v',a,b⟩:=(h6 i hi).2 k sv hk;⟨v',a,b.EG hb hq⟩⟩⟩
theorem WR.Al(h:WR P B w₀ ρ g w)(hq:∀D∈M,∃o,w.heap[D]?=some o∧rJ o=true):WR P (fun k=>B k∨k∈M) w ρ g w where
 env:=h.env.next h.below fun _ hk=>.inl hk
 below:=gq.refl _ _
 size:=by
  rintro k (hk|hk)
  ·exact h.size k hk
  ·obtain⟨o,a,_⟩:=hq k hk
   exact(apQ.1 a).1
 live:=fun x o r hx hr hl=>by
  obtain⟨o',h1,h2,h3⟩:=h.live x o r hx hr hl
  refine⟨o',h1,h2,fun e=>?_⟩
  rintro(hk|hk)
  ·exact h3 e hk
  ·obtain⟨o2,a,b⟩:=hq _ hk
   rw[h1]at a
   cases a
   rw[h2.row]at b
   cases b
 inj:=h.inj
 fresh:=h.fresh
 rows:=fun x n size row hx=>let⟨r,a,b⟩:=h.rows x n size row hx;⟨r,a,fun hn=>(b hn).EF h.below⟩
 nil:=h.nil
 named:=h.named
 abs:=by
  obtain⟨F,a1,a2,a3⟩:=h.abs
  refine⟨fun x k=>F x k∧∃o,w.heap[k]?=some o∧zi o=true,fun x d hx=>?_,fun x k hk=>?_,fun x y k p q=>a3 x y k p.1 q.1⟩
  ·obtain⟨r,S,c,e,f⟩:=a1 x d hx
   exact⟨r,S,c,e,fun k hk=>⟨f k hk,e.row k hk⟩⟩
  ·obtain⟨b1,b2,b3,b4⟩:=a2 x k hk.1
   refine⟨b1,b2,?_,b4⟩
   rintro(hB|hM)
   ·exact b3 hB
   ·obtain⟨o,ho,hr⟩:=hk.2
    obtain⟨o2,xU,hn⟩:=hq k hM
    rw[ho]at xU
    cases xU
    cases o<;>first|(cases hr;done)|(cases hn;done)
theorem WR.Am(h:WR P (fun k=>B k∨k∈M) w ρ g w')(he:Env B w₀)(hb:gq B w₀ w)(hs:∀k,B k→k<w.heap.size)(hq:∀D∈M,∃o,w.heap[D]?=some o∧rJ o=true):WR P B w₀ ρ g w' where
 env:=he
 below:=hb.trans ⟨h.below.os,h.below.tape,h.below.output,h.below.size,fun k hk=>h.below.block k (.inl hk)⟩
 size:=fun k hk=>h.size k (.inl hk)
 live:=fun x o r hx hr hl=>by
  obtain⟨o',h1,h2,h3⟩:=h.live x o r hx hr hl
  exact⟨o',h1,h2,fun e hk=>h3 e (.inl hk)⟩
 inj:=h.inj
 fresh:=h.fresh
 rows:=fun x n size row hx=>let⟨r,a,b⟩:=h.rows x n size row hx;⟨r,a,fun hn=>(b hn).EG hb hq⟩
 nil:=h.nil
 named:=h.named
 abs:=h.abs.next (fun x d hx=>⟨hx,rfl⟩) (fun k _ a b=>⟨rfl,fun hB=>a (.inl hB),b⟩) (apn _)
theorem WR.An(h:WR P (fun k=>B k∨k∈M) w ρ g w'){D:Nat}(hD:D∈M):w'.heap[D]?=w.heap[D]? :=h.below.block D (.inr hD)
end
end Go.Proofs.YtnlkkgpcikkpoaaGreat.Vm
