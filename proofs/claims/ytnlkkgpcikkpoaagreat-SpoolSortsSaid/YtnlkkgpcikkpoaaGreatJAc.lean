/- Part of the proof: Vb. -/
import Derived.Test.YtnlkkgpcikkpoaaGreatJAb
import Derived.LoopNIn
import Derived.OrdersIn
import Derived.Scope
import Derived.Recover
open Array renaming all_eq_true_iff_forall_mem->avr,ext'->atl,getD_eq_getD_getElem?->ar8,getElem?_append_left->auP,getElem?_eq_getElem->atp,getElem?_eq_none->auA,getElem?_eq_some_iff->asq,getElem?_setIfInBounds_ne->asX,getElem?_setIfInBounds_self->as0,getElem?_toList->ata,mem_append->auq,mem_of_getElem?->awJ,mem_toList_iff->as6,replicate->atI,toList_append->asY,toList_extract->atf,toList_map->auo
open Bool renaming and_eq_true->BV,false_eq_true->asv,not_false->awI,or_eq_true->aue,or_false->awa
open Go renaming Addr->atU,Code->ar3,Deferred->as4,Ending->awk,Exit->atO,Frame->avH,FrameMode->aua,Func->avB,FuncId->arY,Leaves->axY,MapEntry->arW,Next->atu,Oper->ast,Operand->asW,Program->arC,TypeDesc->avp,TypeId->KS,Value->Dy,World->arB,run_program->atw,wpIn_wide->avx
open Go.ArrivesIn renaming of_steps->av5
open Go.Builtin renaming append_->auy,clear_->au5,copy_->awY,delete_->auW,firstCells->atB,growBy->axH,lenOf->axM,len_->atd,nextslicecap->avD,zeroCells->atr
open Go.Call renaming operands->auO
open Go.Deferred renaming ofValue->awi
open Go.Exit renaming inBlock->avG
open Go.Frame renaming atR->ayu
open Go.Instr renaming checkKey->avT,findKey->axN,findNow->auw,indexAt->aug,lookup->atK,mapUpdate->auV,sameNow->avn
open Go.IntKind renaming i64->Ul
open Go.Made renaming depth->ayn
open Go.Next renaming value->asE
open Go.Op renaming operands->avh
open Go.Oper renaming apart_spec->awy,looksAt->axX,wpIn->ayt
open Go.Question renaming appendCap->auY
open Go.Region renaming binds->atJ,ready->auZ,wanted->asZ
open Go.Result renaming andThen_ok->Dz
open Go.Sem renaming run->at5,run_bind->DA,run_pure->asa
open Go.Value renaming int->KJ
open Go.stepG renaming exec->ayo
open List renaming all_eq_true->ar1,eq_nil_of_length_eq_zero->ar5,extract_eq_take_drop->as1,getElem?_append_left->asl,getElem?_append_right->asd,getElem?_cons_succ->asF,getElem?_cons_zero->asf,getElem?_drop->asH,getElem?_eq_getElem->KH,getElem?_eq_some_iff->KP,getElem?_take->asL,length_append->KO,length_cons->ar4,length_eraseIdx->awR,mapM_cons->avS,map_congr_left->atc,mem_append->arL,mem_cons->arD,mem_cons_of_mem->arG,mem_cons_self->arH,mem_map->as8,mem_toArray->avq,range'->avZ,range'_succ->avs,range_eq_range'->avF,take_of_length_le->asN
open Nat renaming add_assoc->atm,add_comm->aw6,add_mul->awD,beq->arE,ble_eq->axw,blt->arF,eq_of_beq_eq_true->arJ,le_of_ble_eq_true->arU,le_of_lt->auH,le_refl->arO,lor->avw,min->avR,mul_eq_zero->axv,mul_le_mul_right->aui,shiftRight->au4,testBit_or->awK,zero_add->as9,zero_mul->awh
open Option renaming getD_some->ati,isNone_some->aw5,map->axx,map_eq_some_iff->asw,map_map->avU,map_some->asO
open Option.some renaming injEq->DE
open Prod.mk renaming injEq->KN
set_option linter.unusedVariables false
set_option linter.unusedSimpArgs false
set_option maxRecDepth 100000
namespace Go.Proofs.YtnlkkgpcikkpoaaGreat.Vm
open Go.RowKit
section
variable {P:arC} {B:Nat->Prop} {w₀:arB} {ρ:Ren} {g:Nat->Option ak} {n:Nat} {w:arB}
theorem AE{a:Option atU}{l c:Nat}(h:ag (.slice a l c)=true):a=none/\l=0/\c=0:=by
 cases a with
 |some a=>simp[ag]at h
 |none=>
  cases l with
  |succ l=>simp[ag]at h
  |zero=>cases c with
   |succ c=>simp[ag]at h
   |zero=>exact⟨rfl,rfl,rfl⟩
theorem LW{x x':Dy}(hx:VR ρ x x'){k:Nat}(h:si x=some k):(axM x').run P w=.ok k w:=by
 unfold si at h
 split at h
 ·cases h;cases hx<;>first|rfl|(rename_i h;unfold ag at h;split at h<;>first|(rename_i e;cases e;rfl)|cases h)
 ·cases h;rw[hx.qa];rfl
 ·cases h
theorem LX(hw:WR P B w₀ ρ g w){x x':Dy}(hx:VR ρ x x'){size k m:Nat}(hm:si x=some m)(hk:k<=m){xs:List Dy}{l:List Nat}
 (h:(sg size x k).run g=some (xs,l)):∃ko:Array Dy,(∀w':arB,w'.heap=w.heap->(atB size k x').run P w'=.ok ko w')/\LR ρ xs ko.toList:=by
 unfold sg at h
 split at h
 ·rename_i b off len cap
  obtain⟨o,l',hb,ec,rfl⟩:=Rd.run_read h
  split at ec
  ·rename_i c el ro
   have qU:=Rd.Ls ec
   obtain⟨hle,rfl⟩:=vO qU
   simp only[si,DE]at hm
   cases hx with
   |bN _ h=>cases h
   |eJ _ a'=>
    have:k=0:=by omega
    subst this
    refine⟨#[],λw' _=>?_,by simpa using LR.nil ρ⟩
    unfold atB
    simp only[awh]
    cases a'<;>rfl
   |sl _ _ _ _ bH r hr hc=>
    by_cases hlen:k*size=0
    ·refine⟨#[],λw' _=>?_,by rw[hlen];simpa using LR.nil ρ⟩
     unfold atB
     simp only[hlen]
     rfl
    obtain⟨c',fr,⟨cj,h1,he⟩,hp,jw,hz,hf,hl,hB⟩:=sx hw hb hr (pc (by intro e;rw[e]at hle;simp at hle;omega))
    refine⟨_,λw' hh=>As (by rw[hh];exact h1) _ _ (by omega),?_⟩
    simpa using Av hl hle
  ·cases ec
 ·cases hx with
  |bN=>
   simp only[Rd.run,DE,KN]at h
   obtain⟨rfl,rfl⟩:=h
   exact⟨#[],λw' _=>rfl,by simpa using LR.nil ρ⟩
 ·rename_i s
  rw[hx.qa]
  simp only[Rd.run,DE,KN]at h
  obtain⟨rfl,rfl⟩:=h
  refine⟨_,λw' _=>rfl,?_⟩
  have:(Array.map (λb:UInt8=>KJ .u8 b.toNat) (s.extract 0 k).data).toList=(s.data.toList.take k).map λb=>KJ .u8 b.toNat:=by
   simp[ByteArray.data_extract,atf,as1]
  rw[this]
  exact LR.map _ _ _ λb _=>.bN _ rfl
 ·cases h
theorem WS{x:Dy}{size:Nat}{xs:List Dy}{l:List Nat}(h:(sg size x 0).run g=some (xs,l)):xs=[]:=by
 unfold sg at h
 split at h
 ·obtain⟨o,l',hb,ec,rfl⟩:=Rd.run_read h
  split at ec
  ·obtain⟨hle,rfl⟩:=vO (Rd.Ls ec)
   simp
  ·cases ec
 ·simp only[Rd.run,DE,KN]at h;exact h.1.symm
 ·simp only[Rd.run,DE,KN]at h;rw[<-h.1];rfl
 ·cases h
theorem LY(vS:Nat):∀(r c:Nat),c<=vS+(vS+768)/4->axH vS r c<=vS+(vS+768)/4
 |0,c,h=>h
 |r+1,c,h=>by
  unfold axH
  split
  ·exact h
  ·exact LY vS r _ (by omega)
theorem nextslicecap_le{cY cap:Nat}(h:cap<cY):avD cY cap<=2*cY+768:=by
 unfold avD
 split
 ·omega
 ·split
  ·omega
  ·have:=LY cY 4 cap (by omega)
   omega
structure E3(P:arC)(w:arB)(argTypes:Array KS)(args:Array Dy)(elem:KS)(size len cap k:Nat)(base:Option atU)(x:Dy)(z:Dy)(bytes:Nat)(xs:Array Dy):Prop where
 e1:∃sT xT rest xd,argTypes.toList=sT::xT::rest/\P.underlying sT=some (.slice elem)/\P.underlying xT=some xd/\isInt xd=false
 e2:∃rest,args.toList=.slice base len cap::x::rest
 sz:bZ P elem=some size
 zero:zeroOf P elem=some z
 apE:∃inf,P.info? elem=some inf/\inf.bytes=bytes
 len_:∀w:arB,(axM x).run P w=.ok k w
 cells:∀w':arB,w'.heap=w.heap->(atB size k x).run P w'=.ok xs w'
theorem kS{α:Type}{a:Array α}{l:List α}(h:a.toList=l)(i:Nat):a[i]?=l[i]? :=by rw[<-h];simp
theorem yf{argTypes:Array KS}{ty:KS}{args:Array Dy}{elem:KS}{size len cap k:Nat}{base:Option atU}{x z:Dy}{bytes:Nat}{xs:Array Dy}
 (h:E3 P w argTypes args elem size len cap k base x z bytes xs)(hle:len+k<=cap):
 (auy argTypes ty args).run P w=match base with
   |some a=>((storeCells (a.add (len*size)) xs.toList).run P w).andThen λ_ w'=>.ok (.slice (some a) (len+k) cap) w'
   |none=>.ok (.slice none (len+k) cap) w:=by
 obtain⟨⟨sT,xT,rest,xd,h1,h2,h3,h4⟩,⟨sB,h5⟩,h6,h7,h8,h9,bx⟩:=h
 unfold auy
 have a0:argTypes[0]?=some sT:=by rw[kS h1];rfl
 have a1:argTypes[1]?=some xT:=by rw[kS h1];rfl
 have b0:args[0]?=some (.slice base len cap):=by rw[kS h5];rfl
 have b1:args[1]?=some x:=by rw[kS h5];rfl
 simp only[a0,a1,b0,b1]
 rw[DA,run_underlying h2,Dz]
 dsimp only
 rw[DA,run_sizeOf h6,Dz]
 rw[DA,run_underlying h3,Dz,DA,asa,Dz]
 cases xd
 case int=>cases h4
 all_goals
  dsimp only
  simp only[asv,if_false]
  rw[DA,h9,Dz,if_pos hle]
  simp only[awI,if_true]
  rw[DA,bx w rfl,Dz]
  cases base with
  |none=>rfl
  |some a=>rw[DA];rfl
theorem run_append_grow{argTypes:Array KS}{ty:KS}{args:Array Dy}{elem:KS}{size len cap k:Nat}{base:Option atU}{x z:Dy}{bytes:Nat}{xs old:Array Dy}
 (h:E3 P w argTypes args elem size len cap k base x z bytes xs)(hlt:cap<len+k)(hb:bytes<=1000000)(hn:len+k<=1000000)
 (hold:(atB size len (.slice base len cap)).run P w.drew=.ok old w.drew):
 ∃bH,len+k<=bH/\(auy argTypes ty args).run P w=
  .ok (.slice (some ⟨w.heap.size,0,none⟩) (len+k) bH) (w.drew.alloc (.cells (old++xs++atr z.cells (bH-(len+k))) elem)):=by
 obtain⟨⟨sT,xT,rest,xd,h1,h2,h3,h4⟩,⟨sB,h5⟩,h6,h7,⟨inf,h8,apF⟩,h9,bx⟩:=h
 refine⟨(auY (len+k) cap elem).cut (w.tape w.drawn (.appendCap (len+k) cap elem)),by simp[Question.cut],?_⟩
 generalize hq:(auY (len+k) cap elem).cut (w.tape w.drawn (.appendCap (len+k) cap elem))=bH
 unfold auy
 have a0:argTypes[0]?=some sT:=by rw[kS h1];rfl
 have a1:argTypes[1]?=some xT:=by rw[kS h1];rfl
 have b0:args[0]?=some (.slice base len cap):=by rw[kS h5];rfl
 have b1:args[1]?=some x:=by rw[kS h5];rfl
 simp only[a0,a1,b0,b1]
 rw[DA,run_underlying h2,Dz]
 dsimp only
 rw[DA,run_sizeOf h6,Dz]
 rw[DA,run_underlying h3,Dz,DA,asa,Dz]
 cases xd
 case int=>cases h4
 all_goals
  dsimp only
  simp only[asv,if_false]
  rw[DA,h9,Dz,if_neg (by omega)]
  have yg:∀w:arB,(typeInfo elem).run P w=.ok inf w:=λw=>by unfold typeInfo;rw[DA,atw,Dz,h8];rfl
  have apG:=nextslicecap_le hlt
  have WD:avD (len+k) cap*inf.bytes<=2000768*1000000:=Nat.mul_le_mul (by omega) (by omega)
  have E4:¬((len+k:Nat):Int)>Ul.max:=by
   have:Ul.max=9223372036854775807:=rfl
   rw[this];omega
  rw[DA,yg,Dz]
  rw[if_neg (by rintro⟨h,_⟩;exact E4 h)]
  rw[DA,yg,Dz]
  rw[if_neg (by omega)]
  rw[DA,run_choose,if_neg (by simp[Question.forced]),hq,Dz,DA,yg,Dz,DA,run_askRoom,Dz]
  have WT:=hold
  simp only[World.drew_eq]
  rw[DA,WT,Dz,DA]
  simp only[awI,if_true]
  rw[bx w.drew rfl,Dz,DA,nO h7,Dz,DA,vQ,Dz]
  rfl
theorem WU(z:Array Dy)(m:Nat):(atr z m).size=m*z.size:=by simp[atr]
theorem WV{elem:KS}{size len k:Nat}{b off:Nat}{xs:List Dy}{out:bo}{l:List Nat}(h:(vD elem size len k (some ⟨b,off,none⟩) xs n).run g=some (out,l)):
 ∃c,g b=some (.cells c elem false)/\off+len*size=c.length/\out=⟨.val (.slice (some ⟨n,0,none⟩) (len+k) (len+k)),[(b,.dead)],some (.cells (c.drop off++xs) elem false)⟩:=by
 unfold vD at h
 obtain⟨o,l',hb,hk,rfl⟩:=Rd.run_read h
 split at hk
 ·rename_i c el
  split at hk
  ·rename_i hc
   simp only[BV]at hc
   have h1:=arJ hc.1
   have h2:=arJ hc.2
   subst h2
   simp only[Rd.run,DE,KN]at hk
   exact⟨c,hb,h1,hk.1.symm⟩
  ·cases hk
 ·cases hk
theorem WW{size len cap k:Nat}{b off:Nat}{xs:List Dy}{out:bo}{l:List Nat}(h:(xK size len cap k (some ⟨b,off,none⟩) xs).run g=some (out,l)):
 ∃c el,g b=some (.cells c el false)/\off+len*size+xs.length<=c.length/\len+k<=cap/\
  out=⟨.val (.slice (some ⟨b,off,none⟩) (len+k) cap),[(b,.cells (bc c (off+len*size) xs) el false)],none⟩:=by
 unfold xK at h
 obtain⟨o,l',hb,hk,rfl⟩:=Rd.run_read h
 split at hk
 ·rename_i c el
  split at hk
  ·rename_i hc
   simp only[BV]at hc
   have h0:=arU hc.1
   have h1:=arU hc.2
   simp only[Rd.run,DE,KN]at hk
   exact⟨c,el,hb,h1,h0,hk.1.symm⟩
  ·cases hk
 ·cases hk
theorem Fits.grown(hw:WR P B w₀ ρ g w)(hn:g n=none){cs:List Dy}{old xs:Array Dy}{elem:KS}{size cY bH:Nat}{z:Dy}(cc:bZ P elem=some size)(hz:z.cells.size=size)
 (hle:cY<=bH)(hl:LR ρ cs (old++xs).toList)(hlen:cs.length=cY*size):
 Fits P B w₀ ρ g n ⟨.val (.slice (some ⟨n,0,none⟩) cY cY),[],some (.cells cs elem false)⟩
  (.ok (.value (.slice (some ⟨w.heap.size,0,none⟩) cY bH)) (w.drew.alloc (.cells (old++xs++atr z.cells (bH-cY)) elem))):=by
 have hs:(old++xs).size=cY*size:=by have:=hl.len;simp at this⊢;omega
 have hmul:cY*size+(bH-cY)*size=bH*size:=by rw[<-awD];congr 1;omega
 have LZ:(old++xs++atr z.cells (bH-cY)).size=bH*size:=by
  rw[Array.size_append,hs,WU,hz,hmul]
 refine⟨ρ.put n ⟨w.drew.heap.size,0,(bZ P elem).getD 0,(old++xs++atr z.cells (bH-cY)).size⟩,_,Ren.kQ (hw.fresh n hn) _,.val _ _ _ ?_,hw.drew.newRow hn ?_ (.inl rfl) ?_⟩
 ·have:=VR.sl (ρ:=ρ.put n ⟨w.drew.heap.size,0,(bZ P elem).getD 0,(old++xs++atr z.cells (bH-cY)).size⟩) n 0 cY cY bH _ (Ren.lr _ _ _) (.inr ⟨hle,by rw[LZ,cc];simp⟩)
  simpa using this
 ·rw[LZ,hlen];exact aui _ hle
 ·rw[asY,hlen,List.take_append_of_le_length (by simp at hs⊢;omega),asN (by simp at hs⊢;omega)]
  exact hl
theorem Fits.kill{b:Nat}{ob:ak}(hb:g b=some ob){v:Dy}{o:ak}{pg:Result atu}(h:Fits P B w₀ ρ (cX g b .dead) n ⟨.val v,[],some o⟩ pg):
 Fits P B w₀ ρ g n ⟨.val v,[(b,.dead)],some o⟩ pg:=by
 obtain⟨ρ',w',h1,h2,h3⟩:=h
 exact⟨ρ',w',h1,h2,h3⟩
theorem WX(hw:WR P B w₀ ρ g w){argTypes:Array KS}{ty:KS}{args:List Dy}{args':Array Dy}(iw:LR ρ args args'.toList){out:bo}{l:List Nat}
 (hn:out.nw≠none->g n=none)(h:(xL P argTypes.toList args n).run g=some (out,l)):Fits P B w₀ ρ g n out ((do let v <-auy argTypes ty args';pure (asE v):Sem atu).run P w):=by
 unfold xL at h
 split at h
 ·rename_i sT xT rest base len cap x AF ca
  obtain⟨s',t',ht,oH,jx⟩:=iw.gT
  obtain⟨x',t2,rfl,gX,yh⟩:=jx.gT
  split at h
  ·rename_i elem xd vT ud
   split at h
   ·rename_i size k z bytes cc hlen hz qW
    obtain⟨inf,pk,ue⟩:∃inf,P.info? elem=some inf/\inf.bytes=bytes:=by
     cases pk:P.info? elem with
     |none=>rw[pk]at qW;cases qW
     |some inf=>rw[pk]at qW;cases qW;exact⟨inf,rfl,rfl⟩
    split at h
    ·cases h
    ·rename_i gW
     simp only[BV,Bool.not_eq_true']at gW
     obtain⟨⟨⟨hint,jl⟩,yi⟩,ug⟩:=gW
     have ug:0<size:=by simp[arF]at ug;omega
     have jl:=arU jl
     have yi:=arJ yi
     have kp:∀{E5 bH:Nat} {sC:Option atU} {ko:Array Dy} {k:Nat},s'=.slice sC E5 bH->si x=some k->
      (∀w':arB,w'.heap=w.heap->(atB size k x').run P w'=.ok ko w')->E3 P w argTypes args' elem size E5 bH k sC x' z bytes ko:=by
      intro E5 bH sC ko k hs hl hc
      subst hs
      exact⟨⟨sT,xT,rest,xd,ca,vT,ud,hint⟩,⟨t2,ht⟩,cc,hz,⟨inf,pk,ue⟩,λw=>LW gX hl,hc⟩
     obtain⟨xs,l1,l2,h1,h2,rfl⟩:=(Rd.run_bind _ _ _ _ _).1 h
     obtain⟨ko,qg,jy⟩:=LX hw gX hlen (arO _) h1
     split at h2
     ·cases h2
     ·rename_i gW
      simp only[BV]at gW
      obtain⟨⟨cB,AG⟩,iT⟩:=gW
      have cB:=arU cB
      have iT:=arJ iT
      have apH:ko.size=k*size:=by have:=jy.len;simp at this;omega
      have L0:∀q,bZ P elem=some q->(bZ P elem).getD 0=q:=λq hq=>by rw[hq];rfl
      split at h2
      ·rename_i AH
       have AH:cap<=len:=by
        unfold full at AH
        split at AH
        ·omega
        ·exact arU AH
       cases base with
       |none=>
        cases oH with
        |bN _ kq=>
         obtain⟨_,rfl,rfl⟩:=AE kq
         have vU:out=⟨.val (.slice (some ⟨n,0,none⟩) k k),[],some (.cells xs elem false)⟩:=by
          unfold vD at h2
          simp only[Rd.run,DE,KN]at h2
          exact h2.1.symm
         subst vU
         replace hn:=hn (by intro hh;cases hh)
         by_cases iQ:k=0
         ·subst iQ
          have oI:xs=[]:=ar5 (by rw[iT];omega)
          subst oI
          have gq:ko.toList=[]:=jy.kO
          rw[DA,yf (kp rfl hlen qg) (arO 0)]
          exact⟨_,w,Ren.kQ (hw.fresh n hn) ⟨0,0,(bZ P elem).getD 0,0⟩,.val _ _ _ (.eJ _ _),hw.yd hn rfl (λm s q e=>by cases e) (λel ro e=>by cases e;exact L0)⟩
         ·obtain⟨bH,h3,h4⟩:=run_append_grow (ty:=ty) (old:= #[]) (kp rfl hlen qg) (by omega) jl cB rfl
          rw[DA,h4,Dz]
          rw[as9]at h3⊢
          exact Fits.grown hw hn cc yi h3 (by simpa using jy) iT
       |some a=>
        obtain⟨b,off,spot⟩:=a
        cases spot with
        |some sp=>cases h2
        |none=>
         obtain⟨c,hb,uh,rfl⟩:=WV h2
         replace hn:=hn (by intro hh;cases hh)
         have br:n≠b:=by rintro rfl;rw[hn]at hb;cases hb
         have E6:cX g b .dead n=none:=by rw[eB _ br,hn]
         have L4:(c.drop off).length=len*size:=by simp;omega
         have du:(c.drop off++xs).length=(len+k)*size:=by rw[KO,L4,iT,awD len k size]
         have L5:∀a',s'=.slice a' 0 0->len=0->c.drop off=[]->Fits P B w₀ ρ g n ⟨.val (.slice (some ⟨n,0,none⟩) (len+k) (len+k)),[(b,.dead)],some (.cells (c.drop off++xs) elem false)⟩ ((do let v <-auy argTypes ty args';pure (asE v):Sem atu).run P w):=by
          intro a' hs AI qh
          subst AI
          by_cases iQ:k=0
          ·subst iQ
           have oI:xs=[]:=ar5 (by rw[iT];omega)
           subst oI
           have gq:ko.toList=[]:=jy.kO
           rw[DA,yf (kp hs hlen qg) (arO 0),qh]
           refine Fits.kill hb ?_
           suffices nT:WR P B w₀ (ρ.put n ⟨0,0,(bZ P elem).getD 0,0⟩) (cX (cX g b .dead) n (.cells ([]++[]) elem false)) w by
            cases a' with
            |none=>exact⟨_,w,Ren.kQ (hw.fresh n hn) _,.val _ _ _ (.eJ _ _),nT⟩
            |some a'=>rw[gq];exact⟨_,w,Ren.kQ (hw.fresh n hn) _,.val _ _ _ (.eJ _ _),nT⟩
           exact(hw.kill b hb).yd E6 rfl (λm s q e=>by cases e) (λel ro e=>by cases e;exact L0)
          ·obtain⟨bH,h3,h4⟩:=run_append_grow (ty:=ty) (old:= #[]) (kp hs hlen qg) (by omega) jl cB (by unfold atB;simp only[awh];cases a'<;>rfl)
           rw[DA,h4,Dz]
           refine Fits.kill hb (Fits.grown (hw.kill b hb) E6 cc yi h3 ?_ du)
           rw[qh];simpa using jy
         generalize qi:s'=sv at oH
         cases oH with
         |bN _ kq=>cases kq
         |eJ _ a'=>exact L5 a' qi rfl (by rw[List.drop_eq_nil_iff];omega)
         |sl _ _ _ _ bH r hr hc=>
          cases mq:Live (.cells c elem false) r with
          |false=>
           obtain⟨L6,WY⟩:=EE mq
           have iM:=Lv hw hb hr size cc
           have AI:len=0:=by
            rw[L6]at uh
            have:len*size=0:=by simp at uh;omega
            rcases axv.1 this with h|h<;>omega
           have WZ:bH=0:=by
            rcases hc with hc|⟨_,hc⟩
            ·omega
            ·rw[WY,iM]at hc
             have:bH*size=0:=by omega
             rcases axv.1 this with h|h<;>omega
           refine L5 _ (by rw[qi,AI,WZ]) AI (by rw[L6];simp)
          |true=>
           obtain⟨c',fr,⟨cj,L7,he⟩,hp,jw,AJ,hf,hl,hB⟩:=sx hw hb hr mq
           obtain rfl:=he rfl
           replace hf:=hf rfl
           have W5:r.sz=size:=AJ size cc
           by_cases gl:len+k<=bH
           ·have L8:r.sh+off+(len+k)*size<=r.dJ:=by
             rcases hc with hc|⟨sy,jj⟩
             ·have iQ:k=0:=by omega
              subst iQ
              rw[Nat.add_zero];omega
             ·rw[W5]at jj
              have apI:(len+k)*size<=bH*size:=aui _ gl
              omega
            have W6:=L8
            rw[awD len k size]at W6
            obtain⟨w',h3,h4⟩:=EM (P:=P) ko.toList w c' (r.sh+off+len*size) 0 (pe.refl L7) (by simp;omega) (by rwa[hp]) (jy.An AG)
            rw[DA,yf (kp qi hlen qg) gl]
            simp only[qb]
            rw[h3]
            refine⟨ρ.put n ⟨r.aH,r.sh+off,r.sz,r.dJ⟩,w',Ren.kQ (hw.fresh n hn) _,.val _ _ _ ?_,hw.rename hn hb mq hr (hB rfl) h4 rfl ?_⟩
            ·have W7:Ez ⟨r.aH,r.sh+off,r.sz,r.dJ⟩ 0 (len+k) bH:=by
              rcases hc with hc|⟨sy,jj⟩
              ·left;omega
              ·right;exact⟨gl,by simpa using jj⟩
             have:=VR.sl (ρ:=ρ.put n ⟨r.aH,r.sh+off,r.sz,r.dJ⟩) n 0 (len+k) (len+k) bH _ (Ren.lr _ _ _) W7
             simpa using this
            ·refine .cells _ _ _ _ _ fr (by rw[EL];exact hp) (by show r.sh+off+(c.drop off++xs).length<=r.dJ;rw[du];exact L8) (λ_=>rfl) (λm hm=>AJ m hm) (λ_=>hf) λi v hi=>?_
             simp only at*
             rw[Ar _ _ _ _ (by simp;omega)]
             have W8:=jy.len
             simp at W8
             by_cases qZ:i<len*size
             ·rw[asl (by omega),asH]at hi
              rw[if_neg (by omega)]
              obtain⟨v',h5,h6⟩:=hl.get hi
              rw[asL]at h5
              split at h5
              ·exact⟨v',by simpa[atm]using h5,h6.mono (Ren.kQ (hw.fresh n hn) _)⟩
              ·cases h5
             ·rw[asd (by omega),L4]at hi
              have apJ:i-len*size<xs.length:=(KP.1 hi).1
              obtain⟨v',h5,h6⟩:=jy.get hi
              rw[if_pos (by simp;omega)]
              refine⟨v',?_,h6.mono (Ren.kQ (hw.fresh n hn) _)⟩
              rw[<-h5]
              congr 1
              omega
           ·have hold:∀w':arB,w'.heap=w.heap->(atB size len (.slice (some ⟨r.aH,r.sh+off,none⟩) len bH)).run P w'=.ok ((c'.toList.drop (r.sh+off)).take (len*size)).toArray w':=
             λw' hh=>As (by rw[hh];exact L7) _ _ (by omega)
            obtain⟨L9,h3,h4⟩:=run_append_grow (ty:=ty) (kp qi hlen qg) (by omega) jl cB (hold w.drew rfl)
            rw[DA,h4,Dz]
            refine Fits.kill hb (Fits.grown (hw.kill b hb) E6 cc yi h3 ?_ du)
            have h5:=Av hl (off:=off) (n:=len*size) (by omega)
            rw[asN (by omega:(c.drop off).length<=len*size)]at h5
            simpa using h5.append jy
      ·cases base with
       |none=>cases h2
       |some a=>
        obtain⟨b,off,spot⟩:=a
        cases spot with
        |some sp=>cases h2
        |none=>
         obtain⟨c,el,hb,hbound,hle,rfl⟩:=WW h2
         generalize qi:s'=sv at oH
         cases oH with
         |bN _ kq=>cases kq
         |eJ _ a'=>
          have oI:xs=[]:=ar5 (by rw[iT];have:k=0:=by omega
                                 rw[this];omega)
          subst oI
          have gq:ko.toList=[]:=jy.kO
          have iQ:k=0:=by omega
          subst iQ
          have:cX g b (.cells (bc c (off+0*size) []) el false)=g:=by
           funext x
           by_cases e:x=b
           ·subst e;rw[fB,hb];simp[bc]
           ·rw[eB _ e]
          rw[DA,yf (kp qi hlen qg) (by omega)]
          suffices nT:WR P B w₀ ρ (cX g b (.cells (bc c (off+0*size) []) el false)) w by
           cases a' with
           |none=>exact⟨ρ,w,Ren.le_refl ρ,.val _ _ _ (.eJ _ _),nT⟩
           |some a'=>rw[gq];exact⟨ρ,w,Ren.le_refl ρ,.val _ _ _ (.eJ _ _),nT⟩
          rw[this]
          exact hw
         |sl _ _ _ _ bH r hr hc=>
          have jQ:cap<=bH:=by rcases hc with hc|hc<;>omega
          obtain⟨w',h3,h4⟩:=hw.store hb hr jy hbound AG
          rw[DA,yf (kp qi hlen qg) (by omega)]
          simp only[qb,atm]
          rw[h3]
          exact⟨ρ,w',Ren.le_refl ρ,.val _ _ _ (.sl _ _ _ _ _ _ hr hc),h4⟩
   ·cases h
  ·cases h
 ·cases h
theorem W9(hw:WR P B w₀ ρ g w){argTypes:Array KS}{ty:KS}{args:List Dy}{args':Array Dy}(iw:LR ρ args args'.toList){out:bo}{l:List Nat}
 (h:(copyV P argTypes.toList args).run g=some (out,l)):Fits P B w₀ ρ g n out ((do let v <-awY argTypes ty args';pure (asE v):Sem atu).run P w):=by
 unfold copyV at h
 split at h
 ·rename_i dT rest base len cap x AF ca
  obtain⟨s',t',ht,oH,jx⟩:=iw.gT
  obtain⟨x',t2,rfl,gX,yh⟩:=jx.gT
  split at h
  ·rename_i elem hu
   split at h
   ·rename_i size k cc hlen
    obtain⟨xs,l1,l2,h1,h2,rfl⟩:=(Rd.run_bind _ _ _ _ _).1 h
    obtain⟨ko,qg,jy⟩:=LX hw gX hlen (Nat.min_le_left _ _) h1
    have a0:argTypes[0]?=some dT:=by rw[kS ca];rfl
    have b0:args'[0]?=some s':=by rw[kS ht];rfl
    have b1:args'[1]?=some x':=by rw[kS ht];rfl
    have key:∀(sC:Option atU) (bH:Nat),s'=.slice sC len bH->(awY argTypes ty args').run P w=match sC with
     |some a=>((storeCells a ko.toList).run P w).andThen λ_ w'=>.ok (.int .i64 (avR k len)) w'
     |none=>.ok (.int .i64 (avR k len)) w:=by
     intro sC bH hs
     subst hs
     unfold awY
     simp only[a0,b0,b1]
     rw[DA,run_underlying hu,Dz]
     dsimp only
     rw[DA,LW gX hlen,Dz]
     rw[DA,run_sizeOf cc,Dz,DA,qg w rfl,Dz]
     cases sC with
     |none=>rfl
     |some a=>rw[DA];rfl
    split at h2
    ·cases oH with
     |bN _ kq=>
      rw[DA,key _ _ rfl]
      exact Fits.dK hw h2 (.bN _ rfl)
    ·rename_i b off
     obtain⟨o,l',hb,hk,rfl⟩:=Rd.run_read h2
     split at hk
     ·rename_i c el
      split at hk
      ·rename_i gW
       simp only[BV]at gW
       have hle:=arU gW.1
       simp only[Rd.run,DE,KN]at hk
       obtain⟨rfl,rfl⟩:=hk
       cases oH with
       |bN _ kq=>cases kq
       |eJ _ a'=>
        have oI:xs=[]:=WS (by have hm:avR k 0=0:=Nat.min_zero k;rw[hm]at h1;exact h1)
        subst oI
        have gq:ko.toList=[]:=jy.kO
        rw[DA,key _ _ rfl]
        simp only[gq]
        suffices nT:WR P B w₀ ρ (vN g n {r:=kM.val (KJ .i64 (avR k 0)),ws:=[(b,ak.cells (bc c off []) el false)],nw:=none}) w by
         cases a'<;>exact⟨ρ,w,Ren.le_refl ρ,.val _ _ _ (.bN _ rfl),nT⟩
        have cZ:bc c off []=c:=by
         unfold bc
         simp
        have:vN g n {r:=kM.val (KJ .i64 (avR k 0)),ws:=[(b,ak.cells (bc c off []) el false)],nw:=none}=g:=by
         show cX g b _=g
         rw[cZ]
         exact LI hb
        rw[this]
        exact hw
       |sl _ _ _ _ bH r hr hc=>
        obtain⟨w',h3,h4⟩:=hw.store hb hr jy hle gW.2
        rw[DA,key _ _ rfl]
        simp only[h3,Dz]
        exact⟨ρ,w',Ren.le_refl ρ,.val _ _ _ (.bN _ rfl),h4⟩
      ·cases hk
     ·cases hk
    ·cases h2
   ·cases h
  ·cases h
 ·cases h
end
end Go.Proofs.YtnlkkgpcikkpoaaGreat.Vm
namespace Go.Proofs.YtnlkkgpcikkpoaaGreat.Vm
open Go.RowKit
theorem Xa{x y:ByteArray}(h:(x==y)=true):x=y:=by
 have h2:(x.data==y.data)=true:=h
 cases x;cases y
 simp at h2
 rw[h2]
theorem Ma(x:ByteArray):(x==x)=true:=by
 show(x.data==x.data)=true
 simp
section
variable {P:arC} {B:Nat->Prop} {w₀:arB} {ρ:Ren} {g:Nat->Option ak} {n:Nat} {w:arB}
theorem AK(hw:WR P B w₀ ρ g w){b:Nat}{es:List arW}{clock:Nat}(hb:g b=some (.map es clock)){r:bV}(hr:ρ b=some r):
 ∃db,w.heap[r.aH]?=some (.map db clock)/\es.length=db.toList.length/\(∀(i:Nat) (e e':arW),es[i]?=some e->db.toList[i]?=some e'->nM ρ e e')/\¬B r.aH:=by
 obtain⟨o',h1,h2,h3⟩:=hw.mem hb rfl hr
 cases h2 with
 |map _ db _ h4 h5=>exact⟨db,h1,h4,h5,h3 rfl⟩
theorem yj{t:KS}{k:Dy}(h:pW P t k=true):∃d,P.underlying t=some d/\((∃ik,d=.int ik/\∃j m,k=.int j m)\/(d=.string/\∃s,k=.string s)):=by
 unfold pW at h
 split at h
 ·rename_i ik j m hu;exact⟨_,hu,.inl ⟨ik,rfl,j,m,rfl⟩⟩
 ·rename_i s hu;exact⟨_,hu,.inr ⟨rfl,s,rfl⟩⟩
 ·cases h
theorem Xb(b:Bool)(t:KS)(v:Dy):avT b 10000 t v=avT b (9999+1) t v:=rfl
theorem run_checkKey{t:KS}{k:Dy}(h:pW P t k=true)(b:Bool):(avT b 10000 t k).run P w=.ok () w:=by
 obtain⟨d,hu,hd⟩:=yj h
 rw[Xb]
 unfold avT
 rw[DA,run_underlying hu,Dz]
 rcases hd with⟨ik,rfl,j,m,rfl⟩|⟨rfl,s,rfl⟩<;>rfl
theorem vV{t:KS}{d:avp}{k:Dy}(hu:P.underlying t=some d)(hd:(∃ik,d=.int ik/\∃j m,k=.int j m)\/(d=.string/\∃s,k=.string s)):
 ∀{es:List arW} {db:List arW} {i:Nat} {r:Option (Nat×Dy)},es.length=db.length->(∀(i:Nat) (e e':arW),es[i]?=some e->db[i]?=some e'->nM ρ e e')->
  fG k es i=some r->∃r',auw d k db i=some r'/\((r=none/\r'=none)\/∃j v v' e',r=some (i+j,v)/\r'=some (i+j,v')/\VR ρ v v'/\db[j]?=some e'/\e'.key=k/\∃e,es[j]?=some e/\e.val=v):=by
 intro es
 induction es with
 |nil=>
  intro db i r hl he h
  simp only[fG,DE]at h
  subst h
  cases db with
  |nil=>exact⟨none,rfl,.inl ⟨rfl,rfl⟩⟩
  |cons=>simp at hl
 |cons e es ih=>
  intro db i r hl he h
  cases db with
  |nil=>simp at hl
  |cons e' db=>
   have AL:=he 0 e e' rfl rfl
   have q9:es.length=db.length:=by simpa using hl
   have ui:∀(i:Nat) (a a':arW),es[i]?=some a->db[i]?=some a'->nM ρ a a':=λi a a' h1 h2=>he (i+1) a a' (by simpa using h1) (by simpa using h2)
   have rest:∀{r},fG k es (i+1)=some r->avn d k e'.key=some false->∃r',auw d k (e'::db) i=some r'/\((r=none/\r'=none)\/∃j v v' e2,r=some (i+j,v)/\r'=some (i+j,v')/\VR ρ v v'/\(e'::db)[j]?=some e2/\e2.key=k/\∃e0,(e::es)[j]?=some e0/\e0.val=v):=by
    intro r h hs
    obtain⟨r',h1,h2⟩:=ih q9 ui h
    refine⟨r',by unfold auw;simp only[hs,h1],?_⟩
    rcases h2 with h2|⟨j,v,v',e2,ha,hb,hc,hd,hk,e0,hf,hv⟩
    ·exact .inl h2
    ·exact .inr ⟨j+1,v,v',e2,by rw[ha];congr 2;omega,by rw[hb];congr 2;omega,hc,by simpa using hd,hk,e0,by simpa using hf,hv⟩
   unfold fG at h
   split at h
   ·rename_i a x b y sD
    have uj:e'.key=.int b y:=by have:=AL.key;rw[sD]at this;exact this.kl
    rcases hd with⟨ik,rfl,j,m,ec⟩|⟨rfl,s,ec⟩
    ·split at h
     ·rename_i j5
      have j5:a=b:=by simpa using j5
      subst j5
      by_cases oJ:(x==y)=true
      ·rw[if_pos oJ]at h
       cases h
       have:x=y:=by simpa using oJ
       subst this
       exact⟨some (i,e'.val),by unfold auw avn;rw[uj];simp,.inr ⟨0,e.val,e'.val,e',rfl,rfl,AL.val,rfl,uj,e,rfl,rfl⟩⟩
      ·rw[if_neg oJ]at h
       refine rest h ?_
       unfold avn
       rw[uj]
       simp at oJ⊢
       exact oJ
     ·cases h
    ·cases ec
   ·rename_i x y sD
    have uj:e'.key=.string y:=by have:=AL.key;rw[sD]at this;exact this.qa
    rcases hd with⟨ik,rfl,j,m,ec⟩|⟨rfl,s,ec⟩
    ·cases ec
    ·by_cases oJ:(x==y)=true
     ·rw[if_pos oJ]at h
      cases h
      have:x=y:=Xa oJ
      subst this
      exact⟨some (i,e'.val),by unfold auw avn;rw[uj];simp only[Ma],.inr ⟨0,e.val,e'.val,e',rfl,rfl,AL.val,rfl,uj,e,rfl,rfl⟩⟩
     ·rw[if_neg oJ]at h
      refine rest h ?_
      unfold avn
      rw[uj]
      have:(x==y)=false:=by cases hh:(x==y)with
       |true=>exact absurd hh oJ
       |false=>rfl
      simp only[this]
   ·cases h
theorem run_findKey{t:KS}{d:avp}{k:Dy}(hu:P.underlying t=some d){es:List arW}{r:Option (Nat×Dy)}(h:auw d k es 0=some r):
 (axN t k es).run P w=.ok r w:=by
 unfold axN
 rw[DA,run_underlying hu,Dz]
 simp only[h,asa]
theorem run_getObj_map{b:Nat}{es:Array arW}{clock:Nat}(h:w.heap[b]?=some (.map es clock)):(getObj b).run P w=.ok (.map es clock) w:=by
 simp only[getObj,at5,h]
theorem run_setObj_map{b:Nat}{es:Array arW}{clock:Nat}(h:w.heap[b]?=some (.map es clock))(o:Obj):
 (setObj b o).run P w=.ok () {w with heap:=w.heap.setIfInBounds b o}:=by
 simp only[setObj,at5,h]
theorem AM{b:Nat}{o1:Obj}(h:w.heap[b]?=some o1)(o:Obj):pe w {w with heap:=w.heap.setIfInBounds b o} b o:=by
 have hb:b<w.heap.size:=(asq.1 h).1
 refine⟨rfl,rfl,rfl,by simp,by simp[hb],λk hk=>?_⟩
 show(w.heap.setIfInBounds b o)[k]?=_
 rw[asX (Ne.symm hk)]
theorem E7(hw:WR P B w₀ ρ g w){v v':Dy}(hv:VR ρ v v')(ok b:Bool){out:bo}{l:List Nat}(h:(val (if ok then .tuple #[v,.bool b]else v)).run g=some (out,l)):
 Fits P B w₀ ρ g n out (.ok (.value (if ok then .tuple #[v',.bool b]else v')) w):=by
 cases ok with
 |true=>exact Fits.dK hw h (.Am (LR.cons hv (LR.cons (.bN _ rfl) (LR.nil ρ))))
 |false=>exact Fits.dK hw h hv
theorem Xc(hw:WR P B w₀ ρ g w){t:KS}{x x' k k':Dy}(hx:VR ρ x x')(hk:VR ρ k k')(ok:Bool){out:bo}{l:List Nat}(h:(D9 P t x k ok).run g=some (out,l)):
 Fits P B w₀ ρ g n out ((do let v <-atK t x' k' ok;pure (asE v):Sem atu).run P w):=by
 unfold D9 at h
 split at h
 ·rename_i kt et hu
  split at h
  ·rename_i z jz hz
   obtain⟨d,kT,hd⟩:=yj jz
   have ec:k'=k:=by
    rcases hd with⟨ik,rfl,j,m,rfl⟩|⟨rfl,s,rfl⟩
    ·exact hk.kl
    ·exact hk.qa
   subst ec
   dsimp only at h
   split at h
   ·split at h
    ·rename_i nN
     cases hx with
     |bN=>
      have:(atK t (.map none) k' ok).run P w=.ok (if ok then .tuple #[z,.bool false]else z) w:=by
       unfold atK
       rw[DA,run_underlying hu,Dz]
       dsimp only
       rw[DA,asa,Dz,DA,run_checkKey jz,Dz,DA,run_findKey kT (by rfl:auw d k' [] 0=some none),Dz]
       dsimp only
       first|rw[DA,DA,nO hz]|rw[DA,nO hz]
       rfl
      rw[DA,this]
      exact E7 hw (oE nN) ok false h
    ·cases h
   ·rename_i b
    obtain⟨r,hr,rfl⟩:=hx.qP
    obtain⟨o,l',hb,ec,rfl⟩:=Rd.run_read h
    split at ec
    ·rename_i es clock
     split at ec
     ·rename_i f ra nN
      obtain⟨db,h1,h2,h3,hB⟩:=AK hw hb hr
      obtain⟨r',h4,h5⟩:=vV kT hd h2 h3 ra
      have pre:∀(rest:Option (Nat×Dy)->Sem Dy),True:=λ_=>trivial
      rcases h5 with⟨rfl,rfl⟩|⟨j,v,v',e',rfl,rfl,hv,_,_,_⟩
      ·have:(atK t (.map (some r.aH)) k' ok).run P w=.ok (if ok then .tuple #[z,.bool false]else z) w:=by
        unfold atK
        rw[DA,run_underlying hu,Dz]
        dsimp only
        rw[DA,run_getObj_map h1,Dz]
        dsimp only
        rw[DA,asa,Dz,DA,run_checkKey jz,Dz,DA,run_findKey kT h4,Dz]
        dsimp only
        first|rw[DA,DA,nO hz]|rw[DA,nO hz]
        rfl
       rw[DA,this]
       exact E7 hw (oE nN) ok false ec
      ·have:(atK t (.map (some r.aH)) k' ok).run P w=.ok (if ok then .tuple #[v',.bool true]else v') w:=by
        unfold atK
        rw[DA,run_underlying hu,Dz]
        dsimp only
        rw[DA,run_getObj_map h1,Dz]
        dsimp only
        rw[DA,asa,Dz,DA,run_checkKey jz,Dz,DA,run_findKey kT h4,Dz]
        rfl
       rw[DA,this]
       exact E7 hw hv ok true ec
     ·cases ec
    ·cases ec
   ·cases h
  ·cases h
 ·cases h
theorem sameBits_self{k:Dy}{d:avp}(hd:(∃ik,d=.int ik/\∃j m,k=.int j m)\/(d=.string/\∃s,k=.string s)):Instr.sameBits 10000 k k=true:=by
 rcases hd with⟨ik,_,j,m,rfl⟩|⟨_,s,rfl⟩
 ·show(j==j&&m==m)=true;simp
 ·exact Ma s
theorem Mb(hw:WR P B w₀ ρ g w){t:KS}{x x' k k' v v':Dy}(hx:VR ρ x x')(hk:VR ρ k k')(hv:VR ρ v v'){out:bo}{l:List Nat}
 (h:(xM P t x k v).run g=some (out,l)):Fits P B w₀ ρ g n out ((do auV t x' k' v';pure Next.skip:Sem atu).run P w):=by
 unfold xM at h
 split at h
 ·rename_i kt et hu
  split at h
  ·rename_i b jz
   obtain⟨r,hr,rfl⟩:=hx.qP
   obtain⟨d,kT,hd⟩:=yj jz
   have ec:k'=k:=by
    rcases hd with⟨ik,rfl,j,m,rfl⟩|⟨rfl,s,rfl⟩
    ·exact hk.kl
    ·exact hk.qa
   subst ec
   obtain⟨o,l',hb,ec,rfl⟩:=Rd.run_read h
   split at ec
   ·rename_i es clock
    obtain⟨db,h1,h2,h3,hB⟩:=AK hw hb hr
    split at ec
    ·rename_i i vv ra
     obtain⟨r',h4,h5⟩:=vV kT hd h2 h3 ra
     rcases h5 with⟨h5,_⟩|⟨j,u,u',e',h5,rfl,sE,ui,sD,_⟩
     ·cases h5
     ·simp only[as9,DE,KN]at h5
      obtain⟨rfl,rfl⟩:=h5
      simp only[Rd.run,DE,KN]at ec
      obtain⟨rfl,rfl⟩:=ec
      have vW:db[i]?=some e':=by simpa using ui
      have kR:(auV t (.map (some r.aH)) k' v').run P w=.ok () {w with heap:=w.heap.setIfInBounds r.aH (.map (db.modify i λe=>{e with key:=k',val:=v'}) clock)}:=by
       unfold auV
       rw[DA,run_underlying hu,Dz]
       dsimp only
       rw[DA,run_getObj_map h1,Dz]
       dsimp only
       rw[DA,run_checkKey jz,Dz,DA,run_findKey kT h4,Dz]
       simp only[as9,vW,asO,ati,sD]
       rw[DA]
       unfold Instr.keyThatStays
       rw[if_pos (sameBits_self hd),asa,Dz,run_setObj_map h1]
      rw[DA,kR,Dz]
      refine⟨ρ,_,Ren.le_refl ρ,.skip _,hw.change hb (by first|rfl|exact E8 _ _) hr hB (AM h1 _) ?_⟩
      refine .map _ _ _ (by simp[h2]) λm a a' ha gK=>?_
      rw[List.getElem?_modify]at ha
      rw[ata,Array.getElem?_modify]at gK
      by_cases iU:i=m
      ·subst iU
       rw[if_pos rfl,vW]at gK
       cases gK
       cases hg:es[i]?with
       |none=>rw[hg]at ha;cases ha
       |some e0=>
        rw[hg]at ha
        simp at ha
        subst ha
        exact⟨hk,hv,(h3 i e0 e' hg ui).born⟩
      ·rw[if_neg iU]at gK
       cases hg:es[m]?with
       |none=>rw[hg]at ha;cases ha
       |some e0=>
        rw[hg]at ha
        simp[iU]at ha
        subst ha
        exact h3 m e0 a' hg (by simpa using gK)
    ·rename_i ra
     obtain⟨r',h4,h5⟩:=vV kT hd h2 h3 ra
     rcases h5 with⟨_,rfl⟩|⟨j,u,u',e',h5,_⟩
     ·simp only[Rd.run,DE,KN]at ec
      obtain⟨rfl,rfl⟩:=ec
      have kR:(auV t (.map (some r.aH)) k' v').run P w=.ok () {w with heap:=w.heap.setIfInBounds r.aH (.map (db.push {key:=k',val:=v',born:=clock}) (clock+1))}:=by
       unfold auV
       rw[DA,run_underlying hu,Dz]
       dsimp only
       rw[DA,run_getObj_map h1,Dz]
       dsimp only
       rw[DA,run_checkKey jz,Dz,DA,run_findKey kT h4,Dz]
       dsimp only
       rw[run_setObj_map h1]
      rw[DA,kR,Dz]
      refine⟨ρ,_,Ren.le_refl ρ,.skip _,hw.change hb (by first|rfl|exact E8 _ _) hr hB (AM h1 _) ?_⟩
      refine .map _ _ _ (by simp[h2]) λm a a' ha gK=>?_
      rw[Array.toList_push]at gK
      by_cases hm:m<es.length
      ·rw[asl hm]at ha
       rw[asl (by omega)]at gK
       exact h3 m a a' ha gK
      ·rw[asd (by omega)]at ha
       rw[asd (by omega)]at gK
       rw[<-h2]at gK
       cases hs:m-es.length with
       |zero=>rw[hs]at ha gK;cases ha;cases gK;exact⟨hk,hv,rfl⟩
       |succ q=>rw[hs]at ha;cases ha
     ·cases h5
    ·cases ec
   ·cases ec
  ·cases h
 ·cases h
theorem toList_erase(a:Array arW)(i:Nat):(a.eraseIdxIfInBounds i).toList=a.toList.eraseIdx i:=by simp
theorem Xd(hw:WR P B w₀ ρ g w){argTypes:Array KS}{ty:KS}{args:List Dy}{args':Array Dy}(iw:LR ρ args args'.toList){out:bo}{l:List Nat}
 (h:(xN P argTypes.toList args).run g=some (out,l)):Fits P B w₀ ρ g n out ((do let v <-auW argTypes ty args';pure (asE v):Sem atu).run P w):=by
 unfold xN at h
 split at h
 ·rename_i t rest b k AF ca
  obtain⟨s',t',ht,oH,jx⟩:=iw.gT
  obtain⟨k',t2,rfl,hk,yh⟩:=jx.gT
  obtain⟨r,hr,rfl⟩:=oH.qP
  have a0:argTypes[0]?=some t:=by rw[kS ca];rfl
  have b0:args'[0]?=some (.map (some r.aH)):=by rw[kS ht];rfl
  have b1:args'[1]?=some k':=by rw[kS ht];rfl
  split at h
  ·rename_i kt et hu
   split at h
   ·rename_i jz
    obtain⟨d,kT,hd⟩:=yj jz
    have ec:k'=k:=by
     rcases hd with⟨ik,rfl,j,m,rfl⟩|⟨rfl,s,rfl⟩
     ·exact hk.kl
     ·exact hk.qa
    subst ec
    obtain⟨o,l',hb,ec,rfl⟩:=Rd.run_read h
    split at ec
    ·rename_i es clock
     obtain⟨db,h1,h2,h3,hB⟩:=AK hw hb hr
     split at ec
     ·rename_i i vv ra
      obtain⟨r',h4,h5⟩:=vV kT hd h2 h3 ra
      rcases h5 with⟨h5,_⟩|⟨j,u,u',e',h5,rfl,sE,ui,sD,_⟩
      ·cases h5
      ·simp only[as9,DE,KN]at h5
       obtain⟨rfl,rfl⟩:=h5
       simp only[Rd.run,DE,KN]at ec
       obtain⟨rfl,rfl⟩:=ec
       have kR:(auW argTypes ty args').run P w=.ok (.tuple #[]) {w with heap:=w.heap.setIfInBounds r.aH (.map (db.eraseIdxIfInBounds i) clock)}:=by
        unfold auW
        simp only[a0,b0,b1]
        rw[DA,run_underlying hu,Dz]
        dsimp only
        rw[DA,run_getObj_map h1,Dz]
        dsimp only
        rw[DA,run_checkKey jz,Dz,DA,run_findKey kT h4,Dz]
        simp only[as9]
        rw[DA,run_setObj_map h1]
        rfl
       rw[DA,kR,Dz]
       refine⟨ρ,_,Ren.le_refl ρ,.val _ _ _ (VR.undef ρ),hw.change hb (by first|rfl|exact E8 _ _) hr hB (AM h1 _) ?_⟩
       refine .map _ _ _ (by rw[toList_erase,awR,awR,h2]) λm a a' ha gK=>?_
       rw[toList_erase]at gK
       rw[List.getElem?_eraseIdx]at ha gK
       split at ha
       ·rename_i hm;rw[if_pos hm]at gK;exact h3 m a a' ha gK
       ·rename_i hm;rw[if_neg hm]at gK;exact h3 _ a a' ha gK
     ·rename_i ra
      obtain⟨r',h4,h5⟩:=vV kT hd h2 h3 ra
      rcases h5 with⟨_,rfl⟩|⟨j,u,u',e',h5,_⟩
      ·simp only[Rd.run,DE,KN]at ec
       obtain⟨rfl,rfl⟩:=ec
       have kR:(auW argTypes ty args').run P w=.ok (.tuple #[]) {w with heap:=w.heap.setIfInBounds r.aH (.map db clock)}:=by
        unfold auW
        simp only[a0,b0,b1]
        rw[DA,run_underlying hu,Dz]
        dsimp only
        rw[DA,run_getObj_map h1,Dz]
        dsimp only
        rw[DA,run_checkKey jz,Dz,DA,run_findKey kT h4,Dz]
        dsimp only
        rw[DA,run_setObj_map h1]
        rfl
       rw[DA,kR,Dz]
       exact⟨ρ,_,Ren.le_refl ρ,.val _ _ _ (VR.undef ρ),hw.change hb (by first|rfl|exact E8 _ _) hr hB (AM h1 _) (.map _ _ _ h2 h3)⟩
      ·cases h5
     ·cases ec
    ·cases ec
   ·cases h
  ·cases h
 ·cases h
theorem Xe(hw:WR P B w₀ ρ g w){argTypes:Array KS}{ty:KS}{args:List Dy}{args':Array Dy}(iw:LR ρ args args'.toList){out:bo}{l:List Nat}
 (h:(Ea P argTypes.toList args).run g=some (out,l)):Fits P B w₀ ρ g n out ((do let v <-atd argTypes ty args';pure (asE v):Sem atu).run P w):=by
 unfold Ea at h
 split at h
 ·rename_i t rest x AF ca
  obtain⟨x',t',ht,hx,jx⟩:=iw.gT
  have a0:argTypes[0]?=some t:=by rw[kS ca];rfl
  have b0:args'[0]?=some x':=by rw[kS ht];rfl
  split at h
  ·rename_i sa m sc hu
   cases hx with
   |bN _ kq=>
    obtain⟨rfl,rfl,rfl⟩:=AE kq
    have hr:(atd argTypes ty args').run P w=.ok (goInt (0:Nat)) w:=by unfold atd;simp only[a0,b0];rw[DA,run_underlying hu,Dz];rfl
    rw[DA,hr];exact Fits.dK hw h (.bN _ rfl)
   |sl=>
    have hr:(atd argTypes ty args').run P w=.ok (goInt m) w:=by unfold atd;simp only[a0,b0];rw[DA,run_underlying hu,Dz];rfl
    rw[DA,hr];exact Fits.dK hw h (.bN _ rfl)
   |nJ=>
    have hr:(atd argTypes ty args').run P w=.ok (goInt m) w:=by unfold atd;simp only[a0,b0];rw[DA,run_underlying hu,Dz];rfl
    rw[DA,hr];exact Fits.dK hw h (.bN _ rfl)
   |eJ=>
    have hr:(atd argTypes ty args').run P w=.ok (goInt (0:Nat)) w:=by unfold atd;simp only[a0,b0];rw[DA,run_underlying hu,Dz];rfl
    rw[DA,hr];exact Fits.dK hw h (.bN _ rfl)
  ·rename_i hu
   cases hx with
   |bN=>
    have hr:(atd argTypes ty args').run P w=.ok (goInt 0) w:=by unfold atd;simp only[a0,b0];rw[DA,run_underlying hu,Dz];rfl
    rw[DA,hr];exact Fits.dK hw h (.bN _ rfl)
  ·rename_i b hu
   obtain⟨r,hr,rfl⟩:=hx.qP
   obtain⟨o,l',hb,hk,rfl⟩:=Rd.run_read h
   split at hk
   ·rename_i es clock
    obtain⟨db,h1,h2,h3,hB⟩:=AK hw hb hr
    have hr:(atd argTypes ty args').run P w=.ok (goInt db.size) w:=by
     unfold atd;simp only[a0,b0];rw[DA,run_underlying hu,Dz]
     dsimp only
     rw[DA,run_getObj_map h1];rfl
    rw[DA,hr]
    refine Fits.dK hw hk ?_
    have:es.length=db.size:=by simpa using h2
    rw[this]
    exact .bN _ rfl
   ·cases hk
  ·rename_i k el hu
   have hr:(atd argTypes ty args').run P w=.ok (goInt k) w:=by unfold atd;simp only[a0,b0];rw[DA,run_underlying hu,Dz];rfl
   rw[DA,hr]
   exact Fits.dK hw h (.bN _ rfl)
  ·rename_i a hu
   split at h
   ·rename_i k el ud
    have hr:(atd argTypes ty args').run P w=.ok (goInt k) w:=by
     unfold atd;simp only[a0,b0];rw[DA,run_underlying hu,Dz]
     dsimp only
     rw[DA,run_underlying ud];rfl
    rw[DA,hr]
    exact Fits.dK hw h (.bN _ rfl)
   ·cases h
  ·cases h
 ·cases h
theorem Xf{z:Dy}(k:Nat):(atr z.cells k).toList=fA z.cells.toList k:=by
 have:=EW z k
 unfold atr
 rw[this]
theorem Xg(hw:WR P B w₀ ρ g w){argTypes:Array KS}{ty:KS}{args:List Dy}{args':Array Dy}(iw:LR ρ args args'.toList){out:bo}{l:List Nat}
 (h:(xP P argTypes.toList args).run g=some (out,l)):Fits P B w₀ ρ g n out ((do let v <-au5 argTypes ty args';pure (asE v):Sem atu).run P w):=by
 unfold xP at h
 split at h
 ·rename_i t rest x AF ca
  obtain⟨x',t',ht,hx,jx⟩:=iw.gT
  have a0:argTypes[0]?=some t:=by rw[kS ca];rfl
  have b0:args'[0]?=some x':=by rw[kS ht];rfl
  have none_:∀{d},P.underlying t=some d->(∃a c,x'=.slice a 0 c)\/(∃l c,x'=.slice none l c)->(au5 argTypes ty args').run P w=.ok (.tuple #[]) w:=by
   intro d hu hc
   unfold au5
   simp only[a0,b0]
   rw[DA,run_underlying hu,Dz]
   rcases hc with⟨a,c,rfl⟩|⟨l,c,rfl⟩
   ·cases a<;>cases d<;>rfl
   ·cases d<;>rfl
  split at h
  ·rename_i hu
   cases hx with
   |bN _ kq=>
    obtain⟨_,rfl,rfl⟩:=AE kq
    rw[DA,none_ hu (.inr ⟨_,_,rfl⟩)]
    exact Fits.dK hw h (VR.undef ρ)
  ·rename_i hu
   rw[DA]
   cases hx with
   |bN _ kq=>
    obtain⟨rfl,_,rfl⟩:=AE kq
    rw[none_ hu (.inl ⟨_,_,rfl⟩)]
    exact Fits.dK hw h (VR.undef ρ)
   |sl=>rw[none_ hu (.inl ⟨_,_,rfl⟩)];exact Fits.dK hw h (VR.undef ρ)
   |eJ=>rw[none_ hu (.inl ⟨_,_,rfl⟩)];exact Fits.dK hw h (VR.undef ρ)
   |nJ=>rw[none_ hu (.inl ⟨_,_,rfl⟩)];exact Fits.dK hw h (VR.undef ρ)
  ·rename_i el b off k cap iQ hu
   split at h
   ·rename_i size z hs hz
    obtain⟨o,l',hb,hk,rfl⟩:=Rd.run_read h
    split at hk
    ·rename_i c ce
     split at hk
     ·rename_i gW
      simp only[BV]at gW
      obtain⟨⟨⟨hf,h1⟩,h2⟩,h3⟩:=gW
      have h1:=arJ h1
      have h2:=arU h2
      simp only[Rd.run,DE,KN]at hk
      obtain⟨rfl,rfl⟩:=hk
      have ya:(fA z.cells.toList k).length=k*size:=by rw[Az,<-h1];simp
      have AG:((fA z.cells.toList k).all Value.oneCell')=true:=by
       rw[ar1]at h3⊢
       intro v hv
       obtain⟨i,hi⟩:=List.getElem?_of_mem hv
       have hlt:i<(fA z.cells.toList k).length:=(KP.1 hi).1
       rw[EV _ _ _ (by rw[Az]at hlt;exact hlt)]at hi
       exact h3 _ (List.mem_of_getElem? hi)
      cases hx with
      |bN _ kq=>cases kq
      |eJ=>first|exact(iQ rfl).elim|exact(iQ _ _ rfl).elim|exact(iQ _ rfl).elim
      |sl _ _ _ _ bH r hr hc=>
       obtain⟨w',h4,h5⟩:=hw.store hb hr ((yb hf).fA k) (off:=off) (by rw[ya];exact h2) AG
       have kR:(au5 argTypes ty args').run P w=.ok (.tuple #[]) w':=by
        unfold au5
        simp only[a0,b0]
        rw[DA,run_underlying hu,Dz]
        cases k with
        |zero=>first|exact(iQ rfl).elim|exact(iQ _ _ rfl).elim|exact(iQ _ rfl).elim
        |succ k=>
         show((do let z <-zeroValue el;storeCells ⟨r.aH,r.sh+off,none⟩ (atr z.cells (k+1)).toList;pure (Value.tuple #[])):Sem Dy).run P w=_
         rw[DA,nO hz,Dz,Xf,DA,h4]
         rfl
       rw[DA,kR]
       exact⟨ρ,w',Ren.le_refl ρ,.val _ _ _ (VR.undef ρ),h5⟩
     ·cases hk
    ·cases hk
   ·cases h
  ·cases h
 ·cases h
end
end Go.Proofs.YtnlkkgpcikkpoaaGreat.Vm
namespace Go.Proofs.YtnlkkgpcikkpoaaGreat.Vm
open Go.RowKit
section
variable {P:arC} {B:Nat->Prop} {w₀:arB} {ρ:Ren} {g:Nat->Option ak} {n:Nat} {w:arB}
inductive vX(ρ:Ren):Pl->Place->Prop where
 |val (v v':Dy) (h:VR ρ v v'):vX ρ (.val v) (.val v')
 |var (b off:Nat) (r:bV) (h:ρ b=some r):vX ρ (.var b off) (.var ⟨r.aH,r.sh+off,none⟩)
theorem Mc(hw:WR P B w₀ ρ g w){t:KS}{x:Pl}{x':Place}(hx:vX ρ x x'){v:Dy}{l:List Nat}
 (h:(z6 P t x).run g=some (v,l)):∃v',(x'.get t).run P w=.ok v' w/\VR ρ v v':=by
 cases hx with
 |val u u' hu=>
  simp only[z6,Rd.run,DE,KN]at h
  obtain⟨rfl,rfl⟩:=h
  exact⟨u',rfl,hu⟩
 |var b off r hr=>
  obtain⟨v',h1,h2⟩:=vP hw h hr
  exact⟨v',h1,h2⟩
theorem Xh(hw:WR P B w₀ ρ g w):∀{path:List FieldStep} {t:KS} {x:Pl} {x':Place},vX ρ x x'->∀{t2:KS} {y:Pl} {l:List Nat},(vE P path t x).run g=some ((t2,y),l)->
 ∃y',(follow path t x').run P w=.ok (t2,y') w/\vX ρ y y':=by
 intro path
 induction path with
 |nil=>
  intro t x x' hx t2 y l h
  simp only[vE,Rd.run,DE,KN]at h
  obtain⟨⟨rfl,rfl⟩,_⟩:=h
  exact⟨x',rfl,hx⟩
 |cons s rest ih=>
  intro t x x' hx t2 y l h
  unfold vE at h
  split at h
  ·cases h
  ·rename_i off ft k hf
   obtain⟨fs,f,hu,vY,rfl,rfl,hk,iQ⟩:=ES hf
   split at h
   ·rename_i hd
    obtain⟨v,l1,l2,h1,h2,rfl⟩:=(Rd.run_bind _ _ _ _ _).1 h
    obtain⟨v',h3,h4⟩:=Mc hw hx h1
    split at h2
    ·rename_i b o
     obtain⟨r,hr,rfl⟩:=h4.lp
     obtain⟨y',h5,h6⟩:=ih (.var b (o+f.offset) r hr) h2
     refine⟨y',?_,h6⟩
     unfold follow
     rw[DA,run_underlying hu,Dz]
     simp only[vY,hd,if_true]
     rw[DA,h3,Dz]
     simp only[asAddr,DA,asa,Dz,ET hk iQ]
     rw[atm]
     exact h5
    ·cases h2
   ·rename_i hd
    cases hx with
    |val=>cases h
    |var b o r hr=>
     obtain⟨y',h5,h6⟩:=ih (.var b (o+f.offset) r hr) h
     refine⟨y',?_,h6⟩
     unfold follow
     rw[DA,run_underlying hu,Dz]
     simp only[vY,hd,asv,if_false]
     rw[DA,ET hk iQ,Dz,atm]
     exact h5
theorem Xi(xt:KS)(a:atU)(name:String):(Builtin.ssaWrapNilChk_ #[xt] xt #[.pointer (some a),strVal "",strVal name]).run P w=.ok (.pointer (some a)) w:=rfl
theorem Xj(hw:WR P B w₀ ρ g w){t:KS}{x:Pl}{x':Place}(hx:vX ρ x x'){ptr:Bool}{v:Dy}{l:List Nat}(h:(Eb P t x ptr).run g=some (v,l))(wr:Option String):
 ∃v',(receiverAt t x' ptr wr).run P w=.ok v' w/\VR ρ v v':=by
 unfold Eb at h
 unfold receiverAt
 split at h
 ·rename_i e u hu
  cases hx with
  |val _ u' hv=>
   simp only[Rd.run,DE,KN]at h
   obtain⟨rfl,rfl⟩:=h
   exact⟨u',by rw[DA,run_underlying hu,Dz];rfl,hv⟩
 ·rename_i e b o hu
  cases hx with
  |var _ _ r hr=>
   obtain⟨v',h1,h2⟩:=vP hw h hr
   exact⟨v',by rw[DA,run_underlying hu,Dz];exact h1,h2⟩
 ·rename_i e b o hu
  cases hx with
  |val _ u' hv=>
   obtain⟨r,hr,rfl⟩:=hv.lp
   obtain⟨v',h1,h2⟩:=vP hw h hr
   refine⟨v',?_,h2⟩
   rw[DA,run_underlying hu,Dz]
   dsimp only
   rw[DA]
   show((at5 P (pure (Value.pointer (some ⟨r.aH,r.sh+o,none⟩))) w).andThen _)=_
   rw[asa,Dz]
   cases wr with
   |none=>simp only[DA,asa,Dz,asAddr,h1]
   |some name=>simp only[DA,Xi,asa,Dz,asAddr,h1]
 ·cases h
 ·rename_i d b o hd hu
  cases hx with
  |var _ _ r hr=>
   simp only[Rd.run,DE,KN]at h
   obtain⟨rfl,rfl⟩:=h
   refine⟨_,?_,.ptr b o r hr⟩
   rw[DA,run_underlying hu,Dz]
   cases d<;>first|rfl|exact(hd _ rfl).elim
 ·rename_i d u _ hd hu
  cases hx with
  |val _ u' hv=>
   simp only[Rd.run,DE,KN]at h
   obtain⟨rfl,rfl⟩:=h
   refine⟨u',?_,hv⟩
   rw[DA,run_underlying hu,Dz]
   cases d<;>first|rfl|exact(hd _ rfl).elim
 ·rename_i d b o hd hu
  cases hx with
  |var _ _ r hr=>
   obtain⟨v',h1,h2⟩:=vP hw h hr
   refine⟨v',?_,h2⟩
   rw[DA,run_underlying hu,Dz]
   cases d<;>first|exact h1|exact(hd _ rfl).elim
 ·cases h
theorem Me(hw:WR P B w₀ ρ g w):∀(d:Nat) {t:KS} {v v':Dy} {name:String} {f:arY} {r:Dy} {l:List Nat},VR ρ v v'->(z7 P d t v name).run g=some ((f,r),l)->
 ∀ie,d<=ie->∃r',(method ie t v' name).run P w=.ok (f,r') w/\VR ρ r r'
 |0,t,v,v',name,f,r,l,hv,h,ie,hf=>by cases h
 |d+1,t,v,v',name,f,r,l,hv,h,ie,hf=>by
  cases ie with
  |zero=>omega
  |succ ie=>
   unfold z7 at h
   unfold method
   split at h
   ·cases h
   ·rename_i m hm
    obtain⟨inf,pk,Xk⟩:=Option.bind_eq_some_iff.1 hm
    obtain⟨⟨xt,x⟩,l1,l2,h1,h2,rfl⟩:=(Rd.run_bind _ _ _ _ _).1 h
    obtain⟨x',h3,h4⟩:=Xh hw (.val v v' hv) h1
    have yg:(typeInfo t).run P w=.ok inf w:=by unfold typeInfo;rw[DA,atw,Dz,pk];rfl
    rw[DA,yg,Dz]
    simp only[Xk]
    rw[DA,h3,Dz]
    dsimp only at h2⊢
    split at h2
    ·rename_i E9
     obtain⟨u,l3,l4,h5,h6,rfl⟩:=(Rd.run_bind _ _ _ _ _).1 h2
     obtain⟨u',h7,h8⟩:=Mc hw h4 h5
     split at h6
     ·rename_i t' q
      obtain⟨q',rfl,hq⟩:=h8.xY
      obtain⟨r',h9,bx⟩:=Me hw d hq h6 ie (by omega)
      refine⟨r',?_,bx⟩
      simp only[E9]
      rw[DA,h7,Dz]
      exact h9
     ·cases h6
    ·rename_i f2 ptr E9
     obtain⟨u,l3,l4,h5,h6,rfl⟩:=(Rd.run_bind _ _ _ _ _).1 h2
     simp only[Rd.run,DE,KN]at h6
     obtain⟨⟨rfl,rfl⟩,_⟩:=h6
     obtain⟨u',h7,h8⟩:=Xj hw h4 h5 (if m.path.isEmpty then some ((name.splitOn ".").getLastD name)else none)
     refine⟨u',?_,h8⟩
     simp only[E9]
     rw[DA,h7,Dz]
     rfl
def iV(P:arC):Bool:=P.funcs.toList.all λf=> !(f.name== "runtime.NumGoroutine")
theorem Mf(hP:iV P=true)(hw:WR P B w₀ ρ g w){f:arY}{args:List Dy}{args':Array Dy}(ha:LR ρ args args'.toList){out:bo}{l:List Nat}
 (h:(enter P f args).run g=some (out,l)):Fits P B w₀ ρ g n out ((callFunc f args').run P w):=by
 unfold enter at h
 split at h
 ·rename_i fn hf
  have mr:(fn.name== "runtime.NumGoroutine")=false:=by
   have:=ar1.1 hP fn (by rw[as6];exact awJ hf)
   simpa using this
  split at h
  ·rename_i c hc
   simp only[Rd.run,DE,KN]at h
   obtain⟨rfl,rfl⟩:=h
   have:(callFunc f args').run P w=.ok (.enter f args') w:=by
    unfold callFunc
    rw[DA,atw,Dz]
    simp only[hf,mr,hc,aw5,asv,if_false,asa]
   rw[this]
   exact⟨ρ,w,Ren.le_refl ρ,.enter f args args' w ha,hw⟩
  ·split at h
   ·rename_i gE
    have:args'=args.toArray:=by apply atl;simpa using ha.x5 gE
    rw[this]
    exact ph hw h
   ·cases h
 ·cases h
theorem Mg(hP:iV P=true)(hw:WR P B w₀ ρ g w){recv rc:Dy}(hr:VR ρ recv rc){name:String}{args:List Dy}{args':Array Dy}(ha:LR ρ args args'.toList){out:bo}{l:List Nat}
 (h:(Aa P recv name args).run g=some (out,l)):Fits P B w₀ ρ g n out ((callMethod rc name args').run P w):=by
 unfold Aa at h
 split at h
 ·rename_i t v
  obtain⟨v',rfl,hv⟩:=hr.xY
  obtain⟨⟨f,r⟩,l1,l2,h1,h2,rfl⟩:=(Rd.run_bind _ _ _ _ _).1 h
  obtain⟨r',h3,h4⟩:=Me hw 9 hv h1 (P.types.size+ayn) (by have:ayn=100:=rfl;omega)
  have:(callMethod (.iface t v') name args').run P w=(callFunc f (#[r']++args')).run P w:=by
   unfold callMethod
   simp only[DA,atw,Dz,h3]
  rw[this]
  exact Mf hP hw (by rw[asY];exact LR.cons h4 ha) h2
 ·cases h
theorem Xl(hw:WR P B w₀ ρ g w){b:Builtin}{argTypes:Array KS}{ty:KS}{vF:Array Bool}{args:List Dy}{args':Array Dy}(ha:LR ρ args args'.toList){out:bo}{l:List Nat}
 (hn:out.nw≠none->g n=none)(h:(Ec P b argTypes ty vF args n).run g=some (out,l)):Fits P B w₀ ρ g n out ((builtin b argTypes ty vF args').run P w):=by
 unfold Ec at h
 split at h
 ·rename_i hq
  simp only[BV]at hq
  have:args'=args.toArray:=by apply atl;simpa using ha.x5 hq.2
  rw[this]
  exact ph hw h
 ·split at h
  ·exact WX hw ha hn h
  ·exact W9 hw ha h
  ·exact Xe hw ha h
  ·exact Xd hw ha h
  ·exact Xg hw ha h
  ·cases h
theorem Xm(hP:iV P=true)(hw:WR P B w₀ ρ g w){c:Call}{e e':asW->Dy}(he:∀x∈c.operands,VR ρ (e x) (e' x)){ty:KS}{out:bo}{l:List Nat}
 (hn:out.nw≠none->g n=none)(h:(sj P c e ty n).run g=some (out,l)):Fits P B w₀ ρ g n out ((do let d <-resolve e' c ty;invoke d.target d.args:Sem atu).run P w):=by
 have iw:LR ρ (c.args.toList.map e) (c.args.map e').toList:=by
  rw[auo]
  exact LR.map _ _ _ λx hx=>he x (by unfold auO;exact auq.2 (.inr (as6.1 hx)))
 unfold sj at h
 unfold resolve
 split at h
 ·rename_i b hb
  simp only[hb]
  rw[DA,asa,Dz]
  exact Xl hw iw hn h
 ·rename_i recv name hb
  simp only[hb]
  rw[DA,asa,Dz]
  have hr:VR ρ (e recv) (e' recv):=he recv (by unfold auO;rw[hb];simp)
  have:=Mg (n:=n) hP hw hr iw h
  have e2:(invoke (.fn (.method name) #[]) (#[e' recv]++c.args.map e')).run P w=(callMethod (e' recv) name (c.args.map e')).run P w:=by
   unfold invoke
   have h0:(#[e' recv]++c.args.map e')[0]?=some (e' recv):=by rw[auP (by simp)];rfl
   have h1:(#[e' recv]++c.args.map e').extract 1 (#[e' recv]++c.args.map e').size=c.args.map e':=by
    apply atl
    simp[atf,as1]
    exact asN (by simp)
   simp only[h0,h1]
  rw[e2]
  exact this
 ·rename_i f hb
  simp only[hb]
  have hr:VR ρ (e f) (e' f):=he f (by unfold auO;rw[hb];simp)
  unfold Lo at h
  split at h
  ·rename_i k first captured yk
   rw[yk]at hr
   obtain⟨f',c',h1,h2,h3⟩:=hr.xZ
   rw[h1]
   simp only[awi]
   rw[DA,asa,Dz]
   simp only[invoke]
   refine Mf hP hw ?_ h
   rw[asY,asY]
   exact(h2.append iw).append h3
  ·rename_i name first captured yk
   rw[yk]at hr
   obtain⟨f',c',h1,h2,h3⟩:=hr.xZ
   rw[h1]
   simp only[awi]
   rw[DA,asa,Dz]
   split at h
   ·rename_i recv rest yl
    have hl:=h2.append iw
    rw[yl]at hl
    obtain⟨rc,sB,h4,h5,h6⟩:=hl.gT
    have nQ:(f'++c.args.map e')=(rc::sB).toArray:=by apply atl;rw[asY,h4]
    have e2:(invoke (.fn (.method name) c') (f'++c.args.map e')).run P w=(callMethod rc name sB.toArray).run P w:=by
     rw[nQ]
     unfold invoke
     have h0:(rc::sB).toArray[0]?=some rc:=by simp
     have h1:(rc::sB).toArray.extract 1 (rc::sB).toArray.size=sB.toArray:=by
      apply atl
      simp[atf,as1]
     simp only[h0,h1]
    rw[e2]
    exact Mg hP hw h5 (by simpa using h6) h
   ·cases h
  ·cases h
theorem Xn(hP:iV P=true)(hw:WR P B w₀ ρ g w){o:ast}{e e':asW->Dy}(he:∀x∈o.op.operands,VR ρ (e x) (e' x)){out:bo}{l:List Nat}
 (hn:out.nw≠none->g n=none)(h:(ev P e n o).run g=some (out,l)):Fits P B w₀ ρ g n out ((execOp e' o).run P w):=by
 obtain⟨dst,op,type,pos,after,guard⟩:=o
 have Mh:∀{a:Array asW},(∀x∈a,VR ρ (e x) (e' x))->LR ρ (a.toList.map e) (a.map e').toList:=λ{a} ha=>by
  rw[auo];exact LR.map _ _ _ λx hx=>ha x (as6.1 hx)
 cases op<;>simp only[avh]at he<;>simp only[ev,Ad]at h<;>try(cases h;done)
 case move x=>exact Fits.dK hw h (he x (by simp))
 case assign x=>exact Fits.dK hw h (he x (by simp))
 case pick c a b=>exact V6 hw (he c (by simp)) (he a (by simp)) (he b (by simp)) h
 case alloc t=>exact V0 hw hn h
 case box t x=>exact V1 hw (he x (by simp)) hn h
 case build t parts=>
  refine WJ hw ?_ h
  rw[auo]
  exact PR.map _ λx hx=>he x.2 (by simp only[avq,as8];exact⟨x,hx,rfl⟩)
 case buildSlice t len parts=>
  refine WL hw ?_ hn h
  rw[auo]
  exact PR.map _ λx hx=>he x.2 (by simp only[avq,as8];exact⟨x,hx,rfl⟩)
 case insert t m k x=>exact Mb hw (he m (by simp)) (he k (by simp)) (he x (by simp)) h
 case load t a=>exact V2 hw (he a (by simp)) h
 case store t a x=>exact V3 hw (he a (by simp)) (he x (by simp)) h
 case nilCheck x=>exact V7 hw (he x (by simp)) h e' x rfl _ rfl
 case binOp op t x y yt=>exact V8 hw (he x (by simp)) (he y (by simp)) h
 case unOp op t x=>exact V9 hw (he x (by simp)) h
 case convert src dst x=>exact Wv hw (he x (by simp)) hn h
 case makeInterface t x=>exact Wa hw (he x (by simp)) h
 case makeFunc fn first captured=>
  exact Wb hw (Mh λx hx=>he x (auq.2 (.inl hx))) (Mh λx hx=>he x (auq.2 (.inr hx))) h
 case makeMap t r=>
  have:=qY.map (ρ:=ρ) (e:=e) (e':=e') r λy hy=>he y (by subst hy;simp)
  exact Wz hw this.some_ this.none_ hn h
 case makeSlice t a b=>exact WB hw (he a (by simp)) (he b (by simp)) hn h
 case slice t x lo hi mx=>
  exact WM hw (he x (by simp)) (qY.map lo λy hy=>he y (by subst hy;simp)) (qY.map hi λy hy=>he y (by subst hy;simp)) (qY.map mx λy hy=>he y (by subst hy;simp)) h
 case fieldAddr s x i=>exact Wg hw (he x (by simp)) i h
 case field s x i=>exact Wh hw (he x (by simp)) i h
 case indexAddr t x i=>exact LH hw (he x (by simp)) (he i (by simp)) h
 case index t x i=>exact Wi hw (he x (by simp)) (he i (by simp)) h
 case lookup t x k ok=>exact Xc hw (he x (by simp)) (he k (by simp)) ok h
 case mapUpdate t m k x=>exact Mb hw (he m (by simp)) (he k (by simp)) (he x (by simp)) h
 case typeAssert x xt at_ ok=>exact Wd hw (he x (by simp)) xt at_ ok h
 case extract t i=>exact Wc hw (he t (by simp)) i h
 case call c=>exact Xm hP hw he hn h
 case panic x=>exact We hw (he x (by simp)) h
end
end Go.Proofs.YtnlkkgpcikkpoaaGreat.Vm
namespace Go.Proofs.YtnlkkgpcikkpoaaGreat.Vm
open Go.RowKit
abbrev FF(r:Option Nat):Fence:={Fence.wide with round:=r}
inductive re(ρ:Ren)(base:List as4):List (arY×List Dy)->List as4->Prop where
 |nil:re ρ base [] base
 |cons {k:arY} {vs:List Dy} {cap args:Array Dy} {ds:List (arY×List Dy)} {l:List as4} (h:LR ρ vs (args++cap).toList) (t:re ρ base ds l):
  re ρ base ((k,vs)::ds) ({target:=.fn (.func k) cap,args:=args}::l)
theorem re.mono{ρ ρ':Ren}(hl:ρ.le ρ'){base:List as4}{ds:List (arY×List Dy)}{l:List as4}(h:re ρ base ds l):re ρ' base ds l:=by
 induction h with
 |nil=>exact .nil
 |cons h t ih=>exact .cons (h.mono hl) ih
structure FR(ρ:Ren)(t:Fr)(a:Act):Prop where
 size:a.tmps.size=t.n
 small:t.n<=1024
 at_:∀i,VR ρ (t.at i) (a.tmps.getD i undef)
 defers:re ρ t.base t.ds a.defers
theorem FR.mono{ρ ρ':Ren}(hl:ρ.le ρ'){t:Fr}{a:Act}(h:FR ρ t a):FR ρ' t a:=⟨h.size,h.small,λi=>(h.at_ i).mono hl,h.defers.mono hl⟩
theorem FR.sF{ρ:Ren}{t:Fr}{a:Act}(h:FR ρ t a)(h1:t.ds=[]):a.defers=t.base:=by
 have key:∀{ds:List (arY×List Dy)} {l:List as4},re ρ t.base ds l->ds=[]->l=t.base:=by
  intro ds l hd e
  cases hd with
  |nil=>rfl
  |cons=>cases e
 exact key h.defers h1
theorem FR.eval{ρ:Ren}{t:Fr}{a:Act}(h:FR ρ t a){x:asW}(hx:pU x=true):VR ρ (bU t x) (a.eval x):=by
 cases x with
 |tmp i=>exact h.at_ i
 |const v=>exact oE hx
 |global g=>cases hx
 |func f=>exact .func _ _ _ _ _ rfl rfl (λi v v' h=>by simp at h) rfl (λi v v' h=>by simp at h)
theorem ed{a b:Nat}:arF a b=true↔a<b:=by
 unfold arF
 rw[axw]
 omega
theorem FR.put{ρ:Ren}{t t1:Fr}{a:Act}(h:FR ρ t a){d:Option Tmp}{v v':Dy}(hv:VR ρ v v')(hp:Vm.put t d v=some t1):FR ρ t1 (a.put d v'):=by
 unfold Vm.put at hp
 unfold Act.put
 cases d with
 |none=>cases hp;exact h
 |some d=>
  simp only[Fr.sd]at hp
  split at hp
  ·rename_i hlt
   have hlt:=ed.1 hlt
   cases hp
   refine⟨by simpa using h.size,h.small,λj=>?_,h.defers⟩
   have hj:=h.at_ j
   unfold Fr.at at hj⊢
   dsimp only at hj⊢
   by_cases AN:j<t.n
   ·rw[ed.2 AN]at hj⊢
    dsimp only at hj⊢
    have bx:(2:Nat)^10=1024:=rfl
    rw[Tr.xV 10 _ _ _ _ (by have:=h.small;omega) (by have:=h.small;omega)]
    by_cases Fa:j=d
    ·subst Fa
     rw[if_pos rfl]
     have AO:j<a.tmps.size:=by rw[h.size];exact AN
     simp only[ar8,as0,AO,if_true,ati]
     exact hv
    ·rw[if_neg Fa]
     rw[ar8,asX (Ne.symm Fa),<-ar8]
     exact hj
   ·have hb:arF j t.n=false:=by cases hb:arF j t.n with
     |false=>rfl
     |true=>exact absurd (ed.1 hb) AN
    rw[hb]
    dsimp only
    have AO:¬j<a.tmps.size:=by rw[h.size];exact AN
    rw[ar8,auA (by simp;omega)]
    exact VR.undef ρ
  ·cases hp
theorem Xo{ρ:Ren}{t:Fr}{a:Act}(h:FR ρ t a)(ops:Array ast):mo ops.toList t=yielded ops a.tmps:=by
 funext j
 unfold mo yielded
 rw[ata]
 cases hd:(ops[j]?).bind (·.dst)with
 |none=>rfl
 |some d=>
  dsimp only[Option.bind_some]
  have hv:=h.at_ d
  rw[ar8]at hv
  cases hc:a.tmps[d]?with
  |none=>
   rw[hc]at hv
   have hu:∀b,t.at d≠ .bool b:=by
    intro b e
    rw[e]at hv
    have:=hv.vK
    cases this
   split
   ·rename_i b e;exact absurd e (hu b)
   ·rfl
  |some u=>
   rw[hc]at hv
   simp only[ati]at hv
   split
   ·rename_i b e
    rw[e]at hv
    rw[hv.vK]
   ·rename_i br
    split
    ·rename_i b e
     simp only[DE]at e
     subst e
     generalize hx:t.at d=x at hv br
     cases hv
     exact absurd rfl (br b)
    ·rfl
structure dW(S S':VS):Prop where
 rd:∀x,x∈S.rd->x∈S'.rd
 wr:∀x,x∈S.wr->x∈S'.wr
 frame:∀x,x∉S'.wr->gt S'.mem x=gt S.mem x
 sm:(∀x,(x∈S.rd\/x∈S.wr)->small x=true)->∀x,(x∈S'.rd\/x∈S'.wr)->small x=true
theorem dW.refl(S:VS):dW S S:=⟨λ_ h=>h,λ_ h=>h,λ_ _=>rfl,λh=>h⟩
theorem dW.trans{a b c:VS}(h:dW a b)(k:dW b c):dW a c:=
 ⟨λx hx=>k.rd x (h.rd x hx),λx hx=>k.wr x (h.wr x hx),λx hx=>(k.frame x hx).trans (h.frame x λhh=>hx (k.wr x hh)),λhs=>k.sm (h.sm hs)⟩
def gr(S S':VS)(m:Nat->Option ak):Prop:=∀x,(x∈S'.rd\/x∈S'.wr)->m x=gt S.mem x
def post(m:Nat->Option ak)(S':VS):Nat->Option ak:=λx=>if x∈S'.wr then gt S'.mem x else m x
theorem gr.first{S S1 S2:VS}{m:Nat->Option ak}(h:gr S S2 m)(e:dW S1 S2):gr S S1 m:=
 λx hx=>h x (hx.imp (e.rd x) (e.wr x))
theorem gr.next{S S1 S2:VS}{m:Nat->Option ak}(h:gr S S2 m)(e1:dW S S1):gr S1 S2 (post m S1):=by
 intro x hx
 unfold post
 by_cases hw:x∈S1.wr
 ·rw[if_pos hw]
 ·rw[if_neg hw,h x hx,e1.frame x hw]
theorem po{m:Nat->Option ak}{S1 S2:VS}(e:dW S1 S2):post (post m S1) S2=post m S2:=by
 funext x
 unfold post
 by_cases h2:x∈S2.wr
 ·rw[if_pos h2,if_pos h2]
 ·rw[if_neg h2,if_neg h2,if_neg λh=>h2 (e.wr x h)]
theorem pq{m:Nat->Option ak}{S:VS}(h:gr S S m):post m S=m:=by
 funext x
 unfold post
 by_cases hw:x∈S.wr
 ·rw[if_pos hw,h x (.inr hw)]
 ·rw[if_neg hw]
abbrev pr(g:Nat->Option ak)(ws:List (Nat×ak)):Nat->Option ak:=ws.foldl (λg (p:Nat×ak)=>cX g p.1 p.2) g
abbrev iW(S:VS)(ws:List (Nat×ak)):VS:=ws.foldl (λ(S:VS) (p:Nat×ak)=>{S with mem:=S.mem.set 18 p.1 p.2,wr:=p.1::S.wr}) S
theorem rf:∀{ws:List (Nat×ak)} {g:Nat->Option ak} {x:Nat},(∀p∈ws,p.1≠x)->pr g ws x=g x
 | [],g,x,_=>rfl
 |p::ws,g,x,h=>by
  show pr (cX g p.1 p.2) ws x=g x
  rw[rf λq hq=>h q (by simp[hq]),eB _ (Ne.symm (h p (by simp)))]
theorem Fb:∀{ws:List (Nat×ak)} {g g':Nat->Option ak} {x:Nat},(∃p∈ws,p.1=x)->pr g ws x=pr g' ws x
 | [],g,g',x,h=>by obtain⟨p,hp,_⟩:=h;cases hp
 |p::ws,g,g',x,h=>by
  show pr (cX g p.1 p.2) ws x=pr (cX g' p.1 p.2) ws x
  by_cases hr:∃q∈ws,q.1=x
  ·exact Fb hr
  ·have hn:∀q∈ws,q.1≠x:=λq hq e=>hr ⟨q,hq,e⟩
   rw[rf hn,rf hn]
   obtain⟨q,hq,e⟩:=h
   rcases arD.1 hq with rfl|hq
   ·subst e;rw[fB,fB]
   ·exact absurd e (hn q hq)
theorem Mi:∀{ws:List (Nat×ak)} {S:VS},(∀p∈ws,small p.1=true)->
 gt (iW S ws).mem=pr (gt S.mem) ws/\(iW S ws).rd=S.rd/\(iW S ws).next=S.next/\∀x,x∈(iW S ws).wr↔(∃p∈ws,p.1=x)\/x∈S.wr
 | [],S,_=>⟨rfl,rfl,rfl,λx=>by simp⟩
 |p::ws,S,h=>by
  obtain⟨h1,h2,h3,h4⟩:=Mi (ws:=ws) (S:={S with mem:=S.mem.set 18 p.1 p.2,wr:=p.1::S.wr}) λq hq=>h q (by simp[hq])
  refine⟨?_,h2,h3,λx=>?_⟩
  ·show gt (iW _ ws).mem=pr (cX (gt S.mem) p.1 p.2) ws
   rw[h1,<-xW (h p (by simp))]
  ·show x∈(iW _ ws).wr↔_
   rw[h4 x]
   simp only[arD]
   constructor
   ·rintro(⟨q,hq,e⟩|rfl|hx)
    ·exact .inl ⟨q,.inr hq,e⟩
    ·exact .inl ⟨p,.inl rfl,rfl⟩
    ·exact .inr hx
   ·rintro(⟨q,rfl|hq,e⟩|hx)
    ·exact .inr (.inl e.symm)
    ·exact .inl ⟨q,hq,e⟩
    ·exact .inr (.inr hx)
theorem Mj{S S1:VS}{l:List Nat}{out:bo}{r:kM}(hl:∀x∈l,∃o,gt S.mem x=some o)(h:Ae S l out=some (r,S1)):
 dW S S1/\r=out.r/\(out.nw≠none->gt S.mem S.next=none/\S.next∈S1.wr)/\(∀x∈l,x∈S1.rd)/\∀m,gr S S1 m->post m S1=vN m S.next out:=by
 unfold Ae at h
 dsimp only at h
 split at h
 ·cases h
 ·rename_i lv
  have dX:∀p∈out.ws,small p.1=true:=by
   intro p hp
   have:=ar1.1 lv p hp
   obtain⟨o,ho⟩:=hl p.1 (by simpa using this)
   exact p9 ho
  obtain⟨h1,h2,h3,h4⟩:=Mi (ws:=out.ws) (S:={S with rd:=l++S.rd}) dX
  split at h
  ·rename_i sG
   simp only[DE,KN]at h
   obtain⟨rfl,rfl⟩:=h
   refine⟨⟨λx hx=>?_,λx hx=>?_,λx hx=>?_,λhS x hx=>?_⟩,rfl,λbr=>absurd sG br,λx hx=>?_,λm hm=>?_⟩
   ·show x∈(iW _ out.ws).rd;rw[h2];simp[hx]
   ·exact(h4 x).2 (.inr hx)
   ·show gt (iW _ out.ws).mem x=_
    rw[h1,rf λp hp e=>hx ((h4 x).2 (.inl ⟨p,hp,e⟩))]
   ·rcases hx with hx|hx
    ·have hx:x∈(iW {S with rd:=l++S.rd} out.ws).rd:=hx
     rw[h2]at hx
     rcases arL.1 hx with hx|hx
     ·obtain⟨o,ho⟩:=hl x hx;exact p9 ho
     ·exact hS x (.inl hx)
    ·rcases(h4 x).1 hx with⟨p,hp,rfl⟩|hx
     ·exact dX p hp
     ·exact hS x (.inr hx)
   ·show x∈(iW _ out.ws).rd;rw[h2];simp[hx]
   ·funext x
    unfold post vN
    rw[sG]
    show(if x∈(iW _ out.ws).wr then gt (iW _ out.ws).mem x else m x)=pr m out.ws x
    by_cases hx:∃p∈out.ws,p.1=x
    ·rw[if_pos ((h4 x).2 (.inl hx)),h1]
     exact Fb hx
    ·have hn:∀p∈out.ws,p.1≠x:=λp hp e=>hx ⟨p,hp,e⟩
     rw[rf hn]
     by_cases hw:x∈(iW {S with rd:=l++S.rd} out.ws).wr
     ·rw[if_pos hw,h1,rf hn]
      exact(hm x (.inr hw)).symm
     ·rw[if_neg hw]
  ·rename_i o sG
   split at h
   ·rename_i hs qj
    simp only[DE,KN]at h
    obtain⟨rfl,rfl⟩:=h
    have ix:gt ((iW {S with rd:=l++S.rd} out.ws).mem.set 18 S.next o)=cX (pr (gt S.mem) out.ws) S.next o:=by rw[xW hs,h1]
    refine⟨⟨λx hx=>?_,λx hx=>?_,λx hx=>?_,λhS x hx=>?_⟩,rfl,λ_=>⟨qj,by simp⟩,λx hx=>?_,λm hm=>?_⟩
    ·show x∈(iW _ out.ws).rd;rw[h2];simp[hx]
    ·show x∈S.next::(iW _ out.ws).wr
     exact arG _ ((h4 x).2 (.inr hx))
    rotate_left
    ·rcases hx with hx|hx
     ·have hx:x∈(iW {S with rd:=l++S.rd} out.ws).rd:=hx
      rw[h2]at hx
      rcases arL.1 hx with hx|hx
      ·obtain⟨o,ho⟩:=hl x hx;exact p9 ho
      ·exact hS x (.inl hx)
     ·have hx:x∈S.next::(iW {S with rd:=l++S.rd} out.ws).wr:=hx
      rcases arD.1 hx with rfl|hx
      ·exact hs
      ·rcases(h4 x).1 hx with⟨p,hp,rfl⟩|hx
       ·exact dX p hp
       ·exact hS x (.inr hx)
    rotate_left
    rotate_left
    ·have gX:x∉S.next::(iW {S with rd:=l++S.rd} out.ws).wr:=hx
     simp only[arD,not_or]at gX
     show gt ((iW {S with rd:=l++S.rd} out.ws).mem.set 18 S.next o) x=_
     rw[ix,eB _ gX.1,rf λp hp e=>gX.2 ((h4 x).2 (.inl ⟨p,hp,e⟩))]
    ·show x∈(iW _ out.ws).rd;rw[h2];simp[hx]
    ·funext x
     unfold post vN
     rw[sG]
     show(if x∈S.next::(iW _ out.ws).wr then gt ((iW {S with rd:=l++S.rd} out.ws).mem.set 18 S.next o) x else m x)=cX (pr m out.ws) S.next o x
     rw[ix]
     by_cases AP:x=S.next
     ·subst AP
      rw[if_pos (by simp),fB,fB]
     ·rw[eB _ AP,eB _ AP]
      by_cases hx:∃p∈out.ws,p.1=x
      ·rw[if_pos (arG _ ((h4 x).2 (.inl hx)))]
       exact Fb hx
      ·have hn:∀p∈out.ws,p.1≠x:=λp hp e=>hx ⟨p,hp,e⟩
       rw[rf hn,rf hn]
       by_cases hw:x∈S.next::(iW {S with rd:=l++S.rd} out.ws).wr
       ·rw[if_pos hw]
        exact(hm x (.inr hw)).symm
       ·rw[if_neg hw]
   ·cases h
section
variable {P:arC} {B:Nat->Prop} {w₀:arB}
theorem Xp{t:Fr}{S S1:VS}{o:ast}{r:kM}(h:oD P t S o=some (r,S1)):dW S S1:=by
 unfold oD at h
 split at h
 ·cases h
 ·split at h
  ·cases h
  ·rename_i out l nc
   exact(Mj (λx hx=>Rd.Al nc x hx) h).1
theorem Xq(hP:iV P=true){ρ:Ren}{m:Nat->Option ak}{w:arB}{t:Fr}{a:Act}{S S1:VS}{o:ast}{r:kM}(h:oD P t S o=some (r,S1))
 (ht:FR ρ t a)(hw:WR P B w₀ ρ m w)(hm:gr S S1 m):∃ρ' w',ρ.le ρ'/\RR ρ' r ((execOp a.eval o).run P w) w'/\WR P B w₀ ρ' (post m S1) w':=by
 unfold oD at h
 split at h
 ·cases h
 ·rename_i nf
  split at h
  ·cases h
  ·rename_i out l nc
   obtain⟨h1,rfl,h3,h4,h5⟩:=Mj (λx hx=>Rd.Al nc x hx) h
   have Xr:(ev P (bU t) S.next o).run m=some (out,l):=Rd.Ak nc λx hx=>hm x (.inl (h4 x hx))
   obtain⟨ρ',w',h6,h7,h8⟩:=(Xn hP hw (e':=a.eval) (λx hx=>ht.eval (ar1.1 nf x (as6.2 hx)))
    (λbr=>by obtain⟨h9,bx⟩:=h3 br;rw[hm _ (.inr bx),h9]) Xr).ex
   exact⟨ρ',w',h6,h7,by rw[h5 m hm];exact h8⟩
theorem ym:∀{l:List ak} {S S1:VS},sq l S=some S1->dW S S1/\S1.rd=S.rd/\(∀j,j<l.length->gt S.mem (S.next+j)=none/\S.next+j∈S1.wr)/\∀m,gr S S1 m->post m S1=jk m S.next l
 | [],S,S1,h=>by
  simp only[sq,DE]at h
  subst h
  exact⟨dW.refl S,rfl,λj hj=>absurd hj (by simp),λm hm=>pq hm⟩
 |o::l,S,S1,h=>by
  unfold sq at h
  split at h
  ·rename_i hs hn
   obtain⟨h1,h2,h3,h4⟩:=ym h
   have ix:gt (S.mem.set 18 S.next o)=cX (gt S.mem) S.next o:=xW hs
   have e1:dW S {S with mem:=S.mem.set 18 S.next o,next:=S.next+1,wr:=S.next::S.wr}:=by
    refine⟨λx hx=>hx,λx hx=>arG _ hx,λx hx=>?_,λhS x hx=>?_⟩
    ·show gt (S.mem.set 18 S.next o) x=_
     rw[ix,eB _ λe=>hx (by rw[e];exact arH)]
    ·rcases hx with hx|hx
     ·exact hS x (.inl hx)
     ·rcases arD.1 hx with rfl|hx
      ·exact hs
      ·exact hS x (.inr hx)
   have gl:S.next∈S1.wr:=h1.wr _ arH
   refine⟨e1.trans h1,h2,λj hj=>?_,λm hm=>?_⟩
   ·cases j with
    |zero=>exact⟨hn,gl⟩
    |succ j=>
     obtain⟨h5,h6⟩:=h3 j (by simpa using hj)
     dsimp only at h5 h6
     rw[ix,eB _ (by omega)]at h5
     rw[show S.next+(j+1)=S.next+1+j by omega]
     exact⟨h5,h6⟩
   ·have cC:gr {S with mem:=S.mem.set 18 S.next o,next:=S.next+1,wr:=S.next::S.wr} S1 (cX m S.next o):=by
     intro x hx
     show cX m S.next o x=gt (S.mem.set 18 S.next o) x
     rw[ix]
     by_cases e:x=S.next
     ·subst e;rw[fB,fB]
     ·rw[eB _ e,eB _ e];exact hm x hx
    show post m S1=jk (cX m S.next o) (S.next+1) l
    rw[<-h4 _ cC]
    funext x
    unfold post
    by_cases hx:x∈S1.wr
    ·rw[if_pos hx,if_pos hx]
    ·rw[if_neg hx,if_neg hx,eB _ λe=>hx (by rw[e];exact gl)]
  ·cases h
theorem Mk{t:Fr}{S:VS}{o:ast}{V:View}(h:mn P t S o=some V):
 ∃ty x i cap,o.op=.indexAddr ty x i/\bU t x=.slice (some ⟨V.b,0,none⟩) V.len cap/\gt S.mem V.b=some (.rows V.n V.size V.row)/\P.underlying ty=some (.slice V.el)/\bZ P V.el=some V.size/\V.i=bU t i:=by
 unfold mn at h
 split at h
 ·rename_i ty x i dh
  split at h
  ·rename_i b off len cap hx
   split at h
   ·rename_i n size row hb
    split at h
    ·split at h
     ·rename_i el hu
      split at h
      ·rename_i s hs
       split at h
       ·rename_i vZ
        have vZ:=arJ vZ
        subst vZ
        cases h
        exact⟨ty,x,i,cap,dh,hx,hb,hu,hs,rfl⟩
       ·cases h
      ·cases h
     ·cases h
    ·cases h
   ·cases h
  ·cases h
 ·cases h
theorem Ml{S S1:VS}{b:Nat}{el:KS}{l:List SV}{r:kM}(h:xS S b el l=some (r,S1)):
 r=.val (.pointer (some ⟨S.next+lL l,0,none⟩))/\sq (hI l++[.cells (m7 l S.next) el true]) {S with rd:=b::S.rd}=some S1:=by
 unfold xS at h
 split at h
 ·rename_i S2 hl
  simp only[DE,KN]at h
  obtain⟨rfl,rfl⟩:=h
  exact⟨rfl,hl⟩
 ·cases h
theorem Xs{S S1:VS}{b:Nat}{o:ak}(hb:gt S.mem b=some o)(h:dW {S with rd:=b::S.rd} S1):dW S S1:=by
 refine dW.trans (b:={S with rd:=b::S.rd}) ⟨λx hx=>arG _ hx,λx hx=>hx,λx hx=>rfl,λhS x hx=>?_⟩ h
 rcases hx with hx|hx
 ·rcases arD.1 hx with rfl|hx
  ·exact p9 hb
  ·exact hS x (.inl hx)
 ·exact hS x (.inr hx)
theorem Mm{t:Fr}{S S1:VS}{o:ast}{r:kM}{V:View}(hV:mn P t S o=some V)(h:jZ P t S o=some (r,S1)):
 o.op.operands.toList.all pU=true/\∃k,pV V.i=some k/\k<V.n/\k<V.len/\xS S V.b V.el (V.row k)=some (r,S1):=by
 unfold jZ at h
 rw[hV]at h
 dsimp only at h
 split at h
 ·rename_i k nf hk
  split at h
  ·rename_i hlt
   simp only[BV,ed]at hlt
   exact⟨nf,k,hk,hlt.1,hlt.2,h⟩
  ·cases h
 ·cases h
theorem Mn{t:Fr}{S:VS}{o:ast}(hV:mn P t S o=none):jZ P t S o=oD P t S o:=by
 unfold jZ
 rw[hV]
theorem yn{t:Fr}{S S1:VS}{o:ast}{r:kM}(h:jZ P t S o=some (r,S1)):dW S S1:=by
 cases hV:mn P t S o with
 |none=>rw[Mn hV]at h;exact Xp h
 |some V=>
  obtain⟨_,k,_,_,_,h⟩:=Mm hV h
  obtain⟨ty,x,i,cap,_,_,hb,_⟩:=Mk hV
  exact Xs hb (ym (Ml h).2).1
theorem v7(hP:iV P=true){ρ:Ren}{m:Nat->Option ak}{w:arB}{t:Fr}{a:Act}{S S1:VS}{o:ast}{r:kM}(h:jZ P t S o=some (r,S1))
 (ht:FR ρ t a)(hw:WR P B w₀ ρ m w)(hm:gr S S1 m):∃ρ' w',ρ.le ρ'/\RR ρ' r ((execOp a.eval o).run P w) w'/\WR P B w₀ ρ' (post m S1) w':=by
 cases hV:mn P t S o with
 |none=>rw[Mn hV]at h;exact Xq hP h ht hw hm
 |some V=>
  have apK:=yn h
  obtain⟨nf,k,hk,kr,yo,h⟩:=Mm hV h
  obtain⟨ty,x,i,cap,dh,hx,hb,hu,hs,hi⟩:=Mk hV
  obtain⟨hr,hl⟩:=Ml h
  obtain⟨he,gL,cF,uk⟩:=ym hl
  have Xt:m V.b=some (.rows V.n V.size V.row):=by
   rw[hm V.b (.inl (by rw[gL];exact arH)),hb]
  have Ey:gr {S with rd:=V.b::S.rd} S1 m:=hm
  have uk:=uk m Ey
  obtain⟨rr,Fc,ca⟩:=hw.rows _ _ _ _ Xt
  have ca:=ca (by omega)
  obtain⟨c',cj,fr,h1,h2,h3,h4⟩:=ca.at_
  obtain⟨h5,h6⟩:=h4 k kr
  have Xu:w.heap[rr.aH]?=some (.cells c' cj fr):=(hw.below.block _ ca.aH).trans h1
  have hmul:k*V.size+V.size<=V.n*V.size:=by
   have:=aui V.size kr
   rw[Nat.succ_mul]at this
   exact this
  let l':List Dy:=(c'.toList.drop (rr.sh+k*V.size)).take V.size
  have Mo:l'.length=V.size:=by simp[l'];omega
  have Fe:il P w₀ B (V.row k) l':=⟨by rw[h5,Mo],λj s v hj hv=>by
   obtain⟨v',a1,a2⟩:=h6 j s hj
   have:l'[j]?=some v':=by
    show((c'.toList.drop (rr.sh+k*V.size)).take V.size)[j]?=_
    have AO:j<V.size:=by rw[<-h5];exact(KP.1 hj).1
    rw[asL,if_pos AO,asH]
    simpa using a1
   rw[this]at hv
   cases hv
   exact a2⟩
  have AQ:∀j,j<(hI (V.row k)++[ak.cells (m7 (V.row k) S.next) V.el true]).length->m (S.next+j)=none:=λj hj=>by
   obtain⟨a1,a2⟩:=cF j hj
   rw[hm _ (.inr a2)]
   exact a1
  obtain⟨ρ1,g1,g2,g3⟩:=ye (k:=S.next) Fe hw λj hj=>AQ j (by rw[KO,sA];omega)
  have Ff:jk m S.next (hI (V.row k)) (S.next+lL (V.row k))=none:=by
   rw[AD (.inr (by rw[sA];exact arO _))]
   exact AQ _ (by rw[KO,sA];simp)
  let R:bV:=⟨rr.aH,rr.sh+k*V.size,V.size,c'.size⟩
  have g4:=g2.LU (r:=R) Ff (c:=m7 (V.row k) S.next) (el:=V.el) (λq hq=>by rw[hs]at hq;cases hq;rfl) λbr=>
   ⟨ca.aH,c',cj,fr,Xu,rfl,by show rr.sh+k*V.size+_<=c'.size;rw[g3.len,Mo];omega,λj v hv=>by
    obtain⟨v',b1,b2⟩:=g3.get hv
    refine⟨v',?_,b2.mono (Ren.kQ (g2.fresh _ Ff) _)⟩
    have b1:((c'.toList.drop (rr.sh+k*V.size)).take V.size)[j]?=some v':=b1
    rw[asL]at b1
    split at b1
    ·rw[asH]at b1
     simpa using b1
    ·cases b1⟩
  refine⟨_,w,Ren.le_trans g1 (Ren.kQ (g2.fresh _ Ff) R),?_,?_⟩
  ·-- the model's own index
   have AR:VR ρ (.slice (some ⟨V.b,0,none⟩) V.len cap) (a.eval x):=by
    rw[<-hx]
    exact ht.eval (ar1.1 nf x (by rw[dh];simp[avh]))
   have Fg:VR ρ (bU t i) (a.eval i):=ht.eval (ar1.1 nf i (by rw[dh];simp[avh]))
   have iX:(tR P ty (.slice (some ⟨V.b,0,none⟩) V.len cap) (bU t i)).run m=some (⟨.val (.pointer (some ⟨V.b,0+k*V.size,none⟩)),[],none⟩,[]):=by
    unfold tR
    rw[hu]
    rw[hi]at hk
    simp only[hu,hk,hs,ed.2 yo]
    rfl
   obtain⟨ρ2,w2,f1,f2,f3⟩:=(LH (n:=0) hw AR Fg iX).ex
   obtain⟨dst,op,type,pos,after,guard⟩:=o
   dsimp only at dh
   subst dh
   subst hr
   generalize oK:(at5 P (do let v <-aug ty (a.eval x) (a.eval i);pure (asE v):Sem atu) w)=pg at f2
   cases f2 with
   |val _ v' _ hv=>
    have dg:w2=w:=by
     generalize apL:a.eval x=ax at AR oK
     generalize EX:V.len=vl at AR yo
     cases AR with
     |bN _ h=>cases h
     |eJ=>omega
     |sl _ _ _ _ bH r v8 hc=>
      rw[hi]at hk
      obtain⟨ik,j6⟩:=qd hk
      rw[j6]at Fg
      rw[Fg.kl]at oK
      have:(aug ty (.slice (some ⟨r.aH,r.sh+0,none⟩) vl bH) (.int ik k)).run P w=.ok (.pointer (some ⟨r.aH,r.sh+0+k*V.size,none⟩)) w:=by
       unfold aug
       simp only[asIntOf,DA,asa,Dz,run_underlying hu,Instr.sureAddr]
       rw[if_pos ⟨by omega,by omega⟩]
       simp only[DA,run_sizeOf hs,Dz,asa,qb,Int.toNat_natCast]
      rw[DA,this]at oK
      cases oK
      rfl
    subst dg
    obtain⟨r,eT,rfl⟩:=hv.lp
    rw[f1 _ _ Fc]at eT
    cases eT
    have e:(execOp a.eval {dst,op:=Op.indexAddr ty x i,type,pos,after,guard}).run P w2=.ok (.value (.pointer (some ⟨rr.aH,rr.sh+(0+k*V.size),none⟩))) w2:=oK
    rw[e]
    refine .val _ _ _ ?_
    have:=VR.ptr (ρ:=ρ1.put (S.next+lL (V.row k)) R) (S.next+lL (V.row k)) 0 R (Ren.lr _ _ _)
    simpa[R]using this
  ·have:post m S1=cX (jk m S.next (hI (V.row k))) (S.next+lL (V.row k)) (.cells (m7 (V.row k) S.next) V.el true):=by
    rw[uk]
    show jk m S.next _=_
    rw[LV,sA]
    rfl
   rw[this]
   exact g4
def CR(ρ:Ren):bD->awk->Prop
 | .ret v,.returned v'=>VR ρ v v'
 | .panic v,.panicked chain=>∃v',chain=[{v:=v',recovered:=false}]/\VR ρ v v'
 |_,_=>False
structure iy(P:arC)(call:cQ):Prop where
 ext:∀{f:arY} {args:List Dy} {S:VS} {r:bD} {S':VS},call f args S=some (r,S')->dW S S'
 ok:∀{f:arY} {args:List Dy} {S:VS} {r:bD} {S':VS},call f args S=some (r,S')->∀{B:Nat->Prop} {w₀:arB} {ρ:Ren} {m:Nat->Option ak} {w:arB} {args':Array Dy},
  LR ρ args args'.toList->WR P B w₀ ρ m w->gr S S' m->Calls P f args' w λe w'=>∃ρ',ρ.le ρ'/\CR ρ' r e/\WR P B w₀ ρ' (post m S') w'
theorem yp{call:cQ}(hc:iy P call){ops:List ast}{o:ast}{t t1:Fr}{S S1:VS}{pg:Option Dy}(h:ll P call ops o t S=some (pg,t1,S1)):dW S S1:=by
 unfold ll at h
 split at h
 ·simp only[asw,KN]at h
  obtain⟨_,_,_,_,rfl⟩:=h
  exact dW.refl S
 ·split at h
  ·cases h
  ·rename_i r S2 hs
   have e:=yn hs
   split at h
   ·simp only[asw,KN]at h
    obtain⟨_,_,_,_,rfl⟩:=h
    exact e
   ·simp only[asw,KN]at h
    obtain⟨_,_,_,_,rfl⟩:=h
    exact e
   ·simp only[DE,KN]at h
    obtain⟨_,_,rfl⟩:=h
    exact e
   ·cases h
   ·split at h
    ·cases h
    ·rename_i v S3 du
     simp only[asw,KN]at h
     obtain⟨_,_,_,_,rfl⟩:=h
     exact e.trans (hc.ext du)
    ·rename_i v S3 du
     simp only[DE,KN]at h
     obtain⟨_,_,rfl⟩:=h
     exact e.trans (hc.ext du)
theorem Mp{r:Option Nat}{n:Nat}{f:arY}{args:Array Dy}{w:arB}{R:awk->arB->Prop}(h:Calls P f args w R):CallsIn (FF r) n P f args w R:=(callsIn_wide (n:=n)).2 h
theorem Xv{t:Fr}{S:VS}{o:ast}{q:kM×VS}(h:jZ P t S o=some q):∀c,o.op≠ .defer c:=by
 intro c hc
 unfold jZ mn at h
 rw[hc]at h
 simp only at h
 unfold oD ev Ad at h
 rw[hc]at h
 simp only[Rd.run]at h
 split at h<;>cases h
theorem Fh(hP:iV P=true){call:cQ}(hc:iy P call){ops:Array ast}{i:Nat}{o:ast}(ho:ops[i]?=some o){t t1:Fr}{S S1:VS}{pg:Option Dy}
 (h:ll P call ops.toList o t S=some (pg,t1,S1)){ρ:Ren}{m:Nat->Option ak}{w:arB}{a:Act}(ht:FR ρ t a)(hw:WR P B w₀ ρ m w)(hm:gr S S1 m)
 {r:Option Nat}{K:Act->arB->Prop}{Q:atO->Act->arB->Prop}
 (hK:pg=none->∀(ρ':Ren) (a':Act) (w':arB),ρ.le ρ'->FR ρ' t1 a'->(∃v,a'=a.put o.dst v)->WR P B w₀ ρ' (post m S1) w'->K a' w')
 (hQ:∀v,pg=some v->∀(ρ':Ren) (v':Dy) (w':arB),ρ.le ρ'->VR ρ' v v'->FR ρ' t1 a->WR P B w₀ ρ' (post m S1) w'->Q (.panic [{v:=v',recovered:=false}]) a w'):
 wpOpIn (FF r) 0 P ops Q i K a w:=by
 unfold wpOpIn
 simp only[ho]
 unfold ll at h
 rw[Xo ht]at h
 split at h
 ·rename_i Fi
  simp only[asw,KN]at h
  obtain⟨t2,hp,rfl,rfl,rfl⟩:=h
  simp only[Fi,asv,if_false]
  have uk:post m S=m:=pq hm
  exact⟨λ_ _=>trivial,hK rfl ρ _ w (Ren.le_refl ρ) (ht.put (VR.undef ρ) hp) ⟨_,rfl⟩ (by rw[uk];exact hw)⟩
 ·rename_i Fi
  simp only[Fi,if_true]
  unfold ayt
  refine⟨λ_ _=>trivial,?_⟩
  split at h
  ·cases h
  ·rename_i r S2 hs
   rw[Oper.semAt_eq _ _ _ (Xv hs)]
   have e:=yn hs
   split at h
   ·rename_i v
    simp only[asw,KN]at h
    obtain⟨t2,hp,rfl,rfl,rfl⟩:=h
    obtain⟨ρ',w',h1,h2,h3⟩:=v7 hP hs ht hw hm
    generalize(execOp a.eval o).run P w=q at h2
    cases h2 with
    |val _ v' _ hv=>exact hK rfl ρ' _ w' h1 ((ht.mono h1).put hv hp) ⟨_,rfl⟩ h3
   ·simp only[asw,KN]at h
    obtain⟨t2,hp,rfl,rfl,rfl⟩:=h
    obtain⟨ρ',w',h1,h2,h3⟩:=v7 hP hs ht hw hm
    generalize(execOp a.eval o).run P w=q at h2
    cases h2 with
    |skip=>exact hK rfl ρ' _ w' h1 ((ht.mono h1).put (VR.undef ρ') hp) ⟨_,rfl⟩ h3
   ·rename_i v
    simp only[DE,KN]at h
    obtain⟨rfl,rfl,rfl⟩:=h
    obtain⟨ρ',w',h1,h2,h3⟩:=v7 hP hs ht hw hm
    generalize(execOp a.eval o).run P w=q at h2
    cases h2 with
    |panic _ v' _ hv=>exact hQ v rfl ρ' v' w' h1 hv (ht.mono h1) h3
   ·cases h
   ·rename_i f args
    split at h
    ·cases h
    ·rename_i v S3 du
     simp only[asw,KN]at h
     obtain⟨t2,hp,rfl,rfl,rfl⟩:=h
     have e2:=hc.ext du
     obtain⟨ρ',w',h1,h2,h3⟩:=v7 hP hs ht hw (hm.first e2)
     generalize(execOp a.eval o).run P w=q at h2
     cases h2 with
     |enter _ _ args' _ ha=>
      refine⟨(λhh=>by cases hh),(Mp (hc.ok du ha h3 (hm.next e))).mono λen Fj jA=>?_⟩
      obtain⟨ρ2,h4,h5,h6⟩:=jA
      rw[po e2]at h6
      cases en with
      |returned v'=>exact hK rfl ρ2 _ Fj (Ren.le_trans h1 h4) ((ht.mono (Ren.le_trans h1 h4)).put h5 hp) ⟨_,rfl⟩ h6
      |panicked chain=>cases h5
      |outgrown=>cases h5
    ·rename_i v S3 du
     simp only[DE,KN]at h
     obtain⟨rfl,rfl,rfl⟩:=h
     have e2:=hc.ext du
     obtain⟨ρ',w',h1,h2,h3⟩:=v7 hP hs ht hw (hm.first e2)
     generalize(execOp a.eval o).run P w=q at h2
     cases h2 with
     |enter _ _ args' _ ha=>
      refine⟨(λhh=>by cases hh),(Mp (hc.ok du ha h3 (hm.next e))).mono λen Fj jA=>?_⟩
      obtain⟨ρ2,h4,h5,h6⟩:=jA
      rw[po e2]at h6
      cases en with
      |returned v'=>cases h5
      |panicked chain=>
       obtain⟨v',rfl,hv⟩:=h5
       exact hQ v rfl ρ2 v' Fj (Ren.le_trans h1 h4) hv (ht.mono (Ren.le_trans h1 h4)) h6
      |outgrown=>cases h5
end
end Go.Proofs.YtnlkkgpcikkpoaaGreat.Vm
namespace Go.Proofs.YtnlkkgpcikkpoaaGreat.Vm
open Go.RowKit
section
variable {P:arC} {B:Nat->Prop} {w₀:arB}
theorem Fk{e e':asW->Dy}{l:List asW}(h:∀x∈l,e x=e' x):l.map e=l.map e':=atc h
theorem Mq{e e':asW->Dy}{l:List (Nat×asW)}(h:∀x∈l,e x.2=e' x.2):(l.map λ(i,x)=>(i,e x))=l.map λ(i,x)=>(i,e' x):=
 atc λx hx=>by obtain⟨i,y⟩:=x;exact congrArg (Prod.mk i) (h _ hx)
theorem AS{e e':asW->Dy}{o:Option asW}(h:∀x,o=some x->e x=e' x):o.map e=o.map e':=by
 cases o with
 |none=>rfl
 |some x=>simp[h x rfl]
theorem Xw{e e':asW->Dy}{n:Nat}{o:ast}(h:∀x∈o.op.operands,e x=e' x):ev P e n o=ev P e' n o:=by
 obtain⟨dst,op,type,pos,after,guard⟩:=o
 cases op<;>simp only[avh]at h<;>simp only[ev,Ad]
 case move x=>rw[h x (by simp)]
 case assign x=>rw[h x (by simp)]
 case pick c a b=>rw[h c (by simp),h a (by simp),h b (by simp)]
 case box t x=>rw[h x (by simp)]
 case build t parts=>rw[Mq λx hx=>h x.2 (by simp only[avq,as8];exact⟨x,hx,rfl⟩)]
 case buildSlice t len parts=>rw[Mq λx hx=>h x.2 (by simp only[avq,as8];exact⟨x,hx,rfl⟩)]
 case insert t m k x=>rw[h m (by simp),h k (by simp),h x (by simp)]
 case load t a=>rw[h a (by simp)]
 case store t a x=>rw[h a (by simp),h x (by simp)]
 case nilCheck x=>rw[h x (by simp)]
 case binOp op t x y yt=>rw[h x (by simp),h y (by simp)]
 case unOp op t x=>rw[h x (by simp)]
 case convert src dst x=>rw[h x (by simp)]
 case makeInterface t x=>rw[h x (by simp)]
 case makeFunc fn first captured=>
  rw[Fk (l:=first.toList) λx hx=>h x (auq.2 (.inl (as6.1 hx))),Fk (l:=captured.toList) λx hx=>h x (auq.2 (.inr (as6.1 hx)))]
 case makeMap t r=>rw[AS λy hy=>h y (by subst hy;simp)]
 case makeSlice t a b=>rw[h a (by simp),h b (by simp)]
 case slice t x lo hi mx=>rw[h x (by simp),AS (o:=lo) λy hy=>h y (by subst hy;simp),AS (o:=hi) λy hy=>h y (by subst hy;simp),AS (o:=mx) λy hy=>h y (by subst hy;simp)]
 case fieldAddr s x i=>rw[h x (by simp)]
 case field s x i=>rw[h x (by simp)]
 case indexAddr t x i=>rw[h x (by simp),h i (by simp)]
 case index t x i=>rw[h x (by simp),h i (by simp)]
 case lookup t x k ok=>rw[h x (by simp),h k (by simp)]
 case mapUpdate t m k x=>rw[h m (by simp),h k (by simp),h x (by simp)]
 case typeAssert x xt at_ ok=>rw[h x (by simp)]
 case extract t i=>rw[h t (by simp)]
 case panic x=>rw[h x (by simp)]
 case call c=>
  have ha:c.args.toList.map e=c.args.toList.map e':=Fk λx hx=>h x (by unfold auO;exact auq.2 (.inr (as6.1 hx)))
  unfold sj
  rw[ha]
  split
  ·rfl
  ·rename_i recv name hb;rw[h recv (by unfold auO;rw[hb];simp)]
  ·rename_i f hb;rw[h f (by unfold auO;rw[hb];simp)]
theorem Mr{ops:Array ast}{o:ast}{t:Nat}(h:Operand.tmp t∈o.op.operands):t∈o.looksAt ops:=by
 unfold axX
 refine List.mem_append_left _ (List.mem_filterMap.2 ⟨.tmp t,as6.2 h,rfl⟩)
theorem Xx{t t':Fr}{S:VS}{o:ast}{ops:Array ast}(h:∀s∈o.looksAt ops,t'.at s=t.at s):jZ P t' S o=jZ P t S o:=by
 have nc:∀x∈o.op.operands,bU t' x=bU t x:=λx hx=>by
  cases x with
  |tmp s=>exact h s (Mr hx)
  |_=>rfl
 have hv:mn P t' S o=mn P t S o:=by
  unfold mn
  cases dh:o.op with
  |indexAddr ty x i=>
   dsimp only
   rw[nc x (by rw[dh];simp[avh]),nc i (by rw[dh];simp[avh])]
  |_=>rfl
 unfold jZ
 rw[hv]
 split
 ·rfl
 unfold oD
 rw[Xw (e:=bU t') (e':=bU t) λx hx=>by
  cases x with
  |tmp s=>exact h s (Mr hx)
  |_=>rfl]
theorem Xy{t t':Fr}{o:ast}{ops:Array ast}(h:∀s∈o.looksAt ops,t'.at s=t.at s):asZ o (mo ops.toList t')=asZ o (mo ops.toList t):=by
 unfold asZ
 cases hg:o.guard with
 |none=>rfl
 |some p=>
  obtain⟨j,b⟩:=p
  have:mo ops.toList t' j=mo ops.toList t j:=by
   unfold mo
   rw[ata]
   cases hd:(ops[j]?).bind (·.dst)with
   |none=>rfl
   |some d=>
    have:d∈o.looksAt ops:=by
     unfold axX
     refine List.mem_append_right _ ?_
     rw[hg]
     show d∈((ops[j]?).bind (·.dst)).toList
     rw[hd];simp
    dsimp only
    rw[h d this]
  simp only[this]
theorem AU{t t' t1:Fr}{d:Option Tmp}{v:Dy}(hn:t'.n=t.n)(h:Vm.put t d v=some t1):∃ng,Vm.put t' d v=some ng:=by
 cases d with
 |none=>exact⟨t',rfl⟩
 |some d=>
  simp only[Vm.put,Fr.sd]at h⊢
  rw[hn]
  split at h
  ·rename_i hlt;first|exact⟨_,rfl⟩|(rw[hlt];exact⟨_,rfl⟩)
  ·cases h
theorem AV{call:cQ}{ops:Array ast}{o:ast}{t t' t1:Fr}{S S1:VS}(h:ll P call ops.toList o t S=some (none,t1,S1))(hl:∀s∈o.looksAt ops,t'.at s=t.at s)(hn:t'.n=t.n):
 ∃v ng,Vm.put t o.dst v=some t1/\Vm.put t' o.dst v=some ng/\ll P call ops.toList o t' S=some (none,ng,S1):=by
 unfold ll at h⊢
 rw[Xy hl,Xx hl]
 split at h
 ·rename_i hw
  simp only[asw,KN]at h
  obtain⟨t2,hp,_,rfl,rfl⟩:=h
  obtain⟨ng,lN⟩:=AU hn hp
  exact⟨_,ng,hp,lN,by simp only[lN,asO]⟩
 ·rename_i hw
  cases hs:jZ P t S o with
  |none=>rw[hs]at h;cases h
  |some q=>
   obtain⟨r,S2⟩:=q
   rw[hs]at h
   simp only[]at h⊢
   cases r with
   |val v=>
    simp only[asw,KN]at h
    obtain⟨t2,hp,_,rfl,rfl⟩:=h
    obtain⟨ng,lN⟩:=AU hn hp
    exact⟨_,ng,hp,lN,by simp only[lN,asO]⟩
   |skip=>
    simp only[asw,KN]at h
    obtain⟨t2,hp,_,rfl,rfl⟩:=h
    obtain⟨ng,lN⟩:=AU hn hp
    exact⟨_,ng,hp,lN,by simp only[lN,asO]⟩
   |panic v=>simp at h
   |defer d=>cases h
   |enter f args=>
    simp only[]at h⊢
    cases hc:call f args S2 with
    |none=>rw[hc]at h;cases h
    |some q2=>
     obtain⟨cr,S3⟩:=q2
     rw[hc]at h
     cases cr with
     |ret v=>
      simp only[asw,KN]at h
      obtain⟨t2,hp,_,rfl,rfl⟩:=h
      obtain⟨ng,lN⟩:=AU hn hp
      exact⟨_,ng,hp,lN,by simp only[lN,asO]⟩
     |panic v=>simp at h
theorem yq{t t1:Fr}{d:Option Tmp}{v:Dy}(hs:t.n<=1024)(h:Vm.put t d v=some t1):t1.n=t.n/\∀s,t1.at s=if d=some s then v else t.at s:=by
 cases d with
 |none=>cases h;exact⟨rfl,λs=>by simp⟩
 |some d=>
  simp only[Vm.put,Fr.sd]at h
  split at h
  ·rename_i hlt
   cases h
   have hlt:=ed.1 hlt
   refine⟨rfl,λs=>?_⟩
   unfold Fr.at
   dsimp only
   by_cases Fl:s<t.n
   ·rw[ed.2 Fl]
    dsimp only
    have bx:(2:Nat)^10=1024:=rfl
    rw[Tr.xV 10 _ _ _ _ (by omega) (by omega)]
    by_cases ua:s=d
    ·subst ua;simp
    ·have:¬(some d=some s):=λe=>ua (by cases e;rfl)
     rw[if_neg ua,if_neg this]
   ·have hb:arF s t.n=false:=by cases hb:arF s t.n with
     |false=>rfl
     |true=>exact absurd (ed.1 hb) Fl
    rw[hb]
    dsimp only
    have:¬(some d=some s):=λe=>Fl (by cases e;exact hlt)
    rw[if_neg this]
  ·cases h
end
section
variable {X V:Type}
def st(W:Nat->X->Option V)(init:X->V)(D:Nat->Bool):Nat->X->V
 |0,x=>init x
 |k+1,x=>if D k then(W k x).getD (st W init D k x)else st W init D k x
theorem nh(W:Nat->X->Option V)(init:X->V)(D:Nat->Bool)(k:Nat)(x:X):st W init D (k+1) x=if D k then(W k x).getD (st W init D k x)else st W init D k x:=rfl
theorem Ms{W:Nat->X->Option V}{init:X->V}{D:Nat->Bool}{i n:Nat}{x:X}(gl:i<=n)(hi:D i=false)
 (h1:∀k,k<i->D k=false->W k x=none)(h2:∀k,i<k->k<n->D k=true->W k x=none):st W init D n x=st W init (λ_=>true) i x:=by
 have a:∀k,k<=i->st W init D k x=st W init (λ_=>true) k x:=by
  intro k
  induction k with
  |zero=>intro _;rfl
  |succ k ih=>
   intro hk
   rw[nh,nh,ih (by omega)]
   cases hd:D k with
   |true=>rfl
   |false=>rw[h1 k (by omega) hd];simp
 have b:∀k,i<=k->k<=n->st W init D k x=st W init D i x:=by
  intro k
  induction k with
  |zero=>intro h _;have:i=0:=by omega
         subst this;rfl
  |succ k ih=>
   intro hk hn
   by_cases e:i=k+1
   ·subst e;rfl
   ·rw[nh,ih (by omega) (by omega)]
    cases hd:D k with
    |false=>simp
    |true=>
     by_cases ek:k=i
     ·subst ek;rw[hi]at hd;cases hd
     ·rw[h2 k (by omega) (by omega) hd];simp
 rw[b n gl (arO n),a i (arO i)]
theorem Mu{W:Nat->X->Option V}{init:X->V}{D:Nat->Bool}{i n:Nat}{x:X}(gl:i<n)(hi:D i=false)
 (h2:∀k,i<k->k<n->D k=true->W i x≠none->W k x=none):st W init (λk=>D k||decide (k=i)) n x=(W i x).getD (st W init D n x):=by
 have a:∀k,k<=i->st W init (λk=>D k||decide (k=i)) k x=st W init D k x:=by
  intro k
  induction k with
  |zero=>intro _;rfl
  |succ k ih=>
   intro hk
   have:decide (k=i)=false:=by simp;omega
   rw[nh,nh,ih (by omega),this,awa]
 cases hw:W i x with
 |none=>
  have b:∀k,i<=k->st W init (λk=>D k||decide (k=i)) k x=st W init D k x:=by
   intro k
   induction k with
   |zero=>intro h;exact a 0 (by omega)
   |succ k ih=>
    intro hk
    by_cases e:i=k+1
    ·exact a (k+1) (by omega)
    ·have e1:=nh W init (λk=>D k||decide (k=i)) k x
     have e2:=nh W init D k x
     rw[e1,e2,ih (by omega)]
     by_cases ek:k=i
     ·subst ek;rw[hw,hi];simp
     ·have:decide (k=i)=false:=by simp[ek]
      rw[this,awa]
  rw[b n (by omega)];rfl
 |some v=>
  have b:∀k,i<k->k<=n->st W init (λk=>D k||decide (k=i)) k x=v:=by
   intro k
   induction k with
   |zero=>intro h;omega
   |succ k ih=>
    intro hk hn
    rw[nh]
    by_cases ek:k=i
    ·subst ek;rw[hw];simp
    ·have hd:decide (k=i)=false:=by simp[ek]
     rw[ih (by omega) (by omega),hd,awa]
     cases fC:D k with
     |false=>simp
     |true=>rw[h2 k (by omega) (by omega) fC (by rw[hw];simp)];simp
  rw[b n gl (arO n)];rfl
end
theorem Fm(m k:Nat):arE (Nat.land (au4 m k) 1) 1=m.testBit k:=by
 have h1:Nat.land (au4 m k) 1=(m>>>k)%2:=Nat.and_one_is_mod (m>>>k)
 rw[h1]
 have h2:m.testBit k=((m>>>k)%2==1):=by
  rw[Nat.testBit,Nat.one_and_eq_mod_two]
  have:(m>>>k)%2=0\/(m>>>k)%2=1:=by omega
  rcases this with h|h<;>rw[h]<;>rfl
 rw[h2]
 have:(m>>>k)%2=0\/(m>>>k)%2=1:=by omega
 rcases this with h|h<;>rw[h]<;>rfl
theorem Fo:∀{l:List Edge} {i:Nat},(j4 l).testBit i=true->∃e∈l,atJ .any e=true/\e.on=i
 | [],i,h=>by simp[j4]at h
 |e::l,i,h=>by
  unfold j4 at h
  split at h
  ·rename_i hb
   have:avw (Nat.shiftLeft 1 e.on) (j4 l)=(1<<<e.on)|||j4 l:=rfl
   rw[this,awK,aue]at h
   rcases h with h|h
   ·refine⟨e,by simp,hb,?_⟩
    rw[Nat.one_shiftLeft,Nat.testBit_two_pow]at h
    simpa using h
   ·obtain⟨e',h1,h2,h3⟩:=Fo h
    exact⟨e',by simp[h1],h2,h3⟩
  ·obtain⟨e',h1,h2,h3⟩:=Fo h
   exact⟨e',by simp[h1],h2,h3⟩
theorem Mv(m:Nat):∀{k:Nat} {bs:List Nat} {i:Nat},bs.length=k->(m8 m k bs).testBit i=true->∃q b,q<k/\m.testBit q=true/\bs[k-1-q]?=some b/\b.testBit i=true
 |0,bs,i,hl,h=>by simp[m8]at h
 |k+1,[],i,hl,h=>by simp at hl
 |k+1,b::bs,i,hl,h=>by
  have q9:bs.length=k:=by simpa using hl
  unfold m8 at h
  have rest:(m8 m k bs).testBit i=true->∃q b',q<k+1/\m.testBit q=true/\(b::bs)[k+1-1-q]?=some b'/\b'.testBit i=true:=by
   intro h
   obtain⟨q,b',h1,h2,h3,h4⟩:=Mv m q9 h
   exact⟨q,b',by omega,h2,by rw[show k+1-1-q=(k-1-q)+1 by omega];simpa using h3,h4⟩
  split at h
  ·rename_i hb
   rw[Fm]at hb
   have:avw b (m8 m k bs)=b|||m8 m k bs:=rfl
   rw[this,awK,aue]at h
   rcases h with h|h
   ·exact⟨k,b,by omega,hb,by simp,h⟩
   ·exact rest h
  ·exact rest h
def Cl(ops:List ast)(D:Nat->Bool):Prop:=∀(j:Nat) (o:ast),ops[j]?=some o->D j=true->∀e∈o.after,atJ .any e=true->D e.on=true
theorem Mw{all:List ast}{D:Nat->Bool}(hD:Cl all D):∀{l:List ast} {k:Nat} {bs:List Nat},bs.length=k->all.drop k=l->
 (∀(q b:Nat) (o:ast),q<k->bs[k-1-q]?=some b->all[q]?=some o->(∀e∈o.after,atJ .any e=true->D e.on=true)->∀i,b.testBit i=true->D i=true)->
 ∀(j m:Nat) (o:ast),(sr k bs l)[j]?=some m->all[k+j]?=some o->(∀e∈o.after,atJ .any e=true->D e.on=true)->∀i,m.testBit i=true->D i=true
 | [],k,bs,hk,hl,hb,j,m,o,h,_,_,_,_=>by simp[sr]at h
 |o1::l,k,bs,hk,hl,hb,j,m,o,h,ho,he,i,hi=>by
  have Mx:all[k]?=some o1:=by
   have:=congrArg (λl=>l[0]?) hl
   simpa using this
  have key:∀(o:ast),all[k]?=some o->(∀e∈o.after,atJ .any e=true->D e.on=true)->∀i,(avw (j4 o1.after.toList) (m8 (j4 o1.after.toList) k bs)).testBit i=true->D i=true:=by
   intro o ho he i hi
   rw[Mx]at ho
   cases ho
   have:avw (j4 o1.after.toList) (m8 (j4 o1.after.toList) k bs)=j4 o1.after.toList|||m8 (j4 o1.after.toList) k bs:=rfl
   rw[this,awK,aue]at hi
   have direct:∀q,(j4 o1.after.toList).testBit q=true->D q=true:=by
    intro q hq
    obtain⟨e,h1,h2,h3⟩:=Fo hq
    have:=he e (as6.1 h1) h2
    rwa[h3]at this
   rcases hi with hi|hi
   ·exact direct i hi
   ·obtain⟨q,b,h1,h2,h3,h4⟩:=Mv _ hk hi
    have My:q<all.length:=by
     have:k<all.length:=(KP.1 Mx).1
     omega
    exact hb q b _ h1 h3 (KH My) (hD q _ (KH My) (direct q h2)) i h4
  have e0:sr k bs (o1::l)=avw (j4 o1.after.toList) (m8 (j4 o1.after.toList) k bs)::sr (k+1) (avw (j4 o1.after.toList) (m8 (j4 o1.after.toList) k bs)::bs) l:=rfl
  rw[e0]at h
  cases j with
  |zero=>
   simp only[asf,DE]at h
   subst h
   exact key o (by simpa using ho) he i hi
  |succ j=>
   simp only[asF]at h
   refine Mw hD (l:=l) (k:=k+1) (by simp[hk]) ?_ ?_ j m o h (by rw[show k+1+j=k+(j+1)by omega];exact ho) he i hi
   ·have:=congrArg List.tail hl
    simpa[List.tail_drop]using this
   ·intro q b o hq yr Mz MA i hi
    by_cases e:q=k
    ·subst e
     simp at yr
     subst yr
     exact key o Mz MA i hi
    ·rw[show k+1-1-q=(k-1-q)+1 by omega]at yr
     simp only[asF]at yr
     exact hb q b o (by omega) yr Mz MA i hi
theorem MB{ops:Array ast}{D:Nat->Bool}(hD:Cl ops.toList D){j m:Nat}{o:ast}(h:(qO ops)[j]?=some m)(ho:ops.toList[j]?=some o)
 (he:∀e∈o.after,atJ .any e=true->D e.on=true){i:Nat}(hi:m.testBit i=true):D i=true:=
 Mw hD (l:=ops.toList) (k:=0) (bs:=[]) rfl rfl (λq b o hq=>by omega) j m o h (by simpa using ho) he i hi
end Go.Proofs.YtnlkkgpcikkpoaaGreat.Vm
namespace Go.Proofs.YtnlkkgpcikkpoaaGreat.Vm
open Go.RowKit
theorem Xz{ops:Array ast}:(qO ops).length=ops.size:=by
 have:∀(l:List ast) (k:Nat) (bs:List Nat),(sr k bs l).length=l.length:=by
  intro l
  induction l with
  |nil=>intro k bs;rfl
  |cons o l ih=>intro k bs;simp only[sr,ar4,ih]
 unfold qO
 rw[this]
 simp
theorem Fq{ops:Array ast}:∀{ps:List ast} {ms:List Nat} {j:Nat} {prev:List (Nat×ast)},Ah ops j prev ms ps=true->
 ∀(q m:Nat) (p:ast),ms[q]?=some m->ps[q]?=some p->
  (∀e∈p.after,atJ .any e=true->e.on<j+q)/\(∀x∈prev,m.testBit x.1=true\/x.2.apart ops p=true)/\
  (∀(r:Nat) (o:ast),r<q->ps[r]?=some o->m.testBit (j+r)=true\/o.apart ops p=true)
 | [],ms,j,prev,h,q,m,p,hm,hp=>by simp at hp
 |p0::ps,[],j,prev,h,q,m,p,hm,hp=>by simp at hm
 |p0::ps,m0::ms,j,prev,h,q,m,p,hm,hp=>by
  simp only[Ah,BV]at h
  obtain⟨⟨h1,h2⟩,h3⟩:=h
  cases q with
  |zero=>
   simp only[asf,DE]at hm hp
   subst hm hp
   refine⟨λe he hb=>?_,λx hx=>?_,λr o hr=>by omega⟩
   ·have:=ar1.1 h1 e (as6.2 he)
    rw[hb]at this
    simpa using ed.1 (by simpa using this)
   ·have:=ar1.1 h2 x hx
    rw[Fm,aue]at this
    exact this
  |succ q=>
   simp only[asF]at hm hp
   obtain⟨h4,h5,h6⟩:=Fq h3 q m p hm hp
   refine⟨λe he hb=>by have:=h4 e he hb;omega,λx hx=>h5 x (by simp[hx]),λr o hr ho=>?_⟩
   cases r with
   |zero=>
    simp only[asf,DE]at ho
    subst ho
    simpa using h5 (j,p0) (by simp)
   |succ r=>
    simp only[asF]at ho
    have:=h6 r o (by omega) ho
    rwa[show j+1+r=j+(r+1)by omega]at this
theorem MC:∀{ms:List Nat} {fs:List Fp} {k j m:Nat} {f:Fp},ms[j]?=some m->fs[j]?=some f->(f.rd≠[]\/f.wr≠[])->(⟨k+j,m,f⟩:Eu)∈pY k ms fs
 | [],fs,k,j,m,f,hm,_,_=>by simp at hm
 |m0::ms,[],k,j,m,f,_,hf,_=>by simp at hf
 |m0::ms,f0::fs,k,j,m,f,hm,hf,br=>by
  cases j with
  |zero=>
   simp only[asf,DE]at hm hf
   subst hm hf
   unfold pY
   split
   ·rename_i h1 h2;rcases br with h|h
    ·exact absurd h1 h
    ·exact absurd h2 h
   ·simp
  |succ j=>
   simp only[asF]at hm hf
   have:=MC (k:=k+1) hm hf br
   rw[show k+1+j=k+(j+1)by omega]at this
   unfold pY
   split
   ·exact this
   ·exact arG _ this
theorem Fs{a b:List Nat}(h:Ag a b=true){x:Nat}(ha:x∈a)(hb:x∈b):False:=by
 have:=ar1.1 h x ha
 simp at this
 exact this hb
theorem apart_spec:∀{ms:List Nat} {fs:List Fp} {k:Nat},vJ (pY k ms fs)=true->∀(i j m:Nat) (f g:Fp),i<j->ms[j]?=some m->fs[i]?=some f->fs[j]?=some g->
 (ms[i]?).isSome=true->m.testBit (k+i)=true\/((∀x,x∈f.wr->x∉g.rd/\x∉g.wr)/\∀x,x∈g.wr->x∉f.rd)
 | [],fs,k,h,i,j,m,f,g,iX,hm,hf,hg,hi=>by simp at hm
 |m0::ms,[],k,h,i,j,m,f,g,iX,hm,hf,hg,hi=>by simp at hf
 |m0::ms,f0::fs,k,h,i,j,m,f,g,iX,hm,hf,hg,hi=>by
  have rest:vJ (pY (k+1) ms fs)=true:=by
   unfold pY at h
   split at h
   ·exact h
   ·simp only[vJ,BV]at h;exact h.2
  cases j with
  |zero=>omega
  |succ j=>
   simp only[asF]at hm hg
   cases i with
   |succ i=>
    simp only[asF]at hf hi
    have:=apart_spec rest i j m f g (by omega) hm hf hg hi
    rwa[show k+1+i=k+(i+1)by omega]at this
   |zero=>
    simp only[asf,DE]at hf
    subst hf
    by_cases sH:f0.rd=[]/\f0.wr=[]
    ·right
     refine⟨λx hx=>?_,λx _=>?_⟩
     ·rw[sH.2]at hx;cases hx
     ·rw[sH.1];simp
    ·by_cases AW:g.rd=[]/\g.wr=[]
     ·right
      refine⟨λx _=>?_,λx hx=>?_⟩
      ·rw[AW.1,AW.2];simp
      ·rw[AW.2]at hx;cases hx
     ·have XC:g.rd≠[]\/g.wr≠[]:=by
       by_cases h1:g.rd=[]
       ·exact .inr λh2=>AW ⟨h1,h2⟩
       ·exact .inl h1
      have ix:=MC (k:=k+1) hm hg XC
      unfold pY at h
      split at h
      ·rename_i h1 h2;exact absurd ⟨h1,h2⟩ sH
      ·simp only[vJ,BV]at h
       have:=ar1.1 h.1 _ ix
       simp only[aue]at this
       rcases this with this|this
       ·left;rw[Fm]at this;exact this
       ·right
        simp only[Lp,BV]at this
        obtain⟨⟨h1,h2⟩,h3⟩:=this
        exact⟨λx hx=>⟨λhh=>Fs h1 hx hh,λhh=>Fs h2 hx hh⟩,λx hx hh=>Fs h3 hx hh⟩
abbrev reset(S:VS):VS:={S with rd:=[],wr:=[]}
structure Trace(P:arC)(call:cQ)(ops rest:List ast)(t:Fr)(S:VS)(t1:Fr)(S1:VS)(gS:List Fp)(T:Nat->Fr)(G Bf:Nat->VS):Prop where
 t0:T 0=t
 s0:G 0=S
 tn:T rest.length=t1
 sn:G rest.length=S1
 len:gS.length=rest.length
 step:∀(j:Nat) (o:ast),rest[j]?=some o->ll P call ops o (T j) (reset (G j))=some (none,T (j+1),Bf j)/\G (j+1)={Bf j with rd:=(Bf j).rd++(G j).rd,wr:=(Bf j).wr++(G j).wr}/\
  gS[j]?=some ⟨(Bf j).rd,(Bf j).wr⟩
theorem MD{P:arC}{call:cQ}{ops:List ast}:∀{rest:List ast} {t t1:Fr} {S S1:VS} {gS:List Fp},ln P call ops rest t S=some (t1,S1,gS)->
 ∃T G Bf,Trace P call ops rest t S t1 S1 gS T G Bf
 | [],t,t1,S,S1,gS,h=>by
  simp only[ln,DE,KN]at h
  obtain⟨rfl,rfl,rfl⟩:=h
  exact⟨λ_=>t,λ_=>S,λ_=>S,rfl,rfl,rfl,rfl,rfl,λj o h=>by simp at h⟩
 |o::rest,t,t1,S,S1,gS,h=>by
  unfold ln at h
  split at h
  ·rename_i t2 S2 dh
   split at h
   ·rename_i t3 S3 XD hd
    simp only[DE,KN]at h
    obtain⟨rfl,rfl,rfl⟩:=h
    obtain⟨T,G,Bf,h0,h1,h2,h3,h4,h5⟩:=MD hd
    refine⟨λj=>match j with|0=>t|j+1=>T j,λj=>match j with|0=>S|j+1=>G j,λj=>match j with|0=>S2|j+1=>Bf j,rfl,rfl,h2,h3,by simp[h4],λj p hp=>?_⟩
    cases j with
    |zero=>
     simp only[asf,DE]at hp
     subst hp
     exact⟨by simp only[h0];exact dh,h1,rfl⟩
    |succ j=>exact h5 j p (by simpa using hp)
   ·cases h
  ·cases h
def kU(D:Nat->Bool):Nat->Nat
 |0=>0
 |k+1=>kU D k+if D k then 0 else 1
theorem ME{D:Nat->Bool}:∀{n:Nat},kU D n=0->∀i,i<n->D i=true
 |0,_,i,hi=>by omega
 |n+1,h,i,hi=>by
  unfold kU at h
  have h1:kU D n=0:=by omega
  by_cases e:i=n
  ·subst e
   cases hd:D i with
   |true=>rfl
   |false=>rw[hd]at h;simp at h
  ·exact ME h1 i (by omega)
theorem MF(D:Nat->Bool)(k:Nat):kU D (k+1)=kU D k+if D k then 0 else 1:=rfl
theorem MG{D:Nat->Bool}{i:Nat}(hd:D i=false):∀{n:Nat},kU (λk=>D k||decide (k=i)) n+(if i<n then 1 else 0)=kU D n
 |0=>by simp[kU]
 |n+1=>by
  have ih:=MG hd (n:=n)
  rw[MF,MF]
  by_cases e:n=i
  ·subst e
   have yu:kU (λk=>D k||decide (k=n)) n=kU D n:=by simpa using ih
   rw[yu,hd]
   simp
  ·have hdec:decide (n=i)=false:=by simp[e]
   rw[hdec,awa]
   by_cases gl:i<n
   ·have yu:kU (λk=>D k||decide (k=i)) n+1=kU D n:=by simpa[gl]using ih
    have h2:i<n+1:=by omega
    simp only[h2,if_true]
    omega
   ·have yu:kU (λk=>D k||decide (k=i)) n=kU D n:=by simpa[gl]using ih
    have h2:¬i<n+1:=by omega
    simp only[h2,if_false]
    omega
theorem XE(n:Nat):kU (λ_=>false) n=n:=by
 induction n with
 |zero=>rfl
 |succ n ih=>unfold kU;rw[ih];simp
theorem Fu{X V:Type}{W:Nat->X->Option V}{init:X->V}{D:Nat->Bool}{x:X}:∀{n:Nat},(∀i,i<n->D i=true)->st W init D n x=st W init (λ_=>true) n x
 |0,_=>rfl
 |n+1,h=>by
  rw[nh,nh,Fu λi hi=>h i (by omega),h n (by omega)]
section
variable {P:arC} {B:Nat->Prop} {w₀:arB}
theorem XF{l:Array Bool}{i k:Nat}(hi:i<l.size):(l.setIfInBounds i true).getD k false=(l.getD k false||decide (k=i)):=by
 rw[ar8,ar8]
 by_cases h:k=i
 ·subst h
  rw[as0,if_pos hi]
  simp
 ·rw[asX (Ne.symm h)]
  simp[h]
theorem mem_ready{ops:Array ast}{eK:Array Bool}{i:Nat}(hs:eK.size=ops.size):i∈auZ .any ops eK↔
 ∃o,ops[i]?=some o/\eK.getD i false=false/\∀e∈o.after,atJ .any e=true->eK.getD e.on false=true:=by
 unfold auZ
 rw[List.mem_filter,List.mem_range,BV]
 have ul:i<ops.size->eK.getD i true=eK.getD i false:=by
  intro hi
  rw[ar8,ar8,atp (by omega)]
  rfl
 constructor
 ·rintro⟨hi,h1,h2⟩
  have ho:ops[i]?=some ops[i]:=atp hi
  refine⟨ops[i],ho,by rw[<-ul hi];simpa using h1,λe he hb=>?_⟩
  rw[ho]at h2
  simp only[asO,ati]at h2
  have:=avr.1 h2 e he
  rw[hb]at this
  simpa using this
 ·rintro⟨o,ho,h1,h2⟩
  have hi:i<ops.size:=(asq.1 ho).1
  refine⟨hi,by rw[ul hi,h1];rfl,?_⟩
  rw[ho]
  simp only[asO,ati]
  refine avr.2 λe he=>?_
  cases hb:atJ .any e with
  |false=>rfl
  |true=>rw[h2 e he hb];rfl
theorem AX{t t1:Fr}{d:Option Tmp}{v:Dy}(h:Vm.put t d v=some t1):t1.ds=t.ds/\t1.base=t.base:=by
 cases d with
 |none=>cases h;exact⟨rfl,rfl⟩
 |some d=>
  simp only[Vm.put,Fr.sd]at h
  split at h
  ·cases h;exact⟨rfl,rfl⟩
  ·cases h
theorem XG(hP:iV P=true)(fM:P.follows .mixedOrders=true){call:cQ}(hc:iy P call){ops:Array ast}{id:Nat}{t t1:Fr}{S S1:VS}{gS:List Fp}
 (hd:ln P call ops.toList ops.toList t S=some (t1,S1,gS))(hok:tS ops gS=true){ρ:Ren}{m:Nat->Option ak}{w:arB}{a:Act}(ht:FR ρ t a)(hw:WR P B w₀ ρ m w)
 (hm:gr S S1 m){r:Option Nat}{Q:atO->Act->arB->Prop}(hQ:∀(ρ':Ren) (a':Act) (w':arB),ρ.le ρ'->FR ρ' t1 a'->WR P B w₀ ρ' (post m S1) w'->Q .normal a' w'):
 (Code.region id ops true).wpIn (FF r) 0 P Q a w:=by
 obtain⟨T,G,Bf,tr⟩:=MD hd
 simp only[tS,BV]at hok
 obtain⟨MH,XH⟩:=hok
 have hlen:ops.toList.length=ops.size:=by simp
 have nU:∀i,i<ops.size->∃o,ops[i]?=some o/\ops.toList[i]?=some o:=λi hi=>⟨ops[i],atp hi,by simp[hi]⟩
 have ni:∀i,i<ops.size->∃mk,(qO ops)[i]?=some mk:=λi hi=>⟨_,KH (by rw[Xz];exact hi)⟩
 -- frames of the trace
 have yv:∀i,i<=ops.size->(T i).n=t.n:=by
  intro i
  induction i with
  |zero=>intro _;rw[tr.t0]
  |succ i ih=>
   intro hi
   obtain⟨o,ho,gF⟩:=nU i (by omega)
   obtain⟨h1,_,_⟩:=tr.step i o gF
   obtain⟨v,_,hp,_,_⟩:=AV h1 (λs _=>rfl) rfl
   rw[(yq (by rw[ih (by omega)];exact ht.small) hp).1,ih (by omega)]
 have MI:∀i,i<=ops.size->(T i).ds=t.ds/\(T i).base=t.base:=by
  intro i
  induction i with
  |zero=>intro _;rw[tr.t0];exact⟨rfl,rfl⟩
  |succ i ih=>
   intro hi
   obtain⟨o,ho,gF⟩:=nU i (by omega)
   obtain⟨h1,_,_⟩:=tr.step i o gF
   obtain⟨v,_,hp,_,_⟩:=AV h1 (λs _=>rfl) rfl
   rw[(AX hp).1,(AX hp).2]
   exact ih (by omega)
 let Ws:Nat->Nat->Option Dy:=λi s=>match ops.toList[i]?with
  |some o=>if o.dst=some s then some ((T (i+1)).at s)else none
  |none=>none
 let Wm:Nat->Nat->Option (Option ak):=λi x=>if i<ops.size/\x∈(Bf i).wr then some (gt (Bf i).mem x)else none
 have MJ:∀i s,i<=ops.size->st Ws (T 0).at (λ_=>true) i s=(T i).at s:=by
  intro i s
  induction i with
  |zero=>intro _;rfl
  |succ i ih=>
   intro hi
   obtain⟨o,ho,gF⟩:=nU i (by omega)
   obtain⟨h1,_,_⟩:=tr.step i o gF
   obtain⟨v,_,hp,_,_⟩:=AV h1 (λs _=>rfl) rfl
   have ca:=(yq (by rw[yv i (by omega)];exact ht.small) hp).2 s
   rw[nh,ih (by omega)]
   simp only[if_true]
   have rh:Ws i s=if o.dst=some s then some ((T (i+1)).at s)else none:=by simp only[Ws,gF]
   rw[rh]
   by_cases gV:o.dst=some s
   ·rw[if_pos gV];rfl
   ·rw[if_neg gV,ca,if_neg gV];rfl
 -- logs
 have XI:∀i,i<=ops.size->∀x,(x∈(G i).rd->x∈S1.rd)/\(x∈(G i).wr->x∈S1.wr):=by
  have:∀k i,i+k=ops.size->∀x,(x∈(G i).rd->x∈S1.rd)/\(x∈(G i).wr->x∈S1.wr):=by
   intro k
   induction k with
   |zero=>intro i hi x;have:G i=S1:=by rw[<-tr.sn,hlen];congr 1;
          rw[this];exact⟨λh=>h,λh=>h⟩
   |succ k ih=>
    intro i hi x
    obtain⟨o,ho,gF⟩:=nU i (by omega)
    obtain⟨_,h2,_⟩:=tr.step i o gF
    have:=ih (i+1) (by omega) x
    rw[h2]at this
    exact⟨λhx=>this.1 (arL.2 (.inr hx)),λhx=>this.2 (arL.2 (.inr hx))⟩
  exact λi hi=>this (ops.size-i) i (by omega)
 have Fv:∀i,i<ops.size->∀x,(x∈(Bf i).rd->x∈S1.rd)/\(x∈(Bf i).wr->x∈S1.wr):=by
  intro i hi x
  obtain⟨o,ho,gF⟩:=nU i hi
  obtain⟨_,h2,_⟩:=tr.step i o gF
  have:=XI (i+1) (by omega) x
  rw[h2]at this
  exact⟨λhx=>this.1 (arL.2 (.inl hx)),λhx=>this.2 (arL.2 (.inl hx))⟩
 have MK:∀i,i<=ops.size->∀x,(x∈S1.rd\/x∈S1.wr)->st Wm m (λ_=>true) i x=gt (G i).mem x:=by
  intro i
  induction i with
  |zero=>intro _ x hx;rw[tr.s0];exact hm x hx
  |succ i ih=>
   intro hi x hx
   obtain⟨o,ho,gF⟩:=nU i (by omega)
   obtain⟨h1,h2,_⟩:=tr.step i o gF
   rw[nh,ih (by omega) x hx,h2]
   simp only[if_true]
   by_cases Fw:x∈(Bf i).wr
   ·have:Wm i x=some (gt (Bf i).mem x):=by simp only[Wm];rw[if_pos ⟨by omega,Fw⟩]
    rw[this];rfl
   ·have:Wm i x=none:=by simp only[Wm];rw[if_neg λhh=>Fw hh.2]
    rw[this]
    exact((yp hc h1).frame x Fw).symm
 have XJ:∀i,i<=ops.size->∀x,x∉S1.wr->st Wm m (λ_=>true) i x=m x:=by
  intro i
  induction i with
  |zero=>intro _ x _;rfl
  |succ i ih=>
   intro hi x hx
   rw[nh,ih (by omega) x hx]
   have:Wm i x=none:=by simp only[Wm];rw[if_neg λhh=>hx ((Fv i hh.1 x).2 hh.2)]
   rw[this];simp
 -- pairs
 have Fx:∀(i k:Nat) (oi ok:ast) (mk:Nat),i<k->ops.toList[i]?=some oi->ops.toList[k]?=some ok->(qO ops)[k]?=some mk->mk.testBit i=true\/oi.apart ops ok=true:=by
  intro i k oi ok mk j6 Fy hok lx
  have:=(Fq MH k mk ok lx hok).2.2 i oi j6 Fy
  simpa using this
 have Fz:∀(i k mk:Nat),i<k->k<ops.size->(qO ops)[k]?=some mk->mk.testBit i=true\/((∀x,x∈(Bf i).wr->x∉(Bf k).rd/\x∉(Bf k).wr)/\∀x,x∈(Bf k).wr->x∉(Bf i).rd):=by
  intro i k mk j6 hk lx
  obtain⟨oi,_,Fy⟩:=nU i (by omega)
  obtain⟨ok,_,hok⟩:=nU k hk
  obtain⟨_,_,h1⟩:=tr.step i oi Fy
  obtain⟨_,_,h2⟩:=tr.step k ok hok
  obtain⟨mi,wa⟩:=ni i (by omega)
  have:=apart_spec XH i k mk _ _ j6 lx h1 h2 (by rw[wa];rfl)
  simpa using this
 refine wpIn_region_any fM ?_
 -- the invariant
 have main:∀(ie:Nat) (eK:Array Bool) (a:Act) (w:arB),eK.size=ops.size->kU (λi=>eK.getD i false) ops.size=ie->Cl ops.toList (λi=>eK.getD i false)->
  (∃ρ' t',ρ.le ρ'/\(t'.n=t.n/\t'.ds=t.ds/\t'.base=t.base)/\(∀s,t'.at s=st Ws (T 0).at (λi=>eK.getD i false) ops.size s)/\FR ρ' t' a/\WR P B w₀ ρ' (st Wm m (λi=>eK.getD i false) ops.size) w)->
  wpAnyIn (FF r) 0 P .any ops Q ie eK a w:=by
  intro ie
  have fin:∀(eK:Array Bool) (a:Act) (w:arB),(∀i,i<ops.size->eK.getD i false=true)->
   (∃ρ' t',ρ.le ρ'/\(t'.n=t.n/\t'.ds=t.ds/\t'.base=t.base)/\(∀s,t'.at s=st Ws (T 0).at (λi=>eK.getD i false) ops.size s)/\FR ρ' t' a/\WR P B w₀ ρ' (st Wm m (λi=>eK.getD i false) ops.size) w)->Q .normal a w:=by
   rintro eK a w lv ⟨ρ',t',hle,⟨hn,cB,FA⟩,ca,cF,cU⟩
   have um:T ops.size=t1:=by rw[<-tr.tn,hlen]
   refine hQ ρ' a w hle ⟨?_,?_,λi=>?_,by have:=cF.defers;rw[cB,FA,<-(MI ops.size (arO _)).1,<-(MI ops.size (arO _)).2,um]at this;exact this⟩ ?_
   ·rw[cF.size,hn,<-yv ops.size (arO _),um]
   ·rw[<-um,yv ops.size (arO _)];exact ht.small
   ·have:=cF.at_ i
    rwa[ca i,Fu lv,MJ ops.size i (arO _),um]at this
   ·have:st Wm m (λi=>eK.getD i false) ops.size=post m S1:=by
     funext x
     rw[Fu lv]
     unfold post
     by_cases hx:x∈S1.wr
     ·rw[if_pos hx,MK ops.size (arO _) x (.inr hx)]
      have:G ops.size=S1:=by rw[<-tr.sn,hlen]
      rw[this]
     ·rw[if_neg hx,XJ ops.size (arO _) x hx]
    rwa[this]at cU
  have full:∀(eK:Array Bool),eK.size=ops.size->auZ .any ops eK=[]->∀i,i<ops.size->eK.getD i false=true:=by
   intro eK hs hr i
   induction i using Nat.strongRecOn with
   |_ i ih=>
    intro hi
    cases ri:eK.getD i false with
    |true=>rfl
    |false=>
     exfalso
     obtain⟨o,ho,gF⟩:=nU i hi
     obtain⟨mk,yw⟩:=ni i hi
     have XK:=(Fq MH i mk o yw gF).1
     have:i∈auZ .any ops eK:=(mem_ready hs).2 ⟨o,ho,ri,λe he hb=>by
      have:=XK e he hb
      exact ih e.on (by omega) (by omega)⟩
     rw[hr]at this
     cases this
  induction ie with
  |zero=>
   intro eK a w hs MM du hinv
   have lv:=ME MM
   refine⟨?_,fin eK a w lv hinv⟩
   cases hr:auZ .any ops eK with
   |nil=>rfl
   |cons i l=>
    have:i∈auZ .any ops eK:=by rw[hr];simp
    obtain⟨o,ho,h1,_⟩:=(mem_ready hs).1 this
    rw[lv i (asq.1 ho).1]at h1
    cases h1
  |succ ie ih=>
   intro eK a w hs MM du hinv
   refine⟨λhr=>fin eK a w (full eK hs hr) hinv,λi XM=>?_⟩
   obtain⟨o,ho,ri,MN⟩:=(mem_ready hs).1 XM
   have hi:i<ops.size:=(asq.1 ho).1
   have gF:ops.toList[i]?=some o:=by rw[ata];exact ho
   obtain⟨mk,yw⟩:=ni i hi
   obtain⟨XN,hG,apM⟩:=tr.step i o gF
   obtain⟨ρ',t',hle,⟨hn,cB,FA⟩,ca,cF,cU⟩:=hinv
   -- what is not ordered is apart
   have MO:∀k,k<i->eK.getD k false=false->mk.testBit k=false:=by
    intro k hk fC
    cases hb:mk.testBit k with
    |false=>rfl
    |true=>rw[MB du yw gF MN hb]at fC;cases fC
   have AY:∀k mk',i<k->(qO ops)[k]?=some mk'->eK.getD k false=true->k<ops.size->mk'.testBit i=false:=by
    intro k mk' j6 lx fC hk
    cases hb:mk'.testBit i with
    |false=>rfl
    |true=>
     obtain⟨ok,_,hok⟩:=nU k hk
     rw[MB du lx hok (λe he FB=>du k ok hok fC e he FB) hb]at ri
     cases ri
   have XO:∀s∈o.looksAt ops,t'.at s=(T i).at s:=by
    intro s uo
    rw[ca s,Ms (W:=Ws) (i:=i) (auH hi) ri ?_ ?_,MJ i s (auH hi)]
    ·intro k hk fC
     obtain⟨ok,hok,sI⟩:=nU k (by omega)
     simp only[Ws,sI]
     rw[if_neg]
     intro gV
     rcases Fx k i ok o mk hk sI gF yw with h|h
     ·rw[MO k hk fC]at h;cases h
     ·exact(awy h).1 s gV uo
    ·intro k j6 kr fC
     obtain⟨ok,hok,sI⟩:=nU k kr
     obtain⟨mk',lx⟩:=ni k kr
     simp only[Ws,sI]
     rw[if_neg]
     intro gV
     rcases Fx i k o ok mk' j6 gF sI lx with h|h
     ·rw[AY k mk' j6 lx fC kr]at h;cases h
     ·exact(awy h).2.2 s gV uo
   obtain⟨v,ng,hp,lN,XP⟩:=AV XN XO (by rw[hn,yv i (auH hi)])
   have XQ:gr (reset (G i)) (Bf i) (st Wm m (λi=>eK.getD i false) ops.size):=by
    intro x hx
    have iT:x∈S1.rd\/x∈S1.wr:=hx.imp (Fv i hi x).1 (Fv i hi x).2
    rw[Ms (W:=Wm) (i:=i) (auH hi) ri ?_ ?_,MK i (auH hi) x iT]
    ·intro k hk fC
     simp only[Wm]
     rw[if_neg]
     rintro⟨kr,qk⟩
     rcases Fz k i mk hk hi yw with h|⟨h,_⟩
     ·rw[MO k hk fC]at h;cases h
     ·rcases hx with hx|hx
      ·exact(h x qk).1 hx
      ·exact(h x qk).2 hx
    ·intro k j6 kr fC
     simp only[Wm]
     rw[if_neg]
     rintro⟨_,qk⟩
     obtain⟨mk',lx⟩:=ni k kr
     rcases Fz i k mk' j6 kr lx with h|⟨h1,h2⟩
     ·rw[AY k mk' j6 lx fC kr]at h;cases h
     ·rcases hx with hx|hx
      ·exact h2 x qk hx
      ·exact(h1 x hx).2 qk
   have AZ:∀k,(eK.setIfInBounds i true).getD k false=(eK.getD k false||decide (k=i)):=λk=>XF (by omega)
   have A0:(λk=>(eK.setIfInBounds i true).getD k false)=λk=>eK.getD k false||decide (k=i):=funext AZ
   refine Fh hP hc ho XP cF cU XQ (λ_ ρ2 a' w' kV mw _ iz=>?_) (λv hv=>by cases hv)
   refine ih (eK.setIfInBounds i true) a' w' (by simpa using hs) ?_ ?_ ⟨ρ2,ng,Ren.le_trans hle kV,?_,?_,mw,?_⟩
   ·rw[A0]
    have:=MG (D:=λk=>eK.getD k false) ri (n:=ops.size)
    rw[if_pos hi]at this
    omega
   ·rw[A0]
    intro j oj FC A1 e he hb
    simp only[aue,decide_eq_true_eq]at A1⊢
    left
    rcases A1 with A1|rfl
    ·exact du j oj FC A1 e he hb
    ·rw[gF]at FC;cases FC;exact MN e he hb
   ·rw[(yq (by rw[hn];exact ht.small) lN).1,hn,(AX lN).1,(AX lN).2];exact⟨rfl,cB,FA⟩
   ·intro s
    rw[(yq (by rw[hn];exact ht.small) lN).2 s,A0,Mu (W:=Ws) hi ri ?_,ca s]
    ·simp only[Ws,gF]
     have:=(yq (by rw[yv i (auH hi)];exact ht.small) hp).2 s
     by_cases gV:o.dst=some s
     ·rw[if_pos gV,if_pos gV,this,if_pos gV];rfl
     ·rw[if_neg gV,if_neg gV];rfl
    ·intro k j6 kr fC uq
     obtain⟨ok,hok,sI⟩:=nU k kr
     obtain⟨mk',lx⟩:=ni k kr
     have XS:o.dst=some s:=by
      simp only[Ws,gF]at uq
      by_cases h:o.dst=some s
      ·exact h
      ·rw[if_neg h]at uq;exact absurd rfl uq
     simp only[Ws,sI]
     rw[if_neg]
     intro gV
     rcases Fx i k o ok mk' j6 gF sI lx with h|h
     ·rw[AY k mk' j6 lx fC kr]at h;cases h
     ·exact(awy h).2.1 s XS gV
   ·have:st Wm m (λk=>(eK.setIfInBounds i true).getD k false) ops.size=post (st Wm m (λi=>eK.getD i false) ops.size) (Bf i):=by
     funext x
     rw[A0,Mu (W:=Wm) hi ri ?_]
     ·unfold post
      by_cases hx:x∈(Bf i).wr
      ·have:Wm i x=some (gt (Bf i).mem x):=by simp only[Wm];rw[if_pos ⟨hi,hx⟩]
       rw[this,if_pos hx];rfl
      ·have:Wm i x=none:=by simp only[Wm];rw[if_neg λhh=>hx hh.2]
       rw[this,if_neg hx];rfl
     ·intro k j6 kr fC uq
      obtain⟨mk',lx⟩:=ni k kr
      have hx:x∈(Bf i).wr:=by
       by_cases h:x∈(Bf i).wr
       ·exact h
       ·simp only[Wm]at uq;rw[if_neg λhh=>h hh.2]at uq;exact absurd rfl uq
      simp only[Wm]
      rw[if_neg]
      rintro⟨_,qk⟩
      rcases Fz i k mk' j6 kr lx with h|⟨h1,_⟩
      ·rw[AY k mk' j6 lx fC kr]at h;cases h
      ·exact(h1 x hx).2 qk
    rw[this]
    exact iz
 have XT:∀k,(atI ops.size false).getD k false=false:=by
  intro k
  rw[ar8]
  by_cases h:k<ops.size<;>simp[h]
 have A2:(λk=>(atI ops.size false).getD k false)=λ_=>false:=funext XT
 have MP:∀{X V:Type} (W:Nat->X->Option V) (init:X->V) (n:Nat) (x:X),st W init (λ_=>false) n x=init x:=by
  intro X V W init n x
  induction n with
  |zero=>rfl
  |succ n ih=>rw[nh,ih];simp
 refine main ops.size _ a _ (by simp) (by rw[A2,XE]) (by rw[A2];intro j o _ h;cases h) ⟨ρ,t,Ren.le_refl ρ,⟨rfl,rfl,rfl⟩,λs=>?_,ht,?_⟩
 ·rw[A2,MP,tr.t0]
 ·have:st Wm m (λk=>(atI ops.size false).getD k false) ops.size=m:=by funext x;rw[A2,MP]
  rw[this]
  exact hw.drew
end
end Go.Proofs.YtnlkkgpcikkpoaaGreat.Vm
namespace Go.Proofs.YtnlkkgpcikkpoaaGreat.Vm
open Go.RowKit
section
variable {P:arC}
theorem A3{call:cQ}(hc:iy P call){df:Bool}{ops:List ast}:∀{rest:List ast} {t t1:Fr} {S S1:VS} {x:bf},opsV P call df ops rest t S=some (x,t1,S1)->dW S S1
 | [],t,t1,S,S1,x,h=>by
  simp only[opsV,DE,KN]at h
  obtain⟨_,_,rfl⟩:=h
  exact dW.refl S
 |o::rest,t,t1,S,S1,x,h=>by
  unfold opsV at h
  split at h
  ·split at h
   ·split at h
    ·exact A3 hc h
    ·cases h
   ·cases h
  ·split at h
   ·cases h
   ·rename_i v t2 S2 dh
    simp only[DE,KN]at h
    obtain⟨_,_,rfl⟩:=h
    exact yp hc dh
   ·rename_i t2 S2 dh
    exact(yp hc dh).trans (A3 hc h)
theorem MQ{call:cQ}(hc:iy P call){ops:List ast}:∀{rest:List ast} {t t1:Fr} {S S1:VS} {gS:List Fp},ln P call ops rest t S=some (t1,S1,gS)->dW S S1
 | [],t,t1,S,S1,gS,h=>by
  simp only[ln,DE,KN]at h
  obtain⟨_,rfl,_⟩:=h
  exact dW.refl S
 |o::rest,t,t1,S,S1,gS,h=>by
  unfold ln at h
  split at h
  ·rename_i t2 S2 dh
   split at h
   ·rename_i t3 S3 XD hd
    simp only[DE,KN]at h
    obtain⟨rfl,rfl,rfl⟩:=h
    have e1:=yp hc dh
    have e2:=MQ hc hd
    refine dW.trans ⟨λy hy=>?_,λy hy=>?_,λy hy=>?_,λhS y hy=>?_⟩ e2
    ·exact arL.2 (.inr hy)
    ·exact arL.2 (.inr hy)
    ·exact e1.frame y λhh=>hy (arL.2 (.inl hh))
    ·have he:=e1.sm (λz hz=>by rcases hz with hz|hz<;>cases hz)
     rcases hy with hy|hy
     ·rcases arL.1 hy with hy|hy
      ·exact he y (.inl hy)
      ·exact hS y (.inl hy)
     ·rcases arL.1 hy with hy|hy
      ·exact he y (.inr hy)
      ·exact hS y (.inr hy)
   ·cases h
  ·cases h
theorem FD{f:Fr->VS->Option (bf×Fr×VS)}(hf:∀{t t1:Fr} {S S1:VS} {x:bf},f t S=some (x,t1,S1)->dW S S1):
 ∀{k:Nat} {t t1:Fr} {S S1:VS} {x:bf},iter f k t S=some (x,t1,S1)->dW S S1
 |0,t,t1,S,S1,x,h=>by cases h
 |k+1,t,t1,S,S1,x,h=>by
  unfold iter at h
  split at h
  ·rename_i t2 S2 XU
   exact(hf XU).trans (FD hf h)
  ·exact hf h
theorem oL{call:cQ}(hc:iy P call)(lf:Nat){df:Bool}:∀{c:ar3} {t t1:Fr} {S S1:VS} {x:bf},dz P call lf df c t S=some (x,t1,S1)->dW S S1:=by
 intro c
 induction c with
 |skip=>
  intro t t1 S S1 x h
  simp only[dz,DE,KN]at h
  obtain⟨_,_,rfl⟩:=h
  exact dW.refl S
 |region id ops draw=>
  intro t t1 S S1 x h
  cases draw with
  |false=>exact A3 hc h
  |true=>
   simp only[dz]at h
   split at h
   ·rename_i t2 S2 gS hd
    split at h
    ·simp only[DE,KN]at h
     obtain⟨_,_,rfl⟩:=h
     exact MQ hc hd
    ·cases h
   ·cases h
 |seq a b jm lO=>
  intro t t1 S S1 x h
  simp only[dz]at h
  split at h
  ·rename_i t2 S2 hx
   exact(jm hx).trans (lO h)
  ·exact jm h
 |cond c a b jm lO=>
  intro t t1 S S1 x h
  simp only[dz]at h
  split at h
  ·exact jm h
  ·exact lO h
  ·cases h
 |block id c ih=>
  intro t t1 S S1 x h
  simp only[dz]at h
  split at h
  ·rename_i j t2 S2 hx
   split at h
   ·simp only[DE,KN]at h
    obtain⟨_,_,rfl⟩:=h
    exact ih hx
   ·simp only[DE,KN]at h
    obtain⟨_,_,rfl⟩:=h
    exact ih hx
  ·exact ih h
 |loop c ih=>
  intro t t1 S S1 x h
  simp only[dz]at h
  exact FD (λh=>ih h) h
 |exit id=>
  intro t t1 S S1 x h
  simp only[dz,DE,KN]at h
  obtain⟨_,_,rfl⟩:=h
  exact dW.refl S
 |ret=>
  intro t t1 S S1 x h
  simp only[dz,DE,KN]at h
  obtain⟨_,_,rfl⟩:=h
  exact dW.refl S
 |scope c ih=>
  intro t t1 S S1 x h
  simp only[dz]at h
  exact ih h
 |label l=>
  intro t t1 S S1 x h
  simp only[dz,DE,KN]at h
  obtain⟨_,_,rfl⟩:=h
  exact dW.refl S
 |_=>intro t t1 S S1 x h;simp[dz]at h
theorem FR.FE{ρ:Ren}{t:Fr}{a:Act}(h:FR ρ t a){c:asW}{b:Bool}(hc:bU t c=.bool b):a.eval c=.bool b:=by
 cases c with
 |tmp i=>
  have h1:=h.at_ i
  have h2:t.at i=.bool b:=hc
  rw[h2]at h1
  exact h1.vK
 |const v=>exact hc
 |global g=>cases hc
 |func f=>cases hc
inductive XR(ρ:Ren):bf->atO->Prop where
 |normal:XR ρ .normal .normal
 |exit (id:Nat):XR ρ (.exit id) (.exit id)
 |ret:XR ρ .ret .ret
 |panic (v v':Dy) (h:VR ρ v v'):XR ρ (.panic v) (.panic [{v:=v',recovered:=false}])
variable {B:Nat->Prop} {w₀:arB}
theorem XV{t t1:Fr}{o:ast}{c:Call}(hd:xU o=some c)(h:Af P t o c=some t1):∃(f:asW) (k:arY) (first captured:Array Dy),o.guard=none/\c.callee=.value f/\o.op=.defer c/\
 bU t f=.func (.func k) first captured/\(pU f=true/\c.args.toList.all pU=true)/\(∃cb,(P.funcs[k]?).bind (·.body)=some cb)/\
 Vm.put {t with ds:=(k,(first.toList++c.args.toList.map (bU t))++captured.toList)::t.ds} o.dst undef=some t1:=by
 unfold Af at h
 split at h
 ·rename_i f hg jQ
  split at h
  ·rename_i k first captured hok nc
   split at h
   ·rename_i cb FG
    rw[BV]at hok
    refine⟨f,k,first,captured,hg,jQ,?_,nc,hok,⟨cb,FG⟩,h⟩
    unfold xU at hd
    split at hd
    ·rename_i c' mv;cases hd;exact mv
    ·cases hd
   ·cases h
  ·cases h
 ·cases h
theorem MR{α:Type}{ρ:Ren}{f g:α->Dy}:∀{l:List α},(∀x∈l,VR ρ (f x) (g x))->LR ρ (l.map f) (l.map g)
 | [],_=>LR.nil _
 |x::l,h=>LR.cons (h x arH) (MR λy hy=>h y (arG _ hy))
theorem XW{F:Fence}{n:Nat}{c:ar3}{Q:atO->Act->arB->Prop}{a:Act}{w:arB}(h:c.wpIn F n P (Exit.noGoto Q) a w):(Code.scope c).wpIn F n P Q a w:=by
 intro b k cs de hb hr
 have h0:(lone (b.atR a (.code (.scope c)::k)) cs w).fenced P F:=fenced_calm hb hr rfl
 have s1:step P (lone (b.atR a (.code (.scope c)::k)) cs w)=.next (lone (b.atR a (.code c:: .inScope c::k)) cs w):=step_lone_go (by simp[stepG,ayo,ayu])
 have s2:∀(a:Act) (w:arB),step P (lone (b.atR a (.inScope c::k)) cs w)=.next (lone (b.atR a k) cs w):=λa w=>step_lone_go (by simp[stepG,ayo,ayu])
 obtain⟨e,a₁,w₁,hq,nQ⟩:=h b (.inScope c::k) cs de hb hr
 cases e with
 |normal=>exact⟨.normal,a₁,w₁,hq,.head h0 s1 (StepsIn.trans nQ (.one (fenced_calm hb hr rfl) (s2 a₁ w₁)))⟩
 |exit id=>exact⟨_,a₁,w₁,hq,.of_steps (.one h0 s1) ⟨λk' hk=>nQ.1 k' (by simpa[exitTo]using hk),λhr hk=>nQ.2 hr (by simpa[exitTo]using hk)⟩⟩
 |goto l=>exact hq.elim
 |ret=>exact⟨.ret,a₁,w₁,hq,av5 (e:=.ret) (k:=k) (.one h0 s1) nQ⟩
 |panic ch=>exact⟨.panic ch,a₁,w₁,hq,av5 (e:=.panic ch) (k:=k) (.one h0 s1) nQ⟩
 |outgrown=>exact⟨.outgrown,a₁,w₁,hq,av5 (e:=.outgrown) (k:=k) (.one h0 s1) nQ⟩
theorem FH(hP:iV P=true){call:cQ}(hc:iy P call){df:Bool}{r:Option Nat}(yx:df=true->r=none){ops:Array ast}:∀{rest:List ast} {k:Nat},(∀j,rest[j]?=ops[k+j]?)->∀{t t1:Fr} {S S1:VS} {x:bf},
 opsV P call df ops.toList rest t S=some (x,t1,S1)->∀{ρ:Ren} {m:Nat->Option ak} {w:arB} {a:Act},FR ρ t a->WR P B w₀ ρ m w->gr S S1 m->∀{Q:atO->Act->arB->Prop},
 (∀(ρ':Ren) (e:atO) (a':Act) (w':arB),ρ.le ρ'->XR ρ' x e->FR ρ' t1 a'->WR P B w₀ ρ' (post m S1) w'->Q e a' w')->wpOpsIn (FF r) 0 P ops Q (avZ k rest.length) a w
 | [],k,hk,t,t1,S,S1,x,h,ρ,m,w,a,ht,hw,hm,Q,hQ=>by
  simp only[opsV,DE,KN]at h
  obtain⟨rfl,rfl,rfl⟩:=h
  have hp:post m S=m:=pq hm
  exact hQ ρ _ a w (Ren.le_refl ρ) .normal ht (by rw[hp];exact hw)
 |o::rest,k,hk,t,t1,S,S1,x,h,ρ,m,w,a,ht,hw,hm,Q,hQ=>by
  have ho:ops[k]?=some o:=by simpa using(hk 0).symm
  have vR:∀j,rest[j]?=ops[k+1+j]? :=λj=>by have:=hk (j+1);simpa[atm,aw6 1 j]using this
  rw[ar4,avs,wpOpsIn_cons]
  unfold opsV at h
  split at h
  ·rename_i c hd
   split at h
   ·split at h
    ·rename_i t2 FI
     cases yx rfl
     obtain⟨f,k',first,captured,hg,jQ,dh,nc,hok,MT,hp⟩:=XV hd FI
     unfold wpOpIn
     simp only[ho]
     have fV:asZ o (yielded ops a.tmps)=true:=by unfold asZ;rw[hg]
     rw[if_pos fV]
     unfold ayt
     refine⟨λ_ _=>trivial,?_⟩
     obtain⟨XX,XY⟩:=hok
     have MU:=ht.eval XX
     rw[nc]at MU
     obtain⟨f',c',XZ,X1,yy⟩:=MU.xZ
     have FJ:(o.semAt (FF none).round a.eval).run P w=.ok (.defer {target:=.fn (.func k') c',args:=f'++c.args.map a.eval}) w:=by
      show(execOp a.eval o).run P w=_
      unfold execOp
      rw[dh]
      unfold resolve
      simp only[jQ,XZ,awi]
      rfl
     rw[FJ]
     show wpOpsIn (FF none) 0 P ops Q _ (({a with defers:=_::a.defers}:Act).put o.dst undef) w
     have iw:LR ρ (c.args.toList.map (bU t)) (c.args.map a.eval).toList:=by
      rw[auo]
      exact MR λx hx=>ht.eval (ar1.1 XY x hx)
     have kv:FR ρ {t with ds:=(k',(first.toList++c.args.toList.map (bU t))++captured.toList)::t.ds} {a with defers:={target:=.fn (.func k') c',args:=f'++c.args.map a.eval}::a.defers}:=
      ⟨ht.size,ht.small,ht.at_,.cons (by rw[asY,asY];exact(X1.append iw).append yy) ht.defers⟩
     exact FH hP hc yx vR h (kv.put (VR.undef ρ) hp) hw hm hQ
    ·cases h
   ·cases h
  rename_i cB
  split at h
  ·cases h
  ·rename_i v t2 S2 dh
   simp only[DE,KN]at h
   obtain⟨rfl,rfl,rfl⟩:=h
   refine Fh hP hc ho dh ht hw hm (λhh=>by cases hh) λv2 hv ρ' v' w' hle gJ cF cU=>?_
   cases hv
   exact hQ ρ' _ a w' hle (.panic v v' gJ) cF cU
  ·rename_i t2 S2 dh
   have e2:=A3 hc h
   refine Fh hP hc ho dh ht hw (hm.first e2) (λ_ ρ' a' w' hle cF _ cU=>?_) λv2 hv=>by cases hv
   refine FH hP hc yx vR h cF cU (hm.next (yp hc dh)) λρ2 e a2 w2 kV hx mw iz=>?_
   rw[po e2]at iz
   exact hQ ρ2 e a2 w2 (Ren.le_trans hle kV) hx mw iz
def MV(P:arC)(r:Option Nat)(c:ar3)(f:Fr->VS->Option (bf×Fr×VS)):Prop:=
 ∀{t t1:Fr} {S S1:VS} {x:bf},f t S=some (x,t1,S1)->∀{B:Nat->Prop} {w₀:arB} {ρ:Ren} {m:Nat->Option ak} {w:arB} {a:Act},FR ρ t a->WR P B w₀ ρ m w->gr S S1 m->
  ∀{Q:atO->Act->arB->Prop},(∀(ρ':Ren) (e:atO) (a':Act) (w':arB),ρ.le ρ'->XR ρ' x e->FR ρ' t1 a'->WR P B w₀ ρ' (post m S1) w'->Q e a' w')->c.wpIn (FF r) 0 P Q a w
theorem MW{r:Option Nat}{c:ar3}{f:Fr->VS->Option (bf×Fr×VS)}(hx:∀{t t1:Fr} {S S1:VS} {x:bf},f t S=some (x,t1,S1)->dW S S1)(hs:MV P r c f):
 ∀{k:Nat} {t t1:Fr} {S S1:VS} {x:bf},iter f k t S=some (x,t1,S1)->∀{ρ:Ren} {m:Nat->Option ak} {w:arB} {a:Act},FR ρ t a->WR P B w₀ ρ m w->gr S S1 m->
 ∀{Q:atO->Act->arB->Prop},(∀(ρ':Ren) (e:atO) (a':Act) (w':arB),ρ.le ρ'->XR ρ' x e->FR ρ' t1 a'->WR P B w₀ ρ' (post m S1) w'->Q e a' w')->Code.roundsIn (FF r) 0 P c Q k a w
 |0,t,t1,S,S1,x,h,ρ,m,w,a,ht,hw,hm,Q,hQ=>by cases h
 |k+1,t,t1,S,S1,x,h,ρ,m,w,a,ht,hw,hm,Q,hQ=>by
  rw[roundsIn_succ]
  unfold iter at h
  split at h
  ·rename_i t2 S2 hf
   have e2:=FD hx h
   refine hs hf ht hw (hm.first e2) λρ' e a' w' hle dL cF cU=>?_
   cases dL
   refine MW hx hs h cF cU (hm.next (hx hf)) λρ2 rj a2 w2 kV kw mw iz=>?_
   rw[po e2]at iz
   exact hQ ρ2 rj a2 w2 (Ren.le_trans hle kV) kw mw iz
  ·rename_i br
   refine hs h ht hw hm λρ' e a' w' hle dL cF cU=>?_
   cases dL with
   |normal=>exact absurd h (br _ _)
   |_=>exact hQ ρ' _ a' w' hle (by constructor<;>assumption) cF cU
theorem ur(hP:iV P=true)(fM:P.follows .mixedOrders=true){call:cQ}(hc:iy P call)(lf:Nat){df:Bool}{r:Option Nat}(yx:df=true->r=none):∀(c:ar3),MV P r c (dz P call lf df c):=by
 intro c
 induction c with
 |skip=>
  intro t t1 S S1 x h B w₀ ρ m w a ht hw hm Q hQ
  simp only[dz,DE,KN]at h
  obtain⟨rfl,rfl,rfl⟩:=h
  exact wpIn_skip (hQ ρ _ a w (Ren.le_refl ρ) .normal ht (by rw[pq hm];exact hw))
 |region id ops draw=>
  intro t t1 S S1 x h B w₀ ρ m w a ht hw hm Q hQ
  cases draw with
  |false=>
   refine wpIn_region ?_
   have:=FH hP hc yx (ops:=ops) (rest:=ops.toList) (k:=0) (λj=>by simp) h ht hw hm hQ
   rw[avF]
   simpa using this
  |true=>
   simp only[dz]at h
   split at h
   ·rename_i t2 S2 gS hd
    split at h
    ·rename_i hok
     simp only[DE,KN]at h
     obtain⟨rfl,rfl,rfl⟩:=h
     exact XG hP fM hc hd hok ht hw hm λρ' a' w' hle cF cU=>hQ ρ' _ a' w' hle .normal cF cU
    ·cases h
   ·cases h
 |seq a b jm lO=>
  intro t t1 S S1 x h B w₀ ρ m w a ht hw hm Q hQ
  simp only[dz]at h
  refine wpIn_seq ?_
  split at h
  ·rename_i t2 S2 hx
   have e2:=oL hc lf h
   refine jm hx ht hw (hm.first e2) λρ' e a' w' hle dL cF cU=>?_
   cases dL
   refine lO h cF cU (hm.next (oL hc lf hx)) λρ2 rj a2 w2 kV kw mw iz=>?_
   rw[po e2]at iz
   exact hQ ρ2 rj a2 w2 (Ren.le_trans hle kV) kw mw iz
  ·rename_i br
   refine jm h ht hw hm λρ' e a' w' hle dL cF cU=>?_
   cases dL with
   |normal=>exact absurd h (br _ _)
   |_=>exact hQ ρ' _ a' w' hle (by constructor<;>assumption) cF cU
 |cond c x y rk rl=>
  intro t t1 S S1 x' h B w₀ ρ m w a ht hw hm Q hQ
  simp only[dz]at h
  split at h
  ·rename_i he;exact wpIn_cond_true (ht.FE he) (rk h ht hw hm hQ)
  ·rename_i he;exact wpIn_cond_false (ht.FE he) (rl h ht hw hm hQ)
  ·cases h
 |block id c ih=>
  intro t t1 S S1 x h B w₀ ρ m w a ht hw hm Q hQ
  simp only[dz]at h
  refine wpIn_block ?_
  split at h
  ·rename_i j t2 S2 hx
   split at h
   ·rename_i hj
    have ls:j=id:=arJ hj
    simp only[DE,KN]at h
    obtain⟨rfl,rfl,rfl⟩:=h
    refine ih hx ht hw hm λρ' e a' w' hle dL cF cU=>?_
    cases dL
    simp only[avG,ls,if_true]
    exact hQ ρ' _ a' w' hle .normal cF cU
   ·rename_i hj
    have ls:¬j=id:=λe=>by rw[e,Nat.beq_refl]at hj;cases hj
    simp only[DE,KN]at h
    obtain⟨rfl,rfl,rfl⟩:=h
    refine ih hx ht hw hm λρ' e a' w' hle dL cF cU=>?_
    cases dL
    simp only[avG,ls,if_false]
    exact hQ ρ' _ a' w' hle (.exit j) cF cU
  ·rename_i br
   refine ih h ht hw hm λρ' e a' w' hle dL cF cU=>?_
   cases dL with
   |exit j=>exact absurd h (br _ _ _)
   |_=>exact hQ ρ' _ a' w' hle (by constructor<;>assumption) cF cU
 |loop c ih=>
  intro t t1 S S1 x h B w₀ ρ m w a ht hw hm Q hQ
  simp only[dz]at h
  exact wpIn_loop_rounds lf (MW (λh=>oL hc lf h) ih h ht hw hm hQ)
 |exit id=>
  intro t t1 S S1 x h B w₀ ρ m w a ht hw hm Q hQ
  simp only[dz,DE,KN]at h
  obtain⟨rfl,rfl,rfl⟩:=h
  exact wpIn_exit (hQ ρ _ a w (Ren.le_refl ρ) (.exit id) ht (by rw[pq hm];exact hw))
 |ret=>
  intro t t1 S S1 x h B w₀ ρ m w a ht hw hm Q hQ
  simp only[dz,DE,KN]at h
  obtain⟨rfl,rfl,rfl⟩:=h
  exact wpIn_ret (hQ ρ _ a w (Ren.le_refl ρ) .ret ht (by rw[pq hm];exact hw))
 |scope c ih=>
  intro t t1 S S1 x h B w₀ ρ m w a ht hw hm Q hQ
  simp only[dz]at h
  refine XW (ih h ht hw hm λρ' e a' w' hle dL cF cU=>?_)
  cases dL<;>exact hQ ρ' _ a' w' hle (by constructor<;>assumption) cF cU
 |label l=>
  intro t t1 S S1 x h B w₀ ρ m w a ht hw hm Q hQ
  simp only[dz,DE,KN]at h
  obtain⟨rfl,rfl,rfl⟩:=h
  exact wpIn_label (hQ ρ _ a w (Ren.le_refl ρ) .normal ht (by rw[pq hm];exact hw))
 |_=>intro t t1 S S1 x h;simp[dz]at h
theorem FK{ρ:Ren}{g:Nat->Option ak}{w:arB}(hw:WR P B w₀ ρ g w){t:Fr}{a:Act}(ht:FR ρ t a):∀{rs:List ResultVar} {vs:List Dy} {l:List Nat},(iv P t rs).run g=some (vs,l)->
 ∃km:List Dy,(rs.mapM (m:=Sem) λ| .tmp t=>pure (a.tmps.getD t undef)| .cell b t=>do loadVar t (<-asAddr (a.tmps.getD b undef))).run P w=.ok km w/\LR ρ vs km
 | [],vs,l,h=>by
  simp only[iv,Rd.run,DE,KN]at h
  obtain⟨rfl,rfl⟩:=h
  exact⟨[],rfl,LR.nil ρ⟩
 | .tmp i::rs,vs,l,h=>by
  simp only[iv]at h
  obtain⟨r,l1,l2,h1,h2,rfl⟩:=(Rd.run_bind _ _ _ _ _).1 h
  simp only[Rd.run,DE,KN]at h2
  obtain⟨rfl,rfl⟩:=h2
  obtain⟨km,h3,h4⟩:=FK hw ht h1
  refine⟨a.tmps.getD i undef::km,?_,LR.cons (ht.at_ i) h4⟩
  rw[avS]
  simp only[DA,asa,Dz,h3]
 | .cell i ty::rs,vs,l,h=>by
  simp only[iv]at h
  split at h
  ·rename_i b off hp
   obtain⟨v,l1,l2,h1,h2,rfl⟩:=(Rd.run_bind _ _ _ _ _).1 h
   obtain⟨r,l3,l4,h3,h4,rfl⟩:=(Rd.run_bind _ _ _ _ _).1 h2
   simp only[Rd.run,DE,KN]at h4
   obtain⟨rfl,rfl⟩:=h4
   have hi:=ht.at_ i
   rw[hp]at hi
   obtain⟨MX,hr,hi⟩:=hi.lp
   obtain⟨v',h5,h6⟩:=vP hw h1 hr
   obtain⟨km,h7,h8⟩:=FK hw ht h3
   refine⟨v'::km,?_,LR.cons h6 h8⟩
   rw[avS]
   have h9:(asAddr (a.tmps.getD i undef)).run P w=.ok ⟨MX.aH,MX.sh+off,none⟩ w:=by rw[hi];rfl
   simp only[DA,asa,Dz,h9,h5,h7]
  ·cases h
theorem FL{ρ:Ren}{g:Nat->Option ak}{w:arB}(hw:WR P B w₀ ρ g w){t:Fr}{a:Act}(ht:FR ρ t a){fn:avB}{vs:List Dy}{l:List Nat}(h:(iv P t fn.results.toList).run g=some (vs,l)):
 ∃v',(results fn a.tmps).run P w=.ok v' w/\VR ρ (nH vs) v':=by
 obtain⟨km,h1,h2⟩:=FK hw ht h
 have h3:∀F:ResultVar->Sem Dy,(fn.results.toList.mapM F).run P w=.ok km w->(fn.results.mapM F).run P w=.ok km.toArray w:=by
  intro F hF
  rw[Array.mapM_eq_mapM_toList]
  show(fn.results.toList.mapM F>>=λl=>pure l.toArray).run P w=_
  rw[DA,hF]
  rfl
 unfold results
 rw[DA]
 refine⟨(if h:km.toArray.size=1 then km.toArray[0]else .tuple km.toArray),?_,?_⟩
 ·exact Eq.trans (congrArg (λr=>Result.andThen r _) (h3 _ h1)) rfl
 ·cases vs with
  |nil=>
   rw[h2.kO]
   exact VR.Am (LR.nil ρ)
  |cons v vs=>
   obtain⟨v',r,rfl,h4,h5⟩:=h2.gT
   cases vs with
   |nil=>rw[h5.kO];exact h4
   |cons u vs=>
    obtain⟨u',r',rfl,h6,h7⟩:=h5.gT
    have:¬((v'::u'::r').toArray.size=1):=by simp
    rw[dif_neg this]
    exact VR.Am h2
theorem Fr.yz:∀{args:List Dy} {i:Nat} {t:Tr Dy} {j:Nat},i+args.length<=1024->j<1024->
 (Fr.se args i t).get 10 j=if i<=j/\j<i+args.length then args[j-i]?else t.get 10 j
 | [],i,t,j,h,hj=>by
  have:¬(i<=j/\j<i+([]:List Dy).length):=by simp
  rw[if_neg this];rfl
 |v::args,i,t,j,h,hj=>by
  simp only[ar4]at h⊢
  unfold Fr.se
  rw[Fr.yz (by omega) hj]
  have bx:(2:Nat)^10=1024:=rfl
  by_cases h1:i+1<=j/\j<i+1+args.length
  ·rw[if_pos h1,if_pos (by omega),show j-i=(j-(i+1))+1 by omega,asF]
  ·rw[if_neg h1,Tr.xV 10 _ _ _ _ (by omega) (by omega)]
   by_cases h2:j=i
   ·subst h2
    rw[if_pos rfl,if_pos (by omega)]
    simp
   ·rw[if_neg h2,if_neg (by omega)]
theorem Fr.FM{ρ:Ren}{args:List Dy}{args':Array Dy}(ha:LR ρ args args'.toList){n:Nat}{t0:Fr}(h:Fr.of args n=some t0):
 FR ρ t0 {tmps:=args'++atI (n-args'.size) undef,defers:=[]}:=by
 unfold Fr.of at h
 split at h
 ·rename_i hb
  cases h
  simp only[BV]at hb
  have h1:args.length<=n:=by simpa[axw]using hb.1
  have h2:n<=1024:=by simpa[axw]using hb.2
  have hlen:args.length=args'.size:=by have:=ha.len;simpa using this
  refine⟨by simp;omega,h2,λi=>?_,.nil⟩
  unfold Fr.at
  dsimp only
  by_cases hi:i<n
  ·rw[ed.2 hi]
   dsimp only
   rw[Fr.yz (by omega) (by omega),Tr.Ew]
   rw[ar8]
   by_cases MY:i<args.length
   ·rw[if_pos (by omega),auP (by omega)]
    obtain⟨v',h3,h4⟩:=ha.get (KH MY)
    have h5:args'[i]?=some v':=by simpa using h3
    rw[h5]
    simp only[Nat.sub_zero,KH MY]
    exact h4
   ·rw[if_neg (by omega),Array.getElem?_append_right (by omega)]
    have:(atI (n-args'.size) undef)[i-args'.size]?=some undef:=by
     rw[Array.getElem?_replicate,if_pos (by omega)]
    rw[this]
    exact VR.undef ρ
  ·have hb:arF i n=false:=by cases hb:arF i n with
    |false=>rfl
    |true=>exact absurd (ed.1 hb) hi
   rw[hb]
   dsimp only
   rw[ar8,auA (by simp;omega)]
   exact VR.undef ρ
 ·cases h
theorem FN{t:Fr}{fn:avB}{S S1:VS}{r:bD}(h:o8 P t fn S=some (r,S1)):
 ∃vs l,(iv P t fn.results.toList).run (gt S.mem)=some (vs,l)/\r=.ret (nH vs)/\S1={S with rd:=l++S.rd}:=by
 unfold o8 at h
 split at h
 ·rename_i vs l hr
  simp only[DE,KN]at h
  exact⟨vs,l,hr,h.1.symm,h.2.symm⟩
 ·cases h
theorem A4{t:Fr}{fn:avB}{S S1:VS}{r:bD}(h:o8 P t fn S=some (r,S1)):dW S S1:=by
 obtain⟨vs,l,hr,_,rfl⟩:=FN h
 refine⟨λx hx=>arL.2 (.inr hx),λx hx=>hx,λx _=>rfl,λhS x hx=>?_⟩
 rcases hx with hx|hx
 ·rcases arL.1 hx with hx|hx
  ·obtain⟨o,ho⟩:=Rd.Al hr x hx;exact p9 ho
  ·exact hS x (.inl hx)
 ·exact hS x (.inr hx)
def lB(ρ:Ren):Md->aua->Prop
 | .ret,u=>u=.returning
 | .nI v,u=>∃v',u=.panicking [{v:=v',recovered:=false}]/\VR ρ v v'
theorem lB.mono{ρ ρ':Ren}(hl:ρ.le ρ'):∀{md:Md} {u:aua},lB ρ md u->lB ρ' md u
 | .ret,_,h=>h
 | .nI v,_,⟨v',h,hv⟩=>⟨v',h,hv.mono hl⟩
theorem lB.settled{ρ:Ren}:∀{md:Md} {u:aua},lB ρ md u->lB ρ md (settle u)
 | .ret,_,h=>by cases h;rfl
 | .nI v,_,⟨v',h,hv⟩=>⟨v',by rw[h];rfl,hv⟩
theorem lB.X2{ρ:Ren}:∀{md:Md} {u:aua},lB ρ md u->u≠ .run
 | .ret,_,h=>by cases h;simp
 | .nI v,_,⟨v',h,hv⟩=>by rw[h];simp
theorem FO:∀{rest:List ast} {t t1:Fr} {S S1:VS},pZ P rest t S=some (t1,S1)->dW S S1
 | [],t,t1,S,S1,h=>by
  simp only[pZ,DE,KN]at h
  obtain⟨_,rfl⟩:=h
  exact dW.refl S
 |o::rest,t,t1,S,S1,h=>by
  unfold pZ at h
  split at h
  ·cases h
  ·split at h
   ·rename_i v S2 hs
    split at h
    ·exact(yn hs).trans (FO h)
    ·cases h
   ·cases h
theorem FP(hP:iV P=true){ops:Array ast}:∀{rest:List ast} {k:Nat},(∀j,rest[j]?=ops[k+j]?)->∀{t t1:Fr} {S S1:VS},
 pZ P rest t S=some (t1,S1)->∀{ρ:Ren} {m:Nat->Option ak} {w:arB} {a:Act} {cs:List avH},FR ρ t a->WR P B w₀ ρ m w->gr S S1 m->∀{Q:atO->Act->List avH->arB->Prop},
 (∀(ρ':Ren) (a':Act) (w':arB),ρ.le ρ'->FR ρ' t1 a'->WR P B w₀ ρ' (post m S1) w'->Q .normal a' cs w')->wpOpsS P ops Q (avZ k rest.length) a cs w
 | [],k,hk,t,t1,S,S1,h,ρ,m,w,a,cs,ht,hw,hm,Q,hQ=>by
  simp only[pZ,DE,KN]at h
  obtain⟨rfl,rfl⟩:=h
  exact hQ ρ a w (Ren.le_refl ρ) ht (by rw[pq hm];exact hw)
 |o::rest,k,hk,t,t1,S,S1,h,ρ,m,w,a,cs,ht,hw,hm,Q,hQ=>by
  have ho:ops[k]?=some o:=by simpa using(hk 0).symm
  have vR:∀j,rest[j]?=ops[k+1+j]? :=λj=>by have:=hk (j+1);simpa[atm,aw6 1 j]using this
  rw[ar4,avs]
  unfold wpOpsS
  simp only[ho]
  unfold pZ at h
  split at h
  ·cases h
  ·rename_i hg
   have fV:asZ o (yielded ops a.tmps)=true:=by unfold asZ;rw[hg]
   rw[if_pos fV]
   split at h
   ·rename_i v S2 hs
    split at h
    ·rename_i t2 hp
     have e2:=FO h
     obtain⟨ρ',w',h1,h2,h3⟩:=v7 hP hs ht hw (hm.first e2)
     generalize(execOp a.eval o).run P w=q at h2
     cases h2 with
     |val _ v' _ hv=>
      refine FP hP vR h ((ht.mono h1).put hv hp) h3 (hm.next (yn hs)) λρ2 a2 w2 kV mw iz=>?_
      rw[po e2]at iz
      exact hQ ρ2 a2 w2 (Ren.le_trans h1 kV) mw iz
    ·cases h
   ·cases h
theorem FQ{call:cQ}(hc:iy P call){lf:Nat}{md:Md}:∀{c:ar3} {t t1:Fr} {S S1:VS} {fU:Md} {x:bf},kN P call lf md c t S=some (fU,x,t1,S1)->dW S S1:=by
 intro c
 have pt:∀{c:ar3} {t t1:Fr} {S S1:VS} {fU:Md} {x:bf},(dz P call lf false c t S).map (λr=>(md,r))=some (fU,x,t1,S1)->dW S S1:=by
  intro c t t1 S S1 fU x h
  simp only[asw,KN]at h
  obtain⟨_,kx,rfl,rfl⟩:=h
  exact oL hc lf kx
 induction c with
 |seq a b jm lO=>
  intro t t1 S S1 fU x h
  unfold kN at h
  split at h
  ·rename_i X3 t2 S2 h1
   simp only[asw,KN]at h
   obtain⟨_,kx,rfl,rfl⟩:=h
   exact(jm h1).trans (oL hc lf kx)
  ·exact jm h
 |region id ops draw=>
  intro t t1 S S1 fU x h
  cases draw with
  |true=>unfold kN at h;exact pt h
  |false=>
   unfold kN at h
   split at h
   ·split at h
    ·split at h
     ·split at h
      ·rename_i hq
       simp only[DE,KN]at h
       obtain⟨_,_,_,rfl⟩:=h
       exact FO hq
      ·cases h
     ·cases h
    ·exact pt h
   ·cases h
 |_=>intro t t1 S S1 fU x h;unfold kN at h;exact pt h
abbrev MZ(P:arC)(B:Nat->Prop)(w₀:arB)(ρ:Ren)(m:Nat->Option ak)(fU:Md)(x:bf)(t1:Fr)(S1:VS)(c₀:avH)(cs:List avH)(Q:atO->Act->List avH->arB->Prop):Prop:=
 ∀(ρ':Ren) (e:atO) (a':Act) (u':aua) (w':arB),ρ.le ρ'->XR ρ' x e->FR ρ' t1 a'->lB ρ' fU (settle u')->WR P B w₀ ρ' (post m S1) w'->Q e a' ({c₀ with mode:=u'}::cs) w'
theorem X4(hP:iV P=true)(fM:P.follows .mixedOrders=true){call:cQ}(hc:iy P call){lf:Nat}{md:Md}:∀{c:ar3} {t t1:Fr} {S S1:VS} {fU:Md} {x:bf},
 kN P call lf md c t S=some (fU,x,t1,S1)->∀{ρ:Ren} {m:Nat->Option ak} {w:arB} {a:Act} {c₀:avH} {cs:List avH},FR ρ t a->WR P B w₀ ρ m w->gr S S1 m->lB ρ md c₀.mode->
 ∀{Q:atO->Act->List avH->arB->Prop},MZ P B w₀ ρ m fU x t1 S1 c₀ cs Q->c.wpS P Q a (c₀::cs) w:=by
 intro c
 have pt:∀{c:ar3} {t t1:Fr} {S S1:VS} {fU:Md} {x:bf},(dz P call lf false c t S).map (λr=>(md,r))=some (fU,x,t1,S1)->∀{ρ:Ren} {m:Nat->Option ak} {w:arB} {a:Act} {c₀:avH} {cs:List avH},FR ρ t a->WR P B w₀ ρ m w->gr S S1 m->lB ρ md c₀.mode->
  ∀{Q:atO->Act->List avH->arB->Prop},MZ P B w₀ ρ m fU x t1 S1 c₀ cs Q->c.wpS P Q a (c₀::cs) w:=by
  intro c t t1 S S1 fU x h ρ m w a c₀ cs ht hw hm iY Q hQ
  ·simp only[asw,KN]at h
   obtain⟨_,kx,rfl,rfl⟩:=h
   refine wpS_of_wp (avx.1 (ur hP fM hc lf (r:=none) (λh=>by cases h) c kx ht hw hm λρ' e a' w' hle dL cF cU=>?_))
   exact hQ ρ' e a' c₀.mode w' hle dL cF (iY.mono hle).settled cU
 induction c with
 |seq a b jm lO=>
  intro t t1 S S1 fU x h ρ m w ac c₀ cs ht hw hm iY Q hQ
  unfold kN at h
  refine wpS_seq ?_
  split at h
  ·rename_i X3 t2 S2 h1
   ·simp only[asw,KN]at h
    obtain⟨_,kx,rfl,rfl⟩:=h
    have e2:=oL hc lf kx
    refine jm h1 ht hw (hm.first e2) iY λρ' e a' u' w' hle dL cF pu cU=>?_
    cases dL
    refine wpS_of_wp (avx.1 (ur hP fM hc lf (r:=none) (λh=>by cases h) b kx cF cU (hm.next (FQ hc h1)) λρ2 rj a2 w2 kV kw mw iz=>?_))
    rw[po e2]at iz
    exact hQ ρ2 rj a2 u' w2 (Ren.le_trans hle kV) kw mw (pu.mono kV) iz
  ·rename_i br
   refine jm h ht hw hm iY λρ' e a' u' w' hle dL cF pu cU=>?_
   cases dL with
   |normal=>exact absurd h (br _ _ _)
   |_=>exact hQ ρ' _ a' u' w' hle (by constructor<;>assumption) cF pu cU
 |region id ops draw=>
  intro t t1 S S1 fU x h ρ m w a c₀ cs ht hw hm iY Q hQ
  cases draw with
  |true=>unfold kN at h;exact pt h ht hw hm iY hQ
  |false=>
   unfold kN at h
   split at h
   ·rename_i o rest nf
    split at h
    ·rename_i my
     split at h
     ·rename_i t2 hp
      split at h
      ·rename_i t3 S2 hq
       simp only[DE,KN]at h
       obtain⟨rfl,rfl,rfl,rfl⟩:=h
       refine wpS_region ?_
       have cc:ops.size=rest.length+1:=by rw[<-Array.length_toList,nf];rfl
       have ho:ops[0]?=some o:=by rw[<-ata,nf];rfl
       rw[avF,cc,avs]
       obtain⟨at_,ty,dh,hg⟩:∃ar at_,o.op=.call ⟨.builtin .recover,ar,at_⟩/\o.guard=none:=by
        unfold Ev at my
        split at my
        ·rename_i ar at_ h1 h2;exact⟨ar,at_,h1,h2⟩
        ·cases my
       unfold wpOpsS
       simp only[ho]
       have fV:asZ o (yielded ops a.tmps)=true:=by unfold asZ;rw[hg]
       rw[if_pos fV]
       have FJ:(execOp a.eval o).run P w=.ok .recover w:=by
        unfold execOp
        rw[dh]
        rfl
       rw[FJ]
       have hk:∀j,rest[j]?=ops[0+1+j]? :=λj=>by
        rw[<-ata,nf,show 0+1+j=j+1 by omega];rfl
       cases md with
       |ret=>
        have A5:c₀.mode=.returning:=iY
        have gL:recoverD (c₀::cs)=none:=by simp[recoverD,A5]
        simp only[gL]
        exact FP hP hk hq (ht.put (.bN _ rfl) hp) hw hm λρ' a' w' hle cF cU=>hQ ρ' .normal a' c₀.mode w' hle .normal cF (by rw[A5];rfl) cU
       |nI v=>
        obtain⟨v',A5,hv⟩:=iY
        have gL:recoverD (c₀::cs)=some (v',{c₀ with mode:=.panicking [{v:=v',recovered:=true}]}::cs):=by simp[recoverD,A5]
        simp only[gL]
        exact FP hP hk hq (ht.put hv hp) hw hm λρ' a' w' hle cF cU=>hQ ρ' .normal a' _ w' hle .normal cF rfl cU
      ·cases h
     ·cases h
    ·exact pt h ht hw hm iY hQ
   ·cases h
 |_=>intro t t1 S S1 fU x h ρ m w a c₀ cs ht hw hm iY Q hQ;unfold kN at h;exact pt h ht hw hm iY hQ
theorem FT{call:cQ}{lf:Nat}{md:Md}{k:arY}{args:List Dy}{S S':VS}{jB:Md}(h:tT P call lf md k args S=some (jB,S')):
 ∃fn c t0 x t S1 r,P.funcs[k]?=some fn/\fn.body=some c/\Fr.of args fn.ntmps=some t0/\kN P call lf md c t0 S=some (jB,x,t,S1)/\(x=.normal\/x=.ret)/\t.ds=[]/\t.base=[]/\o8 P t fn S1=some (r,S'):=by
 unfold tT at h
 split at h
 ·cases h
 ·rename_i fn hJ
  split at h
  ·cases h
  ·rename_i c hb
   split at h
   ·cases h
   ·rename_i t0 mz
    split at h
    ·rename_i fU x t S1 us
     split at h
     ·rename_i gV qV
      split at h
      ·rename_i r S2 hl
       simp only[DE,KN]at h
       obtain⟨rfl,rfl⟩:=h
       exact⟨fn,c,t0,_,t,S1,r,hJ,hb,mz,us,.inl rfl,gV,qV,hl⟩
      ·cases h
     ·rename_i gV qV
      split at h
      ·rename_i r S2 hl
       simp only[DE,KN]at h
       obtain⟨rfl,rfl⟩:=h
       exact⟨fn,c,t0,_,t,S1,r,hJ,hb,mz,us,.inr rfl,gV,qV,hl⟩
      ·cases h
     ·cases h
    ·cases h
theorem M0{call:cQ}(hc:iy P call){lf:Nat}{md:Md}{k:arY}{args:List Dy}{S S':VS}{jB:Md}(h:tT P call lf md k args S=some (jB,S')):dW S S':=by
 obtain⟨fn,c,t0,x,t,S1,r,_,_,_,us,_,_,_,hl⟩:=FT h
 exact(FQ hc us).trans (A4 hl)
theorem X5(hP:iV P=true)(fM:P.follows .mixedOrders=true){call:cQ}(hc:iy P call){lf:Nat}{md:Md}{k:arY}{args:List Dy}{S S':VS}{jB:Md}
 (h:tT P call lf md k args S=some (jB,S')){ρ:Ren}{m:Nat->Option ak}{w:arB}{args':Array Dy}{u:aua}(iY:lB ρ md u)(ha:LR ρ args args'.toList)(hw:WR P B w₀ ρ m w)(hm:gr S S' m)
 {R:awk->aua->arB->Prop}(hR:∀(ρ':Ren) (v:Dy) (u':aua) (w':arB),ρ.le ρ'->lB ρ' jB (settle u')->WR P B w₀ ρ' (post m S') w'->R (.returned v) u' w'):CallsD P k args' u w R:=by
 obtain⟨fn,c,t0,x,t,S1,r,hJ,hb,mz,us,hx,gV,qV,hl⟩:=FT h
 refine callsD_of_wpS hJ hb λc₀ cs hu=>?_
 subst hu
 have e2:=A4 hl
 have e1:=FQ hc us
 obtain⟨vs,l,oK,rfl,rfl⟩:=FN hl
 refine X4 hP fM hc us (Fr.FM ha mz) hw (hm.first e2) iY λρ' e a' u' w' hle dL cF pu cU=>?_
 have nP:=hm.next e1
 have FU:(iv P t fn.results.toList).run (post m S1)=some (vs,l):=Rd.Ak oK λy hy=>nP y (.inl (arL.2 (.inl hy)))
 obtain⟨v',h1,h2⟩:=FL cU cF FU
 have hd:a'.defers=[]:=by rw[cF.sF gV,qV]
 have fin:a'.defers=[]/\∃u1,({c₀ with mode:=u'}::cs:List avH)={c₀ with mode:=u1}::cs/\∃v,(results fn a'.tmps).run P w'=.ok v w'/\R (.returned v) u1 w':=
  ⟨hd,u',rfl,v',h1,hR ρ' v' u' w' hle pu cU⟩
 rcases hx with rfl|rfl<;>cases dL<;>exact fin
theorem yA{call:cQ}(hc:iy P call){lf:Nat}:∀{ds:List (arY×List Dy)} {md jB:Md} {S S':VS},o9 P call lf ds md S=some (jB,S')->dW S S'
 | [],md,jB,S,S',h=>by
  simp only[o9,DE,KN]at h
  obtain⟨_,rfl⟩:=h
  exact dW.refl S
 |(k,args)::l,md,jB,S,S',h=>by
  unfold o9 at h
  split at h
  ·rename_i fU S1 h1
   exact(M0 hc h1).trans (yA hc h)
  ·cases h
theorem enters(hP:iV P=true){k:arY}{fn:avB}{c:ar3}(hf:P.funcs[k]?=some fn)(hb:fn.body=some c)(args:Array Dy)(w:arB):(callFunc k args).run P w=.ok (.enter k args) w:=by
 have mr:(fn.name== "runtime.NumGoroutine")=false:=by
  have:=ar1.1 hP fn (by rw[as6];exact awJ hf)
  simpa using this
 unfold callFunc
 rw[DA,atw,Dz]
 simp only[hf,mr,hb,aw5,asv,if_false,asa]
theorem FV(hP:iV P=true)(fM:P.follows .mixedOrders=true){call:cQ}(hc:iy P call){lf:Nat}{fn:avB}{tmps:Array Dy}{R:awk->arB->Prop}:
 ∀{ds:List (arY×List Dy)} {l:List as4} {md jB:Md} {S S':VS},o9 P call lf ds md S=some (jB,S')->∀{ρ:Ren} {m:Nat->Option ak} {w:arB} {u:aua},re ρ [] ds l->lB ρ md u->WR P B w₀ ρ m w->gr S S' m->
 (∀(ρ':Ren) (u':aua) (w':arB),ρ.le ρ'->lB ρ' jB u'->WR P B w₀ ρ' (post m S') w'->axY P fn tmps R [] u' w')->axY P fn tmps R l u w
 | [],l,md,jB,S,S',h,ρ,m,w,u,hd,iY,hw,hm,hK=>by
  simp only[o9,DE,KN]at h
  obtain⟨rfl,rfl⟩:=h
  cases hd
  exact hK ρ u w (Ren.le_refl ρ) iY (by rw[pq hm];exact hw)
 |(k,args)::ds,l,md,jB,S,S',h,ρ,m,w,u,hd,iY,hw,hm,hK=>by
  unfold o9 at h
  split at h
  ·rename_i fU S1 h1
   have e2:=yA hc h
   cases hd with
   |cons iw A6=>
    obtain⟨apN,c,_,_,_,_,_,hJ,hb,_⟩:=FT h1
    refine leaves_cons iY.X2 (f:=k) (enters hP hJ hb _ _) ?_
    refine X5 hP fM hc h1 iY iw hw (hm.first e2) λρ' v u' w' hle pu cU=>?_
    refine FV hP fM hc h (A6.mono hle) pu cU (hm.next (M0 hc h1)) λρ2 u2 w2 kV M3 iz=>?_
    rw[po e2]at iz
    exact hK ρ2 u2 w2 (Ren.le_trans hle kV) M3 iz
  ·cases h
theorem M5{call:cQ}{lf:Nat}{fn:avB}{md:Md}{t:Fr}{S S':VS}{r:bD}(h:p8 P call lf fn md t S=some (r,S')):
 t.base=[]/\∃jB S1,o9 P call lf t.ds md S=some (jB,S1)/\((jB=.ret/\o8 P t fn S1=some (r,S'))\/∃v,jB=.nI v/\r=.panic v/\S'=S1):=by
 unfold p8 at h
 split at h
 ·rename_i hb
  refine⟨hb,?_⟩
  split at h
  ·rename_i S1 h1;exact⟨_,S1,h1,.inl ⟨rfl,h⟩⟩
  ·rename_i v S1 h1
   simp only[DE,KN]at h
   exact⟨_,S1,h1,.inr ⟨v,rfl,h.1.symm,h.2.symm⟩⟩
  ·cases h
 ·cases h
theorem M6{call:cQ}(hc:iy P call){lf:Nat}{fn:avB}{md:Md}{t:Fr}{S S':VS}{r:bD}(h:p8 P call lf fn md t S=some (r,S')):dW S S':=by
 obtain⟨_,jB,S1,h1,h2⟩:=M5 h
 rcases h2 with⟨_,hl⟩|⟨v,_,_,rfl⟩
 ·exact(yA hc h1).trans (A4 hl)
 ·exact yA hc h1
theorem X6(hP:iV P=true)(fM:P.follows .mixedOrders=true){call:cQ}(hc:iy P call){lf:Nat}{fn:avB}{md:Md}{t:Fr}{S S':VS}{r:bD}(h:p8 P call lf fn md t S=some (r,S'))
 {ρ:Ren}{m:Nat->Option ak}{w:arB}{a:Act}{u:aua}(ht:FR ρ t a)(iY:lB ρ md u)(hw:WR P B w₀ ρ m w)(hm:gr S S' m)
 {R:awk->arB->Prop}(hR:∀(ρ':Ren) (e:awk) (w':arB),ρ.le ρ'->CR ρ' r e->WR P B w₀ ρ' (post m S') w'->R e w'):axY P fn a.tmps R a.defers u w:=by
 obtain⟨hb,jB,S1,h1,h2⟩:=M5 h
 have gV:=ht.defers
 rw[hb]at gV
 rcases h2 with⟨rfl,hl⟩|⟨v,rfl,rfl,rfl⟩
 ·have e2:=A4 hl
  obtain⟨vs,l,oK,rfl,rfl⟩:=FN hl
  refine FV hP fM hc h1 gV iY hw (hm.first e2) λρ' u' w' hle pu cU=>?_
  cases pu
  have nP:=hm.next (yA hc h1)
  have FU:(iv P t fn.results.toList).run (post m S1)=some (vs,l):=Rd.Ak oK λy hy=>nP y (.inl (arL.2 (.inl hy)))
  obtain⟨v',h3,h4⟩:=FL cU (ht.mono hle) FU
  exact⟨v',h3,hR ρ' _ w' hle h4 cU⟩
 ·refine FV hP fM hc h1 gV iY hw hm λρ' u' w' hle pu cU=>?_
  obtain⟨v',rfl,hv⟩:=pu
  exact hR ρ' _ w' hle ⟨v',rfl,hv⟩ cU
theorem M7(hP:iV P=true)(fM:P.follows .mixedOrders=true){sp:cQ->cQ}(cZ:∀call,iy P call->iy P (sp call))(lf:Nat):∀(d:Nat),iy P (m9 P sp lf d)
 |0=>{ext:=(by intro f args S r S' h;cases h),ok:=(by intro f args S r S' h;cases h)}
 |d+1=>by
  have hc:=cZ _ (M7 hP fM cZ lf d)
  have body:∀{f:arY} {args:List Dy} {S:VS} {r:bD} {S':VS},m9 P sp lf (d+1) f args S=some (r,S')->
   ∃fn c t0 x t S1 md,P.funcs[f]?=some fn/\fn.body=some c/\Fr.of args fn.ntmps=some t0/\dz P (sp (m9 P sp lf d)) lf true c t0 S=some (x,t,S1)/\
    (((x=.normal\/x=.ret)/\md=.ret)\/∃v,x=.panic v/\md=.nI v)/\p8 P (sp (m9 P sp lf d)) lf fn md t S1=some (r,S'):=by
   intro f args S r S' h
   unfold m9 at h
   split at h
   ·cases h
   ·rename_i fn hJ
    split at h
    ·cases h
    ·rename_i c hb
     split at h
     ·cases h
     ·rename_i t0 mz
      split at h
      ·rename_i t S1 kx;exact⟨fn,c,t0,_,t,S1,_,hJ,hb,mz,kx,.inl ⟨.inl rfl,rfl⟩,h⟩
      ·rename_i t S1 kx;exact⟨fn,c,t0,_,t,S1,_,hJ,hb,mz,kx,.inl ⟨.inr rfl,rfl⟩,h⟩
      ·rename_i v t S1 kx;exact⟨fn,c,t0,_,t,S1,_,hJ,hb,mz,kx,.inr ⟨v,rfl,rfl⟩,h⟩
      ·cases h
  refine⟨λh=>?_,λh=>?_⟩
  ·obtain⟨fn,c,t0,x,t,S1,md,hJ,hb,mz,kx,hr,he⟩:=body h
   exact(oL hc lf kx).trans (M6 hc he)
  ·intro B w₀ ρ m w args' ha hw hm
   obtain⟨fn,c,t0,x,t,S1,md,hJ,hb,mz,kx,hr,he⟩:=body h
   refine calls_of_wp_defers hJ hb ?_
   refine(avx (n:=0)).1 ?_
   have e2:=M6 hc he
   have e1:=oL hc lf kx
   refine ur hP fM hc lf (r:=none) (λ_=>rfl) c kx (Fr.FM ha mz) hw (hm.first e2) λρ' e a' w' hle dL cF cU=>?_
   have fin:∀u,lB ρ' md u->axY P fn a'.tmps (λe w'=>∃ρ',ρ.le ρ'/\CR ρ' _ e/\WR P B w₀ ρ' (post m _) w') a'.defers u w':=λu iY=>
    X6 hP fM hc he cF iY cU (hm.next e1) λρ2 e w2 h1 h2 h3=>⟨ρ2,Ren.le_trans hle h1,h2,by rwa[po e2]at h3⟩
   rcases hr with⟨hx,rfl⟩|⟨v,rfl,rfl⟩
   ·rcases hx with rfl|rfl<;>cases dL<;>exact fin _ rfl
   ·cases dL with
    |panic _ v' hv=>exact fin _ ⟨v',rfl,hv⟩
theorem WR.start(w:arB)(he:Env (λk=>k<w.heap.size) w):WR P (λk=>k<w.heap.size) w (λ_=>none) (λ_=>none) w:=
 {below:=gU.refl _ _,env:=he,size:=λ_ h=>h,live:=(by intro x o r h;cases h),inj:=(by intro x y ox oy rx ry h;cases h),fresh:=λ_ _=>rfl,rows:=(by intro x n s q h;cases h),nil:=(by intro x el ro r h;cases h),named:=(by intro x o h;cases h),abs:=.none (by intro x d h;cases h)}
end
end Go.Proofs.YtnlkkgpcikkpoaaGreat.Vm
namespace Go.Proofs.YtnlkkgpcikkpoaaGreat.Vm
open Go.RowKit
def Fr.dS(b:List as4)(f:Fr):Fr:={f with base:=b}
theorem Fr.yB(b:List as4)(f:Fr)(i:Nat):(f.dS b).at i=f.at i:=rfl
theorem FW(b:List as4)(f:Fr):bU (f.dS b)=bU f:=by
 funext x;cases x<;>rfl
theorem X7{P:arC}(b:List as4)(t:Fr)(S:VS)(o:ast):jZ P (t.dS b) S o=jZ P t S o:=by
 have h0:oD P (t.dS b) S o=oD P t S o:=by unfold oD;rw[FW]
 have h1:mn P (t.dS b) S o=mn P t S o:=by unfold mn;rw[FW]
 unfold jZ
 rw[h1,h0]
theorem X8(b:List as4)(t:Fr)(i:Nat)(v:Dy):(t.dS b).set i v=(t.set i v).map (Fr.dS b):=by
 rw[Fr.sd,Fr.sd]
 show(match arF i t.n with|true=>_|false=>_)=_
 cases arF i t.n<;>rfl
theorem A7(b:List as4)(t:Fr)(d:Option Tmp)(v:Dy):put (t.dS b) d v=(put t d v).map (Fr.dS b):=by
 cases d with
 |none=>rfl
 |some d=>exact X8 b t d v
theorem X9(b:List as4)(ops:List ast)(t:Fr):mo ops (t.dS b)=mo ops t:=by
 funext j;unfold mo;rfl
def yC{α β:Type}(b:List as4):α×Fr×β->α×Fr×β:=λp=>(p.1,p.2.1.dS b,p.2.2)
def Ya{β:Type}(b:List as4):Fr×β->Fr×β:=λp=>(p.1.dS b,p.2)
theorem M8{P:arC}{call:cQ}(b:List as4)(ops:List ast)(o:ast)(t:Fr)(S:VS):ll P call ops o (t.dS b) S=(ll P call ops o t S).map (yC b):=by
 unfold ll
 rw[X9,X7]
 cases asZ o (mo ops t)with
 |false=>simp only[A7,avU];cases put t o.dst undef<;>rfl
 |true=>
  dsimp only
  cases hs:jZ P t S o with
  |none=>rfl
  |some p=>
   obtain⟨r,S1⟩:=p
   dsimp only
   cases r with
   |val v=>dsimp only;simp only[A7,avU];cases put t o.dst v<;>rfl
   |skip=>dsimp only;simp only[A7,avU];cases put t o.dst undef<;>rfl
   |panic v=>rfl
   |defer d=>rfl
   |enter f args=>
    dsimp only
    cases hc:call f args S1 with
    |none=>rfl
    |some q=>
     obtain⟨cr,S2⟩:=q
     cases cr with
     |ret v=>dsimp only;simp only[A7,avU];cases put t o.dst v<;>rfl
     |panic v=>rfl
theorem M9{P:arC}{call:cQ}(b:List as4)(ops:List ast):∀(l:List ast) (t:Fr) (S:VS),opsV P call false ops l (t.dS b) S=(opsV P call false ops l t S).map (yC b)
 | [],t,S=>rfl
 |o::rest,t,S=>by
  unfold opsV
  cases xU o with
  |some c=>rfl
  |none=>
   dsimp only
   rw[M8]
   cases ll P call ops o t S with
   |none=>rfl
   |some p=>
    obtain⟨v,t1,S1⟩:=p
    cases v with
    |some v=>rfl
    |none=>exact M9 b ops rest t1 S1
theorem Na{P:arC}{call:cQ}(b:List as4)(ops:List ast):∀(l:List ast) (t:Fr) (S:VS),ln P call ops l (t.dS b) S=(ln P call ops l t S).map (Ya b)
 | [],t,S=>rfl
 |o::rest,t,S=>by
  unfold ln
  rw[M8]
  cases ll P call ops o t {S with rd:=[],wr:=[]}with
  |none=>rfl
  |some p=>
   obtain⟨v,t1,S1⟩:=p
   cases v with
   |some v=>rfl
   |none=>
    show(match ln P call ops rest (t1.dS b) _ with|some (t2,S2,gS)=>_|none=>_)=_
    rw[Na b ops rest]
    dsimp only
    cases ln P call ops rest t1 {S1 with rd:=S1.rd++S.rd,wr:=S1.wr++S.wr}with
    |none=>rfl
    |some q=>rfl
theorem Nb(b:List as4){f:Fr->VS->Option (bf×Fr×VS)}(hf:∀t S,f (t.dS b) S=(f t S).map (yC b)):∀(k:Nat) (t:Fr) (S:VS),iter f k (t.dS b) S=(iter f k t S).map (yC b)
 |0,t,S=>rfl
 |k+1,t,S=>by
  unfold iter
  rw[hf]
  cases f t S with
  |none=>rfl
  |some p=>
   obtain⟨x,t1,S1⟩:=p
   cases x with
   |normal=>exact Nb b hf k t1 S1
   |exit id=>rfl
   |ret=>rfl
   |panic v=>rfl
theorem Yb{P:arC}{call:cQ}(lf:Nat)(b:List as4):∀(c:ar3) (t:Fr) (S:VS),dz P call lf false c (t.dS b) S=(dz P call lf false c t S).map (yC b):=by
 intro c
 induction c with
 |skip=>intro t S;rfl
 |region id ops dr=>
  intro t S
  cases dr with
  |false=>exact M9 b _ _ t S
  |true=>
   unfold dz
   rw[Na]
   cases ln P call ops.toList ops.toList t S with
   |none=>rfl
   |some p=>
    obtain⟨t1,S1,gS⟩:=p
    show(match tS ops gS with|true=>_|false=>_)=axx _ (match tS ops gS with|true=>_|false=>_)
    cases tS ops gS<;>rfl
 |seq x y rk rl=>
  intro t S
  unfold dz
  rw[rk]
  cases dz P call lf false x t S with
  |none=>rfl
  |some p=>
   obtain⟨e,t1,S1⟩:=p
   cases e with
   |normal=>exact rl t1 S1
   |exit id=>rfl
   |ret=>rfl
   |panic v=>rfl
 |cond c x y rk rl=>
  intro t S
  unfold dz
  rw[FW]
  split
  ·exact rk t S
  ·exact rl t S
  ·rfl
 |block id c ih=>
  intro t S
  unfold dz
  rw[ih]
  cases dz P call lf false c t S with
  |none=>rfl
  |some p=>
   obtain⟨e,t1,S1⟩:=p
   cases e with
   |exit j=>
    show(match arE j id with|true=>_|false=>_)=axx _ (match arE j id with|true=>_|false=>_)
    cases arE j id<;>rfl
   |normal=>rfl
   |ret=>rfl
   |panic v=>rfl
 |loop c ih=>intro t S;exact Nb b ih lf t S
 |exit id=>intro t S;rfl
 |ret=>intro t S;rfl
 |scope c ih=>intro t S;exact ih t S
 |label l=>intro t S;rfl
 |_=>intros;rfl
def sJ:Obj->Bool
 | .deferred _| .loop _=>true
 |_=>false
theorem OR.row{P:arC}{ρ:Ren}{r:bV}{o:ak}{o':Obj}(h:OR P ρ r o o'):sJ o'=false:=by cases h<;>rfl
section
variable {P:arC} {B:Nat->Prop} {w₀ w w':arB} {ρ:Ren} {g:Nat->Option ak} {M:List Nat}
theorem SR.FX(hb:gU B w₀ w){s:SV}{v:Dy}(h:SR P w₀ B s v):SR P w (λk=>B k\/k∈M) s v:=by
 induction h with
 |val v h=>exact .val v h
 |nil el a=>exact .nil el a
 |cells n c el b off cap c' cj fr hB jl hc hl hn jv=>exact .cells n c el b off cap c' cj fr (.inl hB) ((hb.block b hB).trans jl) hc hl hn jv
 |qQ size row a=>exact .qQ size row a
 |rows n size row b off cap c' cj fr hB jl hl hn jv hlen u hu hr ih=>exact .rows n size row b off cap c' cj fr (.inl hB) ((hb.block b hB).trans jl) hl hn jv hlen u hu ih
theorem SR.FY(hb:gU B w₀ w)(hq:∀D∈M,∃o,w.heap[D]?=some o/\sJ o=true){s:SV}{v:Dy}(h:SR P w (λk=>B k\/k∈M) s v):SR P w₀ B s v:=by
 have key:∀{b:Nat} {c':Array Dy} {cj:KS} {fr:Nat×Nat},(B b\/b∈M)->w.heap[b]?=some (.cells c' cj fr)->B b:=λhB jl=>by
  rcases hB with hB|hB
  ·exact hB
  ·obtain⟨o,h1,h2⟩:=hq _ hB
   rw[jl]at h1
   cases h1
   cases h2
 induction h with
 |val v h=>exact .val v h
 |nil el a=>exact .nil el a
 |cells n c el b off cap c' cj fr hB jl hc hl hn jv=>exact .cells n c el b off cap c' cj fr (key hB jl) ((hb.block b (key hB jl)).symm.trans jl) hc hl hn jv
 |qQ size row a=>exact .qQ size row a
 |rows n size row b off cap c' cj fr hB jl hl hn jv hlen u hu hr ih=>exact .rows n size row b off cap c' cj fr (key hB jl) ((hb.block b (key hB jl)).symm.trans jl) hl hn jv hlen u hu ih
theorem nL.FX(hb:gU B w₀ w){r:bV}{n size:Nat}{row:Nat->List SV}(h:nL P w₀ B r n size row):nL P w (λk=>B k\/k∈M) r n size row:=by
 obtain⟨h1,h2,c',cj,fr,h3,h4,h5,h6⟩:=h
 exact⟨.inl h1,h2,c',cj,fr,(hb.block _ h1).trans h3,h4,h5,λi hi=>⟨(h6 i hi).1,λk sv hk=>let⟨v',a,b⟩:=(h6 i hi).2 k sv hk;⟨v',a,b.FX hb⟩⟩⟩
theorem nL.FY(hb:gU B w₀ w)(hq:∀D∈M,∃o,w.heap[D]?=some o/\sJ o=true){r:bV}{n size:Nat}{row:Nat->List SV}(h:nL P w (λk=>B k\/k∈M) r n size row):nL P w₀ B r n size row:=by
 obtain⟨h1,h2,c',cj,fr,h3,h4,h5,h6⟩:=h
 have hB:B r.aH:=by
  rcases h1 with h1|h1
  ·exact h1
  ·obtain⟨o,a,b⟩:=hq _ h1
   rw[h3]at a
   cases a
   cases b
 exact⟨hB,h2,c',cj,fr,(hb.block _ hB).symm.trans h3,h4,h5,λi hi=>⟨(h6 i hi).1,λk sv hk=>let⟨v',a,b⟩:=(h6 i hi).2 k sv hk;⟨v',a,b.FY hb hq⟩⟩⟩
theorem WR.A8(h:WR P B w₀ ρ g w)(hq:∀D∈M,∃o,w.heap[D]?=some o/\sJ o=true):WR P (λk=>B k\/k∈M) w ρ g w where
 env:=h.env.next h.below λ_ hk=>.inl hk
 below:=gU.refl _ _
 size:=by
  rintro k (hk|hk)
  ·exact h.size k hk
  ·obtain⟨o,a,_⟩:=hq k hk
   exact(asq.1 a).1
 live:=λx o r hx hr hl=>by
  obtain⟨o',h1,h2,h3⟩:=h.live x o r hx hr hl
  refine⟨o',h1,h2,λe=>?_⟩
  rintro(hk|hk)
  ·exact h3 e hk
  ·obtain⟨o2,a,b⟩:=hq _ hk
   rw[h1]at a
   cases a
   rw[h2.row]at b
   cases b
 inj:=h.inj
 fresh:=h.fresh
 rows:=λx n size row hx=>let⟨r,a,b⟩:=h.rows x n size row hx;⟨r,a,λhn=>(b hn).FX h.below⟩
 nil:=h.nil
 named:=h.named
 abs:=by
  obtain⟨F,a1,a2,a3⟩:=h.abs
  refine⟨λx k=>F x k/\∃o,w.heap[k]?=some o/\z2 o=true,λx d hx=>?_,λx k hk=>?_,λx y k p q=>a3 x y k p.1 q.1⟩
  ·obtain⟨r,S,c,e,f⟩:=a1 x d hx
   exact⟨r,S,c,e,λk hk=>⟨f k hk,e.row k hk⟩⟩
  ·obtain⟨b1,b2,b3,b4⟩:=a2 x k hk.1
   refine⟨b1,b2,?_,b4⟩
   rintro(hB|hM)
   ·exact b3 hB
   ·obtain⟨o,ho,hr⟩:=hk.2
    obtain⟨o2,yD,hn⟩:=hq k hM
    rw[ho]at yD
    cases yD
    cases o<;>first|(cases hr;done)|(cases hn;done)
theorem WR.A9(h:WR P (λk=>B k\/k∈M) w ρ g w')(he:Env B w₀)(hb:gU B w₀ w)(hs:∀k,B k->k<w.heap.size)(hq:∀D∈M,∃o,w.heap[D]?=some o/\sJ o=true):WR P B w₀ ρ g w' where
 env:=he
 below:=hb.trans ⟨h.below.os,h.below.tape,h.below.output,h.below.size,λk hk=>h.below.block k (.inl hk)⟩
 size:=λk hk=>h.size k (.inl hk)
 live:=λx o r hx hr hl=>by
  obtain⟨o',h1,h2,h3⟩:=h.live x o r hx hr hl
  exact⟨o',h1,h2,λe hk=>h3 e (.inl hk)⟩
 inj:=h.inj
 fresh:=h.fresh
 rows:=λx n size row hx=>let⟨r,a,b⟩:=h.rows x n size row hx;⟨r,a,λhn=>(b hn).FY hb hq⟩
 nil:=h.nil
 named:=h.named
 abs:=h.abs.next (λx d hx=>⟨hx,rfl⟩) (λk _ a b=>⟨rfl,λhB=>a (.inl hB),b⟩) (arO _)
theorem WR.Ba(h:WR P (λk=>B k\/k∈M) w ρ g w'){D:Nat}(hD:D∈M):w'.heap[D]?=w.heap[D]? :=h.below.block D (.inr hD)
end
end Go.Proofs.YtnlkkgpcikkpoaaGreat.Vm
