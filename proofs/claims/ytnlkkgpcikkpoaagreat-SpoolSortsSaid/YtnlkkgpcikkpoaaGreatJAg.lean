/- Part of the proof: Dkf, Dkr, Dkl, Dkm, Dkn, Move, Soz, So0, So1, StT, So2, So3. -/
import Derived.Test.YtnlkkgpcikkpoaaGreatJAf
import Derived.KernelRfl
import Derived.Test.YtnlkkgpcikkpoaaGreatJAe
import Derived.Lib.Bytealg
import Derived.Test.YtnlkkgpcikkpoaaGreatChecked
import Derived.Lib.Strings
import Derived.Lib.Walk
import Derived.WalkKit
import Derived.Lib.BytesEntry
open Array renaming toArray_toList->asB
open Bool renaming and_eq_true->BV,not_eq_true'->atx
open ByteArray renaming empty->KI
open Classical renaming propDecidable->arT
open Go renaming Calls->au6,Code->ar3,FuncId->arY,MapEntry->arW,Value->Dy,World->arB,run_callFunc_extern->avQ
open Go.Extern.BytealgCompare renaming compare->axE
open Go.Extern.BytealgIndexByte renaming indexByte->atL
open Go.Extern.Bytes renaming asByte->aw2,bytesOf->avJ
open Go.IntKind renaming i64->Ul,wrap->m6
open Go.Lib renaming bytesOf->awF,compareBytes->asM,indexByte->auQ
open Go.MapEntry renaming mk->asQ
open Go.Oper renaming upon_value->awA
open Go.Proofs.Tryz renaming func104->ax2,func80->ayf,ntmps80->ax1,prog->fK
open Go.Result renaming andThen->au7
open Go.Value renaming int->KJ,map->atQ,pointer->asy,string->arS
open Int renaming toNat->m5
open List renaming all->DC,all_append->avI,all_eq_true->ar1,any_eq_false->auh,append_nil->asg,drop->as3,drop_drop->asI,filter_append->aw8,foldl_cons->att,getElem?_append_right->asd,getElem?_cons_succ->asF,getElem?_cons_zero->asf,getElem?_drop->asH,getElem?_eq_getElem->KH,getElem?_eq_some_iff->KP,getElem?_map->asT,getElem?_of_mem->asS,getElem?_take_of_lt->au1,length->nG,length_append->KO,length_cons->ar4,length_drop->ass,length_take->asj,map->arV,map_append->asm,map_congr_left->atc,map_id->av2,map_map->at1,mem_cons->arD,mem_cons_of_mem->arG,mem_cons_self->arH,mem_map_of_mem->atb,mem_of_getElem?->ar7,mem_singleton->ar0,nodup_append->aso,pairwise_append->auM,pairwise_cons->atD,range->atX,replicate->awM,set_append_right->avy,take->arP,take_append_drop->asD,zip_cons_cons->auz,zip_nil_right->au0
open Nat renaming beq->arE,ble->arM,blt->arF,eq_of_beq_eq_true->arJ,zero_add->as9
open Option.some renaming injEq->DE
open Prod.mk renaming injEq->KN
open UInt8 renaming le_antisymm->avd
set_option linter.unusedVariables false
set_option linter.unusedSimpArgs false
set_option maxRecDepth 100000
namespace Go.Proofs.YtnlkkgpcikkpoaaGreat
open Go Vm Go.RowKit
noncomputable section
def abC(sc:List (Int×Int))(x0:List Dy)(es:List arW)(ck:Nat)(f5:List Dy)(dm dc dr:Int):List (arY×Sum):=[(69,Sum.one (λ_ _=>some eE) [ap 0] (gd sc x0 es ck 0 f5 dm dc dr) (.ret (aa (cE sc dc))) (gd sc x0 es ck 0 f5 dm (m6 .i64 (dc+1)) (cR sc dc dr)))]
theorem abD(sc:List (Int×Int))(x0:List Dy)(es:List arW)(ck:Nat)(f5:List Dy)(dm dc dr:Int)(hs:(nG sc)<=1000000)(h0:x0.all ag=true)(he:cq es=true)(h5:f5.all ag=true):dD fK (dM fK (dP (abC sc x0 es ck f5 dm dc dr)) 50 40):=
 dU dC mixed (ee (.cons (bB.one (Pd sc x0 es ck 0 f5 dm dc dr hs h0 he h5)) .nil)) 50 40
theorem abE{es:List arW}{x:Int}{f:Option (Nat×Dy)}(hf:fG (aa x) es 0=some f)(sc:List (Int×Int))(x0:List Dy)(ck:Nat)(f5:List Dy)(dm dc dr:Int):aF fK 68 [ap 0,aa x] (gd sc x0 es ck 0 f5 dm dc dr) λr o=>r=.ret (wS f)/\o=gd sc x0 es ck 0 f5 dm dc dr:=HQ rfl rfl (by simp[gd]) hf
theorem abF{es:List arW}{x:Int}{f:Option (Nat×Dy)}(hf:fG (aa x) es 0=some f)(sc:List (Int×Int))(b:ByteArray)(ck:Nat)(fb:ByteArray)(dm dc dr:Int):aF fK 68 [ap 0,aa x] (gv sc (af b) es ck fb.size (af fb) dm dc dr) λr o=>r=.ret (wS f)/\o=gv sc (af b) es ck fb.size (af fb) dm dc dr:=HQ rfl rfl (by simp[gv]) hf
def abG(sc:List (Int×Int))(x0:List Dy)(es:List arW)(ck:Nat)(f5:List Dy)(dm dc dr:Int)(no:Int)(v:Dy):List (arY×Sum):=[(68,Sum.one (λ_ _=>some eE) [ap 0,aa no] (gd sc x0 es ck 0 f5 dm dc dr) (.ret v) (gd sc x0 es ck 0 f5 dm dc dr)),(69,Sum.one (λ_ _=>some eE) [ap 0] (gd sc x0 es ck 0 f5 dm dc dr) (.ret (aa (cE sc dc))) (gd sc x0 es ck 0 f5 dm (m6 .i64 (dc+1)) (cR sc dc dr)))]
theorem B6(sc:List (Int×Int))(x0:List Dy)(es:List arW)(ck:Nat)(f5:List Dy)(dm dc dr no:Int)(v:Dy)(hs:(nG sc)<=1000000)(h0:x0.all ag=true)(he:cq es=true)(h5:f5.all ag=true){f:Option (Nat×Dy)}(hf:fG (aa no) es 0=some f)(hv:v=wS f):dD fK (dM fK (dP (abG sc x0 es ck f5 dm dc dr no v)) 50 40):=by
 subst hv
 exact dU dC mixed (ee (.cons (bB.one (abE hf sc x0 ck f5 dm dc dr)) (.cons (bB.one (Pd sc x0 es ck 0 f5 dm dc dr hs h0 he h5)) .nil))) 50 40
def abH(sc:List (Int×Int))(b:ByteArray)(es:List arW)(ck:Nat)(fb:ByteArray)(dm dc dr:Int)(no:Int):List (arY×Sum):=[(68,Sum.one (λ_ _=>some eE) [ap 0,aa no] (gv sc (af b) es ck fb.size (af fb) dm dc dr) (.ret (ap 4)) (gv sc (af b) es ck fb.size (af fb) dm dc dr)),(69,Sum.one (λ_ _=>some eE) [ap 0] (gv sc (af b) es ck fb.size (af fb) dm dc dr) (.ret (aa (cE sc dc))) (gv sc (af b) es ck fb.size (af fb) dm (m6 .i64 (dc+1)) (cR sc dc dr)))]
theorem abI(sc:List (Int×Int))(b:ByteArray)(es:List arW)(ck:Nat)(fb:ByteArray)(dm dc dr no:Int)(hs:(nG sc)<=1000000)(he:cq es=true){i:Nat}(hf:fG (aa no) es 0=some (some (i,ap 4))):dD fK (dM fK (dP (abH sc b es ck fb dm dc dr no)) 50 40):=
 dU dC mixed (ee (.cons (bB.one (abF hf sc b ck fb dm dc dr)) (.cons (bB.one (Pc sc (af b) es ck fb.size (af fb) dm dc dr hs (by simp) he (by simp))) .nil))) 50 40
def abJ:List ar3:=a7 (dI fK 97)
def Pg:List ar3:=a7 (dI fK 43)
def Ph:List ar3:=a7 (dI fK 98)
def abK:List ar3:=a7 (dI fK 71)
open Tree renaming aQ->mN,dE->mF,fj->mL,fY->mQ,dN->mR,gH->mE
def Pj:Nat->Bool->Bool->Tree->Tree
 |0,_,_,t=>t
 |n+1,d,b,t=>.cY d b (Pj n d b t)
theorem Pk{R:bf->ai->Prop}{c v:Bool}{t:Tree}(n:Nat)(h1:c=v)(h2:t.ok R):(Pj n c v t).ok R:=by
 induction n with
 |zero=>exact h2
 |succ n ih=>exact⟨h1,ih⟩
abbrev wT:=λ(sc:List (Int×Int)) x0 es (ck:Nat) f5 (dm dc dr:Int)=>([ab ([aq 2 (nG sc),.map (some 3),aa dm,aa dc,aa dr]) 80,ab x0 5,ab (aI sc) 77,.map es ck,ab [] 173,ab f5 5]:List ak)
abbrev Pm:=λ(sc:List (Int×Int)) x0 es (ck:Nat) f5 (dm dc dr:Int)=>(⟨[(2,aa 0),(3,aa 17)],wT sc x0 es ck f5 dm dc dr⟩:ai)
theorem abL(sc:List (Int×Int))(x0 es)(ck:Nat)(f5)(dm dc dr:Int){Q:bu}(aY:DC x0 ag)(cC:DC (bI [0,1,2,3,4,5] es) ag=true)(bO:DC f5 ag)(hq:Q (.ret (.tuple #[aa 0,aa 17])) (wT sc x0 es ck f5 dm dc dr)):aG fK 97 47 6 Q .ret (Pm sc x0 es ck f5 dm dc dr):=aG.ret (vs:=[aa 0,aa 17]) (l:=[]) (bs:=[0,1,2,3,4,5]) (pl:=[1,2,3,5]) (q:=[x0,aI sc,bI [0,1,2,3,4,5] es,f5]) (λu=>by kernel_rfl) (by kernel_rfl) (aD aY (aD (bt sc) (aD cC (aD bO be)))) hq
abbrev Pn:=λ(sc:List (Int×Int)) x0 es (ck:Nat) f5 (dm dc dr:Int)=>(⟨[(2,aa 0),(3,aa (cE sc dc))],[ab ([aq 2 (nG sc),.map (some 3),aa dm,.int .i64 (m6 .i64 (dc+1)),aa (cR sc dc dr)]) 80,ab x0 5,ab (aI sc) 77,.map es ck,ab [] 173,ab f5 5]⟩:ai)
theorem abM(sc:List (Int×Int))(x0 es)(ck:Nat)(f5)(dm dc dr:Int){Q:bu}(aY:DC x0 ag)(cC:DC (bI [0,1,2,3,4,5] es) ag=true)(bO:DC f5 ag)(hq:Q (.ret (.tuple #[aa 0,aa (cE sc dc)])) [ab ([aq 2 (nG sc),.map (some 3),aa dm,.int .i64 (m6 .i64 (dc+1)),aa (cR sc dc dr)]) 80,ab x0 5,ab (aI sc) 77,.map es ck,ab [] 173,ab f5 5]):aG fK 97 47 6 Q .ret (Pn sc x0 es ck f5 dm dc dr):=aG.ret (vs:=[aa 0,aa (cE sc dc)]) (l:=[]) (bs:=[0,1,2,3,4,5]) (pl:=[1,2,3,5]) (q:=[x0,aI sc,bI [0,1,2,3,4,5] es,f5]) (λu=>by kernel_rfl) (by kernel_rfl) (aD aY (aD (bt sc) (aD cC (aD bO be)))) hq
abbrev Po:=λ(sc:List (Int×Int)) x0 es (ck:Nat) f5 (dm dc dr:Int)=>(⟨[(2,.int .i64 (m6 .i64 (dm+1))),(3,aa 0)],[ab ([aq 2 (nG sc),.map (some 3),.int .i64 (m6 .i64 (dm+1)),.int .i64 (m6 .i64 (dc+1)),aa (cR sc dc dr)]) 80,ab x0 5,ab (aI sc) 77,.map (es++[asQ (KJ Ul (m6 .i64 (dm+1))) (ap 6) ck]) (ck+1),ab [] 173,ab f5 5,ab [ci] 173]⟩:ai)
theorem abN(sc:List (Int×Int))(x0 es)(ck:Nat)(f5)(dm dc dr:Int){Q:bu}(aY:DC x0 ag)(cC:DC (bI [0,1,2,3,4,5,6] (es++[asQ (KJ Ul (m6 .i64 (dm+1))) (ap 6) ck])) ag=true)(bO:DC f5 ag)(hq:Q (.ret (.tuple #[.int .i64 (m6 .i64 (dm+1)),aa 0])) [ab ([aq 2 (nG sc),.map (some 3),.int .i64 (m6 .i64 (dm+1)),.int .i64 (m6 .i64 (dc+1)),aa (cR sc dc dr)]) 80,ab x0 5,ab (aI sc) 77,.map (es++[asQ (KJ Ul (m6 .i64 (dm+1))) (ap 6) ck]) (ck+1),ab [] 173,ab f5 5,ab [ci] 173]):aG fK 97 47 6 Q .ret (Po sc x0 es ck f5 dm dc dr):=aG.ret (vs:=[.int .i64 (m6 .i64 (dm+1)),aa 0]) (l:=[]) (bs:=[0,1,2,3,4,5,6]) (pl:=[1,2,3,5]) (q:=[x0,aI sc,bI [0,1,2,3,4,5,6] (es++[asQ (KJ Ul (m6 .i64 (dm+1))) (ap 6) ck]),f5]) (λu=>by kernel_rfl) (by kernel_rfl) (aD aY (aD (bt sc) (aD cC (aD bO be)))) hq
theorem abO(sc:List (Int×Int))(x0:List Dy)(es:List arW)(ck:Nat)(f5:List Dy)(dm dc dr:Int)(hs:(nG sc)<=1000000)(h0:x0.all ag=true)(he:cq es=true)(h5:f5.all ag=true)(wA:0<=dm)(kG:dm<=64)(hw:m6 .i64 (dm+1)=dm+1)(hp:(aI sc).all ag=true)(h6:(bI eE es).all ag=true)(h4:(es.map (eD λi=>(eE++fD 6 0)[i]?)).all ag=true){Q:aU}(aY:DC x0 ag)(bh:DC (aI sc) ag)(bT:DC (bI [0,1,2,3,4,5] es) ag)(bO:DC f5 ag)(l4:(dm==64)->Q .ret (Pm sc x0 es ck f5 dm dc dr))(n5:(dm==64)=false->(fZ [ap 0] [ap 0] [ab [aq 2 (nG sc),atQ (some (0+1+1+1)),aa dm,aa dc,aa dr] 80,ab x0 5,ab (aI sc) 77,ak.map es ck,ab [] 173,ab f5 5] (gd sc x0 es ck 0 f5 dm dc dr)))(l6:(dm==64)=false->(cE sc dc != 0)->Q .ret (Pn sc x0 es ck f5 dm dc dr))(n7:(dm==64)=false->(cE sc dc != 0)=false->(yE es (KJ Ul (m6 .i64 (dm+1)))))(nu:DC (bI [0,1,2,3,4,5,6] (es++[asQ (KJ Ul (m6 .i64 (dm+1))) (ap 6) ck])) ag)(l9:(dm==64)=false->(cE sc dc != 0)=false->Q .ret (Po sc x0 es ck f5 dm dc dr)):ao fK 47 6 abJ ⟨[(0,ap 0)],[ab [aq 2 (nG sc),.map (some 3),aa dm,aa dc,aa dr] 80,ab x0 5,ab (aI sc) 77,.map es ck,ab [] 173,ab f5 5]⟩ Q:=
 aV (abD sc x0 es ck f5 dm dc dr hs h0 he h5) 1000 (.fork 9 (.leaf [2,3] [0,1,2,3,4,5] [1,2,3,5]) (aB [3,1,1,1,1,1,1,1,1] (.fork 0 (.leaf [2,3] [0,1,2,3,4,5] [1,2,3,5]) (aB [8,1] (.leaf [2,3] [0,1,2,3,4,5,6] [1,2,3,5]))))) (λu=>by kernel_rfl) (mF (c:=dm==64) (λh0=>(mN aY (mN (bt sc) (mN bT (mN bO (mR (l4 h0))))))) (λh0=>(mN (show(DC x0 ag)=true by assumption) (mN (bt sc) (mN (show(DC (arV (eD (fh eE)) es) ag)=true by assumption) (mN (show(DC f5 ag)=true by assumption) (mN (n5 h0) (mN (show(DC x0 ag)=true by assumption) (mN (bt sc) (mN (show(DC (arV (eD λi=>(eE++fD 6 (nG (gd sc x0 es ck 0 f5 dm (m6 .i64 (dc+1)) (cR sc dc dr))-6))[i]?) es) ag)=true by assumption) (mN (show(DC f5 ag)=true by assumption) (mF (c:=cE sc dc != 0) (λh1=>(mN aY (mN (bt sc) (mN bT (mN bO (mR (l6 h0 h1))))))) (λh1=>(mN (n7 h0 h1) (mN aY (mN (bt sc) (mN nu (mN bO (mR (l9 h0 h1))))))))))))))))))))
abbrev Pp:=λ(sc:List (Int×Int)) x0 es (ck:Nat) f5 (dm dc dr no:Int) (kb ks i:Nat)=>(⟨[(4,aa (cE sc dc))],[ab ([aq 2 (nG sc),.map (some 3),aa dm,.int .i64 (m6 .i64 (dc+1)),aa (cR sc dc dr)]) 80,ab x0 5,ab (aI sc) 77,.map (px es (aa no)) ck,ab [] 173,ab f5 5]⟩:ai)
theorem abP(sc:List (Int×Int))(x0 es)(ck:Nat)(f5)(dm dc dr no:Int)(kb ks i:Nat){Q:bu}(aY:DC x0 ag)(cC:DC (bI [0,1,2,3,4,5] (px es (aa no))) ag=true)(bO:DC f5 ag)(hq:Q (.ret (aa (cE sc dc))) [ab ([aq 2 (nG sc),.map (some 3),aa dm,.int .i64 (m6 .i64 (dc+1)),aa (cR sc dc dr)]) 80,ab x0 5,ab (aI sc) 77,.map (px es (aa no)) ck,ab [] 173,ab f5 5]):aG fK 43 20 6 Q .ret (Pp sc x0 es ck f5 dm dc dr no kb ks i):=aG.ret (vs:=[aa (cE sc dc)]) (l:=[]) (bs:=[0,1,2,3,4,5]) (pl:=[1,2,3,5]) (q:=[x0,aI sc,bI [0,1,2,3,4,5] (px es (aa no)),f5]) (λu=>by kernel_rfl) (by kernel_rfl) (aD aY (aD (bt sc) (aD cC (aD bO be)))) hq
abbrev Pq:=λ(sc:List (Int×Int)) x0 es (ck:Nat) f5 (dm dc dr no:Int) (kb ks i:Nat)=>(⟨[(4,aa (cE sc dc))],[ab ([aq 2 (nG sc),.map (some 3),aa dm,.int .i64 (m6 .i64 (dc+1)),aa (cR sc dc dr)]) 80,ab x0 5,ab (aI sc) 77,.map es ck,ab [] 173,ab f5 5]⟩:ai)
theorem abQ(sc:List (Int×Int))(x0 es)(ck:Nat)(f5)(dm dc dr no:Int)(kb ks i:Nat){Q:bu}(aY:DC x0 ag)(cC:DC (bI [0,1,2,3,4,5] es) ag=true)(bO:DC f5 ag)(hq:Q (.ret (aa (cE sc dc))) [ab ([aq 2 (nG sc),.map (some 3),aa dm,.int .i64 (m6 .i64 (dc+1)),aa (cR sc dc dr)]) 80,ab x0 5,ab (aI sc) 77,.map es ck,ab [] 173,ab f5 5]):aG fK 43 20 6 Q .ret (Pq sc x0 es ck f5 dm dc dr no kb ks i):=aG.ret (vs:=[aa (cE sc dc)]) (l:=[]) (bs:=[0,1,2,3,4,5]) (pl:=[1,2,3,5]) (q:=[x0,aI sc,bI [0,1,2,3,4,5] es,f5]) (λu=>by kernel_rfl) (by kernel_rfl) (aD aY (aD (bt sc) (aD cC (aD bO be)))) hq
theorem abR(sc:List (Int×Int))(x0:List Dy)(es:List arW)(ck:Nat)(f5:List Dy)(dm dc dr no:Int)(kb ks i:Nat)(hs:(nG sc)<=1000000)(h0:x0.all ag=true)(he:cq es=true)(h5:f5.all ag=true)(hf:fG (aa no) es 0=some (some (i,.pointer (some ⟨kb,ks,some 0⟩))))(hk:we es (aa no)=true)(hp:(aI sc).all ag=true)(h6:(bI eE es).all ag=true)(h4:(es.map (eD λi=>(eE++fD 6 0)[i]?)).all ag=true){Q:aU}(n0:(fZ [ap 0,aa no] [ap 0,aa no] [ab [aq 2 (nG sc),atQ (some (0+1+1+1)),aa dm,aa dc,aa dr] 80,ab x0 5,ab (aI sc) 77,ak.map es ck,ab [] 173,ab f5 5] (gd sc x0 es ck 0 f5 dm dc dr)))(n1:(fZ [ap 0] [ap 0] [ab [aq 2 (nG sc),atQ (some (0+1+1+1)),aa dm,aa dc,aa dr] 80,ab x0 5,ab (aI sc) 77,ak.map es ck,ab [] 173,ab f5 5] (gd sc x0 es ck 0 f5 dm dc dr)))(aY:DC x0 ag)(bh:DC (aI sc) ag)(bT:DC (bI [0,1,2,3,4,5] (px es (aa no))) ag)(bO:DC f5 ag)(l6:(cE sc dc==0)->Q .ret (Pp sc x0 es ck f5 dm dc dr no kb ks i))(nu:DC (bI [0,1,2,3,4,5] es) ag)(l8:(cE sc dc==0)=false->Q .ret (Pq sc x0 es ck f5 dm dc dr no kb ks i)):ao fK 20 6 Pg ⟨[(0,ap 0),(1,aa no)],[ab [aq 2 (nG sc),.map (some 3),aa dm,aa dc,aa dr] 80,ab x0 5,ab (aI sc) 77,.map es ck,ab [] 173,ab f5 5]⟩ Q:=
 aV (B6 sc x0 es ck f5 dm dc dr no (.pointer (some ⟨kb,ks,some 0⟩)) hs h0 he h5 hf rfl) 1000 (aB [3,1,1,1,1,1,1,1,1,5,1,1,1,1,1,1,1,1] (.fork 0 (aB [2,1] (.leaf [4] [0,1,2,3,4,5] [1,2,3,5])) (.leaf [4] [0,1,2,3,4,5] [1,2,3,5]))) (λu=>by kernel_rfl) (mN (show(DC x0 ag)=true by assumption) (mN (bt sc) (mN (show(DC (arV (eD (fh eE)) es) ag)=true by assumption) (mN (show(DC f5 ag)=true by assumption) (mN n0 (mN (show(DC x0 ag)=true by assumption) (mN (bt sc) (mN (show(DC (arV (eD λi=>(eE++fD 6 (nG (gd sc x0 es ck 0 f5 dm dc dr)-6))[i]?) es) ag)=true by assumption) (mN (show(DC f5 ag)=true by assumption) (mN (show(DC x0 ag)=true by assumption) (mN (bt sc) (mN (show(DC (arV (eD (fh eE)) es) ag)=true by assumption) (mN (show(DC f5 ag)=true by assumption) (mN n1 (mN (show(DC x0 ag)=true by assumption) (mN (bt sc) (mN (show(DC (arV (eD λi=>(eE++fD 6 (nG (gd sc x0 es ck 0 f5 dm (m6 .i64 (dc+1)) (cR sc dc dr))-6))[i]?) es) ag)=true by assumption) (mN (show(DC f5 ag)=true by assumption) (mF (c:=cE sc dc==0) (λh0=>(mN (show(we es (aa no))=true by assumption) (mN aY (mN (bt sc) (mN bT (mN bO (mR (l6 h0)))))))) (λh0=>(mN aY (mN (bt sc) (mN nu (mN bO (mR (l8 h0))))))))))))))))))))))))))
abbrev Pr:=λ(sc:List (Int×Int)) x0 es (ck:Nat) f5 (dm dc dr no:Int)=>(⟨[(4,aa 1)],wT sc x0 es ck f5 dm dc dr⟩:ai)
theorem abS(sc:List (Int×Int))(x0 es)(ck:Nat)(f5)(dm dc dr no:Int){Q:bu}(aY:DC x0 ag)(cC:DC (bI [0,1,2,3,4,5] es) ag=true)(bO:DC f5 ag)(hq:Q (.ret (aa 1)) (wT sc x0 es ck f5 dm dc dr)):aG fK 43 20 6 Q .ret (Pr sc x0 es ck f5 dm dc dr no):=aG.ret (vs:=[aa 1]) (l:=[]) (bs:=[0,1,2,3,4,5]) (pl:=[1,2,3,5]) (q:=[x0,aI sc,bI [0,1,2,3,4,5] es,f5]) (λu=>by kernel_rfl) (by kernel_rfl) (aD aY (aD (bt sc) (aD cC (aD bO be)))) hq
theorem abT(sc:List (Int×Int))(x0:List Dy)(es:List arW)(ck:Nat)(f5:List Dy)(dm dc dr no:Int)(hs:(nG sc)<=1000000)(h0:x0.all ag=true)(he:cq es=true)(h5:f5.all ag=true)(hf:fG (aa no) es 0=some none)(hp:(aI sc).all ag=true)(h6:(bI eE es).all ag=true)(h4:(es.map (eD λi=>(eE++fD 6 0)[i]?)).all ag=true){Q:aU}(n0:(fZ [ap 0,aa no] [ap 0,aa no] [ab [aq 2 (nG sc),atQ (some (0+1+1+1)),aa dm,aa dc,aa dr] 80,ab x0 5,ab (aI sc) 77,ak.map es ck,ab [] 173,ab f5 5] (gd sc x0 es ck 0 f5 dm dc dr)))(aY:DC x0 ag)(bh:DC (aI sc) ag)(bT:DC (bI [0,1,2,3,4,5] es) ag)(bO:DC f5 ag)(l5:Q .ret (Pr sc x0 es ck f5 dm dc dr no)):ao fK 20 6 Pg ⟨[(0,ap 0),(1,aa no)],[ab [aq 2 (nG sc),.map (some 3),aa dm,aa dc,aa dr] 80,ab x0 5,ab (aI sc) 77,.map es ck,ab [] 173,ab f5 5]⟩ Q:=
 aV (B6 sc x0 es ck f5 dm dc dr no (.pointer none) hs h0 he h5 hf rfl) 1000 (aB [3,1,1,1,1,1,1,1,1] (.leaf [4] [0,1,2,3,4,5] [1,2,3,5])) (λu=>by kernel_rfl) (mN (show(DC x0 ag)=true by assumption) (mN (bt sc) (mN (show(DC (arV (eD (fh eE)) es) ag)=true by assumption) (mN (show(DC f5 ag)=true by assumption) (mN n0 (mN (show(DC x0 ag)=true by assumption) (mN (bt sc) (mN (show(DC (arV (eD λi=>(eE++fD 6 (nG (gd sc x0 es ck 0 f5 dm dc dr)-6))[i]?) es) ag)=true by assumption) (mN (show(DC f5 ag)=true by assumption) (mN aY (mN (bt sc) (mN bT (mN bO (mR l5))))))))))))))
abbrev B7:=λ(sc:List (Int×Int)) b es (ck:Nat) (fb:ByteArray) (dm dc dr:Int)=>([ab ([aq 2 (nG sc),.map (some 3),aa dm,aa dc,aa dr]) 80,ab (af b) 5,ab (aI sc) 77,.map es ck,ab [aq 5 fb.size] 173,ab (af fb) 5]:List ak)
abbrev Ps:=λ(sc:List (Int×Int)) b es (ck:Nat) fb (dm dc dr no:Int) (i:Nat)=>(⟨[(6,aa 1)],B7 sc b es ck fb dm dc dr⟩:ai)
theorem abU(sc:List (Int×Int))(b es)(ck:Nat)(fb)(dm dc dr no:Int)(i:Nat){Q:bu}(cC:DC (bI [0,1,2,3,4,5] es) ag=true)(hq:Q (.ret (aa 1)) (B7 sc b es ck fb dm dc dr)):aG fK 98 40 6 Q .ret (Ps sc b es ck fb dm dc dr no i):=aG.ret (vs:=[aa 1]) (l:=[]) (bs:=[0,1,2,3,4,5]) (pl:=[1,2,3,5]) (q:=[af b,aI sc,bI [0,1,2,3,4,5] es,af fb]) (λu=>by kernel_rfl) (by kernel_rfl) (aD (aE b) (aD (bt sc) (aD cC (aD (aE fb) be)))) hq
abbrev Pt:=λ(sc:List (Int×Int)) b es (ck:Nat) fb (dm dc dr no:Int) (i:Nat)=>(⟨[(6,aa 1)],B7 sc b es ck fb dm dc dr⟩:ai)
theorem abV(sc:List (Int×Int))(b es)(ck:Nat)(fb)(dm dc dr no:Int)(i:Nat){Q:bu}(cC:DC (bI [0,1,2,3,4,5] es) ag=true)(hq:Q (.ret (aa 1)) (B7 sc b es ck fb dm dc dr)):aG fK 98 40 6 Q .ret (Pt sc b es ck fb dm dc dr no i):=aG.ret (vs:=[aa 1]) (l:=[]) (bs:=[0,1,2,3,4,5]) (pl:=[1,2,3,5]) (q:=[af b,aI sc,bI [0,1,2,3,4,5] es,af fb]) (λu=>by kernel_rfl) (by kernel_rfl) (aD (aE b) (aD (bt sc) (aD cC (aD (aE fb) be)))) hq
abbrev Pu:=λ(sc:List (Int×Int)) (b:ByteArray) es (ck:Nat) (fb:ByteArray) (dm dc dr no:Int) (i:Nat)=>(⟨[(6,aa (cE sc dc))],[ab ([aq 2 (nG sc),.map (some 3),aa dm,.int .i64 (m6 .i64 (dc+1)),aa (cR sc dc dr)]) 80,ab (af b) 5,ab (aI sc) 77,.map es ck,ab [aq 6 (fb.size+b.size)] 173,.dead,ab (af fb++arP (b.size*1) (af b)) 5]⟩:ai)
theorem abW(sc:List (Int×Int))(b:ByteArray)(es)(ck:Nat)(fb:ByteArray)(dm dc dr no:Int)(i:Nat){Q:bu}(aY:DC (af b) ag)(bh:DC (aI sc) ag)(cC:DC (bI [0,1,2,3,4,5,6] es) ag=true)(hq:Q (.ret (aa (cE sc dc))) [ab ([aq 2 (nG sc),.map (some 3),aa dm,.int .i64 (m6 .i64 (dc+1)),aa (cR sc dc dr)]) 80,ab (af b) 5,ab (aI sc) 77,.map es ck,ab [aq 6 (fb.size+b.size)] 173,.dead,ab (af fb++arP (b.size*1) (af b)) 5]):aG fK 98 40 6 Q .ret (Pu sc b es ck fb dm dc dr no i):=aG.ret (vs:=[aa (cE sc dc)]) (l:=[]) (bs:=[0,1,2,3,4,5,6]) (pl:=[1,2,3,6]) (q:=[af b,aI sc,bI [0,1,2,3,4,5,6] es,af fb++arP (b.size*1) (af b)]) (λu=>by kernel_rfl) (by kernel_rfl) (aD aY (aD bh (aD cC (aD (by simp) be)))) hq
abbrev Pv:=λ(sc:List (Int×Int)) b es (ck:Nat) (fb:ByteArray) (dm dc dr no:Int) (i:Nat)=>(⟨[(6,aa (cE sc dc))],[ab ([aq 2 (nG sc),.map (some 3),aa dm,.int .i64 (m6 .i64 (dc+1)),aa (cR sc dc dr)]) 80,ab (af b) 5,ab (aI sc) 77,.map es ck,ab [aq 5 fb.size] 173,ab (af fb) 5]⟩:ai)
theorem abX(sc:List (Int×Int))(b es)(ck:Nat)(fb:ByteArray)(dm dc dr no:Int)(i:Nat){Q:bu}(cC:DC (bI [0,1,2,3,4,5] es) ag=true)(hq:Q (.ret (aa (cE sc dc))) [ab ([aq 2 (nG sc),.map (some 3),aa dm,.int .i64 (m6 .i64 (dc+1)),aa (cR sc dc dr)]) 80,ab (af b) 5,ab (aI sc) 77,.map es ck,ab [aq 5 fb.size] 173,ab (af fb) 5]):aG fK 98 40 6 Q .ret (Pv sc b es ck fb dm dc dr no i):=aG.ret (vs:=[aa (cE sc dc)]) (l:=[]) (bs:=[0,1,2,3,4,5]) (pl:=[1,2,3,5]) (q:=[af b,aI sc,bI [0,1,2,3,4,5] es,af fb]) (λu=>by kernel_rfl) (by kernel_rfl) (aD (aE b) (aD (bt sc) (aD cC (aD (aE fb) be)))) hq
theorem abY(sc:List (Int×Int))(b:ByteArray)(es:List arW)(ck:Nat)(fb:ByteArray)(dm dc dr no:Int)(i:Nat)(hs:(nG sc)<=1000000)(he:cq es=true)(hf:fG (aa no) es 0=some (some (i,ap 4)))(hl:fb.size<=1000000)(hp:(aI sc).all ag=true)(h6:(bI eE es).all ag=true)(h4:(es.map (eD λi=>(eE++fD 6 0)[i]?)).all ag=true){Q:aU}(n0:(fZ [ap 0,aa no] [ap 0,aa no] [ab [aq 2 (nG sc),atQ (some (0+1+1+1)),aa dm,aa dc,aa dr] 80,ab (af b) 5,ab (aI sc) 77,ak.map es ck,ab [aq 5 fb.size] 173,ab (af fb) 5] (gv sc (af b) es ck fb.size (af fb) dm dc dr)))(aY:DC (af b) ag)(bh:DC (aI sc) ag)(bT:DC (bI [0,1,2,3,4,5] es) ag)(bO:DC (af fb) ag)(l5:((b.size:Int)==0)->Q .ret (Ps sc b es ck fb dm dc dr no i))(l6:((b.size:Int)==0)=false->(decide ((b.size:Int)>1024))->Q .ret (Pt sc b es ck fb dm dc dr no i))(n7:((b.size:Int)==0)=false->(decide ((b.size:Int)>1024))=false->(fZ [ap 0] [ap 0] [ab [aq 2 (nG sc),atQ (some (0+1+1+1)),aa dm,aa dc,aa dr] 80,ab (af b) 5,ab (aI sc) 77,ak.map es ck,ab [aq 5 fb.size] 173,ab (af fb) 5] (gv sc (af b) es ck fb.size (af fb) dm dc dr))=true)(n8:((b.size:Int)==0)=false->(decide ((b.size:Int)>1024))=false->(cE sc dc==0)->(arM (fb.size+b.size) 1000000)=true)(n9:((b.size:Int)==0)=false->(decide ((b.size:Int)>1024))=false->(cE sc dc==0)->(DC (arP (b.size*1) (af b)) Value.oneCell')=true)(nu:DC (bI [0,1,2,3,4,5,6] es) ag)(iJ:((b.size:Int)==0)=false->(decide ((b.size:Int)>1024))=false->(cE sc dc==0)->Q .ret (Pu sc b es ck fb dm dc dr no i))(kH:((b.size:Int)==0)=false->(decide ((b.size:Int)>1024))=false->(cE sc dc==0)=false->Q .ret (Pv sc b es ck fb dm dc dr no i)):ao fK 40 6 Ph ⟨[(0,ap 0),(1,aa no),(2,aq 1 b.size)],[ab [aq 2 (nG sc),.map (some 3),aa dm,aa dc,aa dr] 80,ab (af b) 5,ab (aI sc) 77,.map es ck,ab [aq 5 fb.size] 173,ab (af fb) 5]⟩ Q:=
 aV (abI sc b es ck fb dm dc dr no hs he hf) 1000 (aB [3,1,1,1,1,1,1,1,1] (.fork 5 (aB [1,1,1] (.leaf [6] [0,1,2,3,4,5] [1,2,3,5])) (aB [0,2,0] (.fork 0 (.leaf [6] [0,1,2,3,4,5] [1,2,3,5]) (aB [3,1,1,1,1,1,1,1,1] (.fork 0 (aB [2,1,1,1,1,1,1] (.leaf [6] [0,1,2,3,4,5,6] [1,2,3,6])) (.leaf [6] [0,1,2,3,4,5] [1,2,3,5]))))))) (λu=>by kernel_rfl) (mN (aE b) (mN (bt sc) (mN (show(DC (arV (eD (fh eE)) es) ag)=true by assumption) (mN (aE fb) (mN n0 (mN (aE b) (mN (bt sc) (mN (show(DC (arV (eD λi=>(eE++fD 6 (nG (gv sc (af b) es ck fb.size (af fb) dm dc dr)-6))[i]?) es) ag)=true by assumption) (mN (aE fb) (mF (c:=(b.size:Int)==0) (λh0=>(Pk 3 h0 (mN (aE b) (mN (bt sc) (mN bT (mN (aE fb) (mR (l5 h0)))))))) (λh0=>(Pk 3 h0 (mF (c:=decide ((b.size:Int)>1024)) (λh1=>(mN (aE b) (mN (bt sc) (mN bT (mN (aE fb) (mR (l6 h0 h1))))))) (λh1=>(mN (aE b) (mN (bt sc) (mN (show(DC (arV (eD (fh eE)) es) ag)=true by assumption) (mN (aE fb) (mN (n7 h0 h1) (mN (aE b) (mN (bt sc) (mN (show(DC (arV (eD λi=>(eE++fD 6 (nG (gv sc (af b) es ck fb.size (af fb) dm (m6 .i64 (dc+1)) (cR sc dc dr))-6))[i]?) es) ag)=true by assumption) (mN (aE fb) (mF (c:=cE sc dc==0) (λh2=>(mN (show(arM (0+b.size*1) (nG (af b)))=true by simp) (mN (n8 h0 h1 h2) (mN (n9 h0 h1 h2) (mN (show(arE (nG (arP (b.size*1) (af b))) (b.size*1))=true by simp) (mN (kY _:(full fb.size fb.size)=true) (mN (show(arE (0+fb.size*1) (nG (af fb)))=true by simp) (mN (aE b) (mN (bt sc) (mN nu (mN (show(DC (af fb++arP (b.size*1) (af b)) ag)=true by simp) (mR (iJ h0 h1 h2))))))))))))) (λh2=>(mN (aE b) (mN (bt sc) (mN bT (mN (aE fb) (mR (kH h0 h1 h2)))))))))))))))))))))))))))))))
abbrev Pw:=λ(sc:List (Int×Int)) b es (ck:Nat) f5 (dm dc dr no:Int)=>(⟨[(6,aa 1)],[ab ([aq 2 (nG sc),.map (some 3),aa dm,aa dc,aa dr]) 80,ab (af b) 5,ab (aI sc) 77,.map es ck,ab [] 173,ab f5 5]⟩:ai)
theorem abZ(sc:List (Int×Int))(b es)(ck:Nat)(f5)(dm dc dr no:Int){Q:bu}(cC:DC (bI [0,1,2,3,4,5] es) ag=true)(bO:DC f5 ag)(hq:Q (.ret (aa 1)) [ab ([aq 2 (nG sc),.map (some 3),aa dm,aa dc,aa dr]) 80,ab (af b) 5,ab (aI sc) 77,.map es ck,ab [] 173,ab f5 5]):aG fK 98 40 6 Q .ret (Pw sc b es ck f5 dm dc dr no):=aG.ret (vs:=[aa 1]) (l:=[]) (bs:=[0,1,2,3,4,5]) (pl:=[1,2,3,5]) (q:=[af b,aI sc,bI [0,1,2,3,4,5] es,f5]) (λu=>by kernel_rfl) (by kernel_rfl) (aD (aE b) (aD (bt sc) (aD cC (aD bO be)))) hq
theorem ab0(sc:List (Int×Int))(b:ByteArray)(es:List arW)(ck:Nat)(f5:List Dy)(dm dc dr no:Int)(hs:(nG sc)<=1000000)(h0:(af b).all ag=true)(he:cq es=true)(h5:f5.all ag=true)(hf:fG (aa no) es 0=some none)(hp:(aI sc).all ag=true)(h6:(bI eE es).all ag=true)(h4:(es.map (eD λi=>(eE++fD 6 0)[i]?)).all ag=true){Q:aU}(n0:(fZ [ap 0,aa no] [ap 0,aa no] [ab [aq 2 (nG sc),atQ (some (0+1+1+1)),aa dm,aa dc,aa dr] 80,ab (af b) 5,ab (aI sc) 77,ak.map es ck,ab [] 173,ab f5 5] (gd sc (af b) es ck 0 f5 dm dc dr)))(aY:DC (af b) ag)(bh:DC (aI sc) ag)(bT:DC (bI [0,1,2,3,4,5] es) ag)(bO:DC f5 ag)(l5:Q .ret (Pw sc b es ck f5 dm dc dr no)):ao fK 40 6 Ph ⟨[(0,ap 0),(1,aa no),(2,aq 1 b.size)],[ab [aq 2 (nG sc),.map (some 3),aa dm,aa dc,aa dr] 80,ab (af b) 5,ab (aI sc) 77,.map es ck,ab [] 173,ab f5 5]⟩ Q:=
 aV (B6 sc (af b) es ck f5 dm dc dr no (.pointer none) hs h0 he h5 hf rfl) 1000 (aB [3,1,1,1,1,1,1,1,1] (.leaf [6] [0,1,2,3,4,5] [1,2,3,5])) (λu=>by kernel_rfl) (mN (aE b) (mN (bt sc) (mN (show(DC (arV (eD (fh eE)) es) ag)=true by assumption) (mN (show(DC f5 ag)=true by assumption) (mN n0 (mN (aE b) (mN (bt sc) (mN (show(DC (arV (eD λi=>(eE++fD 6 (nG (gd sc (af b) es ck 0 f5 dm dc dr)-6))[i]?) es) ag)=true by assumption) (mN (show(DC f5 ag)=true by assumption) (mN (aE b) (mN (bt sc) (mN bT (mN bO (mR l5))))))))))))))
abbrev Px:=λ(sc:List (Int×Int)) x0 es (ck:Nat) f5 (dm dc dr:Int)=>(⟨[(2,aa dr)],wT sc x0 es ck f5 dm dc dr⟩:ai)
theorem ab1(sc:List (Int×Int))(x0 es)(ck:Nat)(f5)(dm dc dr:Int){Q:bu}(aY:DC x0 ag)(cC:DC (bI [0,1,2,3,4,5] es) ag=true)(bO:DC f5 ag)(hq:Q (.ret (aa dr)) (wT sc x0 es ck f5 dm dc dr)):aG fK 71 9 6 Q .ret (Px sc x0 es ck f5 dm dc dr):=aG.ret (vs:=[aa dr]) (l:=[]) (bs:=[0,1,2,3,4,5]) (pl:=[1,2,3,5]) (q:=[x0,aI sc,bI [0,1,2,3,4,5] es,f5]) (λu=>by kernel_rfl) (by kernel_rfl) (aD aY (aD (bt sc) (aD cC (aD bO be)))) hq
theorem ab2(sc:List (Int×Int))(x0 es)(ck:Nat)(f5)(dm dc dr:Int){Q:aU}(aY:DC x0 ag)(bh:DC (aI sc) ag)(bT:DC (bI [0,1,2,3,4,5] es) ag)(bO:DC f5 ag)(l4:Q .ret (Px sc x0 es ck f5 dm dc dr)):ao fK 9 6 abK ⟨[(0,ap 0)],[ab [aq 2 (nG sc),.map (some 3),aa dm,aa dc,aa dr] 80,ab x0 5,ab (aI sc) 77,.map es ck,ab [] 173,ab f5 5]⟩ Q:=
 aV bp 1000 (.leaf [2] [0,1,2,3,4,5] [1,2,3,5]) (λu=>by kernel_rfl) (mN aY (mN (bt sc) (mN bT (mN bO (mR l4)))))
end
noncomputable section
def ab3(sc:List (Int×Int))(es:List arW)(ck:Nat)(fb:ByteArray)(dm dc dr:Int)(no:Int):List (arY×Sum):=[(68,Sum.one (λ_ _=>some eE) [ap 0,aa no] (gv sc [] es ck fb.size (af fb) dm dc dr) (.ret (ap 4)) (gv sc [] es ck fb.size (af fb) dm dc dr)),(69,Sum.one (λ_ _=>some eE) [ap 0] (gv sc [] es ck fb.size (af fb) dm dc dr) (.ret (aa (cE sc dc))) (gv sc [] es ck fb.size (af fb) dm (m6 .i64 (dc+1)) (cR sc dc dr))),(103,Sum.of HO)]
theorem ab4(sc:List (Int×Int))(es:List arW)(ck:Nat)(fb:ByteArray)(dm dc dr no:Int)(hs:(nG sc)<=1000000)(he:cq es=true){i:Nat}(hf:fG (aa no) es 0=some (some (i,ap 4))):dD fK (dM fK (dP (ab3 sc es ck fb dm dc dr no)) 50 40):=
 dU dC mixed (ee (.cons (bB.one (HQ rfl rfl (by simp[gv]) hf)) (.cons (bB.one (Pc sc [] es ck fb.size (af fb) dm dc dr hs (by simp) he (by simp))) (.cons abn .nil)))) 50 40
def Py:List ar3:=a7 (dI fK 79)
open Tree renaming aQ->mN,dE->mF,fj->mL,fY->mQ,dN->mR,gH->mE
def Pz:Nat->Bool->Bool->Tree->Tree
 |0,_,_,t=>t
 |n+1,d,b,t=>.cY d b (Pz n d b t)
theorem B8{R:bf->ai->Prop}{c v:Bool}{t:Tree}(n:Nat)(h1:c=v)(h2:t.ok R):(Pz n c v t).ok R:=by
 induction n with
 |zero=>exact h2
 |succ n ih=>exact⟨h1,ih⟩
abbrev wU:=λ(sc:List (Int×Int)) es (ck:Nat) (fb:ByteArray) (dm dc dr:Int)=>([ab ([aq 2 (nG sc),.map (some 3),aa dm,aa dc,aa dr]) 80,ab [] 5,ab (aI sc) 77,.map es ck,ab [aq 5 fb.size] 173,ab (af fb) 5]:List ak)
abbrev PA:=λ(sc:List (Int×Int)) es (ck:Nat) fb (dm dc dr no p b7:Int) (i:Nat)=>(⟨[(8,ci),(9,aa 1)],wU sc es ck fb dm dc dr⟩:ai)
theorem ab5(sc:List (Int×Int))(es)(ck:Nat)(fb)(dm dc dr no p b7:Int)(i:Nat){Q:bu}(kG:DC (bI [0,1,2,3,4,5] es) ag=true)(hq:Q (.ret (.tuple #[ci,aa 1])) (wU sc es ck fb dm dc dr)):aG fK 79 55 6 Q .ret (PA sc es ck fb dm dc dr no p b7 i):=aG.ret (vs:=[ci,aa 1]) (l:=[]) (bs:=[0,1,2,3,4,5]) (pl:=[2,3,5]) (q:=[aI sc,bI [0,1,2,3,4,5] es,af fb]) (λu=>by kernel_rfl) (by kernel_rfl) (aD (bt sc) (aD kG (aD (aE fb) be))) hq
abbrev PB:=λ(sc:List (Int×Int)) es (ck:Nat) fb (dm dc dr no p b7:Int) (i:Nat)=>(⟨[(8,ci),(9,aa 1)],wU sc es ck fb dm dc dr⟩:ai)
theorem ab6(sc:List (Int×Int))(es)(ck:Nat)(fb)(dm dc dr no p b7:Int)(i:Nat){Q:bu}(kG:DC (bI [0,1,2,3,4,5] es) ag=true)(hq:Q (.ret (.tuple #[ci,aa 1])) (wU sc es ck fb dm dc dr)):aG fK 79 55 6 Q .ret (PB sc es ck fb dm dc dr no p b7 i):=aG.ret (vs:=[ci,aa 1]) (l:=[]) (bs:=[0,1,2,3,4,5]) (pl:=[2,3,5]) (q:=[aI sc,bI [0,1,2,3,4,5] es,af fb]) (λu=>by kernel_rfl) (by kernel_rfl) (aD (bt sc) (aD kG (aD (aE fb) be))) hq
abbrev PC:=λ(sc:List (Int×Int)) es (ck:Nat) fb (dm dc dr no p b7:Int) (i:Nat)=>(⟨[(8,ci),(9,aa 1)],wU sc es ck fb dm dc dr⟩:ai)
theorem ab7(sc:List (Int×Int))(es)(ck:Nat)(fb)(dm dc dr no p b7:Int)(i:Nat){Q:bu}(kG:DC (bI [0,1,2,3,4,5] es) ag=true)(hq:Q (.ret (.tuple #[ci,aa 1])) (wU sc es ck fb dm dc dr)):aG fK 79 55 6 Q .ret (PC sc es ck fb dm dc dr no p b7 i):=aG.ret (vs:=[ci,aa 1]) (l:=[]) (bs:=[0,1,2,3,4,5]) (pl:=[2,3,5]) (q:=[aI sc,bI [0,1,2,3,4,5] es,af fb]) (λu=>by kernel_rfl) (by kernel_rfl) (aD (bt sc) (aD kG (aD (aE fb) be))) hq
abbrev PD:=λ(sc:List (Int×Int)) es (ck:Nat) (fb:ByteArray) (dm dc dr no p b7:Int) (i:Nat)=>(⟨[(8,ci),(9,aa (cE sc dc))],[ab ([aq 2 (nG sc),.map (some 3),aa dm,.int .i64 (m6 .i64 (dc+1)),aa (cR sc dc dr)]) 80,ab [] 5,ab (aI sc) 77,.map es ck,ab [aq 5 fb.size] 173,ab (af fb) 5]⟩:ai)
theorem ab8(sc:List (Int×Int))(es)(ck:Nat)(fb:ByteArray)(dm dc dr no p b7:Int)(i:Nat){Q:bu}(kG:DC (bI [0,1,2,3,4,5] es) ag=true)(hq:Q (.ret (.tuple #[ci,aa (cE sc dc)])) [ab ([aq 2 (nG sc),.map (some 3),aa dm,.int .i64 (m6 .i64 (dc+1)),aa (cR sc dc dr)]) 80,ab [] 5,ab (aI sc) 77,.map es ck,ab [aq 5 fb.size] 173,ab (af fb) 5]):aG fK 79 55 6 Q .ret (PD sc es ck fb dm dc dr no p b7 i):=aG.ret (vs:=[ci,aa (cE sc dc)]) (l:=[]) (bs:=[0,1,2,3,4,5]) (pl:=[2,3,5]) (q:=[aI sc,bI [0,1,2,3,4,5] es,af fb]) (λu=>by kernel_rfl) (by kernel_rfl) (aD (bt sc) (aD kG (aD (aE fb) be))) hq
abbrev PE:=λ(sc:List (Int×Int)) es (ck:Nat) (fb:ByteArray) (dm dc dr no p b7:Int) (i:Nat)=>(⟨[(8,aq 6 (m5 (if b7<(↑(fb.size-m5 p):Int)then b7 else(↑(fb.size-m5 p):Int))-0)),(9,aa 0)],[ab ([aq 2 (nG sc),.map (some 3),aa dm,.int .i64 (m6 .i64 (dc+1)),aa (cR sc dc dr)]) 80,ab [] 5,ab (aI sc) 77,.map es ck,ab [aq 5 fb.size] 173,ab (af fb) 5,ab (arP (m5 (if b7<(↑(fb.size-m5 p):Int)then b7 else(↑(fb.size-m5 p):Int))-0) (as3 (0+m5 p*1+0) (af fb))) 5]⟩:ai)
theorem ab9(sc:List (Int×Int))(es)(ck:Nat)(fb:ByteArray)(dm dc dr no p b7:Int)(i:Nat){Q:bu}(aY:DC (aI sc) ag)(kG:DC (bI [0,1,2,3,4,5,6] es) ag=true)(bT:DC (af fb) ag)(hq:Q (.ret (.tuple #[aq 6 (m5 (if b7<(↑(fb.size-m5 p):Int)then b7 else(↑(fb.size-m5 p):Int))-0),aa 0])) [ab ([aq 2 (nG sc),.map (some 3),aa dm,.int .i64 (m6 .i64 (dc+1)),aa (cR sc dc dr)]) 80,ab [] 5,ab (aI sc) 77,.map es ck,ab [aq 5 fb.size] 173,ab (af fb) 5,ab (arP (m5 (if b7<(↑(fb.size-m5 p):Int)then b7 else(↑(fb.size-m5 p):Int))-0) (as3 (0+m5 p*1+0) (af fb))) 5]):aG fK 79 55 6 Q .ret (PE sc es ck fb dm dc dr no p b7 i):=aG.ret (vs:=[aq 6 (m5 (if b7<(↑(fb.size-m5 p):Int)then b7 else(↑(fb.size-m5 p):Int))-0),aa 0]) (l:=[]) (bs:=[0,1,2,3,4,5,6]) (pl:=[2,3,5,6]) (q:=[aI sc,bI [0,1,2,3,4,5,6] es,af fb,arP (m5 (if b7<(↑(fb.size-m5 p):Int)then b7 else(↑(fb.size-m5 p):Int))-0) (as3 (0+m5 p*1+0) (af fb))]) (λu=>by kernel_rfl) (by kernel_rfl) (aD aY (aD kG (aD bT (aD (by simp) be)))) hq
theorem aca(sc:List (Int×Int))(es:List arW)(ck:Nat)(fb:ByteArray)(dm dc dr no p b7:Int)(i:Nat)(hs:(nG sc)<=1000000)(he:cq es=true)(hf:fG (aa no) es 0=some (some (i,ap 4)))(hl:fb.size<=1000000)(hp:(aI sc).all ag=true)(h6:(bI eE es).all ag=true)(h4:(es.map (eD λi=>(eE++fD 6 0)[i]?)).all ag=true){Q:aU}(n0:(fZ [ap 0,aa no] [ap 0,aa no] [ab [aq 2 (nG sc),atQ (some (0+1+1+1)),aa dm,aa dc,aa dr] 80,ab [] 5,ab (aI sc) 77,ak.map es ck,ab [aq 5 fb.size] 173,ab (af fb) 5] (gv sc [] es ck fb.size (af fb) dm dc dr)))(aY:DC (aI sc) ag)(bh:DC (bI [0,1,2,3,4,5] es) ag)(bT:DC (af fb) ag)(l4:(decide (p<0))->Q .ret (PA sc es ck fb dm dc dr no p b7 i))(l5:(decide (p<0))=false->(decide (p>(fb.size:Int)))->Q .ret (PB sc es ck fb dm dc dr no p b7 i))(l6:(decide (p<0))=false->(decide (p>(fb.size:Int)))=false->(decide (b7<1))->Q .ret (PC sc es ck fb dm dc dr no p b7 i))(n7:(decide (p<0))=false->(decide (p>(fb.size:Int)))=false->(decide (b7<1))=false->(fZ [ap 0] [ap 0] [ab [aq 2 (nG sc),atQ (some (0+1+1+1)),aa dm,aa dc,aa dr] 80,ab [] 5,ab (aI sc) 77,ak.map es ck,ab [aq 5 fb.size] 173,ab (af fb) 5] (gv sc [] es ck fb.size (af fb) dm dc dr))=true)(l8:(decide (p<0))=false->(decide (p>(fb.size:Int)))=false->(decide (b7<1))=false->(cE sc dc != 0)->Q .ret (PD sc es ck fb dm dc dr no p b7 i))(n9:(decide (p<0))=false->(decide (p>(fb.size:Int)))=false->(decide (b7<1))=false->(cE sc dc != 0)=false->(B5 (af fb) (0+m5 p*1+0) (m5 (if b7<(↑(fb.size-m5 p):Int)then b7 else(↑(fb.size-m5 p):Int))-0) (fb.size-m5 p-0) 5 false)=true)(bO:DC (bI [0,1,2,3,4,5,6] es) ag)(iJ:(decide (p<0))=false->(decide (p>(fb.size:Int)))=false->(decide (b7<1))=false->(cE sc dc != 0)=false->Q .ret (PE sc es ck fb dm dc dr no p b7 i)):ao fK 55 6 Py ⟨[(0,ap 0),(1,aa no),(2,aa p),(3,aa b7)],[ab [aq 2 (nG sc),.map (some 3),aa dm,aa dc,aa dr] 80,ab [] 5,ab (aI sc) 77,.map es ck,ab [aq 5 fb.size] 173,ab (af fb) 5]⟩ Q:=
 aV (ab4 sc es ck fb dm dc dr no hs he hf) 1000 (aB [5,1,1,1,3,1,1] (.fork 3 (aB [1,1,1,1,1,1,1,1] (.leaf [8,9] [0,1,2,3,4,5] [2,3,5])) (aB [0,0,0,0,0,2,2,0] (.fork 0 (aB [1,1] (.leaf [8,9] [0,1,2,3,4,5] [2,3,5])) (aB [0,0] (.fork 0 (.leaf [8,9] [0,1,2,3,4,5] [2,3,5]) (aB [5,1,1,1,3,1,1] (.fork 0 (.leaf [8,9] [0,1,2,3,4,5] [2,3,5]) (aB [2,1,1,1,4,1,3,3,1,1,1] (.leaf [8,9] [0,1,2,3,4,5,6] [2,3,5,6])))))))))) (λu=>by kernel_rfl) (mN (bt sc) (mN (show(DC (arV (eD (fh eE)) es) ag)=true by assumption) (mN (aE fb) (mN n0 (mN (bt sc) (mN (show(DC (arV (eD λi=>(eE++fD 6 (nG (gv sc [] es ck fb.size (af fb) dm dc dr)-6))[i]?) es) ag)=true by assumption) (mN (aE fb) (mF (c:=decide (p<0)) (λh0=>(B8 8 h0 (mN (bt sc) (mN bh (mN (aE fb) (mR (l4 h0))))))) (λh0=>(B8 8 h0 (mF (c:=decide (p>(fb.size:Int))) (λh1=>(B8 2 h1 (mN (bt sc) (mN bh (mN (aE fb) (mR (l5 h0 h1))))))) (λh1=>(B8 2 h1 (mF (c:=decide (b7<1)) (λh2=>(mN (bt sc) (mN bh (mN (aE fb) (mR (l6 h0 h1 h2)))))) (λh2=>(mN (bt sc) (mN (show(DC (arV (eD (fh eE)) es) ag)=true by assumption) (mN (aE fb) (mN (n7 h0 h1 h2) (mN (bt sc) (mN (show(DC (arV (eD λi=>(eE++fD 6 (nG (gv sc [] es ck fb.size (af fb) dm (m6 .i64 (dc+1)) (cR sc dc dr))-6))[i]?) es) ag)=true by assumption) (mN (aE fb) (mF (c:=cE sc dc != 0) (λh3=>(mN (bt sc) (mN bh (mN (aE fb) (mR (l8 h0 h1 h2 h3)))))) (λh3=>(mN (show(decide (0<=p))=true by simp at hs he hf hl hp h6 h4 h0 h1 h2 h3⊢ <;>omega) (mN (show(arM (m5 p) fb.size)=true by simp at hs he hf hl hp h6 h4 h0 h1 h2 h3⊢ <;>omega) (mN (show(arM fb.size fb.size)=true by simp) (mN (show(decide (0<=if b7<(↑(fb.size-m5 p):Int)then b7 else(↑(fb.size-m5 p):Int)))=true by simp at hs he hf hl hp h6 h4 h0 h1 h2 h3⊢ <;>omega) (mN (show(arM (m5 (if b7<(↑(fb.size-m5 p):Int)then b7 else(↑(fb.size-m5 p):Int))) (fb.size-m5 p))=true by simp at hs he hf hl hp h6 h4 h0 h1 h2 h3⊢ <;>omega) (mN (aE fb) (mN (n9 h0 h1 h2 h3) (mN (aE fb) (mN (show(DC (arP (m5 (if b7<(↑(fb.size-m5 p):Int)then b7 else(↑(fb.size-m5 p):Int))-0) (as3 (0+m5 p*1+0) (af fb))) ag)=true by simp) (mN (bt sc) (mN bO (mN (aE fb) (mN (show(DC (arP (m5 (if b7<(↑(fb.size-m5 p):Int)then b7 else(↑(fb.size-m5 p):Int))-0) (as3 (0+m5 p*1+0) (af fb))) ag)=true by simp) (mR (iJ h0 h1 h2 h3)))))))))))))))))))))))))))))))))))))))
abbrev PF:=λ(sc:List (Int×Int)) x0 es (ck:Nat) f5 (dm dc dr no p b7:Int)=>(⟨[(8,ci),(9,aa 1)],[ab ([aq 2 (nG sc),.map (some 3),aa dm,aa dc,aa dr]) 80,ab x0 5,ab (aI sc) 77,.map es ck,ab [] 173,ab f5 5]⟩:ai)
theorem acb(sc:List (Int×Int))(x0 es)(ck:Nat)(f5)(dm dc dr no p b7:Int){Q:bu}(aY:DC x0 ag)(cC:DC (bI [0,1,2,3,4,5] es) ag=true)(bO:DC f5 ag)(hq:Q (.ret (.tuple #[ci,aa 1])) [ab ([aq 2 (nG sc),.map (some 3),aa dm,aa dc,aa dr]) 80,ab x0 5,ab (aI sc) 77,.map es ck,ab [] 173,ab f5 5]):aG fK 79 55 6 Q .ret (PF sc x0 es ck f5 dm dc dr no p b7):=aG.ret (vs:=[ci,aa 1]) (l:=[]) (bs:=[0,1,2,3,4,5]) (pl:=[1,2,3,5]) (q:=[x0,aI sc,bI [0,1,2,3,4,5] es,f5]) (λu=>by kernel_rfl) (by kernel_rfl) (aD aY (aD (bt sc) (aD cC (aD bO be)))) hq
theorem acd(sc:List (Int×Int))(x0:List Dy)(es:List arW)(ck:Nat)(f5:List Dy)(dm dc dr no p b7:Int)(hs:(nG sc)<=1000000)(h0:x0.all ag=true)(he:cq es=true)(h5:f5.all ag=true)(hf:fG (aa no) es 0=some none)(hp:(aI sc).all ag=true)(h6:(bI eE es).all ag=true)(h4:(es.map (eD λi=>(eE++fD 6 0)[i]?)).all ag=true){Q:aU}(n0:(fZ [ap 0,aa no] [ap 0,aa no] [ab [aq 2 (nG sc),atQ (some (0+1+1+1)),aa dm,aa dc,aa dr] 80,ab x0 5,ab (aI sc) 77,ak.map es ck,ab [] 173,ab f5 5] (gd sc x0 es ck 0 f5 dm dc dr)))(aY:DC x0 ag)(bh:DC (aI sc) ag)(bT:DC (bI [0,1,2,3,4,5] es) ag)(bO:DC f5 ag)(l5:Q .ret (PF sc x0 es ck f5 dm dc dr no p b7)):ao fK 55 6 Py ⟨[(0,ap 0),(1,aa no),(2,aa p),(3,aa b7)],[ab [aq 2 (nG sc),.map (some 3),aa dm,aa dc,aa dr] 80,ab x0 5,ab (aI sc) 77,.map es ck,ab [] 173,ab f5 5]⟩ Q:=
 aV (B6 sc x0 es ck f5 dm dc dr no (.pointer none) hs h0 he h5 hf rfl) 1000 (aB [3,1,1,1,1,1,1,1,1] (.leaf [8,9] [0,1,2,3,4,5] [1,2,3,5])) (λu=>by kernel_rfl) (mN (show(DC x0 ag)=true by assumption) (mN (bt sc) (mN (show(DC (arV (eD (fh eE)) es) ag)=true by assumption) (mN (show(DC f5 ag)=true by assumption) (mN n0 (mN (show(DC x0 ag)=true by assumption) (mN (bt sc) (mN (show(DC (arV (eD λi=>(eE++fD 6 (nG (gd sc x0 es ck 0 f5 dm dc dr)-6))[i]?) es) ag)=true by assumption) (mN (show(DC f5 ag)=true by assumption) (mN aY (mN (bt sc) (mN bT (mN bO (mR l5))))))))))))))
end
structure ct(d:aA):Prop where
 bR:d.bG.length<=1000000
 made:d.made<=64
 keys:∀p∈d.files,p.1<=d.made
 gR:(d.files.map (·.1)).Nodup
 size:∀p∈d.files,p.2.size<=1000000
 cin:m6 .i64 d.calls=d.calls
noncomputable def oS(d:aA):Bool:=@decide (ct d) (arT _)
theorem qz{d:aA}:oS d=true↔ct d:=by unfold oS;exact @decide_eq_true_iff _ (arT _)
def fz(d:aA):aA:={d with calls:=m6 .i64 (d.calls+1),raw:=cR d.bG d.calls d.raw}
abbrev j9(d:aA):Int:=cE d.bG d.calls
def bj(d:aA):Int×Int×aA:=
 if d.made=64 then(0,17,d)else if j9 d≠0 then(0,j9 d,fz d)else((d.made:Int)+1,0,{fz d with made:=d.made+1,files:=d.files++[(d.made+1,KI)]})
def fileOf(l:List (Nat×ByteArray))(no:Int):Option ByteArray:=(l.find? λp=>(p.1:Int)==no).map (·.2)
def ka(l:List (Nat×ByteArray))(no:Int)(b:ByteArray):List (Nat×ByteArray):=l.map λp=>if(p.1:Int)==no then(p.1,p.2++b)else p
def nv(l:List (Nat×ByteArray))(no:Int):List (Nat×ByteArray):=l.filter λp=> !((p.1:Int)==no)
def bP(d:aA)(no:Int)(b:ByteArray):Int×aA:=match fileOf d.files no with
 |none=>(1,d)
 |some _=>if b.size=0\/1024<b.size then(1,d)else if j9 d≠0 then(j9 d,fz d)else(0,{fz d with files:=ka d.files no b})
def dZ(d:aA)(no:Int):Int×aA:=match fileOf d.files no with
 |none=>(1,d)
 |some _=>if j9 d≠0 then(j9 d,fz d)else(0,{fz d with files:=nv d.files no})
def aJ(d:aA)(no p b7:Int):ByteArray×Int×aA:=match fileOf d.files no with
 |none=>(KI,1,d)
 |some f=>if p<0\/(f.size:Int)<p\/b7<1 then(KI,1,d)else if j9 d≠0 then(KI,j9 d,fz d)else(f.extract p.toNat (p.toNat+min (f.size-p.toNat) b7.toNat),0,fz d)
theorem HR{A:List (Nat×ByteArray)}{eA:List arW}{LA:List (Nat×CO)}(h:fL A eA LA){x:Int}(hx:∀p∈A,(p.1:Int)≠x)(t:List arW)(i:Nat):fG (.int .i64 x) (cf eA++t) i=fG (.int .i64 x) t (i+eA.length):=by
 induction h generalizing i with
 |nil=>rfl
 |cons p k sh l es L L' hf ht hp ih=>
  have h1:(x==(p.1:Int))=false:=by simpa using λe=>hx p arH e.symm
  show fG (.int .i64 x) (asQ (.int .i64 p.1) (.pointer (some ⟨k,sh,some 0⟩)) (p.1-1)::(cf es++t)) i=_
  conv=>lhs;unfold fG
  simp only[beq_self_eq_true,h1,Bool.false_eq_true,if_false]
  rw[ih (λq hq=>hx q (arG _ hq)),ar4,show i+1+es.length=i+(es.length+1)by omega]
theorem pJ{A:List (Nat×ByteArray)}{eA:List arW}{LA:List (Nat×CO)}(h:fL A eA LA):cq (cf eA)=true:=by
 induction h with
 |nil=>rfl
 |cons p k sh l es L L' hf ht hp ih=>
  have yu:(cf es).all BQ=true:=ih
  show DC (_::cf es) BQ=true
  rw[List.all_cons,yu]
  rfl
theorem wV{a b:List arW}(ha:cq a=true)(hb:cq b=true):cq (a++b)=true:=by
 unfold cq at*
 rw[avI,ha,hb];rfl
theorem ace{A:List (Nat×ByteArray)}{eA:List arW}{LA:List (Nat×CO)}(h:fL A eA LA):eA.length=A.length:=by
 induction h with
 |nil=>rfl
 |cons p k sh l es L L' hf ht hp ih=>simp[ih]
theorem acf{l:List (Nat×ByteArray)}{no:Int}(h:fileOf l no=none):∀p∈l,(p.1:Int)≠no:=by
 unfold fileOf at h
 rw[Option.map_eq_none_iff,List.find?_eq_none]at h
 intro p hp e
 have:=h p hp
 simp[e]at this
theorem HS{l:List (Nat×ByteArray)}{no:Int}{f:ByteArray}(h:fileOf l no=some f):∃A p C,l=A++([p]++C)/\(p.1:Int)=no/\p.2=f/\∀q∈A,(q.1:Int)≠no:=by
 unfold fileOf at h
 rw[Option.map_eq_some_iff]at h
 obtain⟨p,h1,h2⟩:=h
 obtain⟨h3,A,C,h4,h5⟩:=List.find?_eq_some_iff_append.1 h1
 refine⟨A,p,C,h4,by simpa using h3,h2,λq hq e=>?_⟩
 have:=h5 q hq
 simp[e]at this
theorem PG{A C:List (Nat×ByteArray)}{p:Nat×ByteArray}(h:((A++([p]++C)).map (·.1)).Nodup){no:Int}(hp:(p.1:Int)=no):∀q∈C,(q.1:Int)≠no:=λq hq e=>by
 rw[asm,asm]at h
 have:=(aso.1 (aso.1 h).2.1).2.2 p.1 (by simp) q.1 (atb hq)
 omega
theorem acg{A C:List (Nat×ByteArray)}{p:Nat×ByteArray}{no:Int}(hp:(p.1:Int)=no)(hA:∀q∈A,(q.1:Int)≠no)(hC:∀q∈C,(q.1:Int)≠no)(b:ByteArray):ka (A++([p]++C)) no b=A++([(p.1,p.2++b)]++C):=by
 have key:∀l:List (Nat×ByteArray),(∀q∈l,(q.1:Int)≠no)->ka l no b=l:=λl hl=>by
  unfold ka
  rw[atc (g:=id) λq hq=>by simp[hl q hq],av2]
 unfold ka at*
 rw[asm,asm,key A hA,key C hC]
 simp[hp]
theorem ach{A C:List (Nat×ByteArray)}{p:Nat×ByteArray}{no:Int}(hp:(p.1:Int)=no)(hA:∀q∈A,(q.1:Int)≠no)(hC:∀q∈C,(q.1:Int)≠no):nv (A++([p]++C)) no=A++C:=by
 have key:∀l:List (Nat×ByteArray),(∀q∈l,(q.1:Int)≠no)->nv l no=l:=λl hl=>by
  unfold nv
  rw[List.filter_eq_self]
  intro q hq
  simp[hl q hq]
 unfold nv at*
 rw[aw8,aw8,key A hA,key C hC]
 simp[hp]
theorem k9{l:List ak}(h:l.all (λo=> !o.ro)=true):∀o∈l,o.ro=false:=λo ho=>by simpa using ar1.1 h o ho
theorem aF.B9{f:arY}{args:List Dy}{objs:List ak}{Q:bD->List ak->Prop}(h:aF fK f args objs λr o=>∃d n,o=.abs d::awM n .dead/\(∃r',rB (fh [0]) r=some r'/\Q r' [.abs d]))(hl:objs.length=1):aF fK f args objs Q:=by
 refine aF.trim h ?_
 rintro r o ⟨d,n,rfl,r',h1,h2⟩
 refine⟨[0],[],r',[.abs d],[],?_,λc hc=>(by cases hc),h2⟩
 rw[hl]
 unfold pz
 simp only[getAll,asf,auz,au0,qv,h1]
 rfl
theorem aci(d:aA)(hd:ct d):aF fK 97 [.pointer (some ⟨0,0,none⟩)] [.abs d] λr o=>r=.ret (.tuple #[.int .i64 (bj d).1,.int .i64 (bj d).2.1])/\o=[.abs (bj d).2.2]:=by
 refine aF.B9 (aF.BS (x0:=[]) λeR L2 hf=>?_) rfl
 have he:=pJ hf
 have j5:yE (cf eR) (KJ Ul (m6 Ul ((d.made:Int)+1)))=true:=by
  have hw:m6 Ul ((d.made:Int)+1)=(d.made:Int)+1:=nX (by omega) (by have:=hd.made;omega)
  have:=HR hf (x:=(d.made:Int)+1) (λp hp=>by have:=hd.keys p hp;omega) [] 0
  rw[asg]at this
  unfold yE
  rw[hw,this]
  rfl
 have hm:=hd.made
 have hw:m6 Ul ((d.made:Int)+1)=(d.made:Int)+1:=nX (by omega) (by omega)
 have cN:∀n,(bI [0,1,2,3,4,5,6] (cf eR++[asQ (KJ Ul (m6 Ul ((d.made:Int)+1))) (asy (some (Addr.mk 6 0 none))) n])).all ag=true:=λn=>by
  unfold bI
  rw[asm,avI]
  have h1:=cq.idx he [6]
  unfold bI at h1
  rw[show([0,1,2,3,4,5]++[6]:List Nat)=[0,1,2,3,4,5,6]from rfl]at h1
  rw[h1]
  rfl
 refine aF.dv (n:=cp fK 97) (by kernel_rfl) ?_
 apply abO d.bG [] (cf eR) d.made [] d.made d.calls d.raw hd.bR rfl he rfl (by omega) (by omega) hw (bt _) (cq.idx he []) (cq.rI he [])
 case aY=>rfl
 case bh=>exact bt _
 case bT=>exact cq.idx he []
 case bO=>rfl
 case l4=>
  intro g
  have g:(d.made:Int)=64:=by simpa using g
  have g:d.made=64:=by omega
  refine abL d.bG [] (cf eR) d.made [] d.made d.calls d.raw rfl (cq.idx he []) rfl ?_
  refine⟨d,[1,2,3,4,5],⟨⟨d.files,[],[],eR,[],[],[],[],L2,[],[],by simp,by simp,by simp,hf,.nil,rfl,by simp,rfl,by simp[cf],.none⟩,rfl,rfl,rfl,k9 (by rfl),by simp⟩,d,5,rfl,_,rfl,?_,?_⟩
  ·unfold bj;rw[if_pos g]
  ·unfold bj;rw[if_pos g]
 case n5=>intro g;exact iI rfl rfl
 case l6=>
  intro g g1
  have g:¬(d.made:Int)=64:=by simpa using g
  have g:¬d.made=64:=by omega
  have g1:j9 d≠0:=by simpa using g1
  refine abM d.bG [] (cf eR) d.made [] d.made d.calls d.raw rfl (cq.idx he []) rfl ?_
  refine⟨fz d,[1,2,3,4,5],⟨⟨d.files,[],[],eR,[],[],[],[],L2,[],[],by simp,by simp,by simp,hf,.nil,rfl,by simp[fz],rfl,by simp[cf,fz],.none⟩,rfl,rfl,rfl,k9 (by rfl),by simp⟩,fz d,5,rfl,_,rfl,?_,?_⟩
  ·unfold bj;rw[if_neg g,if_pos g1]
  ·unfold bj;rw[if_neg g,if_pos g1]
 case n7=>intro g g1;exact j5
 case nu=>exact cN d.made
 case l9=>
  intro g g1
  have g:¬(d.made:Int)=64:=by simpa using g
  have g:¬d.made=64:=by omega
  have g1:¬j9 d≠0:=by simpa using g1
  refine abN d.bG [] (cf eR) d.made [] d.made d.calls d.raw rfl (cN d.made) rfl ?_
  rw[hw]
  refine⟨{fz d with made:=d.made+1,files:=d.files++[(d.made+1,KI)]},[1,2,3,4,5,6],⟨⟨d.files,[],[],eR,[],[],[(d.made+1,KI)],[asQ (KJ .i64 ((d.made+1:Nat):Int)) (asy (some ⟨6,0,none⟩)) d.made],L2,[],[],by simp,by simp,by simp,hf,.nil,rfl,by simp,rfl,by simp[cf],.empty _ 6 rfl rfl ⟨by omega,rfl⟩ (Nat.succ_le_succ (Nat.zero_le _))⟩,rfl,rfl,rfl,k9 (by rfl),by simp⟩,_,6,rfl,_,rfl,?_,?_⟩
  ·unfold bj;rw[if_neg g,if_neg g1]
  ·unfold bj;rw[if_neg g,if_neg g1]
theorem acj(x:Int)(v:Dy)(born:Nat)(t:List arW)(i:Nat):fG (.int .i64 x) (asQ (.int .i64 x) v born::t) i=some (some (i,v)):=by
 conv=>lhs;unfold fG
 simp
theorem ack{l:List (Nat×ByteArray)}{eR:List arW}{L2:List (Nat×CO)}{A C:List (Nat×ByteArray)}{p:Nat×ByteArray}(h:fL l eR L2)(hl:l=A++([p]++C)):
 ∃eA eC k sh LA LF LC,eR=eA++([asQ (KJ .i64 p.1) (asy (some ⟨k,sh,none⟩)) (p.1-1)]++eC)/\L2=LA++(LF++LC)/\fL A eA LA/\fL C eC LC:=by
 subst hl
 obtain⟨eA,e1,LA,L1,rfl,rfl,h1,h2⟩:=wK h
 cases h2 with
 |cons _ k sh _ es L L' a b hp=>exact⟨eA,es,k,sh,LA,L,L',rfl,rfl,h1,b⟩
theorem PH(a b:List arW):cf (a++b)=cf a++cf b:=by unfold cf;rw[asm]
theorem HT{l:List (Nat×ByteArray)}{eR:List arW}{L2:List (Nat×CO)}(h:fL l eR L2){no:Int}(hn:fileOf l no=none):fG (.int .i64 no) (cf eR) 0=some none:=by
 have:=HR h (acf hn) [] 0
 rw[asg]at this
 rw[this];rfl
theorem HU{A:List (Nat×ByteArray)}{eA:List arW}{LA:List (Nat×CO)}(h:fL A eA LA){no:Int}(hA:∀q∈A,(q.1:Int)≠no){p:Nat×ByteArray}(hp:(p.1:Int)=no)(v:Dy)(born:Nat)(t:List arW):
 fG (.int .i64 no) (cf eA++([asQ (KJ .i64 p.1) v born]++t)) 0=some (some (eA.length,v)):=by
 rw[HR h hA,hp]
 show fG _ (_::t) _=_
 rw[acj,as9]
theorem aF.PI{f:arY}{args:List Dy}{objs:List ak}{Q:bD->List ak->Prop}{c:List Dy}{el:TypeId}(hc:c.all ag=true)(h:aF fK f args objs λr o=>∃d n,o=.abs d:: .cells c el false::awM n .dead/\(∃r',rB (fh [0,1]) r=some r'/\Q r' [.abs d,.cells c el false]))(hl:objs.length=2):aF fK f args objs Q:=by
 refine aF.trim h ?_
 rintro r o ⟨d,n,rfl,r',h1,h2⟩
 refine⟨[0,1],[1],r',[.abs d,.cells c el false],[c],?_,λc' mv=>(by rw[ar0]at mv;subst mv;exact hc),h2⟩
 rw[hl]
 unfold pz
 simp only[getAll,asf,asF,auz,au0,qv,h1]
 rfl
theorem acm(d:aA)(hd:ct d)(no:Int):aF fK 43 [.pointer (some ⟨0,0,none⟩),.int .i64 no] [.abs d] λr o=>r=.ret (.int .i64 (dZ d no).1)/\o=[.abs (dZ d no).2]:=by
 refine aF.B9 (aF.BS (x0:=[]) λeR L2 hf=>?_) rfl
 have he:=pJ hf
 refine aF.dv (n:=cp fK 43) (by kernel_rfl) ?_
 cases hn:fileOf d.files no with
 |none=>
  apply abT d.bG [] (cf eR) d.made [] d.made d.calls d.raw no hd.bR rfl he rfl (HT hf hn) (bt _) (cq.idx he []) (cq.rI he [])
  case n0=>exact iI rfl rfl
  case aY=>rfl
  case bh=>exact bt _
  case bT=>exact cq.idx he []
  case bO=>rfl
  case l5=>
   refine abS d.bG [] (cf eR) d.made [] d.made d.calls d.raw no rfl (cq.idx he []) rfl ?_
   refine⟨d,[1,2,3,4,5],⟨⟨d.files,[],[],eR,[],[],[],[],L2,[],[],by simp,by simp,by simp,hf,.nil,rfl,by simp,rfl,by simp[cf],.none⟩,rfl,rfl,rfl,k9 (by rfl),by simp⟩,d,5,rfl,_,rfl,?_,?_⟩
   ·unfold dZ;rw[hn]
   ·unfold dZ;rw[hn]
 |some f=>
  obtain⟨A,p,C,hl,hp,Ca,hA⟩:=HS hn
  have hC:∀q∈C,(q.1:Int)≠no:=PG (p:=p) (by rw[<-hl];exact hd.gR) hp
  obtain⟨eA,eC,k,sh,LA,LF,LC,rfl,rfl,h1,h2⟩:=ack hf hl
  have uY:fG (.int .i64 no) (cf (eA++([asQ (KJ .i64 p.1) (asy (some ⟨k,sh,none⟩)) (p.1-1)]++eC))) 0=some (some (eA.length,.pointer (some ⟨k,sh,some 0⟩))):=by
   rw[PH]
   exact HU h1 hA hp _ _ _
  have hk:we (cf (eA++([asQ (KJ .i64 p.1) (asy (some ⟨k,sh,none⟩)) (p.1-1)]++eC))) (.int .i64 no)=true:=by unfold we;rw[uY];rfl
  have fC:px (cf (eA++([asQ (KJ .i64 p.1) (asy (some ⟨k,sh,none⟩)) (p.1-1)]++eC))) (.int .i64 no)=cf eA++([]++cf eC):=by
   unfold px
   rw[uY]
   dsimp only
   rw[PH,List.eraseIdx_append_of_length_le (by simp[cf]),show eA.length-(cf eA).length=0 by simp[cf]]
   rfl
  have cN:(bI [0,1,2,3,4,5] (px (cf (eA++([asQ (KJ .i64 p.1) (asy (some ⟨k,sh,none⟩)) (p.1-1)]++eC))) (.int .i64 no))).all ag=true:=by
   rw[fC]
   exact cq.idx (wV (pJ h1) (wV rfl (pJ h2))) []
  apply abR d.bG [] (cf (eA++([asQ (KJ .i64 p.1) (asy (some ⟨k,sh,none⟩)) (p.1-1)]++eC))) d.made [] d.made d.calls d.raw no k sh eA.length hd.bR rfl he rfl uY hk (bt _) (cq.idx he []) (cq.rI he [])
  case n0=>exact iI rfl rfl
  case n1=>exact iI rfl rfl
  case aY=>rfl
  case bh=>exact bt _
  case bT=>exact cN
  case bO=>rfl
  case l6=>
   intro g
   have g:¬j9 d≠0:=by simpa using g
   refine abP d.bG [] _ d.made [] d.made d.calls d.raw no k sh eA.length rfl cN rfl ?_
   rw[fC]
   refine⟨{fz d with files:=nv d.files no},[1,2,3,4,5],⟨⟨A,[p],C,eA,_,eC,[],[],LA,LF,LC,hl,rfl,rfl,h1,h2,rfl,?_,rfl,rfl,.none⟩,rfl,rfl,rfl,k9 (by rfl),by simp⟩,_,5,rfl,_,rfl,?_,?_⟩
   ·dsimp only;rw[hl,ach hp hA hC];rfl
   ·unfold dZ;rw[hn];dsimp only;rw[if_neg g]
    have:cE d.bG d.calls=0:=by simpa using g
    rw[this]
   ·unfold dZ;rw[hn];dsimp only;rw[if_neg g]
  case nu=>exact cq.idx he []
  case l8=>
   intro g
   have g:j9 d≠0:=by simpa using g
   refine abQ d.bG [] _ d.made [] d.made d.calls d.raw no k sh eA.length rfl (cq.idx he []) rfl ?_
   refine⟨fz d,[1,2,3,4,5],⟨⟨d.files,[],[],_,[],[],[],[],_,[],[],by simp,by simp,by simp,hf,.nil,rfl,by simp[fz],rfl,by simp[cf,fz],.none⟩,rfl,rfl,rfl,k9 (by rfl),by simp⟩,_,5,rfl,_,rfl,?_,?_⟩
   ·unfold dZ;rw[hn];dsimp only;rw[if_pos g]
   ·unfold dZ;rw[hn];dsimp only;rw[if_pos g]
theorem acn(d:aA):aF fK 71 [.pointer (some ⟨0,0,none⟩)] [.abs d] λr o=>r=.ret (.int .i64 d.raw)/\o=[.abs d]:=by
 refine aF.B9 (aF.BS (x0:=[]) λeR L2 hf=>?_) rfl
 have he:=pJ hf
 refine aF.dv (n:=cp fK 71) (by kernel_rfl) ?_
 refine ab2 d.bG [] (cf eR) d.made [] d.made d.calls d.raw rfl (bt _) (cq.idx he []) rfl ?_
 refine ab1 d.bG [] (cf eR) d.made [] d.made d.calls d.raw rfl (cq.idx he []) rfl ?_
 exact⟨d,[1,2,3,4,5],⟨⟨d.files,[],[],eR,[],[],[],[],L2,[],[],by simp,by simp,by simp,hf,.nil,rfl,by simp,rfl,by simp[cf],.none⟩,rfl,rfl,rfl,k9 (by rfl),by simp⟩,d,5,rfl,_,rfl,rfl,rfl⟩
theorem aco(d:aA)(hd:ct d)(no:Int)(b:ByteArray)(hn:fileOf d.files no=none):aF fK 98 [.pointer (some ⟨0,0,none⟩),.int .i64 no,.slice (some ⟨1,0,none⟩) b.size b.size] [.abs d,.cells (af b) 5 false]
 λr o=>r=.ret (.int .i64 (bP d no b).1)/\o=[.abs (bP d no b).2,.cells (af b) 5 false]:=by
 refine aF.PI (c:=af b) (el:=5) (aE _) (aF.Z2 λeR L2 hf=>?_) rfl
 have he:=pJ hf
 refine aF.dv (n:=cp fK 98) (by kernel_rfl) ?_
 apply ab0 d.bG b (cf eR) d.made [] d.made d.calls d.raw no hd.bR (aE _) he rfl (HT hf hn) (bt _) (cq.idx he []) (cq.rI he [])
 case n0=>exact iI rfl rfl
 case aY=>exact aE _
 case bh=>exact bt _
 case bT=>exact cq.idx he []
 case bO=>rfl
 case l5=>
  refine abZ d.bG b (cf eR) d.made [] d.made d.calls d.raw no (cq.idx he []) rfl ?_
  refine⟨d,[2,3,4,5],⟨⟨d.files,[],[],eR,[],[],[],[],L2,[],[],by simp,by simp,by simp,hf,.nil,rfl,by simp,rfl,by simp[cf],.none⟩,rfl,rfl,rfl,k9 (by rfl),by simp⟩,d,4,rfl,_,rfl,?_,?_⟩
  ·unfold bP;rw[hn]
  ·unfold bP;rw[hn]
theorem acp(fb b:ByteArray):af fb++arP (b.size*1) (af b)=af (fb++b):=by
 rw[O5,Nat.mul_one,List.take_of_length_le (by rw[mC];exact Nat.le_refl _)]
theorem acq(d:aA)(hd:ct d)(no:Int)(b:ByteArray)(cc:∀f,fileOf d.files no=some f->f.size+b.size<=1000000):aF fK 98 [.pointer (some ⟨0,0,none⟩),.int .i64 no,.slice (some ⟨1,0,none⟩) b.size b.size] [.abs d,.cells (af b) 5 false]
 λr o=>r=.ret (.int .i64 (bP d no b).1)/\o=[.abs (bP d no b).2,.cells (af b) 5 false]:=by
 cases hn:fileOf d.files no with
 |none=>exact aco d hd no b hn
 |some f=>
  obtain⟨A,p,C,hl,hp,Ca,hA⟩:=HS hn
  have hC:∀q∈C,(q.1:Int)≠no:=PG (p:=p) (by rw[<-hl];exact hd.gR) hp
  have kn:=hd.size p (by rw[hl];simp)
  have acr:p.2.size+b.size<=1000000:=by rw[Ca];exact cc f hn
  refine aF.PI (c:=af b) (el:=5) (aE _) (aF.Z4 hl λeA eC kf sf LA LF LC h1 h2 h3 jG=>?_) rfl
  have he:cq (cf eA++([asQ (KJ .i64 p.1) (asy (some ⟨4,0,none⟩)) (p.1-1)]++cf eC))=true:=wV (pJ h1) (wV rfl (pJ h2))
  have uY:=HU h1 hA hp (asy (some ⟨4,0,none⟩)) (p.1-1) (cf eC)
  refine aF.dv (n:=cp fK 98) (by kernel_rfl) ?_
  apply abY d.bG b (cf eA++([asQ (KJ .i64 p.1) (asy (some ⟨4,0,none⟩)) (p.1-1)]++cf eC)) d.made p.2 d.made d.calls d.raw no eA.length hd.bR he uY kn (bt _) (cq.idx he []) (cq.rI he [])
  case n0=>exact iI rfl rfl
  case n7=>intros;exact iI rfl rfl
  case n8=>intros;exact Nat.ble_eq_true_of_le acr
  case n9=>intros;exact uF (nq (aE _) _)
  case aY=>exact aE _
  case bh=>exact bt _
  case bT=>exact cq.idx he []
  case bO=>exact aE _
  case nu=>exact cq.idx he [6]
  case l5=>
   intro g
   have g:b.size=0:=by simpa using g
   refine abU d.bG b _ d.made p.2 d.made d.calls d.raw no eA.length (cq.idx he []) ?_
   refine⟨d,[2,3,4,5],[p],_,rfl,hl,rfl,rfl,.full p 4 5 rfl rfl ⟨by omega,rfl⟩ ⟨by omega,rfl⟩ (by omega) jG,rfl,rfl,rfl,k9 (by rfl),by simp,d,4,rfl,_,rfl,?_,?_⟩
   ·unfold bP;rw[hn];dsimp only;rw[if_pos (.inl g)]
   ·unfold bP;rw[hn];dsimp only;rw[if_pos (.inl g)]
  case l6=>
   intro g g1
   have g1:1024<b.size:=by have:=of_decide_eq_true g1;omega
   refine abV d.bG b _ d.made p.2 d.made d.calls d.raw no eA.length (cq.idx he []) ?_
   refine⟨d,[2,3,4,5],[p],_,rfl,hl,rfl,rfl,.full p 4 5 rfl rfl ⟨by omega,rfl⟩ ⟨by omega,rfl⟩ (by omega) jG,rfl,rfl,rfl,k9 (by rfl),by simp,d,4,rfl,_,rfl,?_,?_⟩
   ·unfold bP;rw[hn];dsimp only;rw[if_pos (.inr g1)]
   ·unfold bP;rw[hn];dsimp only;rw[if_pos (.inr g1)]
  case iJ=>
   intro g g1 g2
   have g:¬(b.size=0\/1024<b.size):=by
    have h1:¬(b.size=0):=by simpa using g
    have:=of_decide_eq_false g1
    omega
   have g2:¬j9 d≠0:=by simpa using g2
   refine abW d.bG b _ d.made p.2 d.made d.calls d.raw no eA.length (aE _) (bt _) (cq.idx he [6]) ?_
   rw[acp,<-ByteArray.size_append]
   refine⟨{fz d with files:=ka d.files no b},[2,3,4,5,6],[(p.1,p.2++b)],_,rfl,?_,rfl,rfl,.full (p.1,p.2++b) 4 6 rfl rfl ⟨by omega,rfl⟩ ⟨by omega,rfl⟩ (by omega) jG,rfl,rfl,rfl,k9 (by rfl),by simp,_,5,rfl,_,rfl,?_,?_⟩
   ·dsimp only;rw[hl,acg hp hA hC]
   ·unfold bP;rw[hn];dsimp only;rw[if_neg g,if_neg g2]
    have:cE d.bG d.calls=0:=by simpa using g2
    rw[this]
   ·unfold bP;rw[hn];dsimp only;rw[if_neg g,if_neg g2]
  case kH=>
   intro g g1 g2
   have g:¬(b.size=0\/1024<b.size):=by
    have h1:¬(b.size=0):=by simpa using g
    have:=of_decide_eq_false g1
    omega
   have g2:j9 d≠0:=by simpa using g2
   refine abX d.bG b _ d.made p.2 d.made d.calls d.raw no eA.length (cq.idx he []) ?_
   refine⟨fz d,[2,3,4,5],[p],_,rfl,hl,rfl,rfl,.full p 4 5 rfl rfl ⟨by omega,rfl⟩ ⟨by omega,rfl⟩ (by omega) jG,rfl,rfl,rfl,k9 (by rfl),by simp,_,4,rfl,_,rfl,?_,?_⟩
   ·unfold bP;rw[hn];dsimp only;rw[if_neg g,if_pos g2]
   ·unfold bP;rw[hn];dsimp only;rw[if_neg g,if_pos g2]
def y9(x:ByteArray×Int×aA):bD×List ak:=if x.2.1=0 then(.ret (.tuple #[.slice (some ⟨1,0,none⟩) x.1.size x.1.size,.int .i64 0]),[.abs x.2.2,.cells (af x.1) 5 false])else(.ret (.tuple #[.slice none 0 0,.int .i64 x.2.1]),[.abs x.2.2])
theorem aF.acs{f:arY}{args:List Dy}{objs:List ak}{Q:bD->List ak->Prop}(h:aF fK f args objs λr o=>(∃d n,o=.abs d::awM n .dead/\(∃r',rB (fh [0]) r=some r'/\Q r' [.abs d]))\/
 ∃d b,o=[.abs d,.dead,.dead,.dead,.dead,.dead,.cells (af b) 5 false]/\(∃r',rB (fh [0,6]) r=some r'/\Q r' [.abs d,.cells (af b) 5 false]))(hl:objs.length=1):aF fK f args objs Q:=by
 refine aF.trim h ?_
 rintro r o (⟨d,n,rfl,r',h1,h2⟩|⟨d,b,rfl,r',h1,h2⟩)
 ·refine⟨[0],[],r',[.abs d],[],?_,λc hc=>(by cases hc),h2⟩
  rw[hl]
  unfold pz
  simp only[getAll,asf,auz,au0,qv,h1]
  rfl
 ·refine⟨[0,6],[6],r',[.abs d,.cells (af b) 5 false],[af b],?_,λc' mv=>(by rw[ar0]at mv;subst mv;exact aE _),h2⟩
  rw[hl]
  unfold pz
  simp only[getAll,asf,asF,auz,au0,qv,h1]
  rfl
theorem acu(d:aA)(hd:ct d)(no p b7:Int):aF fK 79 [.pointer (some ⟨0,0,none⟩),.int .i64 no,.int .i64 p,.int .i64 b7] [.abs d]
 λr o=>r=(y9 (aJ d no p b7)).1/\o=(y9 (aJ d no p b7)).2:=by
 cases hn:fileOf d.files no with
 |none=>
  refine aF.B9 (aF.BS (x0:=[]) λeR L2 hf=>?_) rfl
  have he:=pJ hf
  refine aF.dv (n:=cp fK 79) (by kernel_rfl) ?_
  apply acd d.bG [] (cf eR) d.made [] d.made d.calls d.raw no p b7 hd.bR rfl he rfl (HT hf hn) (bt _) (cq.idx he []) (cq.rI he [])
  case n0=>exact iI rfl rfl
  case aY=>rfl
  case bh=>exact bt _
  case bT=>exact cq.idx he []
  case bO=>rfl
  case l5=>
   refine acb d.bG [] (cf eR) d.made [] d.made d.calls d.raw no p b7 rfl (cq.idx he []) rfl ?_
   have e:aJ d no p b7=(KI,1,d):=by unfold aJ;rw[hn]
   exact⟨d,[1,2,3,4,5],⟨⟨d.files,[],[],eR,[],[],[],[],L2,[],[],by simp,by simp,by simp,hf,.nil,rfl,by simp,rfl,by simp[cf],.none⟩,rfl,rfl,rfl,k9 (by rfl),by simp⟩,d,5,rfl,_,rfl,by rw[e];rfl,by rw[e];rfl⟩
 |some f=>
  obtain⟨A,q,C,hl,hp,Ca,hA⟩:=HS hn
  have kn:=hd.size q (by rw[hl];simp)
  subst Ca
  refine aF.acs (aF.Z3 (x0:=[]) hl λeA eC kf sf LA LF LC h1 h2 h3 jG=>?_) rfl
  have he:cq (cf eA++([asQ (KJ .i64 q.1) (asy (some ⟨4,0,none⟩)) (q.1-1)]++cf eC))=true:=wV (pJ h1) (wV rfl (pJ h2))
  have uY:=HU h1 hA hp (asy (some ⟨4,0,none⟩)) (q.1-1) (cf eC)
  refine aF.dv (n:=cp fK 79) (by kernel_rfl) ?_
  apply aca d.bG (cf eA++([asQ (KJ .i64 q.1) (asy (some ⟨4,0,none⟩)) (q.1-1)]++cf eC)) d.made q.2 d.made d.calls d.raw no p b7 eA.length hd.bR he uY kn (bt _) (cq.idx he []) (cq.rI he [])
  case n0=>exact iI rfl rfl
  case n7=>intros;exact iI rfl rfl
  case aY=>exact bt _
  case bh=>exact cq.idx he []
  case bT=>exact aE _
  case bO=>exact cq.idx he [6]
  case n9=>
   intro g g1 g2 g3
   have g:=of_decide_eq_false g
   have g1:=of_decide_eq_false g1
   have g2:=of_decide_eq_false g2
   refine abo ?_ (by omega) kn
   split<;>omega
  case l4=>
   intro g
   have g:=of_decide_eq_true g
   have e:aJ d no p b7=(KI,1,d):=by unfold aJ;rw[hn];dsimp only;rw[if_pos (.inl g)]
   refine ab5 d.bG _ d.made q.2 d.made d.calls d.raw no p b7 eA.length (cq.idx he []) ?_
   exact⟨d,[1,2,3,4,5],[q],_,rfl,hl,rfl,rfl,.full q 4 5 rfl rfl ⟨by omega,rfl⟩ ⟨by omega,rfl⟩ (by omega) jG,rfl,rfl,rfl,k9 (by rfl),by simp,.inl ⟨d,5,rfl,_,rfl,by rw[e];rfl,by rw[e];rfl⟩⟩
  case l5=>
   intro g g1
   have g1:=of_decide_eq_true g1
   have e:aJ d no p b7=(KI,1,d):=by unfold aJ;rw[hn];dsimp only;rw[if_pos (.inr (.inl (by omega)))]
   refine ab6 d.bG _ d.made q.2 d.made d.calls d.raw no p b7 eA.length (cq.idx he []) ?_
   exact⟨d,[1,2,3,4,5],[q],_,rfl,hl,rfl,rfl,.full q 4 5 rfl rfl ⟨by omega,rfl⟩ ⟨by omega,rfl⟩ (by omega) jG,rfl,rfl,rfl,k9 (by rfl),by simp,.inl ⟨d,5,rfl,_,rfl,by rw[e];rfl,by rw[e];rfl⟩⟩
  case l6=>
   intro g g1 g2
   have g2:=of_decide_eq_true g2
   have e:aJ d no p b7=(KI,1,d):=by unfold aJ;rw[hn];dsimp only;rw[if_pos (.inr (.inr g2))]
   refine ab7 d.bG _ d.made q.2 d.made d.calls d.raw no p b7 eA.length (cq.idx he []) ?_
   exact⟨d,[1,2,3,4,5],[q],_,rfl,hl,rfl,rfl,.full q 4 5 rfl rfl ⟨by omega,rfl⟩ ⟨by omega,rfl⟩ (by omega) jG,rfl,rfl,rfl,k9 (by rfl),by simp,.inl ⟨d,5,rfl,_,rfl,by rw[e];rfl,by rw[e];rfl⟩⟩
  case l8=>
   intro g g1 g2 g3
   have g:=of_decide_eq_false g
   have g1:=of_decide_eq_false g1
   have g2:=of_decide_eq_false g2
   have g3:j9 d≠0:=by simpa using g3
   have e:aJ d no p b7=(KI,j9 d,fz d):=by unfold aJ;rw[hn];dsimp only;rw[if_neg (by omega),if_pos g3]
   refine ab8 d.bG _ d.made q.2 d.made d.calls d.raw no p b7 eA.length (cq.idx he []) ?_
   exact⟨fz d,[1,2,3,4,5],[q],_,rfl,hl,rfl,rfl,.full q 4 5 rfl rfl ⟨by omega,rfl⟩ ⟨by omega,rfl⟩ (by omega) jG,rfl,rfl,rfl,k9 (by rfl),by simp,.inl ⟨fz d,5,rfl,_,rfl,by rw[e];unfold y9;rw[if_neg g3],by rw[e];unfold y9;rw[if_neg g3]⟩⟩
  case iJ=>
   intro g g1 g2 g3
   have g:=of_decide_eq_false g
   have g1:=of_decide_eq_false g1
   have g2:=of_decide_eq_false g2
   have g3:¬j9 d≠0:=by simpa using g3
   have hm:(m5 (if b7<((q.2.size-m5 p:Nat):Int)then b7 else((q.2.size-m5 p:Nat):Int))-0)=min (q.2.size-p.toNat) b7.toNat:=by split<;>omega
   let out:=q.2.extract p.toNat (p.toNat+min (q.2.size-p.toNat) b7.toNat)
   have e:aJ d no p b7=(out,0,fz d):=by unfold aJ;rw[hn];dsimp only;rw[if_neg (by omega),if_neg g3]
   have ho:out.size=min (q.2.size-p.toNat) b7.toNat:=by show(q.2.extract _ _).size=_;rw[ByteArray.size_extract];omega
   have hb:arP (min (q.2.size-p.toNat) b7.toNat) (as3 (0+m5 p*1+0) (af q.2))=af out:=by
    show _=af (q.2.extract _ _)
    rw[abp,show 0+m5 p*1+0=p.toNat by omega,show p.toNat+min (q.2.size-p.toNat) b7.toNat-p.toNat=min (q.2.size-p.toNat) b7.toNat by omega]
   refine ab9 d.bG _ d.made q.2 d.made d.calls d.raw no p b7 eA.length (bt _) (cq.idx he [6]) (aE _) ?_
   rw[hm,hb,<-ho]
   exact⟨fz d,[1,2,3,4,5],[q],_,rfl,hl,rfl,rfl,.full q 4 5 rfl rfl ⟨by omega,rfl⟩ ⟨by omega,rfl⟩ (by omega) jG,rfl,rfl,rfl,k9 (by rfl),by simp,.inr ⟨fz d,out,rfl,_,rfl,by rw[e];rfl,by rw[e];rfl⟩⟩
end Go.Proofs.YtnlkkgpcikkpoaaGreat
namespace Go.Proofs.YtnlkkgpcikkpoaaGreat.Vm
open Go.RowKit
def rJ:List (Option Nat)->Nat->Option Nat
 | [],_=>none
 |some y::l,x=>match arE y x with
  |true=>some 0
  |false=>match rJ l x with
   |some i=>some (i+1)
   |none=>none
 |none::l,x=>match rJ l x with
  |some i=>some (i+1)
  |none=>none
theorem HV:∀{σ:List (Option Nat)} {x i:Nat},rJ σ x=some i->σ[i]?=some (some x)
 | [],x,i,h=>by cases h
 |some y::l,x,i,h=>by
  unfold rJ at h
  split at h
  ·rename_i hb;cases h;rw[arJ hb];rfl
  ·split at h
   ·rename_i j hj;cases h;simpa using HV hj
   ·cases h
 |none::l,x,i,h=>by
  unfold rJ at h
  split at h
  ·rename_i j hj;cases h;simpa using HV hj
  ·cases h
def wW:Nat->List (Option Nat)->Nat->Bool
 |0,_,_=>true
 |k+1,some y::l,i=>arE y i&&wW k l (i+1)
 |k+1,none::l,i=>wW k l (i+1)
 |_+1,[],_=>false
theorem HW:∀{k i:Nat} {l:List (Option Nat)},wW k l i=true->∀x,x<k->l[x]?=some (some (i+x))\/l[x]?=some none
 |0,i,l,h,x,hx=>by omega
 |k+1,i,some y::l,h,x,hx=>by
  simp only[wW,BV]at h
  cases x with
  |zero=>simp[arJ h.1]
  |succ x=>simpa[show i+1+x=i+(x+1)by omega]using HW h.2 x (by omega)
 |k+1,i,none::l,h,x,hx=>by
  simp only[wW]at h
  cases x with
  |zero=>simp
  |succ x=>simpa[show i+1+x=i+(x+1)by omega]using HW h x (by omega)
 |k+1,i,[],h,x,hx=>by cases h
def za:List (Option Nat)->Bool
 | []=>true
 |some y::l=> !(l.any λz=>match z with|some z=>arE y z|none=>false)&&za l
 |none::l=>za l
theorem HX:∀{l:List (Option Nat)},za l=true->∀{x y z:Nat},l[x]?=some (some z)->l[y]?=some (some z)->x=y
 | [],h,x,y,z,hx,hy=>by simp at hx
 |none::l,h,x,y,z,hx,hy=>by
  cases x with
  |zero=>simp at hx
  |succ x=>
   cases y with
   |zero=>simp at hy
   |succ y=>exact congrArg (· +1) (HX (l:=l) h (by simpa using hx) (by simpa using hy))
 |some a::l,h,x,y,z,hx,hy=>by
  simp only[za,BV,atx,auh]at h
  have br:∀i,l[i]? ≠some (some a):=λi hi=>by
   have:=h.1 _ (ar7 hi)
   simp at this
  cases x with
  |zero=>
   simp only[asf,DE]at hx
   subst hx
   cases y with
   |zero=>rfl
   |succ y=>exact absurd (by simpa using hy) (br y)
  |succ x=>
   cases y with
   |zero=>
    simp only[asf,DE]at hy
    subst hy
    exact absurd (by simpa using hx) (br x)
   |succ y=>exact congrArg (· +1) (HX h.2 (by simpa using hx) (by simpa using hy))
def Cb(τ:Nat->Option Nat):List (Nat×Dy)->Option (List (Nat×Dy))
 | []=>some []
 |(i,v)::l=>match iC τ 6 v,Cb τ l with
  |some u,some r=>some ((i,u)::r)
  |_,_=>none
theorem PJ{τ:Nat->Option Nat}:∀{sl r:List (Nat×Dy)},Cb τ sl=some r->∀p∈r,∃v,(p.1,v)∈sl/\iC τ 6 v=some p.2
 | [],r,h,p,hp=>by cases h;cases hp
 |(i,v)::l,r,h,p,hp=>by
  unfold Cb at h
  split at h
  ·rename_i u q hu hq
   cases h
   rcases arD.1 hp with rfl|hp
   ·exact⟨v,arH,hu⟩
   ·obtain⟨v',h1,h2⟩:=PJ hq p hp
    exact⟨v',arG _ h1,h2⟩
  ·cases h
def HY(objs:List ak)(σ:List (Option Nat)):List (Nat×ak):=σ.map λy=>match y with
 |some y=>(y,(objs[y]?).getD .dead)
 |none=>(262144,.dead)
def PK(pl:List Nat)(σ:List (Option Nat))(d:ai):Option (ai×List (List Dy)):=match Cb (rJ σ) d.sl,qv pl (rJ σ) (HY d.objs σ)with
 |some sl,some (objs,q)=>some (⟨sl,objs⟩,q)
 |_,_=>none
theorem PL:∀(l:List (Nat×Dy)) (L:List Dy) {i:Nat},(∀p∈l,p.1≠i)->(l.foldl (λL p=>L.set p.1 p.2) L)[i]?=L[i]?
 | [],L,i,_=>rfl
 |p::l,L,i,h=>by
  rw[att,PL l _ λq hq=>h q (arG _ hq),List.getElem?_set_ne (h p arH)]
theorem PM:∀(l:List (Nat×Dy)) (L:List Dy),ja (l.map (·.1))=true->∀p∈l,p.1<L.length->(l.foldl (λL p=>L.set p.1 p.2) L)[p.1]?=some p.2
 | [],L,_,p,hp,_=>by cases hp
 |q::l,L,hn,p,hp,hlt=>by
  simp only[List.map_cons,ja,BV,atx,auh]at hn
  rw[att]
  rcases arD.1 hp with rfl|hp
  ·rw[PL,List.getElem?_set_self hlt]
   intro r hr e
   have:=hn.1 r.1 (atb hr)
   rw[e]at this
   simp at this
  ·exact PM l _ hn.2 p hp (by rw[List.length_set];exact hlt)
theorem acv{iG:List Dy}{i:Nat}{v:Dy}(hn:iG.length<=1024)(h:iG[i]?=some v):(Bq iG).at i=v:=by
 have hi:i<iG.length:=(KP.1 h).1
 show Fr.at ⟨Fr.se iG 0 .nil,iG.length,[],[]⟩ i=v
 unfold Fr.at
 dsimp only
 rw[ed.2 hi]
 dsimp only
 rw[Fr.yz (by omega) (by omega),if_pos (by omega),Nat.sub_zero,h]
theorem ao.move{P:Program}{n k:Nat}{l:List ar3}{d d':ai}{Q:bf->ai->Prop}(σ:List (Option Nat))(pl:List Nat){q:List (List Dy)}(hm:PK pl σ d=some (d',q))(hq:∀c∈q,c.all ag=true)
 (hc:(wW k σ 0&&za σ&&arM σ.length 262144&&ja (d.sl.map (·.1))&&d.sl.all (λp=>arF p.1 n)&&d'.sl.all (λp=>arF p.1 n))=true)(hex:σ.all (λy=>match y with|some y=>arF y d.objs.length|none=>true)=true)
 (h:ao P n k l d' Q):ao P n k l d Q:=by
 intro X hn hk a w qh
 refine h X hn hk a w ?_
 obtain⟨ρ,u,M,hd⟩:=qh
 simp only[BV]at hc
 obtain⟨⟨⟨⟨⟨c1,c2⟩,c3⟩,c4⟩,c5⟩,c6⟩:=hc
 have c3:=Nat.le_of_ble_eq_true c3
 unfold PK at hm
 split at hm
 ·rename_i acw jE q2 h1 h2
  simp only[DE,KN]at hm
  obtain⟨rfl,rfl⟩:=hm
  have fx:=oQ h2 hq
  have hlen:σ.length=jE.length:=by have:=fx.len;simpa[HY]using this
  let ρ2:Ren:=λx=>match small x with
   |true=>match σ[x]?with
    |some (some y)=>ρ y
    |some none=>ρ x
    |none=>none
   |false=>ρ x
  have lU:∀x,small x=false->ρ2 x=ρ x:=λx h=>by show(match small x with|true=>_|false=>_)=_;rw[h]
  have dX:∀x,small x=true->ρ2 x=match σ[x]?with|some (some y)=>ρ y|some none=>ρ x|none=>none:=λx h=>by show(match small x with|true=>_|false=>_)=_;rw[h]
  have uz:∀i y,σ[i]?=some y->small i=true:=λi y h=>ij.2 (by
   have:i<σ.length:=(KP.1 h).1
   have:(2:Nat)^18=262144:=rfl
   omega)
  have hσ:∀i y r,σ[i]?=some (some y)->ρ y=some r->ρ2 i=some r:=λi y r h1 h2=>by rw[dX i (uz i _ h1),h1];exact h2
  have sO:∀y i r,rJ σ y=some i->ρ y=some r->ρ2 i=some r:=λy i r h1 h2=>hσ i y r (HV h1) h2
  have ql:Full ρ2:=λr=>by
   obtain⟨y,h1,h2⟩:=hd.full r
   exact⟨y,h1,by rw[lU y h1];exact h2⟩
  obtain⟨u2,ud⟩:∃u2:Nat->Dy,FR ρ2 ((eV X.n u2 acw).dS (M.map e8)) a:=by
   have cc:a.tmps.size=X.n:=by rw[hd.fr.size];show(gY X.n u d.sl).length=_;unfold gY;rw[mA];simp
   have PN:X.n<=1024:=by have:=hd.fr.small;have e:((eV X.n u d.sl).dS (M.map e8)).n=X.n:=by show(gY X.n u d.sl).length=_;unfold gY;rw[mA];simp
                         rw[e]at this;exact this
   refine FR.make cc PN (hd.fr.sF rfl) (λi=>(hd.fr.at_ i).full ql) λp hp=>?_
   have jG:p.1<X.n:=by rw[hn];exact ed.1 (ar1.1 c6 p hp)
   obtain⟨v,hv,jd⟩:=PJ h1 p hp
   refine⟨jG,rp sO 6 _ _ _ jd ?_⟩
   have ca:=hd.fr.at_ p.1
   have hg:=PM d.sl ((atX X.n).map u) c4 (p.1,v) hv (by simpa using jG)
   have EX:(gY X.n u d.sl).length<=1024:=by unfold gY;rw[mA];simpa using PN
   have:((eV X.n u d.sl).dS (M.map e8)).at p.1=v:=acv EX hg
   rw[this]at ca
   exact ca
  refine⟨ρ2,u2,M,{full:=ql,kept:=λx hx=>?_,fr:=ud,mem:=?_,bR:=by rw[<-hlen];exact c3,quiet:=hd.quiet,gR:=hd.gR,outside:=hd.outside}⟩
  ·rw[hk]at hx
   rcases HW c1 x hx with h3|h3
   ·rw[as9]at h3
    rw[dX x (uz x _ h3),h3];exact hd.kept x (by rw[hk];exact hx)
   ·rw[dX x (uz x _ h3),h3];exact hd.kept x (by rw[hk];exact hx)
  ·have ue:∀(i:Nat) (o:ak),jE[i]?=some o->(∃y ob,σ[i]?=some (some y)/\d.objs[y]?=some ob/\ON (rJ σ) ob o)\/(σ[i]?=some none/\o=.dead):=λi o hi=>by
    obtain⟨ob,h3,h4⟩:=fx.get hi
    unfold HY at h3
    rw[at1,asT]at h3
    cases hb:σ[i]?with
    |none=>rw[hb]at h3;cases h3
    |some y=>
     rw[hb]at h3
     simp only[Option.map_some,DE,Function.comp_apply]at h3
     cases y with
     |none=>
      dsimp only at h3
      subst h3
      right
      refine⟨rfl,?_⟩
      cases h4;rfl
     |some y=>
      dsimp only at h3
      have hy:y<d.objs.length:=by
       have:=ar1.1 hex (some y) (ar7 hb)
       exact ed.1 this
      rw[KH hy]at h3
      simp only[Option.getD_some]at h3
      subst h3
      exact .inl ⟨y,_,rfl,KH hy,h4⟩
   have acx:∀y ob,d.objs[y]?=some ob->cu d.objs y=some ob:=λy ob hy=>by
    rw[cH];exact hy
    exact ij.2 (by have:=(KP.1 hy).1;have:=hd.bR;have:(2:Nat)^18=262144:=rfl;omega)
   refine hd.mem.GC (λx=>match small x with
    |true=>(σ[x]?).join
    |false=>none) (λx o hx br=>?_) (λx y z hx hy=>?_) λx hx=>?_
   ·cases hs:small x with
    |false=>rw[iE hs]at hx;cases hx;exact absurd rfl br
    |true=>
     rw[cH hs]at hx
     rcases ue x o hx with⟨y,ob,h1,h2,h3⟩|⟨_,rfl⟩
     ·refine⟨y,ob,by dsimp only;rw[h1];rfl,acx y ob h2,h3.ne br,?_,λr hl=>⟨(h3.live hl).1,(h3.live hl).2,h3.or sO hl⟩,λn size row e=>?_,λel ro e=>?_,λd e=>?_⟩
      ·rw[dX x hs,h1]
      ·subst e;cases h3;rfl
      ·subst e
       cases h3 with
       |plain=>rfl
       |cells c _ _ _ h=>
        cases c with
        |nil=>rfl
        |cons v c=>have:=uw h;simp at this
      ·subst e;cases h3;rfl
     ·exact absurd rfl br
   ·have key:∀q,(match small q with|true=>(σ[q]?).join|false=>none)=some z->σ[q]?=some (some z):=λq hq=>by
     cases hs:small q with
     |true=>
      rw[hs]at hq
      cases hc:σ[q]?with
      |none=>rw[hc]at hq;cases hq
      |some y=>rw[hc]at hq;simp only[Option.join_some]at hq;rw[hq]
     |false=>rw[hs]at hq;cases hq
    exact HX c2 (key x hx) (key y hy)
   ·cases hs:small x with
    |false=>rw[iE hs]at hx;cases hx
    |true=>
     rw[cH hs]at hx
     rw[dX x hs]
     have:σ[x]?=none:=by
      rw[List.getElem?_eq_none_iff]at hx⊢
      rw[hlen];exact hx
     rw[this]
 ·cases hm
end Go.Proofs.YtnlkkgpcikkpoaaGreat.Vm
namespace Go.Proofs.YtnlkkgpcikkpoaaGreat
open Go Vm Go.RowKit
structure ad where
 at_:Int
 more:Bool
 bi:Bool
 B:Nat->Int
 n:Int
 failed:Bool
 aC:Bool
 ro:Nat
 rn:Nat
 bJ:Int
 sn:Nat
 hn:Nat
 eL:Bool
 raw:Int
 closed:Bool
def zb(B:Nat->Int):List Dy:=[.int .u8 (B 0),.int .u8 (B 1),.int .u8 (B 2),.int .u8 (B 3),.int .u8 (B 4),.int .u8 (B 5),.int .u8 (B 6),.int .u8 (B 7),.int .u8 (B 8),.int .u8 (B 9),.int .u8 (B 10),.int .u8 (B 11),.int .u8 (B 12),.int .u8 (B 13),.int .u8 (B 14),.int .u8 (B 15),.int .u8 (B 16),.int .u8 (B 17),.int .u8 (B 18),.int .u8 (B 19),.int .u8 (B 20),.int .u8 (B 21),.int .u8 (B 22),.int .u8 (B 23),.int .u8 (B 24),.int .u8 (B 25),.int .u8 (B 26),.int .u8 (B 27),.int .u8 (B 28),.int .u8 (B 29),.int .u8 (B 30),.int .u8 (B 31),.int .u8 (B 32),.int .u8 (B 33),.int .u8 (B 34),.int .u8 (B 35),.int .u8 (B 36),.int .u8 (B 37),.int .u8 (B 38),.int .u8 (B 39),.int .u8 (B 40),.int .u8 (B 41),.int .u8 (B 42),.int .u8 (B 43),.int .u8 (B 44),.int .u8 (B 45),.int .u8 (B 46),.int .u8 (B 47),.int .u8 (B 48),.int .u8 (B 49),.int .u8 (B 50),.int .u8 (B 51),.int .u8 (B 52),.int .u8 (B 53),.int .u8 (B 54),.int .u8 (B 55),.int .u8 (B 56),.int .u8 (B 57),.int .u8 (B 58),.int .u8 (B 59),.int .u8 (B 60),.int .u8 (B 61),.int .u8 (B 62),.int .u8 (B 63)]
def aL(S:ad)(a b c e:Nat):List Dy:=[.int .i64 S.at_,.bool S.more,.bool S.bi]++zb S.B++[.int .i64 S.n,.bool S.failed,.pointer (some ⟨a,0,none⟩),.bool S.aC,.slice (some ⟨b,S.ro,none⟩) S.rn S.rn,.int .i64 S.bJ,.slice (some ⟨c,0,none⟩) S.sn S.sn,.slice (some ⟨e,0,none⟩) S.hn S.hn,.bool S.eL,.int .i64 S.raw,.bool S.closed]
structure au where
 no:Int
 at_:Int
 line:ByteArray
 there:Bool
def la(h:au):List Dy:=[.int .i64 h.no,.int .i64 h.at_,.string h.line,.bool h.there]
def an(l:List au):List Dy:=(l.map la).flatten
def aP(S:ad)(L:List ByteArray)(R:List Int)(H:List au)(d:aA):List ak:=[.cells (aL S 1 2 3 4) 89 false,.abs d,.cells (ah L) 9 false,.cells (ay R) 3 false,.cells (an H) 114 false]
theorem aZ(l:List au):(an l).all ag=true:=by
 induction l with
 |nil=>rfl
 |cons x l ih=>show(la x++an l).all ag=true;rw[avI,ih];rfl
theorem zc(l:List au):(an l).length=l.length*4:=by
 induction l with
 |nil=>rfl
 |cons x l ih=>show(la x++an l).length=_;rw[KO,ih,ar4];show 4+_=_;omega
def b8(a b:ByteArray):Int:=asM a.data.toList b.data.toList
theorem aO{R0:bf->ai->Prop}{t:Tree}(L:List ByteArray)(R:List Int)(H:List au)(h:t.ok R0):(Tree.cY (DC (ah L) ag) true (.cY (DC (ay R) ag) true (.cY (DC (an H) ag) true t))).ok R0:=Tree.aQ (aW L) (Tree.aQ (aS R) (Tree.aQ (aZ H) h))
theorem ia{q:List (List Dy)}(L:List ByteArray)(R:List Int)(H:List au)(h:∀c∈q,c.all ag=true):∀c∈ah L::ay R::an H::q,c.all ag=true:=aD (aW L) (aD (aS R) (aD (aZ H) h))
end Go.Proofs.YtnlkkgpcikkpoaaGreat
namespace Go.Proofs.YtnlkkgpcikkpoaaGreat
open Go Vm Go.RowKit
set_option maxHeartbeats 1000000
theorem acy(a b:ByteArray)(w:arB):au6 fK 123 #[.string a,.string b] w λe w'=>e=.returned (.int .i64 (b8 a b))/\w'=w:=by
 go_enter Tryz.func123,Tryz.ntmps123
 go_wp2
 rw[avQ Tryz.func135 (by kernel_rfl) (by kernel_rfl) (by kernel_rfl) (e:=axE) (by kernel_rfl),Lib.run_compareString]
 simp only[au7]
 rw[awA]
 go_wp2
 go_ret
 exact⟨rfl,rfl⟩
theorem acz(a b:ByteArray)(w:arB):au6 fK 100 #[.string a,.string b] w λe w'=>e=.returned (.int .i64 (b8 a b))/\w'=w:=by
 go_enter Tryz.func100,Tryz.ntmps100
 go_wp2_with (go_at_call 123;refine(acy a b _).mono ?_;rintro e w1 ⟨rfl,rfl⟩)
 go_ret
 exact⟨rfl,rfl⟩
theorem acA(b o n c:Nat)(xs:List Int)(cv:Int)(w:arB)(hx:xs.length=n)(hc:∀i,i<n->w.cell? ⟨b,o+i,none⟩=some (.int .u8 (xs.getD i 0))):
 au6 fK 80 #[.slice (some ⟨b,o,none⟩) n c,.int .u8 cv] w λe w'=>e=.returned (.int .i64 (auQ (awF xs) cv.toNat.toUInt8))/\w'=w:=by
 go_enter ayf,ax1
 go_wp2
 rw[avQ ax2 (by kernel_rfl) (by kernel_rfl) (by kernel_rfl) (e:=atL) (by kernel_rfl),Lib.run_indexByteSlice w b o n c xs hx hc cv]
 simp only[au7]
 rw[awA]
 go_wp2
 go_ret
 exact⟨rfl,rfl⟩
theorem acB{P:Program}(p:Addr)(c:Nat)(cv:Int)(w:arB):(atL #[.slice (some p) 0 c,.int .u8 cv]).run P w=.ok (.int .i64 (-1)) w:=by
 have hl:=Lib.run_loadBytesX (P:=P) w [] p .empty (λj x hj=>by simp at hj)
 have hs:=Lib.run_indexByteString (P:=P) .empty cv w
 have he:(⟨KI.data++(awF []).toArray⟩:ByteArray)=.empty:=by
  apply ByteArray.ext
  rfl
 rw[he]at hl
 change Sem.run P (do
  let b <-avJ (.slice (some p) 0 c)
  let c <-aw2 (.int .u8 cv)
  match(atX b.size).find? λi=>b[i]! ==c with
  |some i=>pure (goInt i)
  |none=>pure (goInt (-1))) w=_
 change Sem.run P (do
  let b <-avJ (.string .empty)
  let c <-aw2 (.int .u8 cv)
  match(atX b.size).find? λi=>b[i]! ==c with
  |some i=>pure (goInt i)
  |none=>pure (goInt (-1))) w=_ at hs
 simp only[avJ,Sem.run_bind,Sem.run_pure,hl,au7]at hs⊢
 exact hs
theorem acC(cv:Int)(w:arB)(a:Option Addr)(c:Nat):au6 fK 80 #[.slice a 0 c,.int .u8 cv] w λe w'=>e=.returned (.int .i64 (-1))/\w'=w:=by
 have key:(atL #[.slice a 0 c,.int .u8 cv]).run fK w=.ok (.int .i64 (-1)) w:=by
  cases a with
  |none=>exact Lib.run_indexByteNil w 0 c cv
  |some p=>exact acB p c cv w
 go_enter ayf,ax1
 go_wp2
 rw[avQ ax2 (by kernel_rfl) (by kernel_rfl) (by kernel_rfl) (e:=atL) (by kernel_rfl),key]
 simp only[au7]
 rw[awA]
 go_wp2
 go_ret
 exact⟨rfl,rfl⟩
theorem acD(a b:ByteArray):aF fK 100 [.string a,.string b] [] λr o=>r=.ret (.int .i64 (b8 a b))/\o=[]:=by
 intro B w₀ ρ w args' gM hn ha hw
 obtain⟨v1,l,e1,h1,h2⟩:=ha.gT
 obtain⟨v2,l2,e2,h3,h4⟩:=h2.gT
 have:=h1.qa;subst this
 have:=h3.qa;subst this
 have:=h4.kO;subst this
 have ea:args'= #[.string a,.string b]:=by rw[<-asB (xs:=args'),e1,e2]
 rw[ea]
 refine(acz a b w).mono λe w' he=>?_
 obtain⟨rfl,rfl⟩:=he
 exact⟨.ret (.int .i64 (b8 a b)),[],ρ,⟨rfl,rfl⟩,.bN _ rfl,gM,hw,by simp,λ_ _=>rfl⟩
def HZ(a:List Dy)(o:List ak):Option (Bool×bD×List ak):=match a,o with
 | [.string x,.string y],[]=>some (true,.ret (.int .i64 (b8 x y)),[])
 |_,_=>none
theorem acE:bB fK 100 (Sum.of HZ):=bB.of λa o r o' hg=>by
 unfold HZ at hg
 split at hg
 ·cases hg;exact acD _ _
 ·cases hg
def ba(b:ByteArray)(c:Int):Int:=auQ b.data.toList c.toNat.toUInt8
theorem acF(b:ByteArray)(c:Int)(ro:Bool):aF fK 80 [.slice (some ⟨0,0,none⟩) b.size b.size,.int .u8 c] [.cells (af b) 5 ro] λr o=>r=.ret (.int .i64 (ba b c))/\o=[.cells (af b) 5 ro]:=by
 intro B w₀ ρ w args' gM hn ha hw
 obtain⟨v1,l,e1,h1,h2⟩:=ha.gT
 obtain⟨v2,l2,e2,h3,h4⟩:=h2.gT
 have:=h3.kl;subst this
 have:=h4.kO;subst this
 have ea:args'= #[v1,.int .u8 c]:=by rw[<-asB (xs:=args'),e1,e2]
 rw[ea]
 have fin:∀{k:Int},ba b c=k->au6 fK 80 #[v1,.int .u8 c] w (λe w'=>e=.returned (.int .i64 k)/\w'=w)->
  au6 fK 80 #[v1,.int .u8 c] w λe w'=>∃r jD ρ',(r=.ret (.int .i64 (ba b c))/\jD=[.cells (af b) 5 ro])/\CR ρ' r e/\Full ρ'/\WR fK B w₀ ρ' (cu jD) w'/\jD.length<=262144/\∀x,x< [ak.cells (af b) 5 ro].length->ρ' x=ρ x:=λhk h=>h.mono λe w' he=>by
  obtain⟨rfl,rfl⟩:=he
  subst hk
  exact⟨_,_,ρ,⟨rfl,rfl⟩,.bN _ rfl,gM,hw,by simp,λ_ _=>rfl⟩
 by_cases h0:b.size=0
 ·have hb:b=KI:=by
   cases b with|mk d=>
   have:d= #[]:=Array.eq_empty_of_size_eq_zero h0
   rw[this];rfl
  have hk:ba b c= -1:=by subst hb;rfl
  have hv:∃a' c',v1=.slice a' 0 c':=by
   rw[h0]at h1
   exact h1.NV
  obtain⟨a',c',rfl⟩:=hv
  exact fin hk (acC c w a' c')
 ·have br:af b≠[]:=by intro e;have:=congrArg nG e;rw[mC]at this;exact h0 this
  obtain⟨n,hn⟩:∃n,b.size=n:=⟨_,rfl⟩
  rw[hn]at h1 h0
  cases h1 with
  |bN _ h=>cases h
  |eJ=>exact absurd rfl h0
  |sl _ _ _ _ bH q hq hc=>
   obtain⟨o',k1,k2,_⟩:=hw.live 0 _ q (by rw[cH rfl];rfl) hq (pc br)
   cases k2 with
   |cells _ _ cj _ a fr g1 g2 g3 g4 g5 g6=>
   refine fin rfl ?_
   have:=acA q.aH (q.sh+0) n bH (b.data.toList.map λx=>(x.toNat:Int)) c w (by rw[List.length_map];exact hn) (λi hi=>by
    have fH:i<b.data.toList.length:=by rw[<-hn]at hi;exact hi
    obtain⟨v',g7,g8⟩:=g6 i (.int .u8 (b.data.toList[i].toNat)) (by unfold af;rw[asT,KH fH];rfl)
    have:=g8.kl
    subst this
    simp only[World.cell?,k1,Nat.add_zero,g7]
    rw[List.getD_eq_getElem?_getD,asT,KH fH]
    rfl)
   have e:awF (b.data.toList.map λx=>(x.toNat:Int))=b.data.toList:=by
    unfold awF
    rw[at1]
    conv=>rhs;rw[<-av2 b.data.toList]
    refine atc λx _=>?_
    simp
   rw[e]at this
   exact this
end Go.Proofs.YtnlkkgpcikkpoaaGreat
namespace Go.Proofs.YtnlkkgpcikkpoaaGreat
open Go Vm Go.RowKit
noncomputable section
def acG:List (arY×Sum):=[(100,Sum.of HZ)]
theorem Cc:dD fK (dM fK (dP acG) 50 40):=dU dC mixed (ee (.cons acE .nil)) 50 40
def acH:List ar3:=a7 (dI fK 74)
open Tree renaming aQ->mN,dE->mF,fj->mL,fY->mQ,dN->mR,gH->mE
abbrev zd:=λS L R H d=>([ab (aL S 1 2 3 4) 89,.abs d,ab (ah L) 9,ab (ay R) 3,ab (an H) 114]:List ak)
abbrev PO:=λS L R H d a b=>(⟨[(6,aa (b8 b a))],zd S L R H d⟩:ai)
theorem acI(S L R H d a b){Q:bu}(hq:Q (.ret (aa (b8 b a))) (zd S L R H d)):aG fK 74 17 5 Q .ret (PO S L R H d a b):=aG.ret (vs:=[aa (b8 b a)]) (l:=[]) (bs:=[0,1,2,3,4]) (pl:=[2,3,4]) (q:=[ah L,ay R,an H]) (λu=>by kernel_rfl) (by kernel_rfl) (ia L R H be) hq
abbrev PP:=λS L R H d a b=>(⟨[(6,aa (b8 a b))],zd S L R H d⟩:ai)
theorem acJ(S L R H d a b){Q:bu}(hq:Q (.ret (aa (b8 a b))) (zd S L R H d)):aG fK 74 17 5 Q .ret (PP S L R H d a b):=aG.ret (vs:=[aa (b8 a b)]) (l:=[]) (bs:=[0,1,2,3,4]) (pl:=[2,3,4]) (q:=[ah L,ay R,an H]) (λu=>by kernel_rfl) (by kernel_rfl) (ia L R H be) hq
abbrev acK:=λS L R H d a b=>(⟨[(0,ap 0),(1,.string a),(2,.string b)],zd S L R H d⟩:ai)
theorem acL(S L R H d a b)(pH:(an H).all ag=true){Q:aU}(l3:(ad.aC S)->Q .ret (PO S L R H d a b))(l4:(ad.aC S)=false->Q .ret (PP S L R H d a b)):ao fK 17 5 acH (acK S L R H d a b) Q:=
 aV Cc 1000 (.fork 1 (.leaf [6] [0,1,2,3,4] [2,3,4]) (.leaf [6] [0,1,2,3,4] [2,3,4])) (λu=>by kernel_rfl) (mF (c:=ad.aC S) (λh0=>(aO L R H (mR (l3 h0)))) (λh0=>(aO L R H (mR (l4 h0)))))
end
end Go.Proofs.YtnlkkgpcikkpoaaGreat
namespace Go.Proofs.YtnlkkgpcikkpoaaGreat
structure TO{α:Type}(c:α->α->Int):Prop where
 asym:∀a b,c a b<0->¬c b a<0
 trans:∀a b x,¬c b a<0->¬c x b<0->¬c x a<0
 PQ:∀a b,¬c a b<0->¬c b a<0->a=b
section
variable {α:Type} {c:α->α->Int}
def gg(c:α->α->Int)(a b:α):Bool:= !decide (c b a<0)
theorem oT{a b:α}:gg c a b=true↔¬c b a<0:=by unfold gg;simp
theorem TO.le_trans(h:TO c){a b x:α}(h1:gg c a b=true)(h2:gg c b x=true):gg c a x=true:=by
 rw[oT]at*;exact h.trans a b x h1 h2
theorem TO.total(h:TO c)(a b:α):gg c a b=true\/gg c b a=true:=by
 rw[oT,oT]
 by_cases h1:c b a<0
 ·exact .inr (h.asym b a h1)
 ·exact .inl h1
theorem TO.acM(h:TO c){a b:α}(h1:gg c a b=true)(h2:gg c b a=true):a=b:=by
 rw[oT]at*;exact h.PQ a b h2 h1
theorem TO.refl(h:TO c)(a:α):gg c a a=true:=by rcases h.total a a with h|h<;>exact h
abbrev dp(c:α->α->Int)(l:List α):Prop:=l.Pairwise λa b=>gg c a b=true
def bb(c:α->α->Int)(l:List α):List α:=l.mergeSort (gg c)
theorem ib(l:List α):(bb c l).Perm l:=List.mergeSort_perm l _
theorem ny(h:TO c)(l:List α):dp c (bb c l):=by
 refine List.pairwise_mergeSort (le:=gg c) (λa b x h1 h2=>h.le_trans h1 h2) (λa b=>?_) l
 rcases h.total a b with h|h<;>simp[h]
theorem PS(h:TO c):∀{l l':List α},l.Perm l'->dp c l->dp c l'->l=l'
 | [],l',hp,_,_=>(List.nil_perm.1 hp).symm
 |a::l,[],hp,_,_=>absurd hp.length_eq (by simp)
 |a::l,b::l',hp,h1,h2=>by
  have j5:a=b:=by
   have ha:a∈b::l':=hp.mem_iff.1 arH
   have hb:b∈a::l:=hp.mem_iff.2 arH
   rcases arD.1 ha with e|ha
   ·exact e
   rcases arD.1 hb with e|hb
   ·exact e.symm
   exact h.acM ((atD.1 h1).1 b hb) ((atD.1 h2).1 a ha)
  subst j5
  rw[PS h ((List.perm_cons a).1 hp) (atD.1 h1).2 (atD.1 h2).2]
theorem wX(h:TO c){l l':List α}(hp:l'.Perm l)(hs:dp c l'):l'=bb c l:=PS h (hp.trans (ib l).symm) hs (ny h l)
theorem H0(h:TO c){l:List α}(hs:dp c l):bb c l=l:=(wX h (List.Perm.refl l) hs).symm
theorem lG(l:List α):(bb c l).length=l.length:=(ib l).length_eq
theorem ze(h:TO c){l l':List α}(hp:l.Perm l'):bb c l=bb c l':=wX h ((ib l).trans hp) (ny h l)
theorem acN(h:TO c){X Y:List α}(oJ:∀x∈X,∀y∈Y,gg c x y=true):bb c (X++Y)=bb c X++bb c Y:=by
 refine(wX h ((ib X).append (ib Y)) ?_).symm
 refine auM.2 ⟨ny h X,ny h Y,λx hx y hy=>oJ x ((ib X).mem_iff.1 hx) y ((ib Y).mem_iff.1 hy)⟩
def aM(L:List α)(a b:Nat):List α:=(L.drop a).take (b-a)
def b9(c:α->α->Int)(L:List α)(a b:Nat):List α:=L.take a++(bb c (aM L a b)++L.drop b)
theorem jS{L:List α}{a b:Nat}(h1:a<=b)(h2:b<=L.length):(aM L a b).length=b-a:=by unfold aM;rw[asj,ass];omega
theorem oe(L:List α){a m b:Nat}(h1:a<=m)(h2:m<=b):aM L a b=aM L a m++aM L m b:=by
 unfold aM
 rw[show b-a=(m-a)+(b-m)by omega,List.take_add,asI,show a+(m-a)=m by omega]
theorem th(L:List α){a b:Nat}(h:a<=b):L=L.take a++(aM L a b++L.drop b):=by
 unfold aM
 have:L.drop b=(L.drop a).drop (b-a):=by rw[asI,show a+(b-a)=b by omega]
 rw[this,asD,asD]
theorem PT{L:List α}{a b:Nat}(h1:a<=b)(h2:b<=L.length):(b9 c L a b).length=L.length:=by
 unfold b9
 rw[KO,KO,lG,jS h1 h2,asj,ass];omega
theorem H2{T X:List α}{n:Nat}(h:T.length=n):(T++X).take n=T:=by rw[<-h];simp
theorem H3{T X:List α}{n:Nat}(h:T.length=n):(T++X).drop n=X:=by rw[<-h];simp
theorem oU{T X D:List α}{a b:Nat}(h:T.length=a)(h2:X.length=b-a):aM (T++(X++D)) a b=X:=by
 unfold aM;rw[H3 h,H2 h2]
theorem wY{T X D:List α}{a b:Nat}(h:T.length=a)(h1:a<=b)(h2:X.length=b-a):b9 c (T++(X++D)) a b=T++(bb c X++D):=by
 unfold b9
 have:(T++(X++D)).drop b=D:=by rw[<-List.append_assoc];exact H3 (by rw[KO];omega)
 rw[H2 h,oU h h2,this]
def dF(T S D:List α)(x:α)(j:Nat):List α:=T++(S.take j++(x::(S.drop j++D)))
theorem H4{T S D:List α}{x:α}{j:Nat}(h:j<=S.length):(dF T S D x j).length=T.length+S.length+1+D.length:=by
 unfold dF;simp;omega
theorem H5{T S D:List α}{x:α}{j:Nat}(h:j<=S.length):(dF T S D x j)[T.length+j]?=some x:=by
 unfold dF
 rw[asd (by omega),show T.length+j-T.length=j by omega,asd (by simp;omega)]
 simp[Nat.min_eq_left h]
theorem PU{T S D:List α}{x:α}{j:Nat}(h:j<S.length):(dF T S D x (j+1))[T.length+j]?=S[j]? :=by
 unfold dF
 rw[asd (by omega),show T.length+j-T.length=j by omega,List.getElem?_append_left (by simp;omega),au1 (by omega)]
theorem acO{P Z:List α}{x y:α}{n:Nat}(h:P.length=n):((P++(y::x::Z)).set (n+1) y).set n x=P++(x::y::Z):=by
 subst h
 rw[avy _ _ (by omega),avy _ _ (by omega),show P.length+1-P.length=1 by omega,Nat.sub_self]
 rfl
theorem qA{S:List α}{y:α}{j:Nat}(hy:S[j]?=some y):S.take (j+1)=S.take j++[y]/\S.drop j=y::S.drop (j+1):=by
 obtain⟨hj,rfl⟩:=KP.1 hy
 exact⟨by rw[List.take_succ_eq_append_getElem hj],by rw[List.drop_eq_getElem_cons hj]⟩
theorem PV{T S D:List α}{x y:α}{j:Nat}(h:j<S.length)(hy:S[j]?=some y):((dF T S D x (j+1)).set (T.length+(j+1)) y).set (T.length+j) x=dF T S D x j:=by
 obtain⟨e1,e2⟩:=qA hy
 have a1:dF T S D x (j+1)=(T++S.take j)++(y::x::(S.drop (j+1)++D)):=by unfold dF;rw[e1];simp
 have a2:dF T S D x j=(T++S.take j)++(x::y::(S.drop (j+1)++D)):=by unfold dF;rw[e2];simp
 rw[a1,a2,show T.length+(j+1)=T.length+j+1 by omega]
 exact acO (by rw[KO,asj];omega)
theorem PW(h:TO c){S:List α}{x:α}{j:Nat}(hS:dp c S)(hj:j<=S.length)(h1:∀k y,k<j->S[k]?=some y->gg c y x=true)(h2:∀k y,j<=k->S[k]?=some y->gg c x y=true):S.take j++(x::S.drop j)=bb c (S++[x]):=by
 refine wX h ?_ ?_
 ·have:(S.take j++(x::S.drop j)).Perm (x::(S.take j++S.drop j)):=List.perm_middle
  rw[asD]at this
  exact this.trans (List.perm_append_comm (l₁:=[x]) (l₂:=S))
 ·refine auM.2 ⟨hS.sublist (List.take_sublist _ _),atD.2 ⟨λy hy=>?_,hS.sublist (List.drop_sublist _ _)⟩,λy hy z hz=>?_⟩
  ·obtain⟨k,hk⟩:=asS hy
   rw[asH]at hk
   exact h2 _ y (by omega) hk
  ·have rG:gg c y x=true:=by
    obtain⟨k,hk⟩:=asS hy
    have PX:k<j:=by
     have:=(KP.1 hk).1
     rw[asj]at this;omega
    rw[au1 PX]at hk
    exact h1 k y PX hk
   rcases arD.1 hz with rfl|hz
   ·exact rG
   ·obtain⟨k,hk⟩:=asS hz
    rw[asH]at hk
    exact h.le_trans rG (h2 _ z (by omega) hk)
theorem Cd{S:List α}(hS:dp c S)(h:TO c){i j:Nat}{a b:α}(iX:i<=j)(ha:S[i]?=some a)(hb:S[j]?=some b):gg c a b=true:=by
 obtain⟨hi,rfl⟩:=KP.1 ha
 obtain⟨hj,rfl⟩:=KP.1 hb
 rcases Nat.lt_or_eq_of_le iX with hlt|rfl
 ·exact List.pairwise_iff_getElem.1 hS i j hi hj hlt
 ·exact h.refl _
end
end Go.Proofs.YtnlkkgpcikkpoaaGreat
namespace Go.Proofs.YtnlkkgpcikkpoaaGreat
open Go Vm Go.RowKit
def aN(f:Bool)(a b:ByteArray):Int:=match f with
 |true=>b8 b a
 |false=>b8 a b
theorem acP(S:ad)(L:List ByteArray)(R:List Int)(H:List au)(d:aA)(a b:ByteArray):aF fK 74 [.pointer (some ⟨0,0,none⟩),.string a,.string b] (aP S L R H d) λr o=>r=.ret (.int .i64 (aN S.aC a b))/\o=aP S L R H d:=by
 refine aF.dv (n:=cp fK 74) (by kernel_rfl) ?_
 have pH:=aZ H
 apply acL S L R H d a b pH
 case l3=>intro g;exact acI S L R H d a b ⟨by unfold aN;rw[g],rfl⟩
 case l4=>intro g;exact acJ S L R H d a b ⟨by unfold aN;rw[g],rfl⟩
noncomputable def rK(o:List ak):Bool:=@decide (∃S L R H d,o=aP S L R H d) (arT _)
theorem wZ{S:ad}{L:List ByteArray}{R:List Int}{H:List au}{d:aA}{o:List ak}(h:o=aP S L R H d):rK o=true:=by
 unfold rK
 exact(@decide_eq_true_iff _ (arT _)).2 ⟨S,L,R,H,d,h⟩
noncomputable def H6(a:List Dy)(o:List ak):Option (Bool×bD×List ak):=match a,o with
 | [.pointer (some ⟨0,0,none⟩),.string x,.string y],ak.cells c t r::l=>match(c[70]?:Option Dy)with
  |some (Value.bool f)=>some (rK (.cells c t r::l),.ret (.int .i64 (aN f x y)),.cells c t r::l)
  |_=>none
 |_,_=>none
theorem acQ:bB fK 74 (Sum.dQ fK H6):=bB.dQ λa o r o' hg=>by
 unfold H6 at hg
 split at hg
 ·split at hg
  ·rename_i f hf
   rename_i x y c t ro l _
   simp only[DE,KN]at hg
   obtain⟨h1,rfl,rfl⟩:=hg
   obtain⟨S,L,R,H,d,he⟩:=@of_decide_eq_true _ (arT _) h1
   have hc:c=aL S 1 2 3 4:=by unfold aP at he;injection he with h1 _;injection h1
   have uZ:f=S.aC:=by
    rw[hc]at hf
    have:(aL S 1 2 3 4)[70]?=some (.bool S.aC):=rfl
    rw[this]at hf
    cases hf;rfl
   subst uZ
   rw[he]
   exact acP S L R H d x y
  ·cases hg
 ·cases hg
theorem PY:∀a b:List UInt8,asM a b<0↔0<asM b a
 | [],[]=>by simp[asM]
 | [],_::_=>by simp[asM]
 |_::_,[]=>by simp[asM]
 |a::l,b::m=>by
  unfold asM
  by_cases h1:a<b
  ·rw[if_pos h1,if_neg (by simpa using UInt8.le_of_lt h1),if_pos h1];simp
  ·rw[if_neg h1]
   by_cases h2:b<a
   ·rw[if_pos h2,if_pos h2];simp
   ·rw[if_neg h2,if_neg h2,if_neg h1]
    exact PY l m
theorem cmpL_eq:∀a b:List UInt8,asM a b=0->a=b
 | [],[],_=>rfl
 | [],_::_,h=>by simp[asM]at h
 |_::_,[],h=>by simp[asM]at h
 |a::l,b::m,h=>by
  unfold asM at h
  split at h
  ·cases h
  ·split at h
   ·cases h
   ·rename_i h1 h2
    have:a=b:=avd (by simpa using h2) (by simpa using h1)
    rw[this,cmpL_eq l m h]
theorem PZ:∀a b x:List UInt8,asM a b<=0->asM b x<=0->asM a x<=0
 | [],b,x,_,_=>by cases x<;>simp[asM]
 |_::_,[],x,h,_=>by simp[asM]at h
 |a::l,b::m,[],_,h=>by simp[asM]at h
 |a::l,b::m,x::n,h1,h2=>by
  unfold asM at h1 h2⊢
  by_cases e1:a<b
  ·by_cases e2:b<x
   ·rw[if_pos (UInt8.lt_trans e1 e2)];simp
   ·rw[if_neg e2]at h2
    by_cases e3:x<b
    ·rw[if_pos e3]at h2;omega
    ·have:b=x:=avd (by simpa using e3) (by simpa using e2)
     subst this
     rw[if_pos e1];simp
  ·rw[if_neg e1]at h1
   by_cases e2:b<a
   ·rw[if_pos e2]at h1;omega
   ·have:a=b:=avd (by simpa using e2) (by simpa using e1)
    subst this
    rw[if_neg e2]at h1
    by_cases e3:a<x
    ·rw[if_pos e3];simp
    ·rw[if_neg e3]at h2⊢
     by_cases e4:x<a
     ·rw[if_pos e4]at h2;omega
     ·rw[if_neg e4]at h2⊢
      exact PZ l m n h1 h2
theorem og(f:Bool):TO (aN f):=by
 have neg:∀a b,b8 a b<0↔0<b8 b a:=λa b=>PY _ _
 have tr:∀a b x,b8 a b<=0->b8 b x<=0->b8 a x<=0:=λa b x=>PZ _ _ _
 have eq:∀a b,b8 a b=0->a=b:=λa b h=>by
  have:=cmpL_eq _ _ h
  cases a with|mk a=>cases b with|mk b=>
  have:=congrArg List.toArray this
  simp only[asB]at this
  rw[this]
 cases f with
 |true=>
  refine⟨λa b h h'=>?_,λa b x h1 h2=>?_,λa b h1 h2=>?_⟩
  ·have:=(neg b a).1 h;have h':b8 a b<0:=h';omega
  ·have h1:¬b8 a b<0:=h1
   have h2:¬b8 b x<0:=h2
   show¬b8 a x<0
   have a1:b8 b a<=0:=by have:=neg a b;have:=neg b a;omega
   have a2:b8 x b<=0:=by have:=neg b x;have:=neg x b;omega
   have:=tr x b a a2 a1
   have:=neg a x;have:=neg x a;omega
  ·have h1:¬b8 b a<0:=h1
   have h2:¬b8 a b<0:=h2
   exact eq a b (by have:=neg a b;have:=neg b a;omega)
 |false=>
  refine⟨λa b h h'=>?_,λa b x h1 h2=>?_,λa b h1 h2=>?_⟩
  ·have:=(neg a b).1 h;have h':b8 b a<0:=h';omega
  ·have h1:¬b8 b a<0:=h1
   have h2:¬b8 x b<0:=h2
   show¬b8 x a<0
   have a1:b8 a b<=0:=by have:=neg a b;have:=neg b a;omega
   have a2:b8 b x<=0:=by have:=neg b x;have:=neg x b;omega
   have:=tr a b x a1 a2
   have:=neg a x;have:=neg x a;omega
  ·have h1:¬b8 a b<0:=h1
   have h2:¬b8 b a<0:=h2
   exact eq a b (by have:=neg a b;have:=neg b a;omega)
noncomputable section
def acR:List (arY×Sum):=[(74,Sum.dQ fK H6)]
theorem ti:dD fK (dM fK (dP acR) 50 40):=dU dC mixed (ee (.cons acQ .nil)) 50 40
def zf:List ar3:=a7 (dI fK 121)
open Tree renaming aQ->mN,dE->mF,fj->mL,fY->mQ,dN->mR,gH->mE
abbrev Ce:List ar3:=(a7 (inner (a7 (inner (zf.drop 1)))))
abbrev H7:List ar3:=(a7 (inner (Ce.drop 2)))
abbrev acS:List ar3:=(a7 (inner (a7 (inner (H7.drop 1)))))
def P0:Nat->Bool->Bool->Tree->Tree
 |0,_,_,t=>t
 |n+1,d,b,t=>.cY d b (P0 n d b t)
theorem Cf{R:bf->ai->Prop}{c v:Bool}{t:Tree}(n:Nat)(h1:c=v)(h2:t.ok R):(P0 n c v t).ok R:=by
 induction n with
 |zero=>exact h2
 |succ n ih=>exact⟨h1,ih⟩
abbrev qB:=λS R H d L=>([ab (ah L) 9,ab (aL S 2 0 3 4) 89,.abs d,ab (ay R) 3,ab (an H) 114]:List ak)
abbrev H8:=λS R H d (n:Nat) L (a b:Int)=>(⟨[(0,aq 0 n),(1,aa a),(2,aa b),(3,.func (.func 74) #[ap 1] #[]),(8,.int .i64 (m6 .i64 (a+1)))],qB S R H d L⟩:ai)
abbrev acT:=λS R H d (n:Nat) L (a b:Int)=>(⟨[(0,aq 0 n),(1,aa a),(2,aa b),(3,.func (.func 74) #[ap 1] #[])],qB S R H d L⟩:ai)
theorem acU(S R H d)(n:Nat)(L)(a b:Int)(pH:(an H).all ag=true)(hn:(nG L)=n)(hw:m6 .i64 (a+1)=a+1){Q:aU}(l3:ao fK 53 5 (zf.drop 1) (H8 S R H d n L a b) Q):ao fK 53 5 zf (acT S R H d n L a b) Q:=
 aV bp 1 (.leaf [0,1,2,3,8] [0,1,2,3,4] [0,3,4]) (λu=>by kernel_rfl) (aO L R H (mQ l3))
abbrev acV:=λS R H d (n:Nat) L (a b i:Int)=>(⟨[(0,aq 0 n),(1,aa a),(2,aa b),(3,.func (.func 74) #[ap 1] #[]),(8,aa i)],qB S R H d L⟩:ai)
abbrev acW(S:ad)(R:List Int)(H:List au)(d:aA)(n:Nat)(L:List ByteArray)(a b i:Int):ai:=⟨[],qB S R H d L⟩
abbrev H9:=λS R H d (n:Nat) L (a b i:Int)=>(⟨[(0,aq 0 n),(1,aa a),(2,aa b),(3,.func (.func 74) #[ap 1] #[]),(8,aa i)],qB S R H d L⟩:ai)
theorem acX(S R H d)(n:Nat)(L)(a b i:Int)(pH:(an H).all ag=true)(hn:(nG L)=n){Q:aU}(l3:(decide (i<b))->ao fK 53 5 (Ce.drop 2) (acV S R H d n L a b i) Q)(l4:(decide (i<b))=false->Q (.exit 0) (acW S R H d n L a b i)):ao fK 53 5 Ce (H9 S R H d n L a b i) Q:=
 aV bp 2 (.fork 0 (.leaf [0,1,2,3,8] [0,1,2,3,4] [0,3,4]) (.leaf [] [0,1,2,3,4] [0,3,4])) (λu=>by kernel_rfl) (mF (c:=decide (i<b)) (λh0=>(aO L R H (mQ (l3 h0)))) (λh0=>(aO L R H (mE 0 (l4 h0)))))
abbrev Ia:=λS R H d (n:Nat) L (a b i:Int)=>(⟨[(0,aq 0 n),(1,aa a),(2,aa b),(3,.func (.func 74) #[ap 1] #[]),(8,aa i),(9,aa i)],qB S R H d L⟩:ai)
theorem acY(S R H d)(n:Nat)(L)(a b i:Int)(pH:(an H).all ag=true)(hn:(nG L)=n){Q:aU}(l3:ao fK 53 5 (H7.drop 1) (Ia S R H d n L a b i) Q):ao fK 53 5 H7 (H9 S R H d n L a b i) Q:=
 aV bp 1 (.leaf [0,1,2,3,8,9] [0,1,2,3,4] [0,3,4]) (λu=>by kernel_rfl) (aO L R H (mQ l3))
abbrev P1:=λS R H d (n:Nat) L (a b i j:Int)=>(⟨[(0,aq 0 n),(1,aa a),(2,aa b),(3,.func (.func 74) #[ap 1] #[]),(8,aa i),(9,.int .i64 (m6 .i64 (j-1)))],[ab (bc (bc (ah L) (0+m5 j*1) [arS (aR (ah L) (0+m5 (m6 .i64 (j-1))*1))]) (0+m5 (m6 .i64 (j-1))*1) [arS (aR (ah L) (0+m5 j*1))]) 9,ab (aL S 2 0 3 4) 89,.abs d,ab (ay R) 3,ab (an H) 114]⟩:ai)
abbrev acZ:=λS R H d (n:Nat) L (a b i j:Int)=>(⟨[(0,aq 0 n),(1,aa a),(2,aa b),(3,.func (.func 74) #[ap 1] #[]),(8,aa i)],qB S R H d L⟩:ai)
abbrev ac0:=λS R H d (n:Nat) L (a b i j:Int)=>(⟨[(0,aq 0 n),(1,aa a),(2,aa b),(3,.func (.func 74) #[ap 1] #[]),(8,aa i)],qB S R H d L⟩:ai)
abbrev ac1:=λS R H d (n:Nat) L (a b i j:Int)=>(⟨[(0,aq 0 n),(1,aa a),(2,aa b),(3,.func (.func 74) #[ap 1] #[]),(8,aa i),(9,aa j)],qB S R H d L⟩:ai)
theorem ac2(S R H d)(n:Nat)(L)(a b i j:Int)(pH:(an H).all ag=true)(hn:(nG L)=n)(ha:0<=a)(hj:a<=j)(hl:j<n)(hL:n<=1000000)(hw:m6 .i64 (j-1)=j-1){Q:aU}(n0:(decide (j>a))->(dY (ah L) (0+m5 j*1)))(n1:(decide (j>a))->(dY (ah L) (0+m5 (m6 .i64 (j-1))*1)))(n2:(decide (j>a))->(rK [ab (aL S 1 2 3 4) 89,ak.abs d,ab (ah L) 9,ab (ay R) 3,ab (an H) 114]))(n3:(decide (j>a))->(decide (aN (ad.aC S) (aR (ah L) (0+m5 j*1)) (aR (ah L) (0+m5 (m6 .i64 (j-1))*1))<0))->(arM (0+m5 (m6 .i64 (j-1))*1+1) (nG (bc (ah L) (0+m5 j*1) [arS (aR (ah L) (0+m5 (m6 .i64 (j-1))*1))]))))(aY:DC (ay R) ag)(bh:DC (an H) ag)(l6:(decide (j>a))->(decide (aN (ad.aC S) (aR (ah L) (0+m5 j*1)) (aR (ah L) (0+m5 (m6 .i64 (j-1))*1))<0))->Q .normal (P1 S R H d n L a b i j))(bT:DC (ah L) ag)(l8:(decide (j>a))->(decide (aN (ad.aC S) (aR (ah L) (0+m5 j*1)) (aR (ah L) (0+m5 (m6 .i64 (j-1))*1))<0))=false->Q (.exit 2) (acZ S R H d n L a b i j))(l9:(decide (j>a))=false->Q (.exit 2) (ac0 S R H d n L a b i j)):ao fK 53 5 acS (ac1 S R H d n L a b i j) Q:=
 aV ti 1000 (.fork 0 (aB [1,1,1,0,1,1,1,0,1,1,1,1,1,0,1,1,1,0,1,1,3,1,1,1,1,1,1,1,1] (.fork 0 (aB [0,1,1,0,1,0,1,1,0,1,0,1,1,0,1,0,1,1,0,1] (.leaf [0,1,2,3,8,9] [0,1,2,3,4] [0,3,4])) (.leaf [0,1,2,3,8] [0,1,2,3,4] [0,3,4]))) (aB [0,0,0,0,0,0,0,0,0,0,0,0] (.leaf [0,1,2,3,8] [0,1,2,3,4] [0,3,4]))) (λu=>by kernel_rfl) (mF (c:=decide (j>a)) (λh0=>(Cf 3 h0 (mN (decide_eq_true (by omega):(decide (0<=j))=true) (mN (show(arF (m5 j) n)=true by simp at pH hn ha hj hl hL hw h0⊢ <;>omega) (mN h0 (mN (n0 h0) (Cf 4 h0 (mN (show(decide (0<=m6 .i64 (j-1)))=true by simp at pH hn ha hj hl hL hw h0⊢ <;>omega) (mN (show(arF (m5 (m6 .i64 (j-1))) n)=true by simp at pH hn ha hj hl hL hw h0⊢ <;>omega) (mN h0 (mN (n1 h0) (mN h0 (aO L R H (mN (n2 h0) (aO L R H (Cf 2 h0 (mF (c:=decide (aN (ad.aC S) (aR (ah L) (0+m5 j*1)) (aR (ah L) (0+m5 (m6 .i64 (j-1))*1))<0)) (λh1=>(mN (show(decide (0<=m6 .i64 (j-1)))=true by simp at pH hn ha hj hl hL hw h0 h1⊢ <;>omega) (mN (show(arF (m5 (m6 .i64 (j-1))) n)=true by simp at pH hn ha hj hl hL hw h0 h1⊢ <;>omega) (mN (n1 h0) (mN (decide_eq_true (by omega):(decide (0<=j))=true) (mN (show(arF (m5 j) n)=true by simp at pH hn ha hj hl hL hw h0 h1⊢ <;>omega) (mN (n0 h0) (mN (decide_eq_true (by omega):(decide (0<=j))=true) (mN (show(arF (m5 j) n)=true by simp at pH hn ha hj hl hL hw h0 h1⊢ <;>omega) (mN (show(arM (0+m5 j*1+1) (nG (ah L)))=true by simp at pH hn ha hj hl hL hw h0 h1⊢ <;>omega) (mN (show(decide (0<=m6 .i64 (j-1)))=true by simp at pH hn ha hj hl hL hw h0 h1⊢ <;>omega) (mN (show(arF (m5 (m6 .i64 (j-1))) n)=true by simp at pH hn ha hj hl hL hw h0 h1⊢ <;>omega) (mN (n3 h0 h1) (mN (show(DC (bc (bc (ah L) (0+m5 j*1) [arS (aR (ah L) (0+m5 (m6 .i64 (j-1))*1))]) (0+m5 (m6 .i64 (j-1))*1) [arS (aR (ah L) (0+m5 j*1))]) ag)=true by simp) (mN (aS R) (mN (aZ H) (mQ (ao.done (by kernel_rfl) (l6 h0 h1))))))))))))))))))) (λh1=>(aO L R H (mE 2 (l8 h0 h1))))))))))))))))))))) (λh0=>(Cf 12 h0 (aO L R H (mE 2 (l9 h0))))))
abbrev P2:=λS R H d (n:Nat) L (a b i:Int)=>(⟨[(0,aq 0 n),(1,aa a),(2,aa b),(3,.func (.func 74) #[ap 1] #[]),(8,.int .i64 (m6 .i64 (i+1)))],qB S R H d L⟩:ai)
theorem ac3(S R H d)(n:Nat)(L)(a b i:Int)(pH:(an H).all ag=true)(hn:(nG L)=n)(hw:m6 .i64 (i+1)=i+1){Q:aU}(l3:Q .normal (P2 S R H d n L a b i)):ao fK 53 5 (Ce.drop 3) (H9 S R H d n L a b i) Q:=
 aV bp 1000 (.leaf [0,1,2,3,8] [0,1,2,3,4] [0,3,4]) (λu=>by kernel_rfl) (aO L R H (mQ (ao.done (by kernel_rfl) l3)))
end
end Go.Proofs.YtnlkkgpcikkpoaaGreat
