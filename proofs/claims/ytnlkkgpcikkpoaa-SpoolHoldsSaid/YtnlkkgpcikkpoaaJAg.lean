/- Part of the proof: Dkf, Dkr, Dkl, Dkm, Dkn, Move, Soz, So0, So1, StT, So2, So3. -/
import Derived.Test.YtnlkkgpcikkpoaaJAf
import Derived.KernelRfl
import Derived.Test.YtnlkkgpcikkpoaaJAe
import Derived.Lib.Bytealg
import Derived.Test.YtnlkkgpcikkpoaaChecked
import Derived.Lib.Strings
import Derived.Lib.Walk
import Derived.WalkKit
import Derived.Lib.BytesEntry
open Array renaming toArray_toList→anB
open Bool renaming and_eq_true→amB,not_eq_true'→aos
open ByteArray renaming empty→amw
open Classical renaming propDecidable→amR
open Go renaming Calls→apW,Code→am3,FuncId→amY,MapEntry→amW,Value→amn,World→amC,run_callFunc_extern→aqm
open Go.Extern.BytealgCompare renaming compare→arP
open Go.Extern.BytealgIndexByte renaming indexByte→aoE
open Go.Extern.Bytes renaming asByte→arl,bytesOf→aqj
open Go.IntKind renaming i64→amA,wrap→aml
open Go.Lib renaming bytesOf→aq0,compareBytes→anN,indexByte→ar3
open Go.MapEntry renaming mk→anO
open Go.Oper renaming upon_value→aqV
open Go.Proofs.Try renaming func109→asm,func98→asq,ntmps98→asl,prog→asz
open Go.Result renaming andThen→apN
open Go.Value renaming int→amu,map→aoG,pointer→anx,string→amT
open Int renaming toNat→amm
open List renaming all→amq,all_append→aqh,all_eq_true→am1,any_eq_false→ao1,append_nil→anV,drop→an4,drop_drop→anE,filter_append→arq,foldl_cons→aom,getElem?_append_right→am5,getElem?_cons_succ→anD,getElem?_cons_zero→anb,getElem?_drop→anK,getElem?_eq_getElem→amt,getElem?_eq_some_iff→amy,getElem?_map→anT,getElem?_of_mem→anQ,getElem?_take_of_lt→apK,length→mM,length_append→amD,length_cons→am9,length_drop→anA,length_take→anf,map→am0,map_append→anh,map_congr_left→aoz,map_id→aqZ,map_map→aqi,mem_cons→amH,mem_cons_of_mem→amK,mem_cons_self→amN,mem_map_of_mem→aoL,mem_of_getElem?→am8,mem_singleton→ank,nodup_append→ans,pairwise_append→apx,pairwise_cons→apn,range→aoO,replicate→aq7,set_append_right→ap6,take→amM,take_append_drop→anF,zip_cons_cons→apk,zip_nil_right→apJ
open Nat renaming beq→amE,ble→amO,blt→amG,eq_of_beq_eq_true→amI,zero_add→an8
open Option.some renaming injEq→amr
open Prod.mk renaming injEq→amv
open UInt8 renaming le_antisymm→aqG
set_option linter.unusedVariables false
set_option linter.unusedSimpArgs false
namespace Go.Proofs.Ytnlkkgpcikkpoaa
noncomputable section
open Go Vm Go.RowKit
set_option maxRecDepth 100000
def XZ(sc:List (Int×Int))(x0:List amn)(es:List amW)(ck:Nat)(f5:List amn)(dm dc dr:Int):List (amY×Sum):=[(108,Sum.one (fun _ _=>some dN) [an 0] (fq sc x0 es ck 0 f5 dm dc dr) (.ret (aa (cE sc dc))) (fq sc x0 es ck 0 f5 dm (aml .i64 (dc+1)) (cR sc dc dr)))]
theorem X0(sc:List (Int×Int))(x0:List amn)(es:List amW)(ck:Nat)(f5:List amn)(dm dc dr:Int)(hs:(mM sc)≤1000000)(h0:x0.all af=true)(he:b8 es=true)(h5:f5.all af=true):dg asz (dE asz (dF (XZ sc x0 es ck f5 dm dc dr)) 50 40):=
 dJ cZ mixed (dQ (.cons (bp.one (Mq sc x0 es ck 0 f5 dm dc dr hs h0 he h5)) .nil)) 50 40
theorem X1{es:List amW}{x:Int}{f:Option (Nat×amn)}(hf:e7 (aa x) es 0=some f)(sc:List (Int×Int))(x0:List amn)(ck:Nat)(f5:List amn)(dm dc dr:Int):aG asz 107 [an 0,aa x] (fq sc x0 es ck 0 f5 dm dc dr) fun r o=>r=.ret (u9 f)∧o=fq sc x0 es ck 0 f5 dm dc dr:=Fm rfl rfl (by simp[fq]) hf
theorem X2{es:List amW}{x:Int}{f:Option (Nat×amn)}(hf:e7 (aa x) es 0=some f)(sc:List (Int×Int))(b:ByteArray)(ck:Nat)(fb:ByteArray)(dm dc dr:Int):aG asz 107 [an 0,aa x] (fx sc (ag b) es ck fb.size (ag fb) dm dc dr) fun r o=>r=.ret (u9 f)∧o=fx sc (ag b) es ck fb.size (ag fb) dm dc dr:=Fm rfl rfl (by simp[fx]) hf
def X3(sc:List (Int×Int))(x0:List amn)(es:List amW)(ck:Nat)(f5:List amn)(dm dc dr:Int)(no:Int)(v:amn):List (amY×Sum):=[(107,Sum.one (fun _ _=>some dN) [an 0,aa no] (fq sc x0 es ck 0 f5 dm dc dr) (.ret v) (fq sc x0 es ck 0 f5 dm dc dr)),(108,Sum.one (fun _ _=>some dN) [an 0] (fq sc x0 es ck 0 f5 dm dc dr) (.ret (aa (cE sc dc))) (fq sc x0 es ck 0 f5 dm (aml .i64 (dc+1)) (cR sc dc dr)))]
theorem Ag(sc:List (Int×Int))(x0:List amn)(es:List amW)(ck:Nat)(f5:List amn)(dm dc dr no:Int)(v:amn)(hs:(mM sc)≤1000000)(h0:x0.all af=true)(he:b8 es=true)(h5:f5.all af=true){f:Option (Nat×amn)}(hf:e7 (aa no) es 0=some f)(hv:v=u9 f):dg asz (dE asz (dF (X3 sc x0 es ck f5 dm dc dr no v)) 50 40):=by
 subst hv
 exact dJ cZ mixed (dQ (.cons (bp.one (X1 hf sc x0 ck f5 dm dc dr)) (.cons (bp.one (Mq sc x0 es ck 0 f5 dm dc dr hs h0 he h5)) .nil))) 50 40
def X4(sc:List (Int×Int))(b:ByteArray)(es:List amW)(ck:Nat)(fb:ByteArray)(dm dc dr:Int)(no:Int):List (amY×Sum):=[(107,Sum.one (fun _ _=>some dN) [an 0,aa no] (fx sc (ag b) es ck fb.size (ag fb) dm dc dr) (.ret (an 4)) (fx sc (ag b) es ck fb.size (ag fb) dm dc dr)),(108,Sum.one (fun _ _=>some dN) [an 0] (fx sc (ag b) es ck fb.size (ag fb) dm dc dr) (.ret (aa (cE sc dc))) (fx sc (ag b) es ck fb.size (ag fb) dm (aml .i64 (dc+1)) (cR sc dc dr)))]
theorem X5(sc:List (Int×Int))(b:ByteArray)(es:List amW)(ck:Nat)(fb:ByteArray)(dm dc dr no:Int)(hs:(mM sc)≤1000000)(he:b8 es=true){i:Nat}(hf:e7 (aa no) es 0=some (some (i,an 4))):dg asz (dE asz (dF (X4 sc b es ck fb dm dc dr no)) 50 40):=
 dJ cZ mixed (dQ (.cons (bp.one (X2 hf sc b ck fb dm dc dr)) (.cons (bp.one (Mp sc (ag b) es ck fb.size (ag fb) dm dc dr hs (by simp) he (by simp))) .nil))) 50 40
noncomputable def X6:List am3:=ba (dy asz 102)
noncomputable def Mu:List am3:=ba (dy asz 106)
noncomputable def Mv:List am3:=ba (dy asz 103)
noncomputable def X7:List am3:=ba (dy asz 94)
open Tree renaming aU→mN,dh→mF,eQ→mL,fw→mQ,dz→mR,fI→mE
def Mw:Nat→Bool→Bool→Tree→Tree
 |0,_,_,t=>t
 |n+1,d,b,t=>.cD d b (Mw n d b t)
theorem Mx{R:bf→aj→Prop}{c v:Bool}{t:Tree}(n:Nat)(h1:c=v)(h2:t.ok R):(Mw n c v t).ok R:=by
 induction n with
 |zero=>exact h2
 |succ n ih=>exact⟨h1,ih⟩
abbrev va:=fun(sc:List (Int×Int)) x0 es (ck:Nat) f5 (dm dc dr:Int)=>([ab ([ah 2 (mM sc),.map (some 3),aa dm,aa dc,aa dr]) 70,ab x0 5,ab (aF sc) 67,.map es ck,ab [] 174,ab f5 5]:List ai)
abbrev My:=fun(sc:List (Int×Int)) x0 es (ck:Nat) f5 (dm dc dr:Int)=>(⟨[(2,aa 0),(3,aa 17)],va sc x0 es ck f5 dm dc dr⟩:aj)
theorem X8(sc:List (Int×Int))(x0 es)(ck:Nat)(f5)(dm dc dr:Int){Q:bk}(aW:amq x0 af=true)(cj:amq (bu [0,1,2,3,4,5] es) af=true)(br:amq f5 af=true)(hq:Q (.ret (.tuple #[aa 0,aa 17])) (va sc x0 es ck f5 dm dc dr)):aH asz 102 47 6 Q .ret (My sc x0 es ck f5 dm dc dr):=aH.ret (vs:=[aa 0,aa 17]) (l:=[]) (bs:=[0,1,2,3,4,5]) (pl:=[1,2,3,5]) (q:=[x0,aF sc,bu [0,1,2,3,4,5] es,f5]) (fun u=>by kernel_rfl) (by kernel_rfl) (aE aW (aE (a9 sc) (aE cj (aE br bd)))) hq
abbrev Mz:=fun(sc:List (Int×Int)) x0 es (ck:Nat) f5 (dm dc dr:Int)=>(⟨[(2,aa 0),(3,aa (cE sc dc))],[ab ([ah 2 (mM sc),.map (some 3),aa dm,.int .i64 (aml .i64 (dc+1)),aa (cR sc dc dr)]) 70,ab x0 5,ab (aF sc) 67,.map es ck,ab [] 174,ab f5 5]⟩:aj)
theorem X9(sc:List (Int×Int))(x0 es)(ck:Nat)(f5)(dm dc dr:Int){Q:bk}(aW:amq x0 af=true)(cj:amq (bu [0,1,2,3,4,5] es) af=true)(br:amq f5 af=true)(hq:Q (.ret (.tuple #[aa 0,aa (cE sc dc)])) [ab ([ah 2 (mM sc),.map (some 3),aa dm,.int .i64 (aml .i64 (dc+1)),aa (cR sc dc dr)]) 70,ab x0 5,ab (aF sc) 67,.map es ck,ab [] 174,ab f5 5]):aH asz 102 47 6 Q .ret (Mz sc x0 es ck f5 dm dc dr):=aH.ret (vs:=[aa 0,aa (cE sc dc)]) (l:=[]) (bs:=[0,1,2,3,4,5]) (pl:=[1,2,3,5]) (q:=[x0,aF sc,bu [0,1,2,3,4,5] es,f5]) (fun u=>by kernel_rfl) (by kernel_rfl) (aE aW (aE (a9 sc) (aE cj (aE br bd)))) hq
abbrev MA:=fun(sc:List (Int×Int)) x0 es (ck:Nat) f5 (dm dc dr:Int)=>(⟨[(2,.int .i64 (aml .i64 (dm+1))),(3,aa 0)],[ab ([ah 2 (mM sc),.map (some 3),.int .i64 (aml .i64 (dm+1)),.int .i64 (aml .i64 (dc+1)),aa (cR sc dc dr)]) 70,ab x0 5,ab (aF sc) 67,.map (es++[anO (amu amA (aml .i64 (dm+1))) (an 6) ck]) (ck+1),ab [] 174,ab f5 5,ab [cd] 174]⟩:aj)
theorem Ya(sc:List (Int×Int))(x0 es)(ck:Nat)(f5)(dm dc dr:Int){Q:bk}(aW:amq x0 af=true)(cj:amq (bu [0,1,2,3,4,5,6] (es++[anO (amu amA (aml .i64 (dm+1))) (an 6) ck])) af=true)(br:amq f5 af=true)(hq:Q (.ret (.tuple #[.int .i64 (aml .i64 (dm+1)),aa 0])) [ab ([ah 2 (mM sc),.map (some 3),.int .i64 (aml .i64 (dm+1)),.int .i64 (aml .i64 (dc+1)),aa (cR sc dc dr)]) 70,ab x0 5,ab (aF sc) 67,.map (es++[anO (amu amA (aml .i64 (dm+1))) (an 6) ck]) (ck+1),ab [] 174,ab f5 5,ab [cd] 174]):aH asz 102 47 6 Q .ret (MA sc x0 es ck f5 dm dc dr):=aH.ret (vs:=[.int .i64 (aml .i64 (dm+1)),aa 0]) (l:=[]) (bs:=[0,1,2,3,4,5,6]) (pl:=[1,2,3,5]) (q:=[x0,aF sc,bu [0,1,2,3,4,5,6] (es++[anO (amu amA (aml .i64 (dm+1))) (an 6) ck]),f5]) (fun u=>by kernel_rfl) (by kernel_rfl) (aE aW (aE (a9 sc) (aE cj (aE br bd)))) hq
theorem Yb(sc:List (Int×Int))(x0:List amn)(es:List amW)(ck:Nat)(f5:List amn)(dm dc dr:Int)(hs:(mM sc)≤1000000)(h0:x0.all af=true)(he:b8 es=true)(h5:f5.all af=true)(uL:0≤dm)(lp:dm≤64)(hw:aml .i64 (dm+1)=dm+1)(hp:(aF sc).all af=true)(h6:(bu dN es).all af=true)(h4:(es.map (dM fun i=>(dN++eV 6 0)[i]?)).all af=true){Q:aV}(aW:amq x0 af=true)(be:amq (aF sc) af=true)(bB:amq (bu [0,1,2,3,4,5] es) af=true)(br:amq f5 af=true)(l4:(dm==64)=true→Q .ret (My sc x0 es ck f5 dm dc dr))(n5:(dm==64)=false→(dX [an 0] [an 0] [ab [ah 2 (mM sc),aoG (some (0+1+1+1)),aa dm,aa dc,aa dr] 70,ab x0 5,ab (aF sc) 67,ai.map es ck,ab [] 174,ab f5 5] (fq sc x0 es ck 0 f5 dm dc dr))=true)(l6:(dm==64)=false→(cE sc dc != 0)=true→Q .ret (Mz sc x0 es ck f5 dm dc dr))(n7:(dm==64)=false→(cE sc dc != 0)=false→(wZ es (amu amA (aml .i64 (dm+1))))=true)(pg:amq (bu [0,1,2,3,4,5,6] (es++[anO (amu amA (aml .i64 (dm+1))) (an 6) ck])) af=true)(l9:(dm==64)=false→(cE sc dc != 0)=false→Q .ret (MA sc x0 es ck f5 dm dc dr)):al asz 47 6 X6 ⟨[(0,an 0)],[ab [ah 2 (mM sc),.map (some 3),aa dm,aa dc,aa dr] 70,ab x0 5,ab (aF sc) 67,.map es ck,ab [] 174,ab f5 5]⟩ Q:=
 aZ (X0 sc x0 es ck f5 dm dc dr hs h0 he h5) 1000 (.fork 9 (.leaf [2,3] [0,1,2,3,4,5] [1,2,3,5]) (av [3,1,1,1,1,1,1,1,1] (.fork 0 (.leaf [2,3] [0,1,2,3,4,5] [1,2,3,5]) (av [8,1] (.leaf [2,3] [0,1,2,3,4,5,6] [1,2,3,5]))))) (fun u=>by kernel_rfl) (mF (c:=dm==64) (fun h0=>(mN aW (mN (a9 sc) (mN bB (mN br (mR (l4 h0))))))) (fun h0=>(mN (show(amq x0 af)=true by assumption) (mN (a9 sc) (mN (show(amq (am0 (dM (eI dN)) es) af)=true by assumption) (mN (show(amq f5 af)=true by assumption) (mN (n5 h0) (mN (show(amq x0 af)=true by assumption) (mN (a9 sc) (mN (show(amq (am0 (dM fun i=>(dN++eV 6 (mM (fq sc x0 es ck 0 f5 dm (aml .i64 (dc+1)) (cR sc dc dr))-6))[i]?) es) af)=true by assumption) (mN (show(amq f5 af)=true by assumption) (mF (c:=cE sc dc != 0) (fun h1=>(mN aW (mN (a9 sc) (mN bB (mN br (mR (l6 h0 h1))))))) (fun h1=>(mN (n7 h0 h1) (mN aW (mN (a9 sc) (mN pg (mN br (mR (l9 h0 h1))))))))))))))))))))
abbrev MB:=fun(sc:List (Int×Int)) x0 es (ck:Nat) f5 (dm dc dr no:Int) (kb ks i:Nat)=>(⟨[(4,aa (cE sc dc))],[ab ([ah 2 (mM sc),.map (some 3),aa dm,.int .i64 (aml .i64 (dc+1)),aa (cR sc dc dr)]) 70,ab x0 5,ab (aF sc) 67,.map (nU es (aa no)) ck,ab [] 174,ab f5 5]⟩:aj)
theorem Yc(sc:List (Int×Int))(x0 es)(ck:Nat)(f5)(dm dc dr no:Int)(kb ks i:Nat){Q:bk}(aW:amq x0 af=true)(cj:amq (bu [0,1,2,3,4,5] (nU es (aa no))) af=true)(br:amq f5 af=true)(hq:Q (.ret (aa (cE sc dc))) [ab ([ah 2 (mM sc),.map (some 3),aa dm,.int .i64 (aml .i64 (dc+1)),aa (cR sc dc dr)]) 70,ab x0 5,ab (aF sc) 67,.map (nU es (aa no)) ck,ab [] 174,ab f5 5]):aH asz 106 20 6 Q .ret (MB sc x0 es ck f5 dm dc dr no kb ks i):=aH.ret (vs:=[aa (cE sc dc)]) (l:=[]) (bs:=[0,1,2,3,4,5]) (pl:=[1,2,3,5]) (q:=[x0,aF sc,bu [0,1,2,3,4,5] (nU es (aa no)),f5]) (fun u=>by kernel_rfl) (by kernel_rfl) (aE aW (aE (a9 sc) (aE cj (aE br bd)))) hq
abbrev MC:=fun(sc:List (Int×Int)) x0 es (ck:Nat) f5 (dm dc dr no:Int) (kb ks i:Nat)=>(⟨[(4,aa (cE sc dc))],[ab ([ah 2 (mM sc),.map (some 3),aa dm,.int .i64 (aml .i64 (dc+1)),aa (cR sc dc dr)]) 70,ab x0 5,ab (aF sc) 67,.map es ck,ab [] 174,ab f5 5]⟩:aj)
theorem Yd(sc:List (Int×Int))(x0 es)(ck:Nat)(f5)(dm dc dr no:Int)(kb ks i:Nat){Q:bk}(aW:amq x0 af=true)(cj:amq (bu [0,1,2,3,4,5] es) af=true)(br:amq f5 af=true)(hq:Q (.ret (aa (cE sc dc))) [ab ([ah 2 (mM sc),.map (some 3),aa dm,.int .i64 (aml .i64 (dc+1)),aa (cR sc dc dr)]) 70,ab x0 5,ab (aF sc) 67,.map es ck,ab [] 174,ab f5 5]):aH asz 106 20 6 Q .ret (MC sc x0 es ck f5 dm dc dr no kb ks i):=aH.ret (vs:=[aa (cE sc dc)]) (l:=[]) (bs:=[0,1,2,3,4,5]) (pl:=[1,2,3,5]) (q:=[x0,aF sc,bu [0,1,2,3,4,5] es,f5]) (fun u=>by kernel_rfl) (by kernel_rfl) (aE aW (aE (a9 sc) (aE cj (aE br bd)))) hq
theorem Ye(sc:List (Int×Int))(x0:List amn)(es:List amW)(ck:Nat)(f5:List amn)(dm dc dr no:Int)(kb ks i:Nat)(hs:(mM sc)≤1000000)(h0:x0.all af=true)(he:b8 es=true)(h5:f5.all af=true)(hf:e7 (aa no) es 0=some (some (i,.pointer (some ⟨kb,ks,some 0⟩))))(hk:uy es (aa no)=true)(hp:(aF sc).all af=true)(h6:(bu dN es).all af=true)(h4:(es.map (dM fun i=>(dN++eV 6 0)[i]?)).all af=true){Q:aV}(n0:(dX [an 0,aa no] [an 0,aa no] [ab [ah 2 (mM sc),aoG (some (0+1+1+1)),aa dm,aa dc,aa dr] 70,ab x0 5,ab (aF sc) 67,ai.map es ck,ab [] 174,ab f5 5] (fq sc x0 es ck 0 f5 dm dc dr))=true)(n1:(dX [an 0] [an 0] [ab [ah 2 (mM sc),aoG (some (0+1+1+1)),aa dm,aa dc,aa dr] 70,ab x0 5,ab (aF sc) 67,ai.map es ck,ab [] 174,ab f5 5] (fq sc x0 es ck 0 f5 dm dc dr))=true)(aW:amq x0 af=true)(be:amq (aF sc) af=true)(bB:amq (bu [0,1,2,3,4,5] (nU es (aa no))) af=true)(br:amq f5 af=true)(l6:(cE sc dc==0)=true→Q .ret (MB sc x0 es ck f5 dm dc dr no kb ks i))(pg:amq (bu [0,1,2,3,4,5] es) af=true)(l8:(cE sc dc==0)=false→Q .ret (MC sc x0 es ck f5 dm dc dr no kb ks i)):al asz 20 6 Mu ⟨[(0,an 0),(1,aa no)],[ab [ah 2 (mM sc),.map (some 3),aa dm,aa dc,aa dr] 70,ab x0 5,ab (aF sc) 67,.map es ck,ab [] 174,ab f5 5]⟩ Q:=
 aZ (Ag sc x0 es ck f5 dm dc dr no (.pointer (some ⟨kb,ks,some 0⟩)) hs h0 he h5 hf rfl) 1000 (av [3,1,1,1,1,1,1,1,1,5,1,1,1,1,1,1,1,1] (.fork 0 (av [2,1] (.leaf [4] [0,1,2,3,4,5] [1,2,3,5])) (.leaf [4] [0,1,2,3,4,5] [1,2,3,5]))) (fun u=>by kernel_rfl) (mN (show(amq x0 af)=true by assumption) (mN (a9 sc) (mN (show(amq (am0 (dM (eI dN)) es) af)=true by assumption) (mN (show(amq f5 af)=true by assumption) (mN n0 (mN (show(amq x0 af)=true by assumption) (mN (a9 sc) (mN (show(amq (am0 (dM fun i=>(dN++eV 6 (mM (fq sc x0 es ck 0 f5 dm dc dr)-6))[i]?) es) af)=true by assumption) (mN (show(amq f5 af)=true by assumption) (mN (show(amq x0 af)=true by assumption) (mN (a9 sc) (mN (show(amq (am0 (dM (eI dN)) es) af)=true by assumption) (mN (show(amq f5 af)=true by assumption) (mN n1 (mN (show(amq x0 af)=true by assumption) (mN (a9 sc) (mN (show(amq (am0 (dM fun i=>(dN++eV 6 (mM (fq sc x0 es ck 0 f5 dm (aml .i64 (dc+1)) (cR sc dc dr))-6))[i]?) es) af)=true by assumption) (mN (show(amq f5 af)=true by assumption) (mF (c:=cE sc dc==0) (fun h0=>(mN (show(uy es (aa no))=true by assumption) (mN aW (mN (a9 sc) (mN bB (mN br (mR (l6 h0)))))))) (fun h0=>(mN aW (mN (a9 sc) (mN pg (mN br (mR (l8 h0))))))))))))))))))))))))))
abbrev MD:=fun(sc:List (Int×Int)) x0 es (ck:Nat) f5 (dm dc dr no:Int)=>(⟨[(4,aa 1)],va sc x0 es ck f5 dm dc dr⟩:aj)
theorem Yf(sc:List (Int×Int))(x0 es)(ck:Nat)(f5)(dm dc dr no:Int){Q:bk}(aW:amq x0 af=true)(cj:amq (bu [0,1,2,3,4,5] es) af=true)(br:amq f5 af=true)(hq:Q (.ret (aa 1)) (va sc x0 es ck f5 dm dc dr)):aH asz 106 20 6 Q .ret (MD sc x0 es ck f5 dm dc dr no):=aH.ret (vs:=[aa 1]) (l:=[]) (bs:=[0,1,2,3,4,5]) (pl:=[1,2,3,5]) (q:=[x0,aF sc,bu [0,1,2,3,4,5] es,f5]) (fun u=>by kernel_rfl) (by kernel_rfl) (aE aW (aE (a9 sc) (aE cj (aE br bd)))) hq
theorem Yg(sc:List (Int×Int))(x0:List amn)(es:List amW)(ck:Nat)(f5:List amn)(dm dc dr no:Int)(hs:(mM sc)≤1000000)(h0:x0.all af=true)(he:b8 es=true)(h5:f5.all af=true)(hf:e7 (aa no) es 0=some none)(hp:(aF sc).all af=true)(h6:(bu dN es).all af=true)(h4:(es.map (dM fun i=>(dN++eV 6 0)[i]?)).all af=true){Q:aV}(n0:(dX [an 0,aa no] [an 0,aa no] [ab [ah 2 (mM sc),aoG (some (0+1+1+1)),aa dm,aa dc,aa dr] 70,ab x0 5,ab (aF sc) 67,ai.map es ck,ab [] 174,ab f5 5] (fq sc x0 es ck 0 f5 dm dc dr))=true)(aW:amq x0 af=true)(be:amq (aF sc) af=true)(bB:amq (bu [0,1,2,3,4,5] es) af=true)(br:amq f5 af=true)(l5:Q .ret (MD sc x0 es ck f5 dm dc dr no)):al asz 20 6 Mu ⟨[(0,an 0),(1,aa no)],[ab [ah 2 (mM sc),.map (some 3),aa dm,aa dc,aa dr] 70,ab x0 5,ab (aF sc) 67,.map es ck,ab [] 174,ab f5 5]⟩ Q:=
 aZ (Ag sc x0 es ck f5 dm dc dr no (.pointer none) hs h0 he h5 hf rfl) 1000 (av [3,1,1,1,1,1,1,1,1] (.leaf [4] [0,1,2,3,4,5] [1,2,3,5])) (fun u=>by kernel_rfl) (mN (show(amq x0 af)=true by assumption) (mN (a9 sc) (mN (show(amq (am0 (dM (eI dN)) es) af)=true by assumption) (mN (show(amq f5 af)=true by assumption) (mN n0 (mN (show(amq x0 af)=true by assumption) (mN (a9 sc) (mN (show(amq (am0 (dM fun i=>(dN++eV 6 (mM (fq sc x0 es ck 0 f5 dm dc dr)-6))[i]?) es) af)=true by assumption) (mN (show(amq f5 af)=true by assumption) (mN aW (mN (a9 sc) (mN bB (mN br (mR l5))))))))))))))
abbrev Ah:=fun(sc:List (Int×Int)) b es (ck:Nat) (fb:ByteArray) (dm dc dr:Int)=>([ab ([ah 2 (mM sc),.map (some 3),aa dm,aa dc,aa dr]) 70,ab (ag b) 5,ab (aF sc) 67,.map es ck,ab [ah 5 fb.size] 174,ab (ag fb) 5]:List ai)
abbrev ME:=fun(sc:List (Int×Int)) b es (ck:Nat) fb (dm dc dr no:Int) (i:Nat)=>(⟨[(6,aa 1)],Ah sc b es ck fb dm dc dr⟩:aj)
theorem Yh(sc:List (Int×Int))(b es)(ck:Nat)(fb)(dm dc dr no:Int)(i:Nat){Q:bk}(cj:amq (bu [0,1,2,3,4,5] es) af=true)(hq:Q (.ret (aa 1)) (Ah sc b es ck fb dm dc dr)):aH asz 103 40 6 Q .ret (ME sc b es ck fb dm dc dr no i):=aH.ret (vs:=[aa 1]) (l:=[]) (bs:=[0,1,2,3,4,5]) (pl:=[1,2,3,5]) (q:=[ag b,aF sc,bu [0,1,2,3,4,5] es,ag fb]) (fun u=>by kernel_rfl) (by kernel_rfl) (aE (aI b) (aE (a9 sc) (aE cj (aE (aI fb) bd)))) hq
abbrev MF:=fun(sc:List (Int×Int)) b es (ck:Nat) fb (dm dc dr no:Int) (i:Nat)=>(⟨[(6,aa 1)],Ah sc b es ck fb dm dc dr⟩:aj)
theorem Yi(sc:List (Int×Int))(b es)(ck:Nat)(fb)(dm dc dr no:Int)(i:Nat){Q:bk}(cj:amq (bu [0,1,2,3,4,5] es) af=true)(hq:Q (.ret (aa 1)) (Ah sc b es ck fb dm dc dr)):aH asz 103 40 6 Q .ret (MF sc b es ck fb dm dc dr no i):=aH.ret (vs:=[aa 1]) (l:=[]) (bs:=[0,1,2,3,4,5]) (pl:=[1,2,3,5]) (q:=[ag b,aF sc,bu [0,1,2,3,4,5] es,ag fb]) (fun u=>by kernel_rfl) (by kernel_rfl) (aE (aI b) (aE (a9 sc) (aE cj (aE (aI fb) bd)))) hq
abbrev MG:=fun(sc:List (Int×Int)) (b:ByteArray) es (ck:Nat) (fb:ByteArray) (dm dc dr no:Int) (i:Nat)=>(⟨[(6,aa (cE sc dc))],[ab ([ah 2 (mM sc),.map (some 3),aa dm,.int .i64 (aml .i64 (dc+1)),aa (cR sc dc dr)]) 70,ab (ag b) 5,ab (aF sc) 67,.map es ck,ab [ah 6 (fb.size+b.size)] 174,.dead,ab (ag fb++amM (b.size*1) (ag b)) 5]⟩:aj)
theorem Yj(sc:List (Int×Int))(b:ByteArray)(es)(ck:Nat)(fb:ByteArray)(dm dc dr no:Int)(i:Nat){Q:bk}(aW:amq (ag b) af=true)(be:amq (aF sc) af=true)(cj:amq (bu [0,1,2,3,4,5,6] es) af=true)(hq:Q (.ret (aa (cE sc dc))) [ab ([ah 2 (mM sc),.map (some 3),aa dm,.int .i64 (aml .i64 (dc+1)),aa (cR sc dc dr)]) 70,ab (ag b) 5,ab (aF sc) 67,.map es ck,ab [ah 6 (fb.size+b.size)] 174,.dead,ab (ag fb++amM (b.size*1) (ag b)) 5]):aH asz 103 40 6 Q .ret (MG sc b es ck fb dm dc dr no i):=aH.ret (vs:=[aa (cE sc dc)]) (l:=[]) (bs:=[0,1,2,3,4,5,6]) (pl:=[1,2,3,6]) (q:=[ag b,aF sc,bu [0,1,2,3,4,5,6] es,ag fb++amM (b.size*1) (ag b)]) (fun u=>by kernel_rfl) (by kernel_rfl) (aE aW (aE be (aE cj (aE (by first|exact aP _|assumption|exact aD (by assumption) rfl _|exact aD (aD (aD (by assumption) rfl _) rfl _) rfl _|exact aD (aP _) (cg (by rfl) _) _|exact aA (aO (aN _) _) _|(simp;done)|exact aB (by assumption) rfl|exact aB (aP _) rfl|exact aB rfl (aA (by assumption) _)|exact aB (by assumption) (aA (by assumption) _)|exact aB rfl (aA (aO (by assumption) _) _)|exact aA (aO (by assumption) _) _) bd)))) hq
abbrev MH:=fun(sc:List (Int×Int)) b es (ck:Nat) (fb:ByteArray) (dm dc dr no:Int) (i:Nat)=>(⟨[(6,aa (cE sc dc))],[ab ([ah 2 (mM sc),.map (some 3),aa dm,.int .i64 (aml .i64 (dc+1)),aa (cR sc dc dr)]) 70,ab (ag b) 5,ab (aF sc) 67,.map es ck,ab [ah 5 fb.size] 174,ab (ag fb) 5]⟩:aj)
theorem Yk(sc:List (Int×Int))(b es)(ck:Nat)(fb:ByteArray)(dm dc dr no:Int)(i:Nat){Q:bk}(cj:amq (bu [0,1,2,3,4,5] es) af=true)(hq:Q (.ret (aa (cE sc dc))) [ab ([ah 2 (mM sc),.map (some 3),aa dm,.int .i64 (aml .i64 (dc+1)),aa (cR sc dc dr)]) 70,ab (ag b) 5,ab (aF sc) 67,.map es ck,ab [ah 5 fb.size] 174,ab (ag fb) 5]):aH asz 103 40 6 Q .ret (MH sc b es ck fb dm dc dr no i):=aH.ret (vs:=[aa (cE sc dc)]) (l:=[]) (bs:=[0,1,2,3,4,5]) (pl:=[1,2,3,5]) (q:=[ag b,aF sc,bu [0,1,2,3,4,5] es,ag fb]) (fun u=>by kernel_rfl) (by kernel_rfl) (aE (aI b) (aE (a9 sc) (aE cj (aE (aI fb) bd)))) hq
theorem Yl(sc:List (Int×Int))(b:ByteArray)(es:List amW)(ck:Nat)(fb:ByteArray)(dm dc dr no:Int)(i:Nat)(hs:(mM sc)≤1000000)(he:b8 es=true)(hf:e7 (aa no) es 0=some (some (i,an 4)))(hl:fb.size≤1000000)(hp:(aF sc).all af=true)(h6:(bu dN es).all af=true)(h4:(es.map (dM fun i=>(dN++eV 6 0)[i]?)).all af=true){Q:aV}(n0:(dX [an 0,aa no] [an 0,aa no] [ab [ah 2 (mM sc),aoG (some (0+1+1+1)),aa dm,aa dc,aa dr] 70,ab (ag b) 5,ab (aF sc) 67,ai.map es ck,ab [ah 5 fb.size] 174,ab (ag fb) 5] (fx sc (ag b) es ck fb.size (ag fb) dm dc dr))=true)(aW:amq (ag b) af=true)(be:amq (aF sc) af=true)(bB:amq (bu [0,1,2,3,4,5] es) af=true)(br:amq (ag fb) af=true)(l5:((b.size:Int)==0)=true→Q .ret (ME sc b es ck fb dm dc dr no i))(l6:((b.size:Int)==0)=false→(decide ((b.size:Int)>1024))=true→Q .ret (MF sc b es ck fb dm dc dr no i))(n7:((b.size:Int)==0)=false→(decide ((b.size:Int)>1024))=false→(dX [an 0] [an 0] [ab [ah 2 (mM sc),aoG (some (0+1+1+1)),aa dm,aa dc,aa dr] 70,ab (ag b) 5,ab (aF sc) 67,ai.map es ck,ab [ah 5 fb.size] 174,ab (ag fb) 5] (fx sc (ag b) es ck fb.size (ag fb) dm dc dr))=true)(n8:((b.size:Int)==0)=false→(decide ((b.size:Int)>1024))=false→(cE sc dc==0)=true→(amO (fb.size+b.size) 1000000)=true)(n9:((b.size:Int)==0)=false→(decide ((b.size:Int)>1024))=false→(cE sc dc==0)=true→(amq (amM (b.size*1) (ag b)) Value.oneCell')=true)(pg:amq (bu [0,1,2,3,4,5,6] es) af=true)(gR:((b.size:Int)==0)=false→(decide ((b.size:Int)>1024))=false→(cE sc dc==0)=true→Q .ret (MG sc b es ck fb dm dc dr no i))(kL:((b.size:Int)==0)=false→(decide ((b.size:Int)>1024))=false→(cE sc dc==0)=false→Q .ret (MH sc b es ck fb dm dc dr no i)):al asz 40 6 Mv ⟨[(0,an 0),(1,aa no),(2,ah 1 b.size)],[ab [ah 2 (mM sc),.map (some 3),aa dm,aa dc,aa dr] 70,ab (ag b) 5,ab (aF sc) 67,.map es ck,ab [ah 5 fb.size] 174,ab (ag fb) 5]⟩ Q:=
 aZ (X5 sc b es ck fb dm dc dr no hs he hf) 1000 (av [3,1,1,1,1,1,1,1,1] (.fork 5 (av [1,1,1] (.leaf [6] [0,1,2,3,4,5] [1,2,3,5])) (av [0,2,0] (.fork 0 (.leaf [6] [0,1,2,3,4,5] [1,2,3,5]) (av [3,1,1,1,1,1,1,1,1] (.fork 0 (av [2,1,1,1,1,1,1] (.leaf [6] [0,1,2,3,4,5,6] [1,2,3,6])) (.leaf [6] [0,1,2,3,4,5] [1,2,3,5]))))))) (fun u=>by kernel_rfl) (mN (aI b) (mN (a9 sc) (mN (show(amq (am0 (dM (eI dN)) es) af)=true by assumption) (mN (aI fb) (mN n0 (mN (aI b) (mN (a9 sc) (mN (show(amq (am0 (dM fun i=>(dN++eV 6 (mM (fx sc (ag b) es ck fb.size (ag fb) dm dc dr)-6))[i]?) es) af)=true by assumption) (mN (aI fb) (mF (c:=(b.size:Int)==0) (fun h0=>(Mx 3 h0 (mN (aI b) (mN (a9 sc) (mN bB (mN (aI fb) (mR (l5 h0)))))))) (fun h0=>(Mx 3 h0 (mF (c:=decide ((b.size:Int)>1024)) (fun h1=>(mN (aI b) (mN (a9 sc) (mN bB (mN (aI fb) (mR (l6 h0 h1))))))) (fun h1=>(mN (aI b) (mN (a9 sc) (mN (show(amq (am0 (dM (eI dN)) es) af)=true by assumption) (mN (aI fb) (mN (n7 h0 h1) (mN (aI b) (mN (a9 sc) (mN (show(amq (am0 (dM fun i=>(dN++eV 6 (mM (fx sc (ag b) es ck fb.size (ag fb) dm (aml .i64 (dc+1)) (cR sc dc dr))-6))[i]?) es) af)=true by assumption) (mN (aI fb) (mF (c:=cE sc dc==0) (fun h2=>(mN (show(amO (0+b.size*1) (mM (ag b)))=true by simp) (mN (n8 h0 h1 h2) (mN (n9 h0 h1 h2) (mN (show(amE (mM (amM (b.size*1) (ag b))) (b.size*1))=true by simp) (mN (kJ _:(full fb.size fb.size)=true) (mN (show(amE (0+fb.size*1) (mM (ag fb)))=true by simp) (mN (aI b) (mN (a9 sc) (mN pg (mN (show(amq (ag fb++amM (b.size*1) (ag b)) af)=true by first|exact aP _|assumption|exact aD (by assumption) rfl _|exact aD (aD (aD (by assumption) rfl _) rfl _) rfl _|exact aD (aP _) (cg (by rfl) _) _|exact aA (aO (aN _) _) _|(simp;done)|exact aB (by assumption) rfl|exact aB (aP _) rfl|exact aB rfl (aA (by assumption) _)|exact aB (by assumption) (aA (by assumption) _)|exact aB rfl (aA (aO (by assumption) _) _)|exact aA (aO (by assumption) _) _) (mR (gR h0 h1 h2))))))))))))) (fun h2=>(mN (aI b) (mN (a9 sc) (mN bB (mN (aI fb) (mR (kL h0 h1 h2)))))))))))))))))))))))))))))))
abbrev MI:=fun(sc:List (Int×Int)) b es (ck:Nat) f5 (dm dc dr no:Int)=>(⟨[(6,aa 1)],[ab ([ah 2 (mM sc),.map (some 3),aa dm,aa dc,aa dr]) 70,ab (ag b) 5,ab (aF sc) 67,.map es ck,ab [] 174,ab f5 5]⟩:aj)
theorem Ym(sc:List (Int×Int))(b es)(ck:Nat)(f5)(dm dc dr no:Int){Q:bk}(cj:amq (bu [0,1,2,3,4,5] es) af=true)(br:amq f5 af=true)(hq:Q (.ret (aa 1)) [ab ([ah 2 (mM sc),.map (some 3),aa dm,aa dc,aa dr]) 70,ab (ag b) 5,ab (aF sc) 67,.map es ck,ab [] 174,ab f5 5]):aH asz 103 40 6 Q .ret (MI sc b es ck f5 dm dc dr no):=aH.ret (vs:=[aa 1]) (l:=[]) (bs:=[0,1,2,3,4,5]) (pl:=[1,2,3,5]) (q:=[ag b,aF sc,bu [0,1,2,3,4,5] es,f5]) (fun u=>by kernel_rfl) (by kernel_rfl) (aE (aI b) (aE (a9 sc) (aE cj (aE br bd)))) hq
theorem Yn(sc:List (Int×Int))(b:ByteArray)(es:List amW)(ck:Nat)(f5:List amn)(dm dc dr no:Int)(hs:(mM sc)≤1000000)(h0:(ag b).all af=true)(he:b8 es=true)(h5:f5.all af=true)(hf:e7 (aa no) es 0=some none)(hp:(aF sc).all af=true)(h6:(bu dN es).all af=true)(h4:(es.map (dM fun i=>(dN++eV 6 0)[i]?)).all af=true){Q:aV}(n0:(dX [an 0,aa no] [an 0,aa no] [ab [ah 2 (mM sc),aoG (some (0+1+1+1)),aa dm,aa dc,aa dr] 70,ab (ag b) 5,ab (aF sc) 67,ai.map es ck,ab [] 174,ab f5 5] (fq sc (ag b) es ck 0 f5 dm dc dr))=true)(aW:amq (ag b) af=true)(be:amq (aF sc) af=true)(bB:amq (bu [0,1,2,3,4,5] es) af=true)(br:amq f5 af=true)(l5:Q .ret (MI sc b es ck f5 dm dc dr no)):al asz 40 6 Mv ⟨[(0,an 0),(1,aa no),(2,ah 1 b.size)],[ab [ah 2 (mM sc),.map (some 3),aa dm,aa dc,aa dr] 70,ab (ag b) 5,ab (aF sc) 67,.map es ck,ab [] 174,ab f5 5]⟩ Q:=
 aZ (Ag sc (ag b) es ck f5 dm dc dr no (.pointer none) hs h0 he h5 hf rfl) 1000 (av [3,1,1,1,1,1,1,1,1] (.leaf [6] [0,1,2,3,4,5] [1,2,3,5])) (fun u=>by kernel_rfl) (mN (aI b) (mN (a9 sc) (mN (show(amq (am0 (dM (eI dN)) es) af)=true by assumption) (mN (show(amq f5 af)=true by assumption) (mN n0 (mN (aI b) (mN (a9 sc) (mN (show(amq (am0 (dM fun i=>(dN++eV 6 (mM (fq sc (ag b) es ck 0 f5 dm dc dr)-6))[i]?) es) af)=true by assumption) (mN (show(amq f5 af)=true by assumption) (mN (aI b) (mN (a9 sc) (mN bB (mN br (mR l5))))))))))))))
abbrev MJ:=fun(sc:List (Int×Int)) x0 es (ck:Nat) f5 (dm dc dr:Int)=>(⟨[(2,aa dr)],va sc x0 es ck f5 dm dc dr⟩:aj)
theorem Yo(sc:List (Int×Int))(x0 es)(ck:Nat)(f5)(dm dc dr:Int){Q:bk}(aW:amq x0 af=true)(cj:amq (bu [0,1,2,3,4,5] es) af=true)(br:amq f5 af=true)(hq:Q (.ret (aa dr)) (va sc x0 es ck f5 dm dc dr)):aH asz 94 9 6 Q .ret (MJ sc x0 es ck f5 dm dc dr):=aH.ret (vs:=[aa dr]) (l:=[]) (bs:=[0,1,2,3,4,5]) (pl:=[1,2,3,5]) (q:=[x0,aF sc,bu [0,1,2,3,4,5] es,f5]) (fun u=>by kernel_rfl) (by kernel_rfl) (aE aW (aE (a9 sc) (aE cj (aE br bd)))) hq
theorem Yp(sc:List (Int×Int))(x0 es)(ck:Nat)(f5)(dm dc dr:Int){Q:aV}(aW:amq x0 af=true)(be:amq (aF sc) af=true)(bB:amq (bu [0,1,2,3,4,5] es) af=true)(br:amq f5 af=true)(l4:Q .ret (MJ sc x0 es ck f5 dm dc dr)):al asz 9 6 X7 ⟨[(0,an 0)],[ab [ah 2 (mM sc),.map (some 3),aa dm,aa dc,aa dr] 70,ab x0 5,ab (aF sc) 67,.map es ck,ab [] 174,ab f5 5]⟩ Q:=
 aZ bo 1000 (.leaf [2] [0,1,2,3,4,5] [1,2,3,5]) (fun u=>by kernel_rfl) (mN aW (mN (a9 sc) (mN bB (mN br (mR l4)))))
end
end Go.Proofs.Ytnlkkgpcikkpoaa
namespace Go.Proofs.Ytnlkkgpcikkpoaa
noncomputable section
open Go Vm Go.RowKit
set_option maxRecDepth 100000
def Yq(sc:List (Int×Int))(es:List amW)(ck:Nat)(fb:ByteArray)(dm dc dr:Int)(no:Int):List (amY×Sum):=[(107,Sum.one (fun _ _=>some dN) [an 0,aa no] (fx sc [] es ck fb.size (ag fb) dm dc dr) (.ret (an 4)) (fx sc [] es ck fb.size (ag fb) dm dc dr)),(108,Sum.one (fun _ _=>some dN) [an 0] (fx sc [] es ck fb.size (ag fb) dm dc dr) (.ret (aa (cE sc dc))) (fx sc [] es ck fb.size (ag fb) dm (aml .i64 (dc+1)) (cR sc dc dr))),(30,Sum.of Fk)]
theorem Yr(sc:List (Int×Int))(es:List amW)(ck:Nat)(fb:ByteArray)(dm dc dr no:Int)(hs:(mM sc)≤1000000)(he:b8 es=true){i:Nat}(hf:e7 (aa no) es 0=some (some (i,an 4))):dg asz (dE asz (dF (Yq sc es ck fb dm dc dr no)) 50 40):=
 dJ cZ mixed (dQ (.cons (bp.one (Fm rfl rfl (by simp[fx]) hf)) (.cons (bp.one (Mp sc [] es ck fb.size (ag fb) dm dc dr hs (by simp) he (by simp))) (.cons XK .nil)))) 50 40
noncomputable def MK:List am3:=ba (dy asz 97)
open Tree renaming aU→mN,dh→mF,eQ→mL,fw→mQ,dz→mR,fI→mE
def ML:Nat→Bool→Bool→Tree→Tree
 |0,_,_,t=>t
 |n+1,d,b,t=>.cD d b (ML n d b t)
theorem Ai{R:bf→aj→Prop}{c v:Bool}{t:Tree}(n:Nat)(h1:c=v)(h2:t.ok R):(ML n c v t).ok R:=by
 induction n with
 |zero=>exact h2
 |succ n ih=>exact⟨h1,ih⟩
abbrev vb:=fun(sc:List (Int×Int)) es (ck:Nat) (fb:ByteArray) (dm dc dr:Int)=>([ab ([ah 2 (mM sc),.map (some 3),aa dm,aa dc,aa dr]) 70,ab [] 5,ab (aF sc) 67,.map es ck,ab [ah 5 fb.size] 174,ab (ag fb) 5]:List ai)
abbrev MM:=fun(sc:List (Int×Int)) es (ck:Nat) fb (dm dc dr no p bQ:Int) (i:Nat)=>(⟨[(8,cd),(9,aa 1)],vb sc es ck fb dm dc dr⟩:aj)
theorem Ys(sc:List (Int×Int))(es)(ck:Nat)(fb)(dm dc dr no p bQ:Int)(i:Nat){Q:bk}(lp:amq (bu [0,1,2,3,4,5] es) af=true)(hq:Q (.ret (.tuple #[cd,aa 1])) (vb sc es ck fb dm dc dr)):aH asz 97 55 6 Q .ret (MM sc es ck fb dm dc dr no p bQ i):=aH.ret (vs:=[cd,aa 1]) (l:=[]) (bs:=[0,1,2,3,4,5]) (pl:=[2,3,5]) (q:=[aF sc,bu [0,1,2,3,4,5] es,ag fb]) (fun u=>by kernel_rfl) (by kernel_rfl) (aE (a9 sc) (aE lp (aE (aI fb) bd))) hq
abbrev MN:=fun(sc:List (Int×Int)) es (ck:Nat) fb (dm dc dr no p bQ:Int) (i:Nat)=>(⟨[(8,cd),(9,aa 1)],vb sc es ck fb dm dc dr⟩:aj)
theorem Yt(sc:List (Int×Int))(es)(ck:Nat)(fb)(dm dc dr no p bQ:Int)(i:Nat){Q:bk}(lp:amq (bu [0,1,2,3,4,5] es) af=true)(hq:Q (.ret (.tuple #[cd,aa 1])) (vb sc es ck fb dm dc dr)):aH asz 97 55 6 Q .ret (MN sc es ck fb dm dc dr no p bQ i):=aH.ret (vs:=[cd,aa 1]) (l:=[]) (bs:=[0,1,2,3,4,5]) (pl:=[2,3,5]) (q:=[aF sc,bu [0,1,2,3,4,5] es,ag fb]) (fun u=>by kernel_rfl) (by kernel_rfl) (aE (a9 sc) (aE lp (aE (aI fb) bd))) hq
abbrev MO:=fun(sc:List (Int×Int)) es (ck:Nat) fb (dm dc dr no p bQ:Int) (i:Nat)=>(⟨[(8,cd),(9,aa 1)],vb sc es ck fb dm dc dr⟩:aj)
theorem Yu(sc:List (Int×Int))(es)(ck:Nat)(fb)(dm dc dr no p bQ:Int)(i:Nat){Q:bk}(lp:amq (bu [0,1,2,3,4,5] es) af=true)(hq:Q (.ret (.tuple #[cd,aa 1])) (vb sc es ck fb dm dc dr)):aH asz 97 55 6 Q .ret (MO sc es ck fb dm dc dr no p bQ i):=aH.ret (vs:=[cd,aa 1]) (l:=[]) (bs:=[0,1,2,3,4,5]) (pl:=[2,3,5]) (q:=[aF sc,bu [0,1,2,3,4,5] es,ag fb]) (fun u=>by kernel_rfl) (by kernel_rfl) (aE (a9 sc) (aE lp (aE (aI fb) bd))) hq
abbrev MP:=fun(sc:List (Int×Int)) es (ck:Nat) (fb:ByteArray) (dm dc dr no p bQ:Int) (i:Nat)=>(⟨[(8,cd),(9,aa (cE sc dc))],[ab ([ah 2 (mM sc),.map (some 3),aa dm,.int .i64 (aml .i64 (dc+1)),aa (cR sc dc dr)]) 70,ab [] 5,ab (aF sc) 67,.map es ck,ab [ah 5 fb.size] 174,ab (ag fb) 5]⟩:aj)
theorem Yv(sc:List (Int×Int))(es)(ck:Nat)(fb:ByteArray)(dm dc dr no p bQ:Int)(i:Nat){Q:bk}(lp:amq (bu [0,1,2,3,4,5] es) af=true)(hq:Q (.ret (.tuple #[cd,aa (cE sc dc)])) [ab ([ah 2 (mM sc),.map (some 3),aa dm,.int .i64 (aml .i64 (dc+1)),aa (cR sc dc dr)]) 70,ab [] 5,ab (aF sc) 67,.map es ck,ab [ah 5 fb.size] 174,ab (ag fb) 5]):aH asz 97 55 6 Q .ret (MP sc es ck fb dm dc dr no p bQ i):=aH.ret (vs:=[cd,aa (cE sc dc)]) (l:=[]) (bs:=[0,1,2,3,4,5]) (pl:=[2,3,5]) (q:=[aF sc,bu [0,1,2,3,4,5] es,ag fb]) (fun u=>by kernel_rfl) (by kernel_rfl) (aE (a9 sc) (aE lp (aE (aI fb) bd))) hq
abbrev MQ:=fun(sc:List (Int×Int)) es (ck:Nat) (fb:ByteArray) (dm dc dr no p bQ:Int) (i:Nat)=>(⟨[(8,ah 6 (amm (if bQ<(↑(fb.size-amm p):Int)then bQ else(↑(fb.size-amm p):Int))-0)),(9,aa 0)],[ab ([ah 2 (mM sc),.map (some 3),aa dm,.int .i64 (aml .i64 (dc+1)),aa (cR sc dc dr)]) 70,ab [] 5,ab (aF sc) 67,.map es ck,ab [ah 5 fb.size] 174,ab (ag fb) 5,ab (amM (amm (if bQ<(↑(fb.size-amm p):Int)then bQ else(↑(fb.size-amm p):Int))-0) (an4 (0+amm p*1+0) (ag fb))) 5]⟩:aj)
theorem Yw(sc:List (Int×Int))(es)(ck:Nat)(fb:ByteArray)(dm dc dr no p bQ:Int)(i:Nat){Q:bk}(aW:amq (aF sc) af=true)(lp:amq (bu [0,1,2,3,4,5,6] es) af=true)(bB:amq (ag fb) af=true)(hq:Q (.ret (.tuple #[ah 6 (amm (if bQ<(↑(fb.size-amm p):Int)then bQ else(↑(fb.size-amm p):Int))-0),aa 0])) [ab ([ah 2 (mM sc),.map (some 3),aa dm,.int .i64 (aml .i64 (dc+1)),aa (cR sc dc dr)]) 70,ab [] 5,ab (aF sc) 67,.map es ck,ab [ah 5 fb.size] 174,ab (ag fb) 5,ab (amM (amm (if bQ<(↑(fb.size-amm p):Int)then bQ else(↑(fb.size-amm p):Int))-0) (an4 (0+amm p*1+0) (ag fb))) 5]):aH asz 97 55 6 Q .ret (MQ sc es ck fb dm dc dr no p bQ i):=aH.ret (vs:=[ah 6 (amm (if bQ<(↑(fb.size-amm p):Int)then bQ else(↑(fb.size-amm p):Int))-0),aa 0]) (l:=[]) (bs:=[0,1,2,3,4,5,6]) (pl:=[2,3,5,6]) (q:=[aF sc,bu [0,1,2,3,4,5,6] es,ag fb,amM (amm (if bQ<(↑(fb.size-amm p):Int)then bQ else(↑(fb.size-amm p):Int))-0) (an4 (0+amm p*1+0) (ag fb))]) (fun u=>by kernel_rfl) (by kernel_rfl) (aE aW (aE lp (aE bB (aE (by first|exact aP _|assumption|exact aD (by assumption) rfl _|exact aD (aD (aD (by assumption) rfl _) rfl _) rfl _|exact aD (aP _) (cg (by rfl) _) _|exact aA (aO (aN _) _) _|(simp;done)|exact aB (by assumption) rfl|exact aB (aP _) rfl|exact aB rfl (aA (by assumption) _)|exact aB (by assumption) (aA (by assumption) _)|exact aB rfl (aA (aO (by assumption) _) _)|exact aA (aO (by assumption) _) _) bd)))) hq
theorem Yx(sc:List (Int×Int))(es:List amW)(ck:Nat)(fb:ByteArray)(dm dc dr no p bQ:Int)(i:Nat)(hs:(mM sc)≤1000000)(he:b8 es=true)(hf:e7 (aa no) es 0=some (some (i,an 4)))(hl:fb.size≤1000000)(hp:(aF sc).all af=true)(h6:(bu dN es).all af=true)(h4:(es.map (dM fun i=>(dN++eV 6 0)[i]?)).all af=true){Q:aV}(n0:(dX [an 0,aa no] [an 0,aa no] [ab [ah 2 (mM sc),aoG (some (0+1+1+1)),aa dm,aa dc,aa dr] 70,ab [] 5,ab (aF sc) 67,ai.map es ck,ab [ah 5 fb.size] 174,ab (ag fb) 5] (fx sc [] es ck fb.size (ag fb) dm dc dr))=true)(aW:amq (aF sc) af=true)(be:amq (bu [0,1,2,3,4,5] es) af=true)(bB:amq (ag fb) af=true)(l4:(decide (p<0))=true→Q .ret (MM sc es ck fb dm dc dr no p bQ i))(l5:(decide (p<0))=false→(decide (p>(fb.size:Int)))=true→Q .ret (MN sc es ck fb dm dc dr no p bQ i))(l6:(decide (p<0))=false→(decide (p>(fb.size:Int)))=false→(decide (bQ<1))=true→Q .ret (MO sc es ck fb dm dc dr no p bQ i))(n7:(decide (p<0))=false→(decide (p>(fb.size:Int)))=false→(decide (bQ<1))=false→(dX [an 0] [an 0] [ab [ah 2 (mM sc),aoG (some (0+1+1+1)),aa dm,aa dc,aa dr] 70,ab [] 5,ab (aF sc) 67,ai.map es ck,ab [ah 5 fb.size] 174,ab (ag fb) 5] (fx sc [] es ck fb.size (ag fb) dm dc dr))=true)(l8:(decide (p<0))=false→(decide (p>(fb.size:Int)))=false→(decide (bQ<1))=false→(cE sc dc != 0)=true→Q .ret (MP sc es ck fb dm dc dr no p bQ i))(n9:(decide (p<0))=false→(decide (p>(fb.size:Int)))=false→(decide (bQ<1))=false→(cE sc dc != 0)=false→(Af (ag fb) (0+amm p*1+0) (amm (if bQ<(↑(fb.size-amm p):Int)then bQ else(↑(fb.size-amm p):Int))-0) (fb.size-amm p-0) 5 false)=true)(br:amq (bu [0,1,2,3,4,5,6] es) af=true)(gR:(decide (p<0))=false→(decide (p>(fb.size:Int)))=false→(decide (bQ<1))=false→(cE sc dc != 0)=false→Q .ret (MQ sc es ck fb dm dc dr no p bQ i)):al asz 55 6 MK ⟨[(0,an 0),(1,aa no),(2,aa p),(3,aa bQ)],[ab [ah 2 (mM sc),.map (some 3),aa dm,aa dc,aa dr] 70,ab [] 5,ab (aF sc) 67,.map es ck,ab [ah 5 fb.size] 174,ab (ag fb) 5]⟩ Q:=
 aZ (Yr sc es ck fb dm dc dr no hs he hf) 1000 (av [5,1,1,1,3,1,1] (.fork 3 (av [1,1,1,1,1,1,1,1] (.leaf [8,9] [0,1,2,3,4,5] [2,3,5])) (av [0,0,0,0,0,2,2,0] (.fork 0 (av [1,1] (.leaf [8,9] [0,1,2,3,4,5] [2,3,5])) (av [0,0] (.fork 0 (.leaf [8,9] [0,1,2,3,4,5] [2,3,5]) (av [5,1,1,1,3,1,1] (.fork 0 (.leaf [8,9] [0,1,2,3,4,5] [2,3,5]) (av [2,1,1,1,4,1,3,3,1,1,1] (.leaf [8,9] [0,1,2,3,4,5,6] [2,3,5,6])))))))))) (fun u=>by kernel_rfl) (mN (a9 sc) (mN (show(amq (am0 (dM (eI dN)) es) af)=true by assumption) (mN (aI fb) (mN n0 (mN (a9 sc) (mN (show(amq (am0 (dM fun i=>(dN++eV 6 (mM (fx sc [] es ck fb.size (ag fb) dm dc dr)-6))[i]?) es) af)=true by assumption) (mN (aI fb) (mF (c:=decide (p<0)) (fun h0=>(Ai 8 h0 (mN (a9 sc) (mN be (mN (aI fb) (mR (l4 h0))))))) (fun h0=>(Ai 8 h0 (mF (c:=decide (p>(fb.size:Int))) (fun h1=>(Ai 2 h1 (mN (a9 sc) (mN be (mN (aI fb) (mR (l5 h0 h1))))))) (fun h1=>(Ai 2 h1 (mF (c:=decide (bQ<1)) (fun h2=>(mN (a9 sc) (mN be (mN (aI fb) (mR (l6 h0 h1 h2)))))) (fun h2=>(mN (a9 sc) (mN (show(amq (am0 (dM (eI dN)) es) af)=true by assumption) (mN (aI fb) (mN (n7 h0 h1 h2) (mN (a9 sc) (mN (show(amq (am0 (dM fun i=>(dN++eV 6 (mM (fx sc [] es ck fb.size (ag fb) dm (aml .i64 (dc+1)) (cR sc dc dr))-6))[i]?) es) af)=true by assumption) (mN (aI fb) (mF (c:=cE sc dc != 0) (fun h3=>(mN (a9 sc) (mN be (mN (aI fb) (mR (l8 h0 h1 h2 h3)))))) (fun h3=>(mN (show(decide (0≤p))=true by simp at hs he hf hl hp h6 h4 h0 h1 h2 h3⊢ <;>omega) (mN (show(amO (amm p) fb.size)=true by simp at hs he hf hl hp h6 h4 h0 h1 h2 h3⊢ <;>omega) (mN (show(amO fb.size fb.size)=true by simp) (mN (show(decide (0≤if bQ<(↑(fb.size-amm p):Int)then bQ else(↑(fb.size-amm p):Int)))=true by simp at hs he hf hl hp h6 h4 h0 h1 h2 h3⊢ <;>omega) (mN (show(amO (amm (if bQ<(↑(fb.size-amm p):Int)then bQ else(↑(fb.size-amm p):Int))) (fb.size-amm p))=true by simp at hs he hf hl hp h6 h4 h0 h1 h2 h3⊢ <;>omega) (mN (aI fb) (mN (n9 h0 h1 h2 h3) (mN (aI fb) (mN (show(amq (amM (amm (if bQ<(↑(fb.size-amm p):Int)then bQ else(↑(fb.size-amm p):Int))-0) (an4 (0+amm p*1+0) (ag fb))) af)=true by simp) (mN (a9 sc) (mN br (mN (aI fb) (mN (show(amq (amM (amm (if bQ<(↑(fb.size-amm p):Int)then bQ else(↑(fb.size-amm p):Int))-0) (an4 (0+amm p*1+0) (ag fb))) af)=true by first|exact aP _|assumption|exact aD (by assumption) rfl _|exact aD (aD (aD (by assumption) rfl _) rfl _) rfl _|exact aD (aP _) (cg (by rfl) _) _|exact aA (aO (aN _) _) _|(simp;done)|exact aB (by assumption) rfl|exact aB (aP _) rfl|exact aB rfl (aA (by assumption) _)|exact aB (by assumption) (aA (by assumption) _)|exact aB rfl (aA (aO (by assumption) _) _)|exact aA (aO (by assumption) _) _) (mR (gR h0 h1 h2 h3)))))))))))))))))))))))))))))))))))))))
abbrev MR:=fun(sc:List (Int×Int)) x0 es (ck:Nat) f5 (dm dc dr no p bQ:Int)=>(⟨[(8,cd),(9,aa 1)],[ab ([ah 2 (mM sc),.map (some 3),aa dm,aa dc,aa dr]) 70,ab x0 5,ab (aF sc) 67,.map es ck,ab [] 174,ab f5 5]⟩:aj)
theorem Yy(sc:List (Int×Int))(x0 es)(ck:Nat)(f5)(dm dc dr no p bQ:Int){Q:bk}(aW:amq x0 af=true)(cj:amq (bu [0,1,2,3,4,5] es) af=true)(br:amq f5 af=true)(hq:Q (.ret (.tuple #[cd,aa 1])) [ab ([ah 2 (mM sc),.map (some 3),aa dm,aa dc,aa dr]) 70,ab x0 5,ab (aF sc) 67,.map es ck,ab [] 174,ab f5 5]):aH asz 97 55 6 Q .ret (MR sc x0 es ck f5 dm dc dr no p bQ):=aH.ret (vs:=[cd,aa 1]) (l:=[]) (bs:=[0,1,2,3,4,5]) (pl:=[1,2,3,5]) (q:=[x0,aF sc,bu [0,1,2,3,4,5] es,f5]) (fun u=>by kernel_rfl) (by kernel_rfl) (aE aW (aE (a9 sc) (aE cj (aE br bd)))) hq
theorem Yz(sc:List (Int×Int))(x0:List amn)(es:List amW)(ck:Nat)(f5:List amn)(dm dc dr no p bQ:Int)(hs:(mM sc)≤1000000)(h0:x0.all af=true)(he:b8 es=true)(h5:f5.all af=true)(hf:e7 (aa no) es 0=some none)(hp:(aF sc).all af=true)(h6:(bu dN es).all af=true)(h4:(es.map (dM fun i=>(dN++eV 6 0)[i]?)).all af=true){Q:aV}(n0:(dX [an 0,aa no] [an 0,aa no] [ab [ah 2 (mM sc),aoG (some (0+1+1+1)),aa dm,aa dc,aa dr] 70,ab x0 5,ab (aF sc) 67,ai.map es ck,ab [] 174,ab f5 5] (fq sc x0 es ck 0 f5 dm dc dr))=true)(aW:amq x0 af=true)(be:amq (aF sc) af=true)(bB:amq (bu [0,1,2,3,4,5] es) af=true)(br:amq f5 af=true)(l5:Q .ret (MR sc x0 es ck f5 dm dc dr no p bQ)):al asz 55 6 MK ⟨[(0,an 0),(1,aa no),(2,aa p),(3,aa bQ)],[ab [ah 2 (mM sc),.map (some 3),aa dm,aa dc,aa dr] 70,ab x0 5,ab (aF sc) 67,.map es ck,ab [] 174,ab f5 5]⟩ Q:=
 aZ (Ag sc x0 es ck f5 dm dc dr no (.pointer none) hs h0 he h5 hf rfl) 1000 (av [3,1,1,1,1,1,1,1,1] (.leaf [8,9] [0,1,2,3,4,5] [1,2,3,5])) (fun u=>by kernel_rfl) (mN (show(amq x0 af)=true by assumption) (mN (a9 sc) (mN (show(amq (am0 (dM (eI dN)) es) af)=true by assumption) (mN (show(amq f5 af)=true by assumption) (mN n0 (mN (show(amq x0 af)=true by assumption) (mN (a9 sc) (mN (show(amq (am0 (dM fun i=>(dN++eV 6 (mM (fq sc x0 es ck 0 f5 dm dc dr)-6))[i]?) es) af)=true by assumption) (mN (show(amq f5 af)=true by assumption) (mN aW (mN (a9 sc) (mN bB (mN br (mR l5))))))))))))))
end
end Go.Proofs.Ytnlkkgpcikkpoaa
namespace Go.Proofs.Ytnlkkgpcikkpoaa
open Go Vm Go.RowKit
set_option maxRecDepth 100000
structure cw(d:ay):Prop where
 bS:d.script.length≤1000000
 made:d.made≤64
 keys:∀p∈d.files,p.1≤d.made
 gp:(d.files.map (·.1)).Nodup
 size:∀p∈d.files,p.2.size≤1000000
noncomputable def ph(d:ay):Bool:=@decide (cw d) (amR _)
theorem rA{d:ay}:ph d=true↔cw d:=by unfold ph;exact @decide_eq_true_iff _ (amR _)
def gS(d:ay):ay:={d with calls:=aml .i64 (d.calls+1),raw:=cR d.script d.calls d.raw}
abbrev jA(d:ay):Int:=cE d.script d.calls
def bw(d:ay):Int×Int×ay:=
 if d.made=64 then(0,17,d)else if jA d≠0 then(0,jA d,gS d)else((d.made:Int)+1,0,{gS d with made:=d.made+1,files:=d.files++[(d.made+1,amw)]})
def fileOf(l:List (Nat×ByteArray))(no:Int):Option ByteArray:=(l.find? fun p=>(p.1:Int)==no).map (·.2)
def kM(l:List (Nat×ByteArray))(no:Int)(b:ByteArray):List (Nat×ByteArray):=l.map fun p=>if(p.1:Int)==no then(p.1,p.2++b)else p
def oh(l:List (Nat×ByteArray))(no:Int):List (Nat×ByteArray):=l.filter fun p=> !((p.1:Int)==no)
def bN(d:ay)(no:Int)(b:ByteArray):Int×ay:=match fileOf d.files no with
 |none=>(1,d)
 |some _=>if b.size=0∨1024<b.size then(1,d)else if jA d≠0 then(jA d,gS d)else(0,{gS d with files:=kM d.files no b})
def eS(d:ay)(no:Int):Int×ay:=match fileOf d.files no with
 |none=>(1,d)
 |some _=>if jA d≠0 then(jA d,gS d)else(0,{gS d with files:=oh d.files no})
def aK(d:ay)(no p bQ:Int):ByteArray×Int×ay:=match fileOf d.files no with
 |none=>(amw,1,d)
 |some f=>if p<0∨(f.size:Int)<p∨bQ<1 then(amw,1,d)else if jA d≠0 then(amw,jA d,gS d)else(f.extract p.toNat (p.toNat+min (f.size-p.toNat) bQ.toNat),0,gS d)
theorem Fo{A:List (Nat×ByteArray)}{eA:List amW}{LA:List (Nat×CO)}(h:fA A eA LA){x:Int}(hx:∀p∈A,(p.1:Int)≠x)(t:List amW)(i:Nat):e7 (.int .i64 x) (bU eA++t) i=e7 (.int .i64 x) t (i+eA.length):=by
 induction h generalizing i with
 |nil=>rfl
 |cons p k sh born l es L L' hf ht ih=>
  have h1:(x==(p.1:Int))=false:=by simpa using fun e=>hx p amN e.symm
  show e7 (.int .i64 x) (anO (.int .i64 p.1) (.pointer (some ⟨k,sh,some 0⟩)) born::(bU es++t)) i=_
  conv=>lhs;unfold e7
  simp only[beq_self_eq_true,h1,Bool.false_eq_true,if_false]
  rw[ih (fun q hq=>hx q (amK _ hq)),am9,show i+1+es.length=i+(es.length+1)by omega]
theorem ol{A:List (Nat×ByteArray)}{eA:List amW}{LA:List (Nat×CO)}(h:fA A eA LA):b8 (bU eA)=true:=by
 induction h with
 |nil=>rfl
 |cons p k sh born l es L L' hf ht ih=>
  have wP:(bU es).all z6=true:=ih
  show amq (_::bU es) z6=true
  rw[List.all_cons,wP]
  rfl
theorem vc{a b:List amW}(ha:b8 a=true)(hb:b8 b=true):b8 (a++b)=true:=by
 unfold b8 at*
 rw[aqh,ha,hb];rfl
theorem YA{l:List (Nat×ByteArray)}{no:Int}(h:fileOf l no=none):∀p∈l,(p.1:Int)≠no:=by
 unfold fileOf at h
 rw[Option.map_eq_none_iff,List.find?_eq_none]at h
 intro p hp e
 have:=h p hp
 simp[e]at this
theorem Fq{l:List (Nat×ByteArray)}{no:Int}{f:ByteArray}(h:fileOf l no=some f):∃A p C,l=A++([p]++C)∧(p.1:Int)=no∧p.2=f∧∀q∈A,(q.1:Int)≠no:=by
 unfold fileOf at h
 rw[Option.map_eq_some_iff]at h
 obtain⟨p,h1,h2⟩:=h
 obtain⟨h3,A,C,h4,h5⟩:=List.find?_eq_some_iff_append.1 h1
 refine⟨A,p,C,h4,by simpa using h3,h2,fun q hq e=>?_⟩
 have:=h5 q hq
 simp[e]at this
theorem MT{A C:List (Nat×ByteArray)}{p:Nat×ByteArray}(h:((A++([p]++C)).map (·.1)).Nodup){no:Int}(hp:(p.1:Int)=no):∀q∈C,(q.1:Int)≠no:=fun q hq e=>by
 rw[anh,anh]at h
 have:=(ans.1 (ans.1 h).2.1).2.2 p.1 (by simp) q.1 (aoL hq)
 omega
theorem YB{A C:List (Nat×ByteArray)}{p:Nat×ByteArray}{no:Int}(hp:(p.1:Int)=no)(hA:∀q∈A,(q.1:Int)≠no)(hC:∀q∈C,(q.1:Int)≠no)(b:ByteArray):kM (A++([p]++C)) no b=A++([(p.1,p.2++b)]++C):=by
 have key:∀l:List (Nat×ByteArray),(∀q∈l,(q.1:Int)≠no)→kM l no b=l:=fun l hl=>by
  unfold kM
  rw[aoz (g:=id) fun q hq=>by simp[hl q hq],aqZ]
 unfold kM at*
 rw[anh,anh,key A hA,key C hC]
 simp[hp]
theorem YC{A C:List (Nat×ByteArray)}{p:Nat×ByteArray}{no:Int}(hp:(p.1:Int)=no)(hA:∀q∈A,(q.1:Int)≠no)(hC:∀q∈C,(q.1:Int)≠no):oh (A++([p]++C)) no=A++C:=by
 have key:∀l:List (Nat×ByteArray),(∀q∈l,(q.1:Int)≠no)→oh l no=l:=fun l hl=>by
  unfold oh
  rw[List.filter_eq_self]
  intro q hq
  simp[hl q hq]
 unfold oh at*
 rw[arq,arq,key A hA,key C hC]
 simp[hp]
theorem jQ{l:List ai}(h:l.all (fun o=> !o.ro)=true):∀o∈l,o.ro=false:=fun o ho=>by simpa using am1.1 h o ho
theorem aG.Aj{f:amY}{args:List amn}{objs:List ai}{Q:bL→List ai→Prop}(h:aG asz f args objs fun r o=>∃d n,o=.abs d::aq7 n .dead∧(∃r',qc (eI [0]) r=some r'∧Q r' [.abs d]))(hl:objs.length=1):aG asz f args objs Q:=by
 refine aG.trim h ?_
 rintro r o ⟨d,n,rfl,r',h1,h2⟩
 refine⟨[0],[],r',[.abs d],[],?_,fun c hc=>(by cases hc),h2⟩
 rw[hl]
 unfold nW
 simp only[getAll,anb,apk,apJ,pb,h1]
 rfl
theorem YD(d:ay)(hd:cw d):aG asz 102 [.pointer (some ⟨0,0,none⟩)] [.abs d] fun r o=>r=.ret (.tuple #[.int .i64 (bw d).1,.int .i64 (bw d).2.1])∧o=[.abs (bw d).2.2]:=by
 refine aG.Aj (aG.z8 (x0:=[]) fun eR L2 ck hf=>?_) rfl
 have he:=ol hf
 have jg:wZ (bU eR) (amu amA (aml amA ((d.made:Int)+1)))=true:=by
  have hw:aml amA ((d.made:Int)+1)=(d.made:Int)+1:=mC (by omega) (by have:=hd.made;omega)
  have:=Fo hf (x:=(d.made:Int)+1) (fun p hp=>by have:=hd.keys p hp;omega) [] 0
  rw[anV]at this
  unfold wZ
  rw[hw,this]
  rfl
 have hm:=hd.made
 have hw:aml amA ((d.made:Int)+1)=(d.made:Int)+1:=mC (by omega) (by omega)
 have dw:∀n,(bu [0,1,2,3,4,5,6] (bU eR++[anO (amu amA (aml amA ((d.made:Int)+1))) (anx (some (Addr.mk 6 0 none))) n])).all af=true:=fun n=>by
  unfold bu
  rw[anh,aqh]
  have h1:=b8.idx he [6]
  unfold bu at h1
  rw[show([0,1,2,3,4,5]++[6]:List Nat)=[0,1,2,3,4,5,6]from rfl]at h1
  rw[h1]
  rfl
 refine aG.cM (n:=ct asz 102) (by kernel_rfl) ?_
 apply Yb d.script [] (bU eR) ck [] d.made d.calls d.raw hd.bS rfl he rfl (by omega) (by omega) hw (a9 _) (b8.idx he []) (b8.qj he [])
 case aW=>rfl
 case be=>exact a9 _
 case bB=>exact b8.idx he []
 case br=>rfl
 case l4=>
  intro g
  have g:(d.made:Int)=64:=by simpa using g
  have g:d.made=64:=by omega
  refine X8 d.script [] (bU eR) ck [] d.made d.calls d.raw rfl (b8.idx he []) rfl ?_
  refine⟨d,[1,2,3,4,5],⟨⟨d.files,[],[],eR,[],[],[],[],L2,[],[],ck,by simp,by simp,by simp,hf,.nil,rfl,by simp,rfl,by simp[bU],.none⟩,rfl,rfl,rfl,jQ (by rfl),by simp⟩,d,5,rfl,_,rfl,?_,?_⟩
  ·unfold bw;rw[if_pos g]
  ·unfold bw;rw[if_pos g]
 case n5=>intro g;exact fe rfl rfl
 case l6=>
  intro g g1
  have g:¬(d.made:Int)=64:=by simpa using g
  have g:¬d.made=64:=by omega
  have g1:jA d≠0:=by simpa using g1
  refine X9 d.script [] (bU eR) ck [] d.made d.calls d.raw rfl (b8.idx he []) rfl ?_
  refine⟨gS d,[1,2,3,4,5],⟨⟨d.files,[],[],eR,[],[],[],[],L2,[],[],ck,by simp,by simp,by simp,hf,.nil,rfl,by simp[gS],rfl,by simp[bU],.none⟩,rfl,rfl,rfl,jQ (by rfl),by simp⟩,gS d,5,rfl,_,rfl,?_,?_⟩
  ·unfold bw;rw[if_neg g,if_pos g1]
  ·unfold bw;rw[if_neg g,if_pos g1]
 case n7=>intro g g1;exact jg
 case pg=>exact dw ck
 case l9=>
  intro g g1
  have g:¬(d.made:Int)=64:=by simpa using g
  have g:¬d.made=64:=by omega
  have g1:¬jA d≠0:=by simpa using g1
  refine Ya d.script [] (bU eR) ck [] d.made d.calls d.raw rfl (dw ck) rfl ?_
  rw[hw]
  refine⟨{gS d with made:=d.made+1,files:=d.files++[(d.made+1,amw)]},[1,2,3,4,5,6],⟨⟨d.files,[],[],eR,[],[],[(d.made+1,amw)],[anO (amu .i64 ((d.made+1:Nat):Int)) (anx (some ⟨6,0,none⟩)) ck],L2,[],[],ck+1,by simp,by simp,by simp,hf,.nil,rfl,by simp,rfl,by simp[bU],.empty _ 6 ck rfl rfl ⟨by omega,rfl⟩⟩,rfl,rfl,rfl,jQ (by rfl),by simp⟩,_,6,rfl,_,rfl,?_,?_⟩
  ·unfold bw;rw[if_neg g,if_neg g1]
  ·unfold bw;rw[if_neg g,if_neg g1]
theorem YE(x:Int)(v:amn)(born:Nat)(t:List amW)(i:Nat):e7 (.int .i64 x) (anO (.int .i64 x) v born::t) i=some (some (i,v)):=by
 conv=>lhs;unfold e7
 simp
theorem YF{l:List (Nat×ByteArray)}{eR:List amW}{L2:List (Nat×CO)}{A C:List (Nat×ByteArray)}{p:Nat×ByteArray}(h:fA l eR L2)(hl:l=A++([p]++C)):
 ∃eA eC k sh born LA LF LC,eR=eA++([anO (amu .i64 p.1) (anx (some ⟨k,sh,none⟩)) born]++eC)∧L2=LA++(LF++LC)∧fA A eA LA∧fA C eC LC:=by
 subst hl
 obtain⟨eA,e1,LA,L1,rfl,rfl,h1,h2⟩:=uX h
 cases h2 with
 |cons _ k sh born _ es L L' a b=>exact⟨eA,es,k,sh,born,LA,L,L',rfl,rfl,h1,b⟩
theorem MU(a b:List amW):bU (a++b)=bU a++bU b:=by unfold bU;rw[anh]
theorem Fs{l:List (Nat×ByteArray)}{eR:List amW}{L2:List (Nat×CO)}(h:fA l eR L2){no:Int}(hn:fileOf l no=none):e7 (.int .i64 no) (bU eR) 0=some none:=by
 have:=Fo h (YA hn) [] 0
 rw[anV]at this
 rw[this];rfl
theorem Ft{A:List (Nat×ByteArray)}{eA:List amW}{LA:List (Nat×CO)}(h:fA A eA LA){no:Int}(hA:∀q∈A,(q.1:Int)≠no){p:Nat×ByteArray}(hp:(p.1:Int)=no)(v:amn)(born:Nat)(t:List amW):
 e7 (.int .i64 no) (bU eA++([anO (amu .i64 p.1) v born]++t)) 0=some (some (eA.length,v)):=by
 rw[Fo h hA,hp]
 show e7 _ (_::t) _=_
 rw[YE,an8]
theorem aG.MV{f:amY}{args:List amn}{objs:List ai}{Q:bL→List ai→Prop}{c:List amn}{el:TypeId}(hc:c.all af=true)(h:aG asz f args objs fun r o=>∃d n,o=.abs d:: .cells c el false::aq7 n .dead∧(∃r',qc (eI [0,1]) r=some r'∧Q r' [.abs d,.cells c el false]))(hl:objs.length=2):aG asz f args objs Q:=by
 refine aG.trim h ?_
 rintro r o ⟨d,n,rfl,r',h1,h2⟩
 refine⟨[0,1],[1],r',[.abs d,.cells c el false],[c],?_,fun c' nM=>(by rw[ank]at nM;subst nM;exact hc),h2⟩
 rw[hl]
 unfold nW
 simp only[getAll,anb,anD,apk,apJ,pb,h1]
 rfl
theorem YG(d:ay)(hd:cw d)(no:Int):aG asz 106 [.pointer (some ⟨0,0,none⟩),.int .i64 no] [.abs d] fun r o=>r=.ret (.int .i64 (eS d no).1)∧o=[.abs (eS d no).2]:=by
 refine aG.Aj (aG.z8 (x0:=[]) fun eR L2 ck hf=>?_) rfl
 have he:=ol hf
 refine aG.cM (n:=ct asz 106) (by kernel_rfl) ?_
 cases hn:fileOf d.files no with
 |none=>
  apply Yg d.script [] (bU eR) ck [] d.made d.calls d.raw no hd.bS rfl he rfl (Fs hf hn) (a9 _) (b8.idx he []) (b8.qj he [])
  case n0=>exact fe rfl rfl
  case aW=>rfl
  case be=>exact a9 _
  case bB=>exact b8.idx he []
  case br=>rfl
  case l5=>
   refine Yf d.script [] (bU eR) ck [] d.made d.calls d.raw no rfl (b8.idx he []) rfl ?_
   refine⟨d,[1,2,3,4,5],⟨⟨d.files,[],[],eR,[],[],[],[],L2,[],[],ck,by simp,by simp,by simp,hf,.nil,rfl,by simp,rfl,by simp[bU],.none⟩,rfl,rfl,rfl,jQ (by rfl),by simp⟩,d,5,rfl,_,rfl,?_,?_⟩
   ·unfold eS;rw[hn]
   ·unfold eS;rw[hn]
 |some f=>
  obtain⟨A,p,C,hl,hp,Ak,hA⟩:=Fq hn
  have hC:∀q∈C,(q.1:Int)≠no:=MT (p:=p) (by rw[←hl];exact hd.gp) hp
  obtain⟨eA,eC,k,sh,born,LA,LF,LC,rfl,rfl,h1,h2⟩:=YF hf hl
  have tl:e7 (.int .i64 no) (bU (eA++([anO (amu .i64 p.1) (anx (some ⟨k,sh,none⟩)) born]++eC))) 0=some (some (eA.length,.pointer (some ⟨k,sh,some 0⟩))):=by
   rw[MU]
   exact Ft h1 hA hp _ _ _
  have hk:uy (bU (eA++([anO (amu .i64 p.1) (anx (some ⟨k,sh,none⟩)) born]++eC))) (.int .i64 no)=true:=by unfold uy;rw[tl];rfl
  have gg:nU (bU (eA++([anO (amu .i64 p.1) (anx (some ⟨k,sh,none⟩)) born]++eC))) (.int .i64 no)=bU eA++([]++bU eC):=by
   unfold nU
   rw[tl]
   dsimp only
   rw[MU,List.eraseIdx_append_of_length_le (by simp[bU]),show eA.length-(bU eA).length=0 by simp[bU]]
   rfl
  have dw:(bu [0,1,2,3,4,5] (nU (bU (eA++([anO (amu .i64 p.1) (anx (some ⟨k,sh,none⟩)) born]++eC))) (.int .i64 no))).all af=true:=by
   rw[gg]
   exact b8.idx (vc (ol h1) (vc rfl (ol h2))) []
  apply Ye d.script [] (bU (eA++([anO (amu .i64 p.1) (anx (some ⟨k,sh,none⟩)) born]++eC))) ck [] d.made d.calls d.raw no k sh eA.length hd.bS rfl he rfl tl hk (a9 _) (b8.idx he []) (b8.qj he [])
  case n0=>exact fe rfl rfl
  case n1=>exact fe rfl rfl
  case aW=>rfl
  case be=>exact a9 _
  case bB=>exact dw
  case br=>rfl
  case l6=>
   intro g
   have g:¬jA d≠0:=by simpa using g
   refine Yc d.script [] _ ck [] d.made d.calls d.raw no k sh eA.length rfl dw rfl ?_
   rw[gg]
   refine⟨{gS d with files:=oh d.files no},[1,2,3,4,5],⟨⟨A,[p],C,eA,_,eC,[],[],LA,LF,LC,ck,hl,rfl,rfl,h1,h2,rfl,?_,rfl,rfl,.none⟩,rfl,rfl,rfl,jQ (by rfl),by simp⟩,_,5,rfl,_,rfl,?_,?_⟩
   ·dsimp only;rw[hl,YC hp hA hC];rfl
   ·unfold eS;rw[hn];dsimp only;rw[if_neg g]
    have:cE d.script d.calls=0:=by simpa using g
    rw[this]
   ·unfold eS;rw[hn];dsimp only;rw[if_neg g]
  case pg=>exact b8.idx he []
  case l8=>
   intro g
   have g:jA d≠0:=by simpa using g
   refine Yd d.script [] _ ck [] d.made d.calls d.raw no k sh eA.length rfl (b8.idx he []) rfl ?_
   refine⟨gS d,[1,2,3,4,5],⟨⟨d.files,[],[],_,[],[],[],[],_,[],[],ck,by simp,by simp,by simp,hf,.nil,rfl,by simp[gS],rfl,by simp[bU],.none⟩,rfl,rfl,rfl,jQ (by rfl),by simp⟩,_,5,rfl,_,rfl,?_,?_⟩
   ·unfold eS;rw[hn];dsimp only;rw[if_pos g]
   ·unfold eS;rw[hn];dsimp only;rw[if_pos g]
theorem YH(d:ay):aG asz 94 [.pointer (some ⟨0,0,none⟩)] [.abs d] fun r o=>r=.ret (.int .i64 d.raw)∧o=[.abs d]:=by
 refine aG.Aj (aG.z8 (x0:=[]) fun eR L2 ck hf=>?_) rfl
 have he:=ol hf
 refine aG.cM (n:=ct asz 94) (by kernel_rfl) ?_
 refine Yp d.script [] (bU eR) ck [] d.made d.calls d.raw rfl (a9 _) (b8.idx he []) rfl ?_
 refine Yo d.script [] (bU eR) ck [] d.made d.calls d.raw rfl (b8.idx he []) rfl ?_
 exact⟨d,[1,2,3,4,5],⟨⟨d.files,[],[],eR,[],[],[],[],L2,[],[],ck,by simp,by simp,by simp,hf,.nil,rfl,by simp,rfl,by simp[bU],.none⟩,rfl,rfl,rfl,jQ (by rfl),by simp⟩,d,5,rfl,_,rfl,rfl,rfl⟩
theorem YI(d:ay)(hd:cw d)(no:Int)(b:ByteArray)(hn:fileOf d.files no=none):aG asz 103 [.pointer (some ⟨0,0,none⟩),.int .i64 no,.slice (some ⟨1,0,none⟩) b.size b.size] [.abs d,.cells (ag b) 5 false]
 fun r o=>r=.ret (.int .i64 (bN d no b).1)∧o=[.abs (bN d no b).2,.cells (ag b) 5 false]:=by
 refine aG.MV (c:=ag b) (el:=5) (aI _) (aG.WC fun eR L2 ck hf=>?_) rfl
 have he:=ol hf
 refine aG.cM (n:=ct asz 103) (by kernel_rfl) ?_
 apply Yn d.script b (bU eR) ck [] d.made d.calls d.raw no hd.bS (aI _) he rfl (Fs hf hn) (a9 _) (b8.idx he []) (b8.qj he [])
 case n0=>exact fe rfl rfl
 case aW=>exact aI _
 case be=>exact a9 _
 case bB=>exact b8.idx he []
 case br=>rfl
 case l5=>
  refine Ym d.script b (bU eR) ck [] d.made d.calls d.raw no (b8.idx he []) rfl ?_
  refine⟨d,[2,3,4,5],⟨⟨d.files,[],[],eR,[],[],[],[],L2,[],[],ck,by simp,by simp,by simp,hf,.nil,rfl,by simp,rfl,by simp[bU],.none⟩,rfl,rfl,rfl,jQ (by rfl),by simp⟩,d,4,rfl,_,rfl,?_,?_⟩
  ·unfold bN;rw[hn]
  ·unfold bN;rw[hn]
theorem YJ(fb b:ByteArray):ag fb++amM (b.size*1) (ag b)=ag (fb++b):=by
 rw[Mi,Nat.mul_one,List.take_of_length_le (by rw[mB];exact Nat.le_refl _)]
theorem YK(d:ay)(hd:cw d)(no:Int)(b:ByteArray)(cc:∀f,fileOf d.files no=some f→f.size+b.size≤1000000):aG asz 103 [.pointer (some ⟨0,0,none⟩),.int .i64 no,.slice (some ⟨1,0,none⟩) b.size b.size] [.abs d,.cells (ag b) 5 false]
 fun r o=>r=.ret (.int .i64 (bN d no b).1)∧o=[.abs (bN d no b).2,.cells (ag b) 5 false]:=by
 cases hn:fileOf d.files no with
 |none=>exact YI d hd no b hn
 |some f=>
  obtain⟨A,p,C,hl,hp,Ak,hA⟩:=Fq hn
  have hC:∀q∈C,(q.1:Int)≠no:=MT (p:=p) (by rw[←hl];exact hd.gp) hp
  have jq:=hd.size p (by rw[hl];simp)
  have YL:p.2.size+b.size≤1000000:=by rw[Ak];exact cc f hn
  refine aG.MV (c:=ag b) (el:=5) (aI _) (aG.WE hl fun eA eC born kf sf LA LF LC ck h1 h2 h3=>?_) rfl
  have he:b8 (bU eA++([anO (amu .i64 p.1) (anx (some ⟨4,0,none⟩)) born]++bU eC))=true:=vc (ol h1) (vc rfl (ol h2))
  have tl:=Ft h1 hA hp (anx (some ⟨4,0,none⟩)) born (bU eC)
  refine aG.cM (n:=ct asz 103) (by kernel_rfl) ?_
  apply Yl d.script b (bU eA++([anO (amu .i64 p.1) (anx (some ⟨4,0,none⟩)) born]++bU eC)) ck p.2 d.made d.calls d.raw no eA.length hd.bS he tl jq (a9 _) (b8.idx he []) (b8.qj he [])
  case n0=>exact fe rfl rfl
  case n7=>intros;exact fe rfl rfl
  case n8=>intros;exact Nat.ble_eq_true_of_le YL
  case n9=>intros;exact sS (aA (aI _) _)
  case aW=>exact aI _
  case be=>exact a9 _
  case bB=>exact b8.idx he []
  case br=>exact aI _
  case pg=>exact b8.idx he [6]
  case l5=>
   intro g
   have g:b.size=0:=by simpa using g
   refine Yh d.script b _ ck p.2 d.made d.calls d.raw no eA.length (b8.idx he []) ?_
   refine⟨d,[2,3,4,5],[p],_,ck,rfl,hl,rfl,rfl,.full p 4 5 born rfl rfl ⟨by omega,rfl⟩ ⟨by omega,rfl⟩ (by omega),rfl,rfl,rfl,jQ (by rfl),by simp,d,4,rfl,_,rfl,?_,?_⟩
   ·unfold bN;rw[hn];dsimp only;rw[if_pos (.inl g)]
   ·unfold bN;rw[hn];dsimp only;rw[if_pos (.inl g)]
  case l6=>
   intro g g1
   have g1:1024<b.size:=by have:=of_decide_eq_true g1;omega
   refine Yi d.script b _ ck p.2 d.made d.calls d.raw no eA.length (b8.idx he []) ?_
   refine⟨d,[2,3,4,5],[p],_,ck,rfl,hl,rfl,rfl,.full p 4 5 born rfl rfl ⟨by omega,rfl⟩ ⟨by omega,rfl⟩ (by omega),rfl,rfl,rfl,jQ (by rfl),by simp,d,4,rfl,_,rfl,?_,?_⟩
   ·unfold bN;rw[hn];dsimp only;rw[if_pos (.inr g1)]
   ·unfold bN;rw[hn];dsimp only;rw[if_pos (.inr g1)]
  case gR=>
   intro g g1 g2
   have g:¬(b.size=0∨1024<b.size):=by
    have h1:¬(b.size=0):=by simpa using g
    have:=of_decide_eq_false g1
    omega
   have g2:¬jA d≠0:=by simpa using g2
   refine Yj d.script b _ ck p.2 d.made d.calls d.raw no eA.length (aI _) (a9 _) (b8.idx he [6]) ?_
   rw[YJ,←ByteArray.size_append]
   refine⟨{gS d with files:=kM d.files no b},[2,3,4,5,6],[(p.1,p.2++b)],_,ck,rfl,?_,rfl,rfl,.full (p.1,p.2++b) 4 6 born rfl rfl ⟨by omega,rfl⟩ ⟨by omega,rfl⟩ (by omega),rfl,rfl,rfl,jQ (by rfl),by simp,_,5,rfl,_,rfl,?_,?_⟩
   ·dsimp only;rw[hl,YB hp hA hC]
   ·unfold bN;rw[hn];dsimp only;rw[if_neg g,if_neg g2]
    have:cE d.script d.calls=0:=by simpa using g2
    rw[this]
   ·unfold bN;rw[hn];dsimp only;rw[if_neg g,if_neg g2]
  case kL=>
   intro g g1 g2
   have g:¬(b.size=0∨1024<b.size):=by
    have h1:¬(b.size=0):=by simpa using g
    have:=of_decide_eq_false g1
    omega
   have g2:jA d≠0:=by simpa using g2
   refine Yk d.script b _ ck p.2 d.made d.calls d.raw no eA.length (b8.idx he []) ?_
   refine⟨gS d,[2,3,4,5],[p],_,ck,rfl,hl,rfl,rfl,.full p 4 5 born rfl rfl ⟨by omega,rfl⟩ ⟨by omega,rfl⟩ (by omega),rfl,rfl,rfl,jQ (by rfl),by simp,_,4,rfl,_,rfl,?_,?_⟩
   ·unfold bN;rw[hn];dsimp only;rw[if_neg g,if_pos g2]
   ·unfold bN;rw[hn];dsimp only;rw[if_neg g,if_pos g2]
def xA(x:ByteArray×Int×ay):bL×List ai:=if x.2.1=0 then(.ret (.tuple #[.slice (some ⟨1,0,none⟩) x.1.size x.1.size,.int .i64 0]),[.abs x.2.2,.cells (ag x.1) 5 false])else(.ret (.tuple #[.slice none 0 0,.int .i64 x.2.1]),[.abs x.2.2])
theorem aG.YM{f:amY}{args:List amn}{objs:List ai}{Q:bL→List ai→Prop}(h:aG asz f args objs fun r o=>(∃d n,o=.abs d::aq7 n .dead∧(∃r',qc (eI [0]) r=some r'∧Q r' [.abs d]))∨
 ∃d b,o=[.abs d,.dead,.dead,.dead,.dead,.dead,.cells (ag b) 5 false]∧(∃r',qc (eI [0,6]) r=some r'∧Q r' [.abs d,.cells (ag b) 5 false]))(hl:objs.length=1):aG asz f args objs Q:=by
 refine aG.trim h ?_
 rintro r o (⟨d,n,rfl,r',h1,h2⟩|⟨d,b,rfl,r',h1,h2⟩)
 ·refine⟨[0],[],r',[.abs d],[],?_,fun c hc=>(by cases hc),h2⟩
  rw[hl]
  unfold nW
  simp only[getAll,anb,apk,apJ,pb,h1]
  rfl
 ·refine⟨[0,6],[6],r',[.abs d,.cells (ag b) 5 false],[ag b],?_,fun c' nM=>(by rw[ank]at nM;subst nM;exact aI _),h2⟩
  rw[hl]
  unfold nW
  simp only[getAll,anb,anD,apk,apJ,pb,h1]
  rfl
theorem YN(d:ay)(hd:cw d)(no p bQ:Int):aG asz 97 [.pointer (some ⟨0,0,none⟩),.int .i64 no,.int .i64 p,.int .i64 bQ] [.abs d]
 fun r o=>r=(xA (aK d no p bQ)).1∧o=(xA (aK d no p bQ)).2:=by
 cases hn:fileOf d.files no with
 |none=>
  refine aG.Aj (aG.z8 (x0:=[]) fun eR L2 ck hf=>?_) rfl
  have he:=ol hf
  refine aG.cM (n:=ct asz 97) (by kernel_rfl) ?_
  apply Yz d.script [] (bU eR) ck [] d.made d.calls d.raw no p bQ hd.bS rfl he rfl (Fs hf hn) (a9 _) (b8.idx he []) (b8.qj he [])
  case n0=>exact fe rfl rfl
  case aW=>rfl
  case be=>exact a9 _
  case bB=>exact b8.idx he []
  case br=>rfl
  case l5=>
   refine Yy d.script [] (bU eR) ck [] d.made d.calls d.raw no p bQ rfl (b8.idx he []) rfl ?_
   have e:aK d no p bQ=(amw,1,d):=by unfold aK;rw[hn]
   exact⟨d,[1,2,3,4,5],⟨⟨d.files,[],[],eR,[],[],[],[],L2,[],[],ck,by simp,by simp,by simp,hf,.nil,rfl,by simp,rfl,by simp[bU],.none⟩,rfl,rfl,rfl,jQ (by rfl),by simp⟩,d,5,rfl,_,rfl,by rw[e];rfl,by rw[e];rfl⟩
 |some f=>
  obtain⟨A,q,C,hl,hp,Ak,hA⟩:=Fq hn
  have jq:=hd.size q (by rw[hl];simp)
  subst Ak
  refine aG.YM (aG.WD (x0:=[]) hl fun eA eC born kf sf LA LF LC ck h1 h2 h3=>?_) rfl
  have he:b8 (bU eA++([anO (amu .i64 q.1) (anx (some ⟨4,0,none⟩)) born]++bU eC))=true:=vc (ol h1) (vc rfl (ol h2))
  have tl:=Ft h1 hA hp (anx (some ⟨4,0,none⟩)) born (bU eC)
  refine aG.cM (n:=ct asz 97) (by kernel_rfl) ?_
  apply Yx d.script (bU eA++([anO (amu .i64 q.1) (anx (some ⟨4,0,none⟩)) born]++bU eC)) ck q.2 d.made d.calls d.raw no p bQ eA.length hd.bS he tl jq (a9 _) (b8.idx he []) (b8.qj he [])
  case n0=>exact fe rfl rfl
  case n7=>intros;exact fe rfl rfl
  case aW=>exact a9 _
  case be=>exact b8.idx he []
  case bB=>exact aI _
  case br=>exact b8.idx he [6]
  case n9=>
   intro g g1 g2 g3
   have g:=of_decide_eq_false g
   have g1:=of_decide_eq_false g1
   have g2:=of_decide_eq_false g2
   refine XL ?_ (by omega) jq
   split<;>omega
  case l4=>
   intro g
   have g:=of_decide_eq_true g
   have e:aK d no p bQ=(amw,1,d):=by unfold aK;rw[hn];dsimp only;rw[if_pos (.inl g)]
   refine Ys d.script _ ck q.2 d.made d.calls d.raw no p bQ eA.length (b8.idx he []) ?_
   exact⟨d,[1,2,3,4,5],[q],_,ck,rfl,hl,rfl,rfl,.full q 4 5 born rfl rfl ⟨by omega,rfl⟩ ⟨by omega,rfl⟩ (by omega),rfl,rfl,rfl,jQ (by rfl),by simp,.inl ⟨d,5,rfl,_,rfl,by rw[e];rfl,by rw[e];rfl⟩⟩
  case l5=>
   intro g g1
   have g1:=of_decide_eq_true g1
   have e:aK d no p bQ=(amw,1,d):=by unfold aK;rw[hn];dsimp only;rw[if_pos (.inr (.inl (by omega)))]
   refine Yt d.script _ ck q.2 d.made d.calls d.raw no p bQ eA.length (b8.idx he []) ?_
   exact⟨d,[1,2,3,4,5],[q],_,ck,rfl,hl,rfl,rfl,.full q 4 5 born rfl rfl ⟨by omega,rfl⟩ ⟨by omega,rfl⟩ (by omega),rfl,rfl,rfl,jQ (by rfl),by simp,.inl ⟨d,5,rfl,_,rfl,by rw[e];rfl,by rw[e];rfl⟩⟩
  case l6=>
   intro g g1 g2
   have g2:=of_decide_eq_true g2
   have e:aK d no p bQ=(amw,1,d):=by unfold aK;rw[hn];dsimp only;rw[if_pos (.inr (.inr g2))]
   refine Yu d.script _ ck q.2 d.made d.calls d.raw no p bQ eA.length (b8.idx he []) ?_
   exact⟨d,[1,2,3,4,5],[q],_,ck,rfl,hl,rfl,rfl,.full q 4 5 born rfl rfl ⟨by omega,rfl⟩ ⟨by omega,rfl⟩ (by omega),rfl,rfl,rfl,jQ (by rfl),by simp,.inl ⟨d,5,rfl,_,rfl,by rw[e];rfl,by rw[e];rfl⟩⟩
  case l8=>
   intro g g1 g2 g3
   have g:=of_decide_eq_false g
   have g1:=of_decide_eq_false g1
   have g2:=of_decide_eq_false g2
   have g3:jA d≠0:=by simpa using g3
   have e:aK d no p bQ=(amw,jA d,gS d):=by unfold aK;rw[hn];dsimp only;rw[if_neg (by omega),if_pos g3]
   refine Yv d.script _ ck q.2 d.made d.calls d.raw no p bQ eA.length (b8.idx he []) ?_
   exact⟨gS d,[1,2,3,4,5],[q],_,ck,rfl,hl,rfl,rfl,.full q 4 5 born rfl rfl ⟨by omega,rfl⟩ ⟨by omega,rfl⟩ (by omega),rfl,rfl,rfl,jQ (by rfl),by simp,.inl ⟨gS d,5,rfl,_,rfl,by rw[e];unfold xA;rw[if_neg g3],by rw[e];unfold xA;rw[if_neg g3]⟩⟩
  case gR=>
   intro g g1 g2 g3
   have g:=of_decide_eq_false g
   have g1:=of_decide_eq_false g1
   have g2:=of_decide_eq_false g2
   have g3:¬jA d≠0:=by simpa using g3
   have hm:(amm (if bQ<((q.2.size-amm p:Nat):Int)then bQ else((q.2.size-amm p:Nat):Int))-0)=min (q.2.size-p.toNat) bQ.toNat:=by split<;>omega
   let out:=q.2.extract p.toNat (p.toNat+min (q.2.size-p.toNat) bQ.toNat)
   have e:aK d no p bQ=(out,0,gS d):=by unfold aK;rw[hn];dsimp only;rw[if_neg (by omega),if_neg g3]
   have ho:out.size=min (q.2.size-p.toNat) bQ.toNat:=by show(q.2.extract _ _).size=_;rw[ByteArray.size_extract];omega
   have hb:amM (min (q.2.size-p.toNat) bQ.toNat) (an4 (0+amm p*1+0) (ag q.2))=ag out:=by
    show _=ag (q.2.extract _ _)
    rw[XM,show 0+amm p*1+0=p.toNat by omega,show p.toNat+min (q.2.size-p.toNat) bQ.toNat-p.toNat=min (q.2.size-p.toNat) bQ.toNat by omega]
   refine Yw d.script _ ck q.2 d.made d.calls d.raw no p bQ eA.length (a9 _) (b8.idx he [6]) (aI _) ?_
   rw[hm,hb,←ho]
   exact⟨gS d,[1,2,3,4,5],[q],_,ck,rfl,hl,rfl,rfl,.full q 4 5 born rfl rfl ⟨by omega,rfl⟩ ⟨by omega,rfl⟩ (by omega),rfl,rfl,rfl,jQ (by rfl),by simp,.inr ⟨gS d,out,rfl,_,rfl,by rw[e];rfl,by rw[e];rfl⟩⟩
end Go.Proofs.Ytnlkkgpcikkpoaa
namespace Go.Proofs.Ytnlkkgpcikkpoaa.Vm
open Go.RowKit
def ql:List (Option Nat)→Nat→Option Nat
 | [],_=>none
 |some y::l,x=>match amE y x with
  |true=>some 0
  |false=>match ql l x with
   |some i=>some (i+1)
   |none=>none
 |none::l,x=>match ql l x with
  |some i=>some (i+1)
  |none=>none
theorem Fu:∀{σ:List (Option Nat)} {x i:Nat},ql σ x=some i→σ[i]?=some (some x)
 | [],x,i,h=>by cases h
 |some y::l,x,i,h=>by
  unfold ql at h
  split at h
  ·rename_i hb;cases h;rw[amI hb];rfl
  ·split at h
   ·rename_i j hj;cases h;simpa using Fu hj
   ·cases h
 |none::l,x,i,h=>by
  unfold ql at h
  split at h
  ·rename_i j hj;cases h;simpa using Fu hj
  ·cases h
def vd:Nat→List (Option Nat)→Nat→Bool
 |0,_,_=>true
 |k+1,some y::l,i=>amE y i&&vd k l (i+1)
 |k+1,none::l,i=>vd k l (i+1)
 |_+1,[],_=>false
theorem Fv:∀{k i:Nat} {l:List (Option Nat)},vd k l i=true→∀x,x<k→l[x]?=some (some (i+x))∨l[x]?=some none
 |0,i,l,h,x,hx=>by omega
 |k+1,i,some y::l,h,x,hx=>by
  simp only[vd,amB]at h
  cases x with
  |zero=>simp[amI h.1]
  |succ x=>simpa[show i+1+x=i+(x+1)by omega]using Fv h.2 x (by omega)
 |k+1,i,none::l,h,x,hx=>by
  simp only[vd]at h
  cases x with
  |zero=>simp
  |succ x=>simpa[show i+1+x=i+(x+1)by omega]using Fv h x (by omega)
 |k+1,i,[],h,x,hx=>by cases h
def xB:List (Option Nat)→Bool
 | []=>true
 |some y::l=> !(l.any fun z=>match z with|some z=>amE y z|none=>false)&&xB l
 |none::l=>xB l
theorem Fw:∀{l:List (Option Nat)},xB l=true→∀{x y z:Nat},l[x]?=some (some z)→l[y]?=some (some z)→x=y
 | [],h,x,y,z,hx,hy=>by simp at hx
 |none::l,h,x,y,z,hx,hy=>by
  cases x with
  |zero=>simp at hx
  |succ x=>
   cases y with
   |zero=>simp at hy
   |succ y=>exact congrArg (· +1) (Fw (l:=l) h (by simpa using hx) (by simpa using hy))
 |some a::l,h,x,y,z,hx,hy=>by
  simp only[xB,amB,aos,ao1]at h
  have bt:∀i,l[i]? ≠some (some a):=fun i hi=>by
   have:=h.1 _ (am8 hi)
   simp at this
  cases x with
  |zero=>
   simp only[anb,amr]at hx
   subst hx
   cases y with
   |zero=>rfl
   |succ y=>exact absurd (by simpa using hy) (bt y)
  |succ x=>
   cases y with
   |zero=>
    simp only[anb,amr]at hy
    subst hy
    exact absurd (by simpa using hx) (bt x)
   |succ y=>exact congrArg (· +1) (Fw h.2 (by simpa using hx) (by simpa using hy))
def Al(τ:Nat→Option Nat):List (Nat×amn)→Option (List (Nat×amn))
 | []=>some []
 |(i,v)::l=>match gN τ 6 v,Al τ l with
  |some u,some r=>some ((i,u)::r)
  |_,_=>none
theorem MW{τ:Nat→Option Nat}:∀{sl r:List (Nat×amn)},Al τ sl=some r→∀p∈r,∃v,(p.1,v)∈sl∧gN τ 6 v=some p.2
 | [],r,h,p,hp=>by cases h;cases hp
 |(i,v)::l,r,h,p,hp=>by
  unfold Al at h
  split at h
  ·rename_i u q hu hq
   cases h
   rcases amH.1 hp with rfl|hp
   ·exact⟨v,amN,hu⟩
   ·obtain⟨v',h1,h2⟩:=MW hq p hp
    exact⟨v',amK _ h1,h2⟩
  ·cases h
def Fx(objs:List ai)(σ:List (Option Nat)):List (Nat×ai):=σ.map fun y=>match y with
 |some y=>(y,(objs[y]?).getD .dead)
 |none=>(262144,.dead)
def MX(pl:List Nat)(σ:List (Option Nat))(d:aj):Option (aj×List (List amn)):=match Al (ql σ) d.sl,pb pl (ql σ) (Fx d.objs σ)with
 |some sl,some (objs,q)=>some (⟨sl,objs⟩,q)
 |_,_=>none
theorem MY:∀(l:List (Nat×amn)) (L:List amn) {i:Nat},(∀p∈l,p.1≠i)→(l.foldl (fun L p=>L.set p.1 p.2) L)[i]?=L[i]?
 | [],L,i,_=>rfl
 |p::l,L,i,h=>by
  rw[aom,MY l _ fun q hq=>h q (amK _ hq),List.getElem?_set_ne (h p amN)]
theorem MZ:∀(l:List (Nat×amn)) (L:List amn),nodupB (l.map (·.1))=true→∀p∈l,p.1<L.length→(l.foldl (fun L p=>L.set p.1 p.2) L)[p.1]?=some p.2
 | [],L,_,p,hp,_=>by cases hp
 |q::l,L,hn,p,hp,hlt=>by
  simp only[List.map_cons,nodupB,amB,aos,ao1]at hn
  rw[aom]
  rcases amH.1 hp with rfl|hp
  ·rw[MY,List.getElem?_set_self hlt]
   intro r hr e
   have:=hn.1 r.1 (aoL hr)
   rw[e]at this
   simp at this
  ·exact MZ l _ hn.2 p hp (by rw[List.length_set];exact hlt)
theorem YO{gO:List amn}{i:Nat}{v:amn}(hn:gO.length≤1024)(h:gO[i]?=some v):(zJ gO).at i=v:=by
 have hi:i<gO.length:=(amy.1 h).1
 show Fr.at ⟨Fr.qz gO 0 .nil,gO.length,[],[]⟩ i=v
 unfold Fr.at
 dsimp only
 rw[dI.2 hi]
 dsimp only
 rw[Fr.wU (by omega) (by omega),if_pos (by omega),Nat.sub_zero,h]
theorem al.move{P:Program}{n k:Nat}{l:List am3}{d d':aj}{Q:bf→aj→Prop}(σ:List (Option Nat))(pl:List Nat){q:List (List amn)}(hm:MX pl σ d=some (d',q))(hq:∀c∈q,c.all af=true)
 (hc:(vd k σ 0&&xB σ&&amO σ.length 262144&&nodupB (d.sl.map (·.1))&&d.sl.all (fun p=>amG p.1 n)&&d'.sl.all (fun p=>amG p.1 n))=true)(hex:σ.all (fun y=>match y with|some y=>amG y d.objs.length|none=>true)=true)
 (h:al P n k l d' Q):al P n k l d Q:=by
 intro X hn hk a w oT
 refine h X hn hk a w ?_
 obtain⟨ρ,u,M,hd⟩:=oT
 simp only[amB]at hc
 obtain⟨⟨⟨⟨⟨c1,c2⟩,c3⟩,c4⟩,c5⟩,c6⟩:=hc
 have c3:=Nat.le_of_ble_eq_true c3
 unfold MX at hm
 split at hm
 ·rename_i YP iJ q2 h1 h2
  simp only[amr,amv]at hm
  obtain⟨rfl,rfl⟩:=hm
  have eO:=ng h2 hq
  have hlen:σ.length=iJ.length:=by have:=eO.len;simpa[Fx]using this
  let ρ2:Ren:=fun x=>match small x with
   |true=>match σ[x]?with
    |some (some y)=>ρ y
    |some none=>ρ x
    |none=>none
   |false=>ρ x
  have kF:∀x,small x=false→ρ2 x=ρ x:=fun x h=>by show(match small x with|true=>_|false=>_)=_;rw[h]
  have ec:∀x,small x=true→ρ2 x=match σ[x]?with|some (some y)=>ρ y|some none=>ρ x|none=>none:=fun x h=>by show(match small x with|true=>_|false=>_)=_;rw[h]
  have sN:∀i y,σ[i]?=some y→small i=true:=fun i y h=>gW.2 (by
   have:i<σ.length:=(amy.1 h).1
   have:(2:Nat)^18=262144:=rfl
   omega)
  have hσ:∀i y r,σ[i]?=some (some y)→ρ y=some r→ρ2 i=some r:=fun i y r h1 h2=>by rw[ec i (sN i _ h1),h1];exact h2
  have qU:∀y i r,ql σ y=some i→ρ y=some r→ρ2 i=some r:=fun y i r h1 h2=>hσ i y r (Fu h1) h2
  have oZ:Full ρ2:=fun r=>by
   obtain⟨y,h1,h2⟩:=hd.full r
   exact⟨y,h1,by rw[kF y h1];exact h2⟩
  obtain⟨u2,sr⟩:∃u2:Nat→amn,FR ρ2 ((ee X.n u2 YP).dx (M.map eh)) a:=by
   have cc:a.tmps.size=X.n:=by rw[hd.fr.size];show(fU X.n u d.sl).length=_;unfold fU;rw[lg];simp
   have M0:X.n≤1024:=by have:=hd.fr.small;have e:((ee X.n u d.sl).dx (M.map eh)).n=X.n:=by show(fU X.n u d.sl).length=_;unfold fU;rw[lg];simp
                        rw[e]at this;exact this
   refine FR.make cc M0 (hd.fr.qN rfl) (fun i=>(hd.fr.at_ i).full oZ) fun p hp=>?_
   have xo:p.1<X.n:=by rw[hn];exact dI.1 (am1.1 c6 p hp)
   obtain⟨v,hv,kN⟩:=MW h1 p hp
   refine⟨xo,p9 qU 6 _ _ _ kN ?_⟩
   have b9:=hd.fr.at_ p.1
   have hg:=MZ d.sl ((aoO X.n).map u) c4 (p.1,v) hv (by simpa using xo)
   have CF:(fU X.n u d.sl).length≤1024:=by unfold fU;rw[lg];simpa using M0
   have:((ee X.n u d.sl).dx (M.map eh)).at p.1=v:=YO CF hg
   rw[this]at b9
   exact b9
  refine⟨ρ2,u2,M,{full:=oZ,kept:=fun x hx=>?_,fr:=sr,mem:=?_,bS:=by rw[←hlen];exact c3,quiet:=hd.quiet,gp:=hd.gp,outside:=hd.outside}⟩
  ·rw[hk]at hx
   rcases Fv c1 x hx with h3|h3
   ·rw[an8]at h3
    rw[ec x (sN x _ h3),h3];exact hd.kept x (by rw[hk];exact hx)
   ·rw[ec x (sN x _ h3),h3];exact hd.kept x (by rw[hk];exact hx)
  ·have su:∀(i:Nat) (o:ai),iJ[i]?=some o→(∃y ob,σ[i]?=some (some y)∧d.objs[y]?=some ob∧ON (ql σ) ob o)∨(σ[i]?=some none∧o=.dead):=fun i o hi=>by
    obtain⟨ob,h3,h4⟩:=eO.get hi
    unfold Fx at h3
    rw[aqi,anT]at h3
    cases hb:σ[i]?with
    |none=>rw[hb]at h3;cases h3
    |some y=>
     rw[hb]at h3
     simp only[Option.map_some,amr,Function.comp_apply]at h3
     cases y with
     |none=>
      dsimp only at h3
      subst h3
      right
      refine⟨rfl,?_⟩
      cases h4;rfl
     |some y=>
      dsimp only at h3
      have hy:y<d.objs.length:=by
       have:=am1.1 hex (some y) (am8 hb)
       exact dI.1 this
      rw[amt hy]at h3
      simp only[Option.getD_some]at h3
      subst h3
      exact .inl ⟨y,_,rfl,amt hy,h4⟩
   have YQ:∀y ob,d.objs[y]?=some ob→cq d.objs y=some ob:=fun y ob hy=>by
    rw[cA];exact hy
    exact gW.2 (by have:=(amy.1 hy).1;have:=hd.bS;have:(2:Nat)^18=262144:=rfl;omega)
   refine hd.mem.Ee (fun x=>match small x with
    |true=>(σ[x]?).join
    |false=>none) (fun x o hx bt=>?_) (fun x y z hx hy=>?_) fun x hx=>?_
   ·cases hs:small x with
    |false=>rw[iu hs]at hx;cases hx;exact absurd rfl bt
    |true=>
     rw[cA hs]at hx
     rcases su x o hx with⟨y,ob,h1,h2,h3⟩|⟨_,rfl⟩
     ·refine⟨y,ob,by dsimp only;rw[h1];rfl,YQ y ob h2,h3.ne bt,?_,fun r hl=>⟨(h3.live hl).1,(h3.live hl).2,h3.or qU hl⟩,fun n size row e=>?_,fun el ro e=>?_,fun d e=>?_⟩
      ·rw[ec x hs,h1]
      ·subst e;cases h3;rfl
      ·subst e
       cases h3 with
       |plain=>rfl
       |cells c _ _ _ h=>
        cases c with
        |nil=>rfl
        |cons v c=>have:=sK h;simp at this
      ·subst e;cases h3;rfl
     ·exact absurd rfl bt
   ·have key:∀q,(match small q with|true=>(σ[q]?).join|false=>none)=some z→σ[q]?=some (some z):=fun q hq=>by
     cases hs:small q with
     |true=>
      rw[hs]at hq
      cases hc:σ[q]?with
      |none=>rw[hc]at hq;cases hq
      |some y=>rw[hc]at hq;simp only[Option.join_some]at hq;rw[hq]
     |false=>rw[hs]at hq;cases hq
    exact Fw c2 (key x hx) (key y hy)
   ·cases hs:small x with
    |false=>rw[iu hs]at hx;cases hx
    |true=>
     rw[cA hs]at hx
     rw[ec x hs]
     have:σ[x]?=none:=by
      rw[List.getElem?_eq_none_iff]at hx⊢
      rw[hlen];exact hx
     rw[this]
 ·cases hm
end Go.Proofs.Ytnlkkgpcikkpoaa.Vm
namespace Go.Proofs.Ytnlkkgpcikkpoaa
open Go Vm Go.RowKit
set_option maxRecDepth 100000
structure ad where
 at_:Int
 more:Bool
 over:Bool
 B:Nat→Int
 n:Int
 failed:Bool
 aC:Bool
 ro:Nat
 rn:Nat
 bM:Int
 sn:Nat
 hn:Nat
 dR:Bool
 raw:Int
 closed:Bool
def xC(B:Nat→Int):List amn:=[.int .u8 (B 0),.int .u8 (B 1),.int .u8 (B 2),.int .u8 (B 3),.int .u8 (B 4),.int .u8 (B 5),.int .u8 (B 6),.int .u8 (B 7),.int .u8 (B 8),.int .u8 (B 9),.int .u8 (B 10),.int .u8 (B 11),.int .u8 (B 12),.int .u8 (B 13),.int .u8 (B 14),.int .u8 (B 15),.int .u8 (B 16),.int .u8 (B 17),.int .u8 (B 18),.int .u8 (B 19),.int .u8 (B 20),.int .u8 (B 21),.int .u8 (B 22),.int .u8 (B 23),.int .u8 (B 24),.int .u8 (B 25),.int .u8 (B 26),.int .u8 (B 27),.int .u8 (B 28),.int .u8 (B 29),.int .u8 (B 30),.int .u8 (B 31),.int .u8 (B 32),.int .u8 (B 33),.int .u8 (B 34),.int .u8 (B 35),.int .u8 (B 36),.int .u8 (B 37),.int .u8 (B 38),.int .u8 (B 39),.int .u8 (B 40),.int .u8 (B 41),.int .u8 (B 42),.int .u8 (B 43),.int .u8 (B 44),.int .u8 (B 45),.int .u8 (B 46),.int .u8 (B 47),.int .u8 (B 48),.int .u8 (B 49),.int .u8 (B 50),.int .u8 (B 51),.int .u8 (B 52),.int .u8 (B 53),.int .u8 (B 54),.int .u8 (B 55),.int .u8 (B 56),.int .u8 (B 57),.int .u8 (B 58),.int .u8 (B 59),.int .u8 (B 60),.int .u8 (B 61),.int .u8 (B 62),.int .u8 (B 63)]
def aQ(S:ad)(a b c e:Nat):List amn:=[.int .i64 S.at_,.bool S.more,.bool S.over]++xC S.B++[.int .i64 S.n,.bool S.failed,.pointer (some ⟨a,0,none⟩),.bool S.aC,.slice (some ⟨b,S.ro,none⟩) S.rn S.rn,.int .i64 S.bM,.slice (some ⟨c,0,none⟩) S.sn S.sn,.slice (some ⟨e,0,none⟩) S.hn S.hn,.bool S.dR,.int .i64 S.raw,.bool S.closed]
structure ap where
 no:Int
 at_:Int
 line:ByteArray
 there:Bool
def jR(h:ap):List amn:=[.int .i64 h.no,.int .i64 h.at_,.string h.line,.bool h.there]
def ak(l:List ap):List amn:=(l.map jR).flatten
def aR(S:ad)(L:List ByteArray)(R:List Int)(H:List ap)(d:ay):List ai:=[.cells (aQ S 1 2 3 4) 64 false,.abs d,.cells (ao L) 9 false,.cells (aq R) 3 false,.cells (ak H) 144 false]
theorem aY(l:List ap):(ak l).all af=true:=by
 induction l with
 |nil=>rfl
 |cons x l ih=>show(jR x++ak l).all af=true;rw[aqh,ih];rfl
theorem xD(l:List ap):(ak l).length=l.length*4:=by
 induction l with
 |nil=>rfl
 |cons x l ih=>show(jR x++ak l).length=_;rw[amD,ih,am9];show 4+_=_;omega
def bW(a b:ByteArray):Int:=anN a.data.toList b.data.toList
theorem aM{R0:bf→aj→Prop}{t:Tree}(L:List ByteArray)(R:List Int)(H:List ap)(h:t.ok R0):(Tree.cD (amq (ao L) af) true (.cD (amq (aq R) af) true (.cD (amq (ak H) af) true t))).ok R0:=Tree.aU (aN L) (Tree.aU (aS R) (Tree.aU (aY H) h))
theorem gi{q:List (List amn)}(L:List ByteArray)(R:List Int)(H:List ap)(h:∀c∈q,c.all af=true):∀c∈ao L::aq R::ak H::q,c.all af=true:=aE (aN L) (aE (aS R) (aE (aY H) h))
end Go.Proofs.Ytnlkkgpcikkpoaa
namespace Go.Proofs.Ytnlkkgpcikkpoaa
open Go Vm Go.RowKit
set_option maxRecDepth 100000
set_option maxHeartbeats 1000000
theorem YR(a b:ByteArray)(w:amC):apW asz 112 #[.string a,.string b] w fun e w'=>e=.returned (.int .i64 (bW a b))∧w'=w:=by
 go_enter Try.func112,Try.ntmps112
 go_wp2
 rw[aqm Try.func117 (by kernel_rfl) (by kernel_rfl) (by kernel_rfl) (e:=arP) (by kernel_rfl),Lib.run_compareString]
 simp only[apN]
 rw[aqV]
 go_wp2
 go_ret
 exact⟨rfl,rfl⟩
theorem YS(a b:ByteArray)(w:amC):apW asz 101 #[.string a,.string b] w fun e w'=>e=.returned (.int .i64 (bW a b))∧w'=w:=by
 go_enter Try.func101,Try.ntmps101
 go_wp2_with (go_at_call 112;refine(YR a b _).mono ?_;rintro e w1 ⟨rfl,rfl⟩)
 go_ret
 exact⟨rfl,rfl⟩
theorem YT(b o n c:Nat)(xs:List Int)(cv:Int)(w:amC)(hx:xs.length=n)(hc:∀i,i<n→w.cell? ⟨b,o+i,none⟩=some (.int .u8 (xs.getD i 0))):
 apW asz 98 #[.slice (some ⟨b,o,none⟩) n c,.int .u8 cv] w fun e w'=>e=.returned (.int .i64 (ar3 (aq0 xs) cv.toNat.toUInt8))∧w'=w:=by
 go_enter asq,asl
 go_wp2
 rw[aqm asm (by kernel_rfl) (by kernel_rfl) (by kernel_rfl) (e:=aoE) (by kernel_rfl),Lib.run_indexByteSlice w b o n c xs hx hc cv]
 simp only[apN]
 rw[aqV]
 go_wp2
 go_ret
 exact⟨rfl,rfl⟩
theorem YU{P:Program}(p:Addr)(c:Nat)(cv:Int)(w:amC):(aoE #[.slice (some p) 0 c,.int .u8 cv]).run P w=.ok (.int .i64 (-1)) w:=by
 have hl:=Lib.run_loadBytesX (P:=P) w [] p .empty (fun j x hj=>by simp at hj)
 have hs:=Lib.run_indexByteString (P:=P) .empty cv w
 have he:(⟨amw.data++(aq0 []).toArray⟩:ByteArray)=.empty:=by
  apply ByteArray.ext
  rfl
 rw[he]at hl
 change Sem.run P (do
  let b ←aqj (.slice (some p) 0 c)
  let c ←arl (.int .u8 cv)
  match(aoO b.size).find? fun i=>b[i]! ==c with
  |some i=>pure (goInt i)
  |none=>pure (goInt (-1))) w=_
 change Sem.run P (do
  let b ←aqj (.string .empty)
  let c ←arl (.int .u8 cv)
  match(aoO b.size).find? fun i=>b[i]! ==c with
  |some i=>pure (goInt i)
  |none=>pure (goInt (-1))) w=_ at hs
 simp only[aqj,Sem.run_bind,Sem.run_pure,hl,apN]at hs⊢
 exact hs
theorem YV(cv:Int)(w:amC)(a:Option Addr)(c:Nat):apW asz 98 #[.slice a 0 c,.int .u8 cv] w fun e w'=>e=.returned (.int .i64 (-1))∧w'=w:=by
 have key:(aoE #[.slice a 0 c,.int .u8 cv]).run asz w=.ok (.int .i64 (-1)) w:=by
  cases a with
  |none=>exact Lib.run_indexByteNil w 0 c cv
  |some p=>exact YU p c cv w
 go_enter asq,asl
 go_wp2
 rw[aqm asm (by kernel_rfl) (by kernel_rfl) (by kernel_rfl) (e:=aoE) (by kernel_rfl),key]
 simp only[apN]
 rw[aqV]
 go_wp2
 go_ret
 exact⟨rfl,rfl⟩
theorem YW(a b:ByteArray):aG asz 101 [.string a,.string b] [] fun r o=>r=.ret (.int .i64 (bW a b))∧o=[]:=by
 intro B w₀ ρ w args' gP hn ha hw
 obtain⟨v1,l,e1,h1,h2⟩:=ha.gq
 obtain⟨v2,l2,e2,h3,h4⟩:=h2.gq
 have:=h1.oM;subst this
 have:=h3.oM;subst this
 have:=h4.kw;subst this
 have ea:args'= #[.string a,.string b]:=by rw[←anB (xs:=args'),e1,e2]
 rw[ea]
 refine(YS a b w).mono fun e w' he=>?_
 obtain⟨rfl,rfl⟩:=he
 exact⟨.ret (.int .i64 (bW a b)),[],ρ,⟨rfl,rfl⟩,.bH _ rfl,gP,hw,by simp,fun _ _=>rfl⟩
def Fy(a:List amn)(o:List ai):Option (Bool×bL×List ai):=match a,o with
 | [.string x,.string y],[]=>some (true,.ret (.int .i64 (bW x y)),[])
 |_,_=>none
theorem YX:bp asz 101 (Sum.of Fy):=bp.of fun a o r o' hg=>by
 unfold Fy at hg
 split at hg
 ·cases hg;exact YW _ _
 ·cases hg
def bb(b:ByteArray)(c:Int):Int:=ar3 b.data.toList c.toNat.toUInt8
theorem YY(b:ByteArray)(c:Int)(ro:Bool):aG asz 98 [.slice (some ⟨0,0,none⟩) b.size b.size,.int .u8 c] [.cells (ag b) 5 ro] fun r o=>r=.ret (.int .i64 (bb b c))∧o=[.cells (ag b) 5 ro]:=by
 intro B w₀ ρ w args' gP hn ha hw
 obtain⟨v1,l,e1,h1,h2⟩:=ha.gq
 obtain⟨v2,l2,e2,h3,h4⟩:=h2.gq
 have:=h3.jo;subst this
 have:=h4.kw;subst this
 have ea:args'= #[v1,.int .u8 c]:=by rw[←anB (xs:=args'),e1,e2]
 rw[ea]
 have fin:∀{k:Int},bb b c=k→apW asz 98 #[v1,.int .u8 c] w (fun e w'=>e=.returned (.int .i64 k)∧w'=w)→
  apW asz 98 #[v1,.int .u8 c] w fun e w'=>∃r iI ρ',(r=.ret (.int .i64 (bb b c))∧iI=[.cells (ag b) 5 ro])∧CR ρ' r e∧Full ρ'∧WR asz B w₀ ρ' (cq iI) w'∧iI.length≤262144∧∀x,x< [ai.cells (ag b) 5 ro].length→ρ' x=ρ x:=fun hk h=>h.mono fun e w' he=>by
  obtain⟨rfl,rfl⟩:=he
  subst hk
  exact⟨_,_,ρ,⟨rfl,rfl⟩,.bH _ rfl,gP,hw,by simp,fun _ _=>rfl⟩
 by_cases h0:b.size=0
 ·have hb:b=amw:=by
   cases b with|mk d=>
   have:d= #[]:=Array.eq_empty_of_size_eq_zero h0
   rw[this];rfl
  have hk:bb b c= -1:=by subst hb;rfl
  have hv:∃a' c',v1=.slice a' 0 c':=by
   rw[h0]at h1
   exact h1.Ld
  obtain⟨a',c',rfl⟩:=hv
  exact fin hk (YV c w a' c')
 ·have bt:ag b≠[]:=by intro e;have:=congrArg mM e;rw[mB]at this;exact h0 this
  obtain⟨n,hn⟩:∃n,b.size=n:=⟨_,rfl⟩
  rw[hn]at h1 h0
  cases h1 with
  |bH _ h=>cases h
  |dV=>exact absurd rfl h0
  |sl _ _ _ _ bq q hq hc=>
   obtain⟨o',k1,k2,_⟩:=hw.live 0 _ q (by rw[cA rfl];rfl) hq (nD bt)
   cases k2 with
   |cells _ _ bR _ a fr g1 g2 g3 g4 g5 g6=>
   refine fin rfl ?_
   have:=YT q.aJ (q.sh+0) n bq (b.data.toList.map fun x=>(x.toNat:Int)) c w (by rw[List.length_map];exact hn) (fun i hi=>by
    have e8:i<b.data.toList.length:=by rw[←hn]at hi;exact hi
    obtain⟨v',g7,g8⟩:=g6 i (.int .u8 (b.data.toList[i].toNat)) (by unfold ag;rw[anT,amt e8];rfl)
    have:=g8.jo
    subst this
    simp only[World.cell?,k1,Nat.add_zero,g7]
    rw[List.getD_eq_getElem?_getD,anT,amt e8]
    rfl)
   have e:aq0 (b.data.toList.map fun x=>(x.toNat:Int))=b.data.toList:=by
    unfold aq0
    rw[aqi]
    conv=>rhs;rw[←aqZ b.data.toList]
    refine aoz fun x _=>?_
    simp
   rw[e]at this
   exact this
end Go.Proofs.Ytnlkkgpcikkpoaa
namespace Go.Proofs.Ytnlkkgpcikkpoaa
noncomputable section
open Go Vm Go.RowKit
set_option maxRecDepth 100000
noncomputable def YZ:List (amY×Sum):=[(101,Sum.of Fy)]
theorem Am:dg asz (dE asz (dF YZ) 50 40):=dJ cZ mixed (dQ (.cons YX .nil)) 50 40
noncomputable def Y0:List am3:=ba (dy asz 90)
open Tree renaming aU→mN,dh→mF,eQ→mL,fw→mQ,dz→mR,fI→mE
abbrev xE:=fun S L R H d=>([ab (aQ S 1 2 3 4) 64,.abs d,ab (ao L) 9,ab (aq R) 3,ab (ak H) 144]:List ai)
abbrev M3:=fun S L R H d a b=>(⟨[(6,aa (bW b a))],xE S L R H d⟩:aj)
theorem Y1(S L R H d a b){Q:bk}(hq:Q (.ret (aa (bW b a))) (xE S L R H d)):aH asz 90 17 5 Q .ret (M3 S L R H d a b):=aH.ret (vs:=[aa (bW b a)]) (l:=[]) (bs:=[0,1,2,3,4]) (pl:=[2,3,4]) (q:=[ao L,aq R,ak H]) (fun u=>by kernel_rfl) (by kernel_rfl) (gi L R H bd) hq
abbrev M5:=fun S L R H d a b=>(⟨[(6,aa (bW a b))],xE S L R H d⟩:aj)
theorem Y2(S L R H d a b){Q:bk}(hq:Q (.ret (aa (bW a b))) (xE S L R H d)):aH asz 90 17 5 Q .ret (M5 S L R H d a b):=aH.ret (vs:=[aa (bW a b)]) (l:=[]) (bs:=[0,1,2,3,4]) (pl:=[2,3,4]) (q:=[ao L,aq R,ak H]) (fun u=>by kernel_rfl) (by kernel_rfl) (gi L R H bd) hq
abbrev Y3:=fun S L R H d a b=>(⟨[(0,an 0),(1,.string a),(2,.string b)],xE S L R H d⟩:aj)
theorem Y4(S L R H d a b)(pH:(ak H).all af=true){Q:aV}(l3:(ad.aC S)=true→Q .ret (M3 S L R H d a b))(l4:(ad.aC S)=false→Q .ret (M5 S L R H d a b)):al asz 17 5 Y0 (Y3 S L R H d a b) Q:=
 aZ Am 1000 (.fork 1 (.leaf [6] [0,1,2,3,4] [2,3,4]) (.leaf [6] [0,1,2,3,4] [2,3,4])) (fun u=>by kernel_rfl) (mF (c:=ad.aC S) (fun h0=>(aM L R H (mR (l3 h0)))) (fun h0=>(aM L R H (mR (l4 h0)))))
end
end Go.Proofs.Ytnlkkgpcikkpoaa
namespace Go.Proofs.Ytnlkkgpcikkpoaa
structure TO{α:Type}(c:α→α→Int):Prop where
 asym:∀a b,c a b<0→¬c b a<0
 trans:∀a b x,¬c b a<0→¬c x b<0→¬c x a<0
 Y5:∀a b,¬c a b<0→¬c b a<0→a=b
section
variable {α:Type} {c:α→α→Int}
def fy(c:α→α→Int)(a b:α):Bool:= !decide (c b a<0)
theorem pj{a b:α}:fy c a b=true↔¬c b a<0:=by unfold fy;simp
theorem TO.le_trans(h:TO c){a b x:α}(h1:fy c a b=true)(h2:fy c b x=true):fy c a x=true:=by
 rw[pj]at*;exact h.trans a b x h1 h2
theorem TO.total(h:TO c)(a b:α):fy c a b=true∨fy c b a=true:=by
 rw[pj,pj]
 by_cases h1:c b a<0
 ·exact .inr (h.asym b a h1)
 ·exact .inl h1
theorem TO.Y6(h:TO c){a b:α}(h1:fy c a b=true)(h2:fy c b a=true):a=b:=by
 rw[pj]at*;exact h.Y5 a b h2 h1
theorem TO.refl(h:TO c)(a:α):fy c a a=true:=by rcases h.total a a with h|h<;>exact h
abbrev dj(c:α→α→Int)(l:List α):Prop:=l.Pairwise fun a b=>fy c a b=true
def bE(c:α→α→Int)(l:List α):List α:=l.mergeSort (fy c)
theorem kl(l:List α):(bE c l).Perm l:=List.mergeSort_perm l _
theorem pk(h:TO c)(l:List α):dj c (bE c l):=by
 refine List.pairwise_mergeSort (le:=fy c) (fun a b x h1 h2=>h.le_trans h1 h2) (fun a b=>?_) l
 rcases h.total a b with h|h<;>simp[h]
theorem M6(h:TO c):∀{l l':List α},l.Perm l'→dj c l→dj c l'→l=l'
 | [],l',hp,_,_=>(List.nil_perm.1 hp).symm
 |a::l,[],hp,_,_=>absurd hp.length_eq (by simp)
 |a::l,b::l',hp,h1,h2=>by
  have jg:a=b:=by
   have ha:a∈b::l':=hp.mem_iff.1 amN
   have hb:b∈a::l:=hp.mem_iff.2 amN
   rcases amH.1 ha with e|ha
   ·exact e
   rcases amH.1 hb with e|hb
   ·exact e.symm
   exact h.Y6 ((apn.1 h1).1 b hb) ((apn.1 h2).1 a ha)
  subst jg
  rw[M6 h ((List.perm_cons a).1 hp) (apn.1 h1).2 (apn.1 h2).2]
theorem xF(h:TO c){l l':List α}(hp:l'.Perm l)(hs:dj c l'):l'=bE c l:=M6 h (hp.trans (kl l).symm) hs (pk h l)
theorem Fz(h:TO c){l:List α}(hs:dj c l):bE c l=l:=(xF h (List.Perm.refl l) hs).symm
theorem nh(l:List α):(bE c l).length=l.length:=(kl l).length_eq
theorem FA(h:TO c){l l':List α}(hp:l.Perm l'):bE c l=bE c l':=xF h ((kl l).trans hp) (pk h l)
theorem Y7(h:TO c){X Y:List α}(m7:∀x∈X,∀y∈Y,fy c x y=true):bE c (X++Y)=bE c X++bE c Y:=by
 refine(xF h ((kl X).append (kl Y)) ?_).symm
 refine apx.2 ⟨pk h X,pk h Y,fun x hx y hy=>m7 x ((kl X).mem_iff.1 hx) y ((kl Y).mem_iff.1 hy)⟩
def aL(L:List α)(a b:Nat):List α:=(L.drop a).take (b-a)
def bV(c:α→α→Int)(L:List α)(a b:Nat):List α:=L.take a++(bE c (aL L a b)++L.drop b)
theorem iW{L:List α}{a b:Nat}(h1:a≤b)(h2:b≤L.length):(aL L a b).length=b-a:=by unfold aL;rw[anf,anA];omega
theorem mJ(L:List α){a m b:Nat}(h1:a≤m)(h2:m≤b):aL L a b=aL L a m++aL L m b:=by
 unfold aL
 rw[show b-a=(m-a)+(b-m)by omega,List.take_add,anE,show a+(m-a)=m by omega]
theorem rB(L:List α){a b:Nat}(h:a≤b):L=L.take a++(aL L a b++L.drop b):=by
 unfold aL
 have:L.drop b=(L.drop a).drop (b-a):=by rw[anE,show a+(b-a)=b by omega]
 rw[this,anF,anF]
theorem M7{L:List α}{a b:Nat}(h1:a≤b)(h2:b≤L.length):(bV c L a b).length=L.length:=by
 unfold bV
 rw[amD,amD,nh,iW h1 h2,anf,anA];omega
theorem FB{T X:List α}{n:Nat}(h:T.length=n):(T++X).take n=T:=by rw[←h];simp
theorem FC{T X:List α}{n:Nat}(h:T.length=n):(T++X).drop n=X:=by rw[←h];simp
theorem ni{T X D:List α}{a b:Nat}(h:T.length=a)(h2:X.length=b-a):aL (T++(X++D)) a b=X:=by
 unfold aL;rw[FC h,FB h2]
theorem ve{T X D:List α}{a b:Nat}(h:T.length=a)(h1:a≤b)(h2:X.length=b-a):bV c (T++(X++D)) a b=T++(bE c X++D):=by
 unfold bV
 have:(T++(X++D)).drop b=D:=by rw[←List.append_assoc];exact FC (by rw[amD];omega)
 rw[FB h,ni h h2,this]
def cX(T S D:List α)(x:α)(j:Nat):List α:=T++(S.take j++(x::(S.drop j++D)))
theorem FD{T S D:List α}{x:α}{j:Nat}(h:j≤S.length):(cX T S D x j).length=T.length+S.length+1+D.length:=by
 unfold cX;simp;omega
theorem FE{T S D:List α}{x:α}{j:Nat}(h:j≤S.length):(cX T S D x j)[T.length+j]?=some x:=by
 unfold cX
 rw[am5 (by omega),show T.length+j-T.length=j by omega,am5 (by simp;omega)]
 simp[Nat.min_eq_left h]
theorem M8{T S D:List α}{x:α}{j:Nat}(h:j<S.length):(cX T S D x (j+1))[T.length+j]?=S[j]? :=by
 unfold cX
 rw[am5 (by omega),show T.length+j-T.length=j by omega,List.getElem?_append_left (by simp;omega),apK (by omega)]
theorem Y8{P Z:List α}{x y:α}{n:Nat}(h:P.length=n):((P++(y::x::Z)).set (n+1) y).set n x=P++(x::y::Z):=by
 subst h
 rw[ap6 _ _ (by omega),ap6 _ _ (by omega),show P.length+1-P.length=1 by omega,Nat.sub_self]
 rfl
theorem po{S:List α}{y:α}{j:Nat}(hy:S[j]?=some y):S.take (j+1)=S.take j++[y]∧S.drop j=y::S.drop (j+1):=by
 obtain⟨hj,rfl⟩:=amy.1 hy
 exact⟨by rw[List.take_succ_eq_append_getElem hj],by rw[List.drop_eq_getElem_cons hj]⟩
theorem M9{T S D:List α}{x y:α}{j:Nat}(h:j<S.length)(hy:S[j]?=some y):((cX T S D x (j+1)).set (T.length+(j+1)) y).set (T.length+j) x=cX T S D x j:=by
 obtain⟨e1,e2⟩:=po hy
 have a1:cX T S D x (j+1)=(T++S.take j)++(y::x::(S.drop (j+1)++D)):=by unfold cX;rw[e1];simp
 have a2:cX T S D x j=(T++S.take j)++(x::y::(S.drop (j+1)++D)):=by unfold cX;rw[e2];simp
 rw[a1,a2,show T.length+(j+1)=T.length+j+1 by omega]
 exact Y8 (by rw[amD,anf];omega)
theorem Na(h:TO c){S:List α}{x:α}{j:Nat}(hS:dj c S)(hj:j≤S.length)(h1:∀k y,k<j→S[k]?=some y→fy c y x=true)(h2:∀k y,j≤k→S[k]?=some y→fy c x y=true):S.take j++(x::S.drop j)=bE c (S++[x]):=by
 refine xF h ?_ ?_
 ·have:(S.take j++(x::S.drop j)).Perm (x::(S.take j++S.drop j)):=List.perm_middle
  rw[anF]at this
  exact this.trans (List.perm_append_comm (l₁:=[x]) (l₂:=S))
 ·refine apx.2 ⟨hS.sublist (List.take_sublist _ _),apn.2 ⟨fun y hy=>?_,hS.sublist (List.drop_sublist _ _)⟩,fun y hy z hz=>?_⟩
  ·obtain⟨k,hk⟩:=anQ hy
   rw[anK]at hk
   exact h2 _ y (by omega) hk
  ·have qh:fy c y x=true:=by
    obtain⟨k,hk⟩:=anQ hy
    have Nb:k<j:=by
     have:=(amy.1 hk).1
     rw[anf]at this;omega
    rw[apK Nb]at hk
    exact h1 k y Nb hk
   rcases amH.1 hz with rfl|hz
   ·exact qh
   ·obtain⟨k,hk⟩:=anQ hz
    rw[anK]at hk
    exact h.le_trans qh (h2 _ z (by omega) hk)
theorem An{S:List α}(hS:dj c S)(h:TO c){i j:Nat}{a b:α}(ia:i≤j)(ha:S[i]?=some a)(hb:S[j]?=some b):fy c a b=true:=by
 obtain⟨hi,rfl⟩:=amy.1 ha
 obtain⟨hj,rfl⟩:=amy.1 hb
 rcases Nat.lt_or_eq_of_le ia with hlt|rfl
 ·exact List.pairwise_iff_getElem.1 hS i j hi hj hlt
 ·exact h.refl _
end
end Go.Proofs.Ytnlkkgpcikkpoaa
namespace Go.Proofs.Ytnlkkgpcikkpoaa
open Go Vm Go.RowKit
set_option maxRecDepth 100000
def a7(f:Bool)(a b:ByteArray):Int:=match f with
 |true=>bW b a
 |false=>bW a b
theorem Y9(S:ad)(L:List ByteArray)(R:List Int)(H:List ap)(d:ay)(a b:ByteArray):aG asz 90 [.pointer (some ⟨0,0,none⟩),.string a,.string b] (aR S L R H d) fun r o=>r=.ret (.int .i64 (a7 S.aC a b))∧o=aR S L R H d:=by
 refine aG.cM (n:=ct asz 90) (by kernel_rfl) ?_
 have pH:=aY H
 apply Y4 S L R H d a b pH
 case l3=>intro g;exact Y1 S L R H d a b ⟨by unfold a7;rw[g],rfl⟩
 case l4=>intro g;exact Y2 S L R H d a b ⟨by unfold a7;rw[g],rfl⟩
noncomputable def qn(o:List ai):Bool:=@decide (∃S L R H d,o=aR S L R H d) (amR _)
theorem vg{S:ad}{L:List ByteArray}{R:List Int}{H:List ap}{d:ay}{o:List ai}(h:o=aR S L R H d):qn o=true:=by
 unfold qn
 exact(@decide_eq_true_iff _ (amR _)).2 ⟨S,L,R,H,d,h⟩
noncomputable def FG(a:List amn)(o:List ai):Option (Bool×bL×List ai):=match a,o with
 | [.pointer (some ⟨0,0,none⟩),.string x,.string y],ai.cells c t r::l=>match(c[70]?:Option amn)with
  |some (Value.bool f)=>some (qn (.cells c t r::l),.ret (.int .i64 (a7 f x y)),.cells c t r::l)
  |_=>none
 |_,_=>none
theorem Za:bp asz 90 (Sum.du asz FG):=bp.du fun a o r o' hg=>by
 unfold FG at hg
 split at hg
 ·split at hg
  ·rename_i f hf
   rename_i x y c t ro l _
   simp only[amr,amv]at hg
   obtain⟨h1,rfl,rfl⟩:=hg
   obtain⟨S,L,R,H,d,he⟩:=@of_decide_eq_true _ (amR _) h1
   have hc:c=aQ S 1 2 3 4:=by unfold aR at he;injection he with h1 _;injection h1
   have tm:f=S.aC:=by
    rw[hc]at hf
    have:(aQ S 1 2 3 4)[70]?=some (.bool S.aC):=rfl
    rw[this]at hf
    cases hf;rfl
   subst tm
   rw[he]
   exact Y9 S L R H d x y
  ·cases hg
 ·cases hg
theorem Nc:∀a b:List UInt8,anN a b<0↔0<anN b a
 | [],[]=>by simp[anN]
 | [],_::_=>by simp[anN]
 |_::_,[]=>by simp[anN]
 |a::l,b::m=>by
  unfold anN
  by_cases h1:a<b
  ·rw[if_pos h1,if_neg (by simpa using UInt8.le_of_lt h1),if_pos h1];simp
  ·rw[if_neg h1]
   by_cases h2:b<a
   ·rw[if_pos h2,if_pos h2];simp
   ·rw[if_neg h2,if_neg h2,if_neg h1]
    exact Nc l m
theorem cmpL_eq:∀a b:List UInt8,anN a b=0→a=b
 | [],[],_=>rfl
 | [],_::_,h=>by simp[anN]at h
 |_::_,[],h=>by simp[anN]at h
 |a::l,b::m,h=>by
  unfold anN at h
  split at h
  ·cases h
  ·split at h
   ·cases h
   ·rename_i h1 h2
    have:a=b:=aqG (by simpa using h2) (by simpa using h1)
    rw[this,cmpL_eq l m h]
theorem Nd:∀a b x:List UInt8,anN a b≤0→anN b x≤0→anN a x≤0
 | [],b,x,_,_=>by cases x<;>simp[anN]
 |_::_,[],x,h,_=>by simp[anN]at h
 |a::l,b::m,[],_,h=>by simp[anN]at h
 |a::l,b::m,x::n,h1,h2=>by
  unfold anN at h1 h2⊢
  by_cases e1:a<b
  ·by_cases e2:b<x
   ·rw[if_pos (UInt8.lt_trans e1 e2)];simp
   ·rw[if_neg e2]at h2
    by_cases e3:x<b
    ·rw[if_pos e3]at h2;omega
    ·have:b=x:=aqG (by simpa using e3) (by simpa using e2)
     subst this
     rw[if_pos e1];simp
  ·rw[if_neg e1]at h1
   by_cases e2:b<a
   ·rw[if_pos e2]at h1;omega
   ·have:a=b:=aqG (by simpa using e2) (by simpa using e1)
    subst this
    rw[if_neg e2]at h1
    by_cases e3:a<x
    ·rw[if_pos e3];simp
    ·rw[if_neg e3]at h2⊢
     by_cases e4:x<a
     ·rw[if_pos e4]at h2;omega
     ·rw[if_neg e4]at h2⊢
      exact Nd l m n h1 h2
theorem vh(f:Bool):TO (a7 f):=by
 have neg:∀a b,bW a b<0↔0<bW b a:=fun a b=>Nc _ _
 have tr:∀a b x,bW a b≤0→bW b x≤0→bW a x≤0:=fun a b x=>Nd _ _ _
 have eq:∀a b,bW a b=0→a=b:=fun a b h=>by
  have:=cmpL_eq _ _ h
  cases a with|mk a=>cases b with|mk b=>
  have:=congrArg List.toArray this
  simp only[anB]at this
  rw[this]
 cases f with
 |true=>
  refine⟨fun a b h h'=>?_,fun a b x h1 h2=>?_,fun a b h1 h2=>?_⟩
  ·have:=(neg b a).1 h;have h':bW a b<0:=h';omega
  ·have h1:¬bW a b<0:=h1
   have h2:¬bW b x<0:=h2
   show¬bW a x<0
   have a1:bW b a≤0:=by have:=neg a b;have:=neg b a;omega
   have a2:bW x b≤0:=by have:=neg b x;have:=neg x b;omega
   have:=tr x b a a2 a1
   have:=neg a x;have:=neg x a;omega
  ·have h1:¬bW b a<0:=h1
   have h2:¬bW a b<0:=h2
   exact eq a b (by have:=neg a b;have:=neg b a;omega)
 |false=>
  refine⟨fun a b h h'=>?_,fun a b x h1 h2=>?_,fun a b h1 h2=>?_⟩
  ·have:=(neg a b).1 h;have h':bW b a<0:=h';omega
  ·have h1:¬bW b a<0:=h1
   have h2:¬bW x b<0:=h2
   show¬bW x a<0
   have a1:bW a b≤0:=by have:=neg a b;have:=neg b a;omega
   have a2:bW b x≤0:=by have:=neg b x;have:=neg x b;omega
   have:=tr a b x a1 a2
   have:=neg a x;have:=neg x a;omega
  ·have h1:¬bW a b<0:=h1
   have h2:¬bW b a<0:=h2
   exact eq a b (by have:=neg a b;have:=neg b a;omega)
end Go.Proofs.Ytnlkkgpcikkpoaa
namespace Go.Proofs.Ytnlkkgpcikkpoaa
noncomputable section
open Go Vm Go.RowKit
set_option maxRecDepth 100000
noncomputable def Zb:List (amY×Sum):=[(90,Sum.du asz FG)]
theorem rC:dg asz (dE asz (dF Zb) 50 40):=dJ cZ mixed (dQ (.cons Za .nil)) 50 40
noncomputable def xG:List am3:=ba (dy asz 110)
open Tree renaming aU→mN,dh→mF,eQ→mL,fw→mQ,dz→mR,fI→mE
noncomputable abbrev Ao:List am3:=(ba (inner (ba (inner (xG.drop 1)))))
noncomputable abbrev FH:List am3:=(ba (inner (Ao.drop 2)))
noncomputable abbrev Zc:List am3:=(ba (inner (ba (inner (FH.drop 1)))))
def Nf:Nat→Bool→Bool→Tree→Tree
 |0,_,_,t=>t
 |n+1,d,b,t=>.cD d b (Nf n d b t)
theorem Ap{R:bf→aj→Prop}{c v:Bool}{t:Tree}(n:Nat)(h1:c=v)(h2:t.ok R):(Nf n c v t).ok R:=by
 induction n with
 |zero=>exact h2
 |succ n ih=>exact⟨h1,ih⟩
abbrev pq:=fun S R H d L=>([ab (ao L) 9,ab (aQ S 2 0 3 4) 64,.abs d,ab (aq R) 3,ab (ak H) 144]:List ai)
abbrev FI:=fun S R H d (n:Nat) L (a b:Int)=>(⟨[(0,ah 0 n),(1,aa a),(2,aa b),(3,.func (.func 90) #[an 1] #[]),(8,.int .i64 (aml .i64 (a+1)))],pq S R H d L⟩:aj)
abbrev Zd:=fun S R H d (n:Nat) L (a b:Int)=>(⟨[(0,ah 0 n),(1,aa a),(2,aa b),(3,.func (.func 90) #[an 1] #[])],pq S R H d L⟩:aj)
theorem Ze(S R H d)(n:Nat)(L)(a b:Int)(pH:(ak H).all af=true)(hn:(mM L)=n)(hw:aml .i64 (a+1)=a+1){Q:aV}(l3:al asz 53 5 (xG.drop 1) (FI S R H d n L a b) Q):al asz 53 5 xG (Zd S R H d n L a b) Q:=
 aZ bo 1 (.leaf [0,1,2,3,8] [0,1,2,3,4] [0,3,4]) (fun u=>by kernel_rfl) (aM L R H (mQ l3))
abbrev Zf:=fun S R H d (n:Nat) L (a b i:Int)=>(⟨[(0,ah 0 n),(1,aa a),(2,aa b),(3,.func (.func 90) #[an 1] #[]),(8,aa i)],pq S R H d L⟩:aj)
noncomputable abbrev Zg(S:ad)(R:List Int)(H:List ap)(d:ay)(n:Nat)(L:List ByteArray)(a b i:Int):aj:=⟨[],pq S R H d L⟩
abbrev FJ:=fun S R H d (n:Nat) L (a b i:Int)=>(⟨[(0,ah 0 n),(1,aa a),(2,aa b),(3,.func (.func 90) #[an 1] #[]),(8,aa i)],pq S R H d L⟩:aj)
theorem Zh(S R H d)(n:Nat)(L)(a b i:Int)(pH:(ak H).all af=true)(hn:(mM L)=n){Q:aV}(l3:(decide (i<b))=true→al asz 53 5 (Ao.drop 2) (Zf S R H d n L a b i) Q)(l4:(decide (i<b))=false→Q (.exit 0) (Zg S R H d n L a b i)):al asz 53 5 Ao (FJ S R H d n L a b i) Q:=
 aZ bo 2 (.fork 0 (.leaf [0,1,2,3,8] [0,1,2,3,4] [0,3,4]) (.leaf [] [0,1,2,3,4] [0,3,4])) (fun u=>by kernel_rfl) (mF (c:=decide (i<b)) (fun h0=>(aM L R H (mQ (l3 h0)))) (fun h0=>(aM L R H (mE 0 (l4 h0)))))
abbrev FK:=fun S R H d (n:Nat) L (a b i:Int)=>(⟨[(0,ah 0 n),(1,aa a),(2,aa b),(3,.func (.func 90) #[an 1] #[]),(8,aa i),(9,aa i)],pq S R H d L⟩:aj)
theorem Zi(S R H d)(n:Nat)(L)(a b i:Int)(pH:(ak H).all af=true)(hn:(mM L)=n){Q:aV}(l3:al asz 53 5 (FH.drop 1) (FK S R H d n L a b i) Q):al asz 53 5 FH (FJ S R H d n L a b i) Q:=
 aZ bo 1 (.leaf [0,1,2,3,8,9] [0,1,2,3,4] [0,3,4]) (fun u=>by kernel_rfl) (aM L R H (mQ l3))
abbrev Ng:=fun S R H d (n:Nat) L (a b i j:Int)=>(⟨[(0,ah 0 n),(1,aa a),(2,aa b),(3,.func (.func 90) #[an 1] #[]),(8,aa i),(9,.int .i64 (aml .i64 (j-1)))],[ab (amk (amk (ao L) (0+amm j*1) [amT (a8 (ao L) (0+amm (aml .i64 (j-1))*1))]) (0+amm (aml .i64 (j-1))*1) [amT (a8 (ao L) (0+amm j*1))]) 9,ab (aQ S 2 0 3 4) 64,.abs d,ab (aq R) 3,ab (ak H) 144]⟩:aj)
abbrev Zj:=fun S R H d (n:Nat) L (a b i j:Int)=>(⟨[(0,ah 0 n),(1,aa a),(2,aa b),(3,.func (.func 90) #[an 1] #[]),(8,aa i)],pq S R H d L⟩:aj)
abbrev Zk:=fun S R H d (n:Nat) L (a b i j:Int)=>(⟨[(0,ah 0 n),(1,aa a),(2,aa b),(3,.func (.func 90) #[an 1] #[]),(8,aa i)],pq S R H d L⟩:aj)
abbrev Zl:=fun S R H d (n:Nat) L (a b i j:Int)=>(⟨[(0,ah 0 n),(1,aa a),(2,aa b),(3,.func (.func 90) #[an 1] #[]),(8,aa i),(9,aa j)],pq S R H d L⟩:aj)
theorem Zm(S R H d)(n:Nat)(L)(a b i j:Int)(pH:(ak H).all af=true)(hn:(mM L)=n)(ha:0≤a)(hj:a≤j)(hl:j<n)(hL:n≤1000000)(hw:aml .i64 (j-1)=j-1){Q:aV}(n0:(decide (j>a))=true→(eB (ao L) (0+amm j*1))=true)(n1:(decide (j>a))=true→(eB (ao L) (0+amm (aml .i64 (j-1))*1))=true)(n2:(decide (j>a))=true→(qn [ab (aQ S 1 2 3 4) 64,ai.abs d,ab (ao L) 9,ab (aq R) 3,ab (ak H) 144])=true)(n3:(decide (j>a))=true→(decide (a7 (ad.aC S) (a8 (ao L) (0+amm j*1)) (a8 (ao L) (0+amm (aml .i64 (j-1))*1))<0))=true→(amO (0+amm (aml .i64 (j-1))*1+1) (mM (amk (ao L) (0+amm j*1) [amT (a8 (ao L) (0+amm (aml .i64 (j-1))*1))])))=true)(aW:amq (aq R) af=true)(be:amq (ak H) af=true)(l6:(decide (j>a))=true→(decide (a7 (ad.aC S) (a8 (ao L) (0+amm j*1)) (a8 (ao L) (0+amm (aml .i64 (j-1))*1))<0))=true→Q .normal (Ng S R H d n L a b i j))(bB:amq (ao L) af=true)(l8:(decide (j>a))=true→(decide (a7 (ad.aC S) (a8 (ao L) (0+amm j*1)) (a8 (ao L) (0+amm (aml .i64 (j-1))*1))<0))=false→Q (.exit 2) (Zj S R H d n L a b i j))(l9:(decide (j>a))=false→Q (.exit 2) (Zk S R H d n L a b i j)):al asz 53 5 Zc (Zl S R H d n L a b i j) Q:=
 aZ rC 1000 (.fork 0 (av [1,1,1,0,1,1,1,0,1,1,1,1,1,0,1,1,1,0,1,1,3,1,1,1,1,1,1,1,1] (.fork 0 (av [0,1,1,0,1,0,1,1,0,1,0,1,1,0,1,0,1,1,0,1] (.leaf [0,1,2,3,8,9] [0,1,2,3,4] [0,3,4])) (.leaf [0,1,2,3,8] [0,1,2,3,4] [0,3,4]))) (av [0,0,0,0,0,0,0,0,0,0,0,0] (.leaf [0,1,2,3,8] [0,1,2,3,4] [0,3,4]))) (fun u=>by kernel_rfl) (mF (c:=decide (j>a)) (fun h0=>(Ap 3 h0 (mN (decide_eq_true (by omega):(decide (0≤j))=true) (mN (show(amG (amm j) n)=true by simp at pH hn ha hj hl hL hw h0⊢ <;>omega) (mN h0 (mN (n0 h0) (Ap 4 h0 (mN (show(decide (0≤aml .i64 (j-1)))=true by simp at pH hn ha hj hl hL hw h0⊢ <;>omega) (mN (show(amG (amm (aml .i64 (j-1))) n)=true by simp at pH hn ha hj hl hL hw h0⊢ <;>omega) (mN h0 (mN (n1 h0) (mN h0 (aM L R H (mN (n2 h0) (aM L R H (Ap 2 h0 (mF (c:=decide (a7 (ad.aC S) (a8 (ao L) (0+amm j*1)) (a8 (ao L) (0+amm (aml .i64 (j-1))*1))<0)) (fun h1=>(mN (show(decide (0≤aml .i64 (j-1)))=true by simp at pH hn ha hj hl hL hw h0 h1⊢ <;>omega) (mN (show(amG (amm (aml .i64 (j-1))) n)=true by simp at pH hn ha hj hl hL hw h0 h1⊢ <;>omega) (mN (n1 h0) (mN (decide_eq_true (by omega):(decide (0≤j))=true) (mN (show(amG (amm j) n)=true by simp at pH hn ha hj hl hL hw h0 h1⊢ <;>omega) (mN (n0 h0) (mN (decide_eq_true (by omega):(decide (0≤j))=true) (mN (show(amG (amm j) n)=true by simp at pH hn ha hj hl hL hw h0 h1⊢ <;>omega) (mN (show(amO (0+amm j*1+1) (mM (ao L)))=true by simp at pH hn ha hj hl hL hw h0 h1⊢ <;>omega) (mN (show(decide (0≤aml .i64 (j-1)))=true by simp at pH hn ha hj hl hL hw h0 h1⊢ <;>omega) (mN (show(amG (amm (aml .i64 (j-1))) n)=true by simp at pH hn ha hj hl hL hw h0 h1⊢ <;>omega) (mN (n3 h0 h1) (mN (show(amq (amk (amk (ao L) (0+amm j*1) [amT (a8 (ao L) (0+amm (aml .i64 (j-1))*1))]) (0+amm (aml .i64 (j-1))*1) [amT (a8 (ao L) (0+amm j*1))]) af)=true by first|exact aP _|assumption|exact aD (by assumption) rfl _|exact aD (aD (aD (by assumption) rfl _) rfl _) rfl _|exact aD (aP _) (cg (by rfl) _) _|exact aA (aO (aN _) _) _|(simp;done)|exact aB (by assumption) rfl|exact aB (aP _) rfl|exact aB rfl (aA (by assumption) _)|exact aB (by assumption) (aA (by assumption) _)|exact aB rfl (aA (aO (by assumption) _) _)|exact aA (aO (by assumption) _) _) (mN (aS R) (mN (aY H) (mQ (al.done (by kernel_rfl) (l6 h0 h1))))))))))))))))))) (fun h1=>(aM L R H (mE 2 (l8 h0 h1))))))))))))))))))))) (fun h0=>(Ap 12 h0 (aM L R H (mE 2 (l9 h0))))))
abbrev Nh:=fun S R H d (n:Nat) L (a b i:Int)=>(⟨[(0,ah 0 n),(1,aa a),(2,aa b),(3,.func (.func 90) #[an 1] #[]),(8,.int .i64 (aml .i64 (i+1)))],pq S R H d L⟩:aj)
theorem Zn(S R H d)(n:Nat)(L)(a b i:Int)(pH:(ak H).all af=true)(hn:(mM L)=n)(hw:aml .i64 (i+1)=i+1){Q:aV}(l3:Q .normal (Nh S R H d n L a b i)):al asz 53 5 (Ao.drop 3) (FJ S R H d n L a b i) Q:=
 aZ bo 1000 (.leaf [0,1,2,3,8] [0,1,2,3,4] [0,3,4]) (fun u=>by kernel_rfl) (aM L R H (mQ (al.done (by kernel_rfl) l3)))
end
end Go.Proofs.Ytnlkkgpcikkpoaa
